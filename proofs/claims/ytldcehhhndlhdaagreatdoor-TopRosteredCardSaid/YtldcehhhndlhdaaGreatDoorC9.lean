/- The plain words of layer 1: towns, what is valid, what a truth is, the bounds and how they follow from each other. No program here. -/

namespace Go.Proofs.YtldcehhhndlhdaaGreatDoor
/-- A sounding, and a slope. -/
structure Snd where
  well : Int
  low : Int
  high : Int
  deriving DecidableEq, Inhabited
structure Slp where
  a : Int
  b : Int
  low : Int
  high : Int
  deriving DecidableEq, Inhabited
/-- A town. -/
structure Twn where
  wells : Int
  snd : List Snd
  slp : List Slp
  deriving DecidableEq, Inhabited
def inR (n lo hi : Int) : Bool := decide (lo ≤ n) && decide (n ≤ hi)
theorem inR_iff {n lo hi : Int} : inR n lo hi = true ↔ lo ≤ n ∧ n ≤ hi := by simp [inR]
theorem inR_not {n lo hi : Int} : inR n lo hi = false ↔ ¬ (lo ≤ n ∧ n ≤ hi) := by rw [← inR_iff]; simp
def isWell (W : Int) (n : Int) : Bool := inR n 0 (W - 1)
theorem isWell_iff {W n : Int} : isWell W n = true ↔ 0 ≤ n ∧ n ≤ W - 1 := inR_iff
def badSnd (W : Int) (s : Snd) : Bool := !isWell W s.well || !inR s.low 0 s.high || decide (99 < s.high)
def badSlp (W : Int) (s : Slp) : Bool := !isWell W s.a || !isWell W s.b || s.a == s.b || !inR s.low (-99) s.high || decide (99 < s.high)
def valid (t : Twn) : Bool := inR t.wells 0 6 && decide (t.snd.length ≤ 8) && decide (t.slp.length ≤ 8) && !t.snd.any (badSnd t.wells) && !t.slp.any (badSlp t.wells)
def chk (t : Twn) : Int := if valid t then 0 else 10
def askE (t : Twn) (is : Bool) : Int := if valid t then (if is then 0 else 1) else 10

/-- What is valid, but for how many words there are. -/
structure Vl (t : Twn) : Prop where
  w0 : 0 ≤ t.wells
  w6 : t.wells ≤ 6
  snd : ∀ s ∈ t.snd, 0 ≤ s.well ∧ s.well < t.wells ∧ 0 ≤ s.low ∧ s.low ≤ s.high ∧ s.high ≤ 99
  slp : ∀ s ∈ t.slp, 0 ≤ s.a ∧ s.a < t.wells ∧ 0 ≤ s.b ∧ s.b < t.wells ∧ s.a ≠ s.b ∧ -99 ≤ s.low ∧ s.low ≤ s.high ∧ s.high ≤ 99
theorem badSnd_iff {W : Int} {s : Snd} : badSnd W s = false ↔ 0 ≤ s.well ∧ s.well < W ∧ 0 ≤ s.low ∧ s.low ≤ s.high ∧ s.high ≤ 99 := by
  simp only [badSnd, Bool.or_eq_false_iff, Bool.not_eq_false', isWell_iff, inR_iff, decide_eq_false_iff_not]; omega
theorem badSlp_iff {W : Int} {s : Slp} : badSlp W s = false ↔ 0 ≤ s.a ∧ s.a < W ∧ 0 ≤ s.b ∧ s.b < W ∧ s.a ≠ s.b ∧ -99 ≤ s.low ∧ s.low ≤ s.high ∧ s.high ≤ 99 := by
  simp only [badSlp, Bool.or_eq_false_iff, Bool.not_eq_false', isWell_iff, inR_iff, decide_eq_false_iff_not, beq_eq_false_iff_ne]; omega
theorem valid_iff' {t : Twn} : valid t = true ↔ Vl t ∧ t.snd.length ≤ 8 ∧ t.slp.length ≤ 8 := by
  simp only [valid, Bool.and_eq_true, Bool.not_eq_true', inR_iff, decide_eq_true_eq, List.any_eq_false]
  constructor
  · rintro ⟨⟨⟨⟨⟨h1, h2⟩, h3⟩, h4⟩, h5⟩, h6⟩
    exact ⟨⟨h1, h2, fun s hs => badSnd_iff.1 (by simpa using h5 s hs), fun s hs => badSlp_iff.1 (by simpa using h6 s hs)⟩, h3, h4⟩
  · rintro ⟨h, h3, h4⟩
    exact ⟨⟨⟨⟨⟨h.w0, h.w6⟩, h3⟩, h4⟩, fun s hs => by simpa using badSnd_iff.2 (h.snd s hs)⟩, fun s hs => by simpa using badSlp_iff.2 (h.slp s hs)⟩
theorem valid_vl {t : Twn} (h : valid t = true) : Vl t := (valid_iff'.1 h).1

/-- A truth: a level for each well, as each word says. -/
structure Tr (t : Twn) (x : Nat → Int) : Prop where
  own : ∀ w : Nat, (w : Int) < t.wells → 0 ≤ x w ∧ x w ≤ 99
  snd : ∀ s ∈ t.snd, s.low ≤ x s.well.toNat ∧ x s.well.toNat ≤ s.high
  slp : ∀ s ∈ t.slp, s.low ≤ x s.b.toNat - x s.a.toNat ∧ x s.b.toNat - x s.a.toNat ≤ s.high

/-! The bounds: 49 numbers, seven to a row; the seventh well is the ground. -/
def at_ (ms : List Int) (i j : Nat) : Int := ms.getD (7 * i + j) 0
def leave (ms : List Int) (f t : Nat) (x : Int) : List Int := ms.set (7 * f + t) (min (at_ ms f t) x)
def rock0 : List Int := (List.range 49).map fun p => if p / 7 = p % 7 then 0 else 1048576
def rockTo (ms : List Int) : Nat → List Int
  | 0 => ms
  | w + 1 => leave (leave (rockTo ms w) 6 w 99) w 6 0
def rock (W : Int) : List Int := rockTo rock0 W.toNat
def soundM (ms : List Int) (s : Snd) : List Int := leave (leave ms 6 s.well.toNat s.high) s.well.toNat 6 (-s.low)
def slopeM (ms : List Int) (s : Slp) : List Int := leave (leave ms s.a.toNat s.b.toNat s.high) s.b.toNat s.a.toNat (-s.low)
def baseM (t : Twn) : List Int := t.slp.foldl slopeM (t.snd.foldl soundM (rock t.wells))
def relax (k i j : Nat) (ms : List Int) : List Int := if at_ ms i k < 1048576 ∧ at_ ms k j < 1048576 then leave ms i j (at_ ms i k + at_ ms k j) else ms
def closeJ (k i : Nat) (ms : List Int) : Nat → List Int
  | 0 => ms
  | j + 1 => relax k i j (closeJ k i ms j)
def closeI (k : Nat) (ms : List Int) : Nat → List Int
  | 0 => ms
  | i + 1 => closeJ k i (closeI k ms i) 7
def closeK (ms : List Int) : Nat → List Int
  | 0 => ms
  | k + 1 => closeI k (closeK ms k) 7
def closeM (ms : List Int) : List Int := closeK ms 7
def diagOk (ms : List Int) : Bool := (List.range 7).all fun i => decide (0 ≤ at_ ms i i)

section
theorem at_len (ms : List Int) (i j : Nat) (h : 7 * i + j < ms.length) : at_ ms i j = ms[7 * i + j] := by simp [at_, List.getElem?_eq_getElem h]
theorem leave_len (ms : List Int) (f t : Nat) (x : Int) : (leave ms f t x).length = ms.length := by simp [leave]
theorem at_leave (ms : List Int) (f t i j : Nat) (x : Int) (hl : ms.length = 49) (hf : f < 7) (ht : t < 7) (hj : j < 7) :
    at_ (leave ms f t x) i j = if i = f ∧ j = t then min (at_ ms f t) x else at_ ms i j := by
  unfold leave
  simp only [at_, List.getD_eq_getElem?_getD, List.getElem?_set]
  by_cases h : i = f ∧ j = t
  · obtain ⟨rfl, rfl⟩ := h
    simp [show 7 * i + j < ms.length by omega]
  · rw [if_neg h, if_neg (by omega)]
theorem relax_len (k i j : Nat) (ms : List Int) : (relax k i j ms).length = ms.length := by unfold relax; split <;> simp [leave_len]
theorem closeJ_len (k i : Nat) (ms : List Int) : ∀ n, (closeJ k i ms n).length = ms.length
  | 0 => rfl
  | n + 1 => by rw [closeJ, relax_len, closeJ_len k i ms n]
theorem closeI_len (k : Nat) (ms : List Int) : ∀ n, (closeI k ms n).length = ms.length
  | 0 => rfl
  | n + 1 => by rw [closeI, closeJ_len, closeI_len k ms n]
theorem closeK_len (ms : List Int) : ∀ n, (closeK ms n).length = ms.length
  | 0 => rfl
  | n + 1 => by rw [closeK, closeI_len, closeK_len ms n]
theorem closeM_len (ms : List Int) : (closeM ms).length = ms.length := closeK_len ms 7
theorem rockTo_len (ms : List Int) : ∀ n, (rockTo ms n).length = ms.length
  | 0 => rfl
  | n + 1 => by rw [rockTo, leave_len, leave_len, rockTo_len ms n]
theorem rock_len (W : Int) : (rock W).length = 49 := by rw [rock, rockTo_len]; rfl
theorem soundM_len (ms : List Int) (s : Snd) : (soundM ms s).length = ms.length := by simp [soundM, leave_len]
theorem slopeM_len (ms : List Int) (s : Slp) : (slopeM ms s).length = ms.length := by simp [slopeM, leave_len]
theorem sounds_len (l : List Snd) : ∀ ms : List Int, (l.foldl soundM ms).length = ms.length := by
  induction l with
  | nil => intro ms; rfl
  | cons s l ih => intro ms; rw [List.foldl_cons, ih, soundM_len]
theorem slopes_len (l : List Slp) : ∀ ms : List Int, (l.foldl slopeM ms).length = ms.length := by
  induction l with
  | nil => intro ms; rfl
  | cons s l ih => intro ms; rw [List.foldl_cons, ih, slopeM_len]
theorem baseM_len (t : Twn) : (baseM t).length = 49 := by rw [baseM, slopes_len, sounds_len, rock_len]

/-- Bounds of a size. -/
structure Bd (lo hi : Int) (ms : List Int) : Prop where
  len : ms.length = 49
  low : ∀ i j, i < 7 → j < 7 → -lo ≤ at_ ms i j
  high : ∀ i j, i < 7 → j < 7 → at_ ms i j = 1048576 ∨ at_ ms i j ≤ hi
theorem Bd.le {lo hi : Int} {ms : List Int} (h : Bd lo hi ms) (hh : hi ≤ 1048576) {i j : Nat} (hi' : i < 7) (hj : j < 7) : at_ ms i j ≤ 1048576 := by
  have := h.high i j hi' hj; omega
theorem Bd.mono {lo hi lo' hi' : Int} {ms : List Int} (h : Bd lo hi ms) (h1 : lo ≤ lo') (h2 : hi ≤ hi') : Bd lo' hi' ms :=
  ⟨h.len, fun i j a b => by have := h.low i j a b; omega, fun i j a b => (h.high i j a b).imp id (fun e => by omega)⟩
theorem Bd.leave {lo hi : Int} {ms : List Int} (h : Bd lo hi ms) {f t : Nat} {x : Int} (hf : f < 7) (ht : t < 7) (hx : -lo ≤ x) (hx' : x ≤ hi) (_ : hi ≤ 1048576) : Bd lo hi (leave ms f t x) := by
  refine ⟨by rw [leave_len, h.len], fun i j a b => ?_, fun i j a b => ?_⟩ <;> rw [at_leave _ _ _ _ _ _ h.len hf ht b] <;> split
  · have := h.low f t hf ht; omega
  · exact h.low i j a b
  · have := h.high f t hf ht; omega
  · exact h.high i j a b
theorem rock0_bd : Bd 99 99 rock0 := by
  refine ⟨rfl, ?_, ?_⟩
  · intro i j hi hj
    have : ∀ i, i < 7 → ∀ j, j < 7 → (-99 : Int) ≤ at_ rock0 i j := by decide +kernel
    exact this i hi j hj
  · intro i j hi hj
    have : ∀ i, i < 7 → ∀ j, j < 7 → at_ rock0 i j = 1048576 ∨ at_ rock0 i j ≤ 99 := by decide +kernel
    exact this i hi j hj
theorem rockTo_bd : ∀ n, n ≤ 6 → Bd 99 99 (rockTo rock0 n)
  | 0, _ => rock0_bd
  | n + 1, h => ((rockTo_bd n (by omega)).leave (by omega) (by omega) (by omega) (by omega) (by omega)).leave (by omega) (by omega) (by omega) (by omega) (by omega)
theorem rock_bd {W : Int} (h : W ≤ 6) : Bd 99 99 (rock W) := rockTo_bd _ (by omega)
theorem soundM_bd {ms : List Int} {lo hi : Int} {s : Snd} (h : Bd lo hi ms) (h0 : 0 ≤ s.well) (h1 : s.well < 6) (a : -lo ≤ s.high) (b : s.high ≤ hi) (c : s.low ≤ lo) (d : -s.low ≤ hi) (hhi : hi ≤ 1048576) : Bd lo hi (soundM ms s) :=
  (h.leave (by omega) (by omega) a b hhi).leave (by omega) (by omega) (by omega) d hhi
theorem slopeM_bd {ms : List Int} {lo hi : Int} {s : Slp} (h : Bd lo hi ms) (h0 : 0 ≤ s.a) (h1 : s.a < 6) (h2 : 0 ≤ s.b) (h3 : s.b < 6) (a : -lo ≤ s.high) (b : s.high ≤ hi) (c : s.low ≤ lo) (d : -s.low ≤ hi) (hhi : hi ≤ 1048576) : Bd lo hi (slopeM ms s) :=
  (h.leave (by omega) (by omega) a b hhi).leave (by omega) (by omega) (by omega) d hhi

/-! How small the bounds may become, whether there is a truth or not. -/
/-- Within the round k, n rows and m cells of the next one done: what is ahead is as it was. -/
structure Mid (lo hi : Int) (k n m : Nat) (ms0 ms : List Int) : Prop where
  len : ms.length = 49
  ahead : ∀ i j, i < 7 → j < 7 → (n < i ∨ i = n ∧ m ≤ j) → at_ ms i j = at_ ms0 i j
  low : ∀ i j, i < 7 → j < 7 → -(6 * lo) ≤ at_ ms i j
  rowk : ∀ j, j < 7 → -(3 * lo) ≤ at_ ms k j
  kk : -(2 * lo) ≤ at_ ms k k
  coln : n < 7 → -(3 * lo) ≤ at_ ms n k
  hrow : ∀ j, j < 7 → at_ ms k j = 1048576 ∨ at_ ms k j ≤ hi
  hcol : ∀ i, i < 7 → at_ ms i k = 1048576 ∨ at_ ms i k ≤ hi
  high : ∀ i j, i < 7 → j < 7 → at_ ms i j = 1048576 ∨ at_ ms i j ≤ 2 * hi
theorem Mid.start {lo hi : Int} {k : Nat} {ms : List Int} (hlo : 0 ≤ lo) (hhi : 0 ≤ hi) (hk : k < 7) (h : Bd lo hi ms) : Mid lo hi k 0 0 ms ms :=
  ⟨h.len, fun _ _ _ _ _ => rfl, fun i j a b => by have := h.low i j a b; omega, fun j a => by have := h.low k j hk a; omega, by have := h.low k k hk hk; omega, fun a => by have := h.low 0 k a hk; omega,
    fun j a => h.high k j hk a, fun i a => h.high i k a hk, fun i j a b => (h.high i j a b).imp id (fun e => by omega)⟩
theorem Mid.bds {lo hi : Int} {k n m i : Nat} {ms0 ms : List Int} (h : Mid lo hi k n m ms0 ms) (hi7 : i < 7) (hhi : 2 * hi ≤ 1048576) (hlo : 0 ≤ hi) {j : Nat} (hj : j < 7) : -(6 * lo) ≤ at_ ms i j ∧ at_ ms i j ≤ 1048576 := by
  have := h.low i j hi7 hj
  have := h.high i j hi7 hj
  omega
theorem Mid.step {lo hi : Int} {k n m : Nat} {ms0 ms : List Int} (h0 : Bd lo hi ms0) (hlo : 0 ≤ lo) (_ : 0 ≤ hi) (_ : 2 * hi < 1048576) (hk : k < 7) (hn : n < 7) (hm : m < 7) (h : Mid lo hi k n m ms0 ms) : Mid lo hi k n (m + 1) ms0 (relax k n m ms) := by
  unfold relax
  split
  · rename_i hc
    have e : ∀ i j, j < 7 → at_ (leave ms n m (at_ ms n k + at_ ms k m)) i j = if i = n ∧ j = m then min (at_ ms n m) (at_ ms n k + at_ ms k m) else at_ ms i j := fun i j hj => at_leave _ _ _ _ _ _ h.len hn hm hj
    have ha := h.ahead n m hn hm (.inr ⟨rfl, Nat.le_refl _⟩)
    have hb := h0.low n m hn hm
    have hb' := h0.high n m hn hm
    have hv6 : -(6 * lo) ≤ at_ ms n k + at_ ms k m := by have := h.coln hn; have := h.rowk m hm; omega
    have hv2 : at_ ms n k + at_ ms k m ≤ 2 * hi := by have := h.hcol n hn; have := h.hrow m hm; omega
    have hvk : n = k → -(3 * lo) ≤ at_ ms n k + at_ ms k m := by
      rintro rfl
      have := h.kk
      omega
    have hvkk : n = k → m = k → -(2 * lo) ≤ at_ ms n k + at_ ms k m := by
      rintro rfl rfl
      omega
    have hvm : m = k → -(3 * lo) ≤ at_ ms n k + at_ ms k m := by
      rintro rfl
      have := h.kk
      omega
    refine ⟨by rw [leave_len, h.len], fun i j a b c => ?_, fun i j a b => ?_, fun j b => ?_, ?_, fun _ => ?_, fun j b => ?_, fun i a => ?_, fun i j a b => ?_⟩
    · rw [e i j b, if_neg (by omega)]
      exact h.ahead i j a b (by omega)
    · rw [e i j b]
      split
      · omega
      · exact h.low i j a b
    · rw [e k j b]
      split
      · rename_i hkj
        have := hvk hkj.1.symm
        omega
      · exact h.rowk j b
    · rw [e k k hk]
      split
      · rename_i hkj
        have := hvkk hkj.1.symm hkj.2.symm
        omega
      · exact h.kk
    · rw [e n k hk]
      split
      · rename_i hkj
        have := hvm hkj.2.symm
        omega
      · exact h.coln hn
    · rw [e k j b]
      split
      · rename_i hkj
        have := h.hrow m hm
        have hc2 := hc.2
        rw [show at_ ms k m = at_ ms n m by rw [hkj.1]] at this hc2
        omega
      · exact h.hrow j b
    · rw [e i k hk]
      split
      · rename_i hkj
        have := h.hcol n hn
        have hc1 := hc.1
        rw [show at_ ms n k = at_ ms n m by rw [hkj.2]] at this hc1
        omega
      · exact h.hcol i a
    · rw [e i j b]
      split
      · omega
      · exact h.high i j a b
  · exact ⟨h.len, fun i j a b c => h.ahead i j a b (by omega), h.low, h.rowk, h.kk, h.coln, h.hrow, h.hcol, h.high⟩
theorem Mid.row {lo hi : Int} {k n : Nat} {ms0 ms : List Int} (h0 : Bd lo hi ms0) (hlo : 0 ≤ lo) (hhi : 0 ≤ hi) (hhi' : 2 * hi < 1048576) (hk : k < 7) (hn : n < 7) (h : Mid lo hi k n 0 ms0 ms) : ∀ m, m ≤ 7 → Mid lo hi k n m ms0 (closeJ k n ms m)
  | 0, _ => h
  | m + 1, hm => (Mid.row h0 hlo hhi hhi' hk hn h m (by omega)).step h0 hlo hhi hhi' hk hn (by omega)
theorem Mid.next {lo hi : Int} {k n : Nat} {ms0 ms : List Int} (h0 : Bd lo hi ms0) (hlo : 0 ≤ lo) (hk : k < 7) (h : Mid lo hi k n 7 ms0 ms) : Mid lo hi k (n + 1) 0 ms0 ms :=
  ⟨h.len, fun i j a b c => h.ahead i j a b (by omega), h.low, h.rowk, h.kk, fun a => by rw [h.ahead (n + 1) k a hk (by omega)]; have := h0.low (n + 1) k a hk; omega, h.hrow, h.hcol, h.high⟩
theorem Mid.rows {lo hi : Int} {k : Nat} {ms0 : List Int} (h0 : Bd lo hi ms0) (hlo : 0 ≤ lo) (hhi : 0 ≤ hi) (hhi' : 2 * hi < 1048576) (hk : k < 7) : ∀ n, n ≤ 7 → Mid lo hi k n 0 ms0 (closeI k ms0 n)
  | 0, _ => Mid.start hlo hhi hk h0
  | n + 1, hn => ((Mid.rows h0 hlo hhi hhi' hk n (by omega)).row h0 hlo hhi hhi' hk (by omega) 7 (by omega)).next h0 hlo hk
theorem closeI_bd {lo hi : Int} {k : Nat} {ms : List Int} (h0 : Bd lo hi ms) (hlo : 0 ≤ lo) (hhi : 0 ≤ hi) (hhi' : 2 * hi < 1048576) (hk : k < 7) : Bd (6 * lo) (2 * hi) (closeI k ms 7) :=
  have h := Mid.rows h0 hlo hhi hhi' hk 7 (by omega)
  ⟨h.len, h.low, h.high⟩
/-- The bounds of the bounds ahead of each round. -/
def loK (lo : Int) : Nat → Int
  | 0 => lo
  | k + 1 => 6 * loK lo k
def hiK (hi : Int) : Nat → Int
  | 0 => hi
  | k + 1 => 2 * hiK hi k
theorem loK_bd {lo : Int} (h0 : 0 ≤ lo) (h1 : lo ≤ 1000) : ∀ k, k ≤ 7 → 0 ≤ loK lo k ∧ loK lo k ≤ 279936000 := by
  have : ∀ k, 0 ≤ loK lo k := by
    intro k
    induction k with
    | zero => exact h0
    | succ k ih => simp only [loK]; omega
  intro k hk
  refine ⟨this k, ?_⟩
  have h7 : loK lo 7 = 279936 * lo := by simp only [loK]; omega
  have hm : ∀ k d, loK lo k ≤ loK lo (k + d) := by
    intro k d
    induction d with
    | zero => exact Int.le_refl _
    | succ d ih =>
      have := this (k + d)
      have e : loK lo (k + (d + 1)) = 6 * loK lo (k + d) := rfl
      omega
  have := hm k (7 - k)
  rw [show k + (7 - k) = 7 by omega, h7] at this
  omega
theorem hiK_bd {hi : Int} (h0 : 0 ≤ hi) (h1 : hi ≤ 4000) : ∀ k, k ≤ 7 → 0 ≤ hiK hi k ∧ hiK hi k ≤ 512000 := by
  have : ∀ k, 0 ≤ hiK hi k := by
    intro k
    induction k with
    | zero => exact h0
    | succ k ih => simp only [hiK]; omega
  intro k hk
  refine ⟨this k, ?_⟩
  have h7 : hiK hi 7 = 128 * hi := by simp only [hiK]; omega
  have hm : ∀ k d, hiK hi k ≤ hiK hi (k + d) := by
    intro k d
    induction d with
    | zero => exact Int.le_refl _
    | succ d ih =>
      have := this (k + d)
      have e : hiK hi (k + (d + 1)) = 2 * hiK hi (k + d) := rfl
      omega
  have := hm k (7 - k)
  rw [show k + (7 - k) = 7 by omega, h7] at this
  omega
theorem closeK_bd {lo hi : Int} {ms : List Int} (h0 : Bd lo hi ms) (hlo : 0 ≤ lo) (hlo' : lo ≤ 1000) (hhi : 0 ≤ hi) (hhi' : hi ≤ 4000) : ∀ k, k ≤ 7 → Bd (loK lo k) (hiK hi k) (closeK ms k)
  | 0, _ => h0
  | k + 1, hk => closeI_bd (closeK_bd h0 hlo hlo' hhi hhi' k (by omega)) (loK_bd hlo hlo' k (by omega)).1 (hiK_bd hhi hhi' k (by omega)).1 (by have := hiK_bd hhi hhi' k (by omega); omega) (by omega)
/-- Ahead of each step all bounds are small. -/
theorem close_small {lo hi : Int} {ms : List Int} (h0 : Bd lo hi ms) (hlo : 0 ≤ lo) (hlo' : lo ≤ 1000) (hhi : 0 ≤ hi) (hhi' : hi ≤ 4000) {k i j : Nat} (hk : k < 7) (hi7 : i < 7) (hj : j ≤ 7) :
    ∀ p q, p < 7 → q < 7 → -1679616000 ≤ at_ (closeJ k i (closeI k (closeK ms k) i) j) p q ∧ at_ (closeJ k i (closeI k (closeK ms k) i) j) p q ≤ 1048576 := by
  have hb := closeK_bd h0 hlo hlo' hhi hhi' k (by omega)
  have hl := loK_bd hlo hlo' k (by omega)
  have hh := hiK_bd hhi hhi' k (by omega)
  have hh6 : 2 * hiK hi k < 1048576 := by omega
  have hm := (Mid.rows hb hl.1 hh.1 hh6 hk i (by omega)).row hb hl.1 hh.1 hh6 hk hi7 j hj
  intro p q hp hq
  have := hm.bds hp (by omega) hh.1 hq
  omega

/-! What the bounds say. -/
def Sol (ms : List Int) (x : Nat → Int) : Prop := ∀ i j, i < 7 → j < 7 → at_ ms i j < 1048576 → x j - x i ≤ at_ ms i j
theorem Sol.leave {ms : List Int} {x : Nat → Int} {f t : Nat} {v : Int} (hl : ms.length = 49) (hf : f < 7) (ht : t < 7) (hv : v < 1048576) (hm : at_ ms f t ≤ 1048576) : Sol (leave ms f t v) x ↔ Sol ms x ∧ x t - x f ≤ v := by
  constructor
  · intro h
    refine ⟨fun i j hi hj hlt => ?_, ?_⟩
    · have := h i j hi hj
      rw [at_leave _ _ _ _ _ _ hl hf ht hj] at this
      split at this
      · rename_i hc; obtain ⟨rfl, rfl⟩ := hc
        omega
      · exact this hlt
    · have := h f t hf ht
      rw [at_leave _ _ _ _ _ _ hl hf ht ht, if_pos ⟨rfl, rfl⟩] at this
      omega
  · rintro ⟨h, h'⟩ i j hi hj
    rw [at_leave _ _ _ _ _ _ hl hf ht hj]
    split
    · rename_i hc; obtain ⟨rfl, rfl⟩ := hc
      intro hlt
      have := h i j hi hj
      omega
    · exact h i j hi hj
theorem Sol.relax {ms : List Int} {x : Nat → Int} {k i j : Nat} (hl : ms.length = 49) (hk : k < 7) (hi : i < 7) (hj : j < 7) (hm : at_ ms i j ≤ 1048576) : Sol (relax k i j ms) x ↔ Sol ms x := by
  unfold Go.Proofs.YtldcehhhndlhdaaGreatDoor.relax
  split
  · rename_i hc
    constructor
    · intro h p q hp hq hlt
      have := h p q hp hq
      rw [at_leave _ _ _ _ _ _ hl hi hj hq] at this
      split at this
      · rename_i hc; obtain ⟨rfl, rfl⟩ := hc
        omega
      · exact this hlt
    · intro h p q hp hq
      rw [at_leave _ _ _ _ _ _ hl hi hj hq]
      have a := h p q hp hq
      split
      · rename_i hc'; obtain ⟨rfl, rfl⟩ := hc'
        intro hlt
        have b := h p k hp hk hc.1
        have c := h k q hk hq hc.2
        omega
      · exact a
  · exact Iff.rfl
/-- Nothing becomes greater. -/
def Le (ms' ms : List Int) : Prop := ∀ i j, i < 7 → j < 7 → at_ ms' i j ≤ at_ ms i j
theorem Le.relax {ms : List Int} {k i j : Nat} (hl : ms.length = 49) (hi : i < 7) (hj : j < 7) : Le (relax k i j ms) ms := by
  intro p q hp hq
  unfold Go.Proofs.YtldcehhhndlhdaaGreatDoor.relax
  split
  · rw [at_leave _ _ _ _ _ _ hl hi hj hq]
    split
    · rename_i hc; obtain ⟨rfl, rfl⟩ := hc
      omega
    · exact Int.le_refl _
  · exact Int.le_refl _
theorem Le.trans {a b c : List Int} (h : Le a b) (h' : Le b c) : Le a c := fun i j hi hj => Int.le_trans (h i j hi hj) (h' i j hi hj)
theorem Le.refl (a : List Int) : Le a a := fun _ _ _ _ => Int.le_refl _
theorem Le.closeJ {ms : List Int} {k i : Nat} (hl : ms.length = 49) (hi : i < 7) : ∀ n, n ≤ 7 → Le (closeJ k i ms n) ms
  | 0, _ => Le.refl _
  | n + 1, h => (Le.relax (by rw [closeJ_len, hl]) hi (by omega)).trans (Le.closeJ hl hi n (by omega))
theorem Le.closeI {ms : List Int} {k : Nat} (hl : ms.length = 49) : ∀ n, n ≤ 7 → Le (closeI k ms n) ms
  | 0, _ => Le.refl _
  | n + 1, h => (Le.closeJ (by rw [closeI_len, hl]) (by omega) 7 (by omega)).trans (Le.closeI hl n (by omega))
theorem Le.closeK {ms : List Int} (hl : ms.length = 49) : ∀ n, n ≤ 7 → Le (closeK ms n) ms
  | 0, _ => Le.refl _
  | n + 1, h => (Le.closeI (by rw [closeK_len, hl]) 7 (by omega)).trans (Le.closeK hl n (by omega))
def Top (ms : List Int) : Prop := ms.length = 49 ∧ ∀ i j, i < 7 → j < 7 → at_ ms i j ≤ 1048576
theorem Bd.top {lo hi : Int} {ms : List Int} (h : Bd lo hi ms) (hh : hi ≤ 1048576) : Top ms := ⟨h.len, fun _ _ a b => h.le hh a b⟩
theorem Top.le {ms ms' : List Int} (h : Top ms) (hl : ms'.length = ms.length) (hle : Le ms' ms) : Top ms' := ⟨hl.trans h.1, fun i j a b => Int.le_trans (hle i j a b) (h.2 i j a b)⟩
theorem Sol.closeJ {ms : List Int} {x : Nat → Int} {k i : Nat} (h : Top ms) (hk : k < 7) (hi : i < 7) : ∀ n, n ≤ 7 → (Sol (closeJ k i ms n) x ↔ Sol ms x)
  | 0, _ => Iff.rfl
  | n + 1, hn => (Sol.relax (by rw [closeJ_len, h.1]) hk hi (by omega) (Int.le_trans (Le.closeJ h.1 hi n (by omega) i n hi (by omega)) (h.2 i n hi (by omega)))).trans (Sol.closeJ h hk hi n (by omega))
theorem Sol.closeI {ms : List Int} {x : Nat → Int} {k : Nat} (h : Top ms) (hk : k < 7) : ∀ n, n ≤ 7 → (Sol (closeI k ms n) x ↔ Sol ms x)
  | 0, _ => Iff.rfl
  | n + 1, hn => (Sol.closeJ (h.le (closeI_len _ _ _) (Le.closeI h.1 n (by omega))) hk (by omega) 7 (by omega)).trans (Sol.closeI h hk n (by omega))
theorem Sol.closeK {ms : List Int} {x : Nat → Int} (h : Top ms) : ∀ n, n ≤ 7 → (Sol (closeK ms n) x ↔ Sol ms x)
  | 0, _ => Iff.rfl
  | n + 1, hn => (Sol.closeI (h.le (closeK_len _ _) (Le.closeK h.1 n (by omega))) (by omega) 7 (by omega)).trans (Sol.closeK h n (by omega))
theorem Sol.closeM {ms : List Int} {x : Nat → Int} (h : Top ms) : Sol (closeM ms) x ↔ Sol ms x := Sol.closeK h 7 (by omega)

/-! The bounds follow from each other. -/
def parV (ms : List Int) (k i j : Nat) : Int := if at_ ms i k < 1048576 ∧ at_ ms k j < 1048576 then min (at_ ms i j) (at_ ms i k + at_ ms k j) else at_ ms i j
theorem parV_row {ms : List Int} {k j : Nat} (h0 : at_ ms k k = 0) : parV ms k k j = at_ ms k j := by unfold parV; split <;> omega
theorem parV_col {ms : List Int} {k i : Nat} (h0 : at_ ms k k = 0) : parV ms k i k = at_ ms i k := by unfold parV; split <;> omega
def Par (k n m : Nat) (ms0 ms : List Int) : Prop := ∀ i j, i < 7 → j < 7 → at_ ms i j = if i < n ∨ i = n ∧ j < m then parV ms0 k i j else at_ ms0 i j
theorem Par.step {k n m : Nat} {ms0 ms : List Int} (hl : ms.length = 49) (h0 : at_ ms0 k k = 0) (hk : k < 7) (hn : n < 7) (hm : m < 7) (h : Par k n m ms0 ms) : Par k n (m + 1) ms0 (relax k n m ms) := by
  have e1 : at_ ms n k = at_ ms0 n k := by rw [h n k hn hk]; split <;> simp [parV_col h0]
  have e2 : at_ ms k m = at_ ms0 k m := by rw [h k m hk hm]; split <;> simp [parV_row h0]
  have e3 : at_ ms n m = at_ ms0 n m := by rw [h n m hn hm, if_neg (by omega)]
  have e4 : parV ms0 k n m = if at_ ms0 n k < 1048576 ∧ at_ ms0 k m < 1048576 then min (at_ ms0 n m) (at_ ms0 n k + at_ ms0 k m) else at_ ms0 n m := rfl
  intro i j hi hj
  unfold relax
  rw [e1, e2]
  by_cases hc : at_ ms0 n k < 1048576 ∧ at_ ms0 k m < 1048576
  · rw [if_pos hc, at_leave _ _ _ _ _ _ hl hn hm hj, e3]
    rw [if_pos hc] at e4
    by_cases hij : i = n ∧ j = m
    · obtain ⟨rfl, rfl⟩ := hij
      rw [if_pos ⟨rfl, rfl⟩, if_pos (by omega), e4]
    · rw [if_neg hij, h i j hi hj]
      by_cases hb : i < n ∨ i = n ∧ j < m
      · rw [if_pos hb, if_pos (by omega)]
      · rw [if_neg hb, if_neg (by omega)]
  · rw [if_neg hc]
    rw [if_neg hc] at e4
    by_cases hij : i = n ∧ j = m
    · obtain ⟨rfl, rfl⟩ := hij
      rw [if_pos (by omega), e4, e3]
    · rw [h i j hi hj]
      by_cases hb : i < n ∨ i = n ∧ j < m
      · rw [if_pos hb, if_pos (by omega)]
      · rw [if_neg hb, if_neg (by omega)]
theorem Par.row {k n : Nat} {ms0 ms : List Int} (hl : ms.length = 49) (h0 : at_ ms0 k k = 0) (hk : k < 7) (hn : n < 7) (h : Par k n 0 ms0 ms) : ∀ m, m ≤ 7 → Par k n m ms0 (closeJ k n ms m)
  | 0, _ => h
  | m + 1, hm => (Par.row hl h0 hk hn h m (by omega)).step (by rw [closeJ_len, hl]) h0 hk hn (by omega)
theorem Par.rows {k : Nat} {ms0 : List Int} (hl : ms0.length = 49) (h0 : at_ ms0 k k = 0) (hk : k < 7) : ∀ n, n ≤ 7 → Par k n 0 ms0 (closeI k ms0 n)
  | 0, _ => fun i j _ _ => by rw [if_neg (by omega)]; rfl
  | n + 1, hn => fun i j hi hj => by
    have := (Par.rows hl h0 hk n (by omega)).row (by rw [closeI_len, hl]) h0 hk (by omega) 7 (by omega) i j hi hj
    rw [closeI, this]
    by_cases hb : i < n ∨ i = n ∧ j < 7
    · rw [if_pos hb, if_pos (by omega)]
    · rw [if_neg hb, if_neg (by omega)]
theorem closeI_par {k : Nat} {ms : List Int} (hl : ms.length = 49) (h0 : at_ ms k k = 0) (hk : k < 7) {i j : Nat} (hi : i < 7) (hj : j < 7) : at_ (closeI k ms 7) i j = parV ms k i j := by
  rw [Par.rows hl h0 hk 7 (by omega) i j hi hj, if_pos (by omega)]
def Tri (ms : List Int) (k : Nat) : Prop := ∀ l, l < k → ∀ i j, i < 7 → j < 7 → at_ ms i l < 1048576 → at_ ms l j < 1048576 → at_ ms i j ≤ at_ ms i l + at_ ms l j
theorem parV_cases (ms : List Int) (k i j : Nat) : (parV ms k i j = at_ ms i j ∧ (1048576 ≤ at_ ms i k ∨ 1048576 ≤ at_ ms k j ∨ at_ ms i j ≤ at_ ms i k + at_ ms k j)) ∨ (parV ms k i j = at_ ms i k + at_ ms k j ∧ at_ ms i k < 1048576 ∧ at_ ms k j < 1048576 ∧ at_ ms i k + at_ ms k j ≤ at_ ms i j) := by
  unfold parV
  split <;> omega
theorem Tri.step {ms : List Int} {k : Nat} {hi : Int} (hl : ms.length = 49) (hk : k < 7) (h0 : at_ ms k k = 0) (hh : ∀ i j, i < 7 → j < 7 → at_ ms i j = 1048576 ∨ at_ ms i j ≤ hi) (hh' : 2 * hi < 1048576) (h : Tri ms k) : Tri (closeI k ms 7) (k + 1) := by
  intro l hlk i j hi' hj
  have hl7 : l < 7 := by omega
  rw [closeI_par hl h0 hk hi' hl7, closeI_par hl h0 hk hl7 hj, closeI_par hl h0 hk hi' hj]
  have cij := parV_cases ms k i j
  have cil := parV_cases ms k i l
  have clj := parV_cases ms k l j
  have b1 := hh i k hi' hk
  have b2 := hh k j hk hj
  have b3 := hh i l hi' hl7
  have b4 := hh l j hl7 hj
  have b5 := hh k l hk hl7
  have b6 := hh l k hl7 hk
  by_cases hlk' : l = k
  · subst hlk'
    rw [parV_col h0, parV_row h0]
    intro a b
    omega
  · have hlt : l < k := by omega
    have t1 := h l hlt i j hi' hj
    have t2 := h l hlt k j hk hj
    have t3 := h l hlt i k hi' hk
    have t4 := h l hlt k k hk hk
    rw [h0] at t4
    intro a b
    rcases cil with ⟨e1, _⟩ | ⟨e1, f1, g1, k1⟩ <;> rcases clj with ⟨e2, _⟩ | ⟨e2, f2, g2, k2⟩ <;> rw [e1] at a ⊢ <;> rw [e2] at b ⊢
    · have := t1 a b; omega
    · have := t3 a f2; omega
    · have := t2 g1 b; omega
    · have := t4 g1 f2; omega
/-- If no diagonal is below zero, the bounds are as narrow as they follow. -/
theorem closeM_tri {lo hi : Int} {ms : List Int} (h0 : Bd lo hi ms) (hlo : 0 ≤ lo) (hlo' : lo ≤ 1000) (hhi : 0 ≤ hi) (hhi' : hi ≤ 4000) (hd : ∀ i, i < 7 → at_ ms i i ≤ 0) (hok : ∀ i, i < 7 → 0 ≤ at_ (closeM ms) i i) : Tri (closeM ms) 7 := by
  have key : ∀ n, n ≤ 7 → Tri (closeK ms n) n := by
    intro n
    induction n with
    | zero => intro _ l hl; omega
    | succ n ih =>
      intro hn
      have hb := closeK_bd h0 hlo hlo' hhi hhi' n (by omega)
      have hh := hiK_bd hhi hhi' n (by omega)
      have hle : Le (closeM ms) (closeK ms n) := by
        have hm : ∀ d, n + d ≤ 7 → Le (closeK ms (n + d)) (closeK ms n) := by
          intro d
          induction d with
          | zero => intro _; exact Le.refl _
          | succ d ihd =>
            intro hd'
            exact (Le.closeI (k := n + d) (by rw [closeK_len, h0.len]) 7 (by omega)).trans (ihd (by omega))
        have := hm (7 - n) (by omega)
        rw [show n + (7 - n) = 7 by omega] at this
        exact this
      have hz : at_ (closeK ms n) n n = 0 := by
        have a := hok n (by omega)
        have b := hle n n (by omega) (by omega)
        have c := Le.closeK h0.len n (by omega) n n (by omega) (by omega)
        have d := hd n (by omega)
        omega
      exact Tri.step (by rw [closeK_len, h0.len]) (by omega) hz hb.high (by omega) (ih (by omega))
  exact key 7 (by omega)
end
end Go.Proofs.YtldcehhhndlhdaaGreatDoor

/- The cheapest paths, as the program keeps them: bounds, rows, what is told of each step. No program here; no conditions. -/
import Derived.Test.YtldcehhhndlhdaaGreatDoorC2
import Derived.Test.YtldcehhhndlhdaaGreatDoorC6
import Derived.Test.YtldcehhhndlhdaaGreatDoorC18
import Derived.Shelf.Abstract
import Derived.Test.YtldcehhhndlhdaaGreatDoorC15
import Derived.Deep.MidRow
namespace Go.Proofs.YtldcehhhndlhdaaGreatDoor.Bk
theorem relax_lo {S : BS} {a : Arc} {B M : Int} (hM : 0 ≤ M) (h : ∀ v, -B ≤ S.c v) (ha : -M ≤ a.cost) (v : Nat) : -(B + M) ≤ (relax S a).c v := by
  unfold relax
  have hv := h v
  have hf := h a.fr
  split
  · show -(B + M) ≤ updF S.c a.to (S.c a.fr + a.cost) v
    unfold updF
    split <;> omega
  · omega
theorem fold_lo {M : Int} (hM : 0 ≤ M) : ∀ (l : List Arc) (S : BS) (B : Int), 0 ≤ B → (∀ v, -B ≤ S.c v) → (∀ a ∈ l, -M ≤ a.cost) → ∀ v, -(B + l.length * M) ≤ (l.foldl relax S).c v
  | [], S, B, _, h, _, v => by have := h v; simp; omega
  | a :: l, S, B, hB, h, ha, v => by
    have := fold_lo hM l (relax S a) (B + M) (by omega) (relax_lo hM h (ha a (by simp))) (fun x hx => ha x (List.mem_cons_of_mem _ hx)) v
    have e : ((a :: l).length : Int) * M = l.length * M + M := by rw [List.length_cons, Int.natCast_add, Int.add_mul]; simp
    rw [e]
    show -(B + (↑l.length * M + M)) ≤ (l.foldl relax (relax S a)).c v
    omega
theorem passes_lo {M : Int} (hM : 0 ≤ M) (A : List Arc) (hA : ∀ a ∈ A, -M ≤ a.cost) (s : Nat) : ∀ (k v : Nat), -((k : Int) * ((A.length : Int) * M)) ≤ (passes A (startS s) k).c v
  | 0, v => by
    show _ ≤ (startS s).c v
    unfold startS
    dsimp only
    simp
    split
    · omega
    · decide
  | k + 1, v => by
    have h0 : (0 : Int) ≤ (k : Int) * ((A.length : Int) * M) := Int.mul_nonneg (by omega) (Int.mul_nonneg (by omega) hM)
    have := fold_lo hM A _ _ h0 (passes_lo hM A hA s k) hA v
    have e : ((k + 1 : Nat) : Int) * ((A.length : Int) * M) = k * ((A.length : Int) * M) + A.length * M := by rw [Int.natCast_add, Int.add_mul]; simp
    rw [e]
    exact this
theorem fold_hi : ∀ (l : List Arc) (S : BS) (v : Nat), S.c v ≤ farI → (l.foldl relax S).c v ≤ farI := fun l S v h => Int.le_trans (pass_mono l S v) h
theorem passes_hi (A : List Arc) (s : Nat) : ∀ (k v : Nat), (passes A (startS s) k).c v ≤ farI
  | 0, v => by
    show (startS s).c v ≤ farI
    unfold startS
    dsimp only
    split
    · decide
    · omega
  | k + 1, v => fold_hi A _ v (passes_hi A s k v)
theorem fm_len {f : Nat → List Arc} {c : Nat} (h : ∀ i, (f i).length ≤ c) : ∀ n, ((List.range n).flatMap f).length ≤ n * c
  | 0 => by simp
  | n + 1 => by
    have h1 := fm_len h n
    have h2 := h n
    have e : (List.range (n + 1)).flatMap f = (List.range n).flatMap f ++ f n := by rw [List.range_succ, List.flatMap_append]; simp
    rw [e, List.length_append, Nat.add_mul]
    omega
theorem arcsW_len (t : BT) (d : Nat → Int) (i : Nat) : (arcsW t d i).length ≤ 2 := by unfold arcsW; split <;> split <;> simp
theorem arcsH_len (t : BT) (d : Nat → Int) (i : Nat) : (arcsH t d i).length ≤ 2 := by unfold arcsH; split <;> split <;> simp
theorem arcsY_len (t : BT) (d : Nat → Int) (i : Nat) : (arcsY t d i).length ≤ 2 := by unfold arcsY; split <;> simp
theorem arcs_len (t : BT) (d : Nat → Int) : (arcsB t d).length ≤ 2 * (t.nW + t.nH + t.m) := by
  have h1 := fm_len (arcsW_len t d) t.nW
  have h2 := fm_len (arcsH_len t d) t.nH
  have h3 := fm_len (arcsY_len t d) t.m
  unfold arcsB
  rw [List.length_append, List.length_append]
  omega
/-- No sum of costs is too great for a number of 64 bits. -/
theorem cost_at {t : BT} (hs : BSm t) (hm : t.m ≤ 12) {d : Nat → Int} (hd : Div t d) {k : Nat} (hk : k ≤ 13) {pre : List Arc} (hp : pre <+: arcsB t d) (s v : Nat) :
    -30000000000000 ≤ (pre.foldl relax (passes (arcsB t d) (startS s) k)).c v ∧ (pre.foldl relax (passes (arcsB t d) (startS s) k)).c v ≤ farI := by
  refine ⟨?_, fold_hi _ _ _ (passes_hi _ _ _ _)⟩
  have hM : (0 : Int) ≤ mostB := by decide
  have hc := arcs_cost hs hd
  have hl := arcs_len t d
  have h5 := hs.nW
  have h6 := hs.nH
  have hl2 := hp.length_le
  have h1 := passes_lo hM (arcsB t d) (fun a ha => (hc a ha).1) s k
  have h0 : (0 : Int) ≤ (k : Int) * (((arcsB t d).length : Int) * mostB) := Int.mul_nonneg (by omega) (Int.mul_nonneg (by omega) hM)
  have h2 := fold_lo hM pre _ _ h0 h1 (fun a ha => (hc a (hp.subset ha)).1) v
  have h3 : ((arcsB t d).length : Int) * mostB ≤ 46 * mostB := Int.mul_le_mul_of_nonneg_right (by omega) hM
  have h4 : (pre.length : Int) * mostB ≤ 46 * mostB := Int.mul_le_mul_of_nonneg_right (by omega) hM
  have h7 : (k : Int) * (((arcsB t d).length : Int) * mostB) ≤ 13 * (46 * mostB) := Int.le_trans (Int.mul_le_mul_of_nonneg_left h3 (by omega)) (Int.mul_le_mul_of_nonneg_right (by omega) (by decide))
  have e : (13 : Int) * (46 * mostB) + 46 * mostB ≤ 30000000000000 := by decide
  omega
/-! Which step comes when. -/
def preW (t : BT) (d : Nat → Int) (w : Nat) : List Arc := (List.range w).flatMap (arcsW t d)
def preH (t : BT) (d : Nat → Int) (h : Nat) : List Arc := preW t d t.nW ++ (List.range h).flatMap (arcsH t d)
def preY (t : BT) (d : Nat → Int) (i : Nat) : List Arc := preH t d t.nH ++ (List.range i).flatMap (arcsY t d)
theorem fm_succ (f : Nat → List Arc) (k : Nat) : (List.range (k + 1)).flatMap f = (List.range k).flatMap f ++ f k := by
  rw [List.range_succ, List.flatMap_append]
  simp
theorem fm_pre (f : Nat → List Arc) {k n : Nat} (h : k ≤ n) : (List.range k).flatMap f <+: (List.range n).flatMap f := by
  obtain ⟨j, rfl⟩ : ∃ j, n = k + j := ⟨n - k, by omega⟩
  rw [List.range_add, List.flatMap_append]
  exact List.prefix_append _ _
theorem preW_succ (t : BT) (d : Nat → Int) (w : Nat) : preW t d (w + 1) = preW t d w ++ arcsW t d w := fm_succ _ _
theorem preH_succ (t : BT) (d : Nat → Int) (w : Nat) : preH t d (w + 1) = preH t d w ++ arcsH t d w := by
  unfold preH
  rw [fm_succ, List.append_assoc]
theorem preY_succ (t : BT) (d : Nat → Int) (w : Nat) : preY t d (w + 1) = preY t d w ++ arcsY t d w := by
  unfold preY
  rw [fm_succ, List.append_assoc]
theorem preY_end (t : BT) (d : Nat → Int) : preY t d t.m = arcsB t d := by
  unfold preY preH preW arcsB
  rw [List.append_assoc]
theorem preH_zero (t : BT) (d : Nat → Int) : preH t d 0 = preW t d t.nW := by unfold preH; simp
theorem preY_zero (t : BT) (d : Nat → Int) : preY t d 0 = preH t d t.nH := by unfold preY; simp
theorem preY_le (t : BT) (d : Nat → Int) {i : Nat} (h : i ≤ t.m) : preY t d i <+: arcsB t d := by
  rw [← preY_end]
  unfold preY
  exact (List.prefix_append_right_inj _).2 (fm_pre _ h)
theorem preH_le (t : BT) (d : Nat → Int) {i : Nat} (h : i ≤ t.nH) : preH t d i <+: arcsB t d := by
  refine List.IsPrefix.trans ?_ (preY_le t d (Nat.zero_le _))
  rw [preY_zero]
  unfold preH
  exact (List.prefix_append_right_inj _).2 (fm_pre _ h)
theorem preW_le (t : BT) (d : Nat → Int) {i : Nat} (h : i ≤ t.nW) : preW t d i <+: arcsB t d := by
  refine List.IsPrefix.trans ?_ (preH_le t d (Nat.zero_le _))
  rw [preH_zero]
  exact fm_pre _ h
/-- One more step of a list that begins so. -/
theorem pre_one {p l A : List Arc} {x : Arc} {r : List Arc} (h : p ++ l <+: A) (hl : l = x :: r) : p ++ [x] <+: A := by
  refine List.IsPrefix.trans ?_ h
  rw [hl]
  exact (List.prefix_append_right_inj _).2 ⟨r, rfl⟩
theorem pre_two {p l A : List Arc} {x y : Arc} {r : List Arc} (h : p ++ l <+: A) (hl : l = x :: y :: r) : (p ++ [x]) ++ [y] <+: A := by
  refine List.IsPrefix.trans ?_ h
  rw [hl, List.append_assoc]
  exact (List.prefix_append_right_inj _).2 ⟨r, rfl⟩
/-! Rows. -/
def rowF {α : Type} (n : Nat) (f : Nat → α) : List α := (List.range n).map f
theorem rowF_len {α : Type} (n : Nat) (f : Nat → α) : (rowF n f).length = n := by simp [rowF]
theorem rowF_at {α : Type} {n i : Nat} (f : Nat → α) (h : i < n) : (rowF n f)[i]? = some (f i) := by simp [rowF, List.getElem?_range h]
theorem rowF_upd {α : Type} (n i : Nat) (f : Nat → α) (x : α) : (rowF n f).set i x = rowF n (updF f i x) := by
  apply List.ext_getElem
  · simp [rowF]
  · intro j h1 h2
    simp only [rowF, List.getElem_set, List.getElem_map, List.getElem_range, updF]
    by_cases e : i = j
    · subst e; simp
    · rw [if_neg e, if_neg (fun h => e h.symm)]
theorem rowF_congr {α : Type} {n : Nat} {f g : Nat → α} (h : ∀ i, i < n → f i = g i) : rowF n f = rowF n g := List.map_congr_left fun i hi => h i (List.mem_range.1 hi)
theorem relax_yes {S : BS} {a : Arc} (h1 : S.c a.fr < farI) (h2 : S.c a.fr + a.cost < S.c a.to) : relax S a = ⟨updF S.c a.to (S.c a.fr + a.cost), updF S.src a.to a⟩ := if_pos ⟨h1, h2⟩
theorem relax_no {S : BS} {a : Arc} (h : ¬ (S.c a.fr < farI ∧ S.c a.fr + a.cost < S.c a.to)) : relax S a = S := if_neg h
/-! A division that a path turns. -/
theorem gain_snoc : ∀ (p : List Arc) (a : Arc) (i : Nat), gain (p ++ [a]) i = gain p i + if a.way = (i : Int) then a.more else 0
  | [], a, i => by simp [gain]
  | b :: p, a, i => by
    show (if b.way = (i : Int) then b.more else 0) + gain (p ++ [a]) i = _ + gain p i + _
    rw [gain_snoc p a i]
    omega
theorem aug_nil (d : Nat → Int) : augB d [] = d := by
  funext i
  simp [augB, gain]
theorem aug_skip (d : Nat → Int) (p : List Arc) {a : Arc} (h : a.way < 0) : augB d (p ++ [a]) = augB d p := by
  funext i
  unfold augB
  rw [gain_snoc, if_neg (by omega)]
  omega
theorem aug_step (d : Nat → Int) (p : List Arc) {a : Arc} {j : Nat} (h : a.way = (j : Int)) : augB d (p ++ [a]) = updF (augB d p) j (augB d p j + a.more) := by
  funext i
  unfold augB updF
  rw [gain_snoc, h]
  by_cases e : i = j
  · subst e
    rw [if_pos rfl, if_pos rfl]
    omega
  · rw [if_neg (by omega), if_neg e]
    show d i + (gain p i + 0) = d i + gain p i
    omega
theorem gain_bd : ∀ (p : List Arc) (i : Nat), (∀ a ∈ p, -1 ≤ a.more ∧ a.more ≤ 1) → -(p.length : Int) ≤ gain p i ∧ gain p i ≤ p.length
  | [], i, _ => by simp [gain]
  | a :: p, i, h => by
    have h1 := h a (by simp)
    have h2 := gain_bd p i (fun x hx => h x (List.mem_cons_of_mem _ hx))
    show _ ≤ (if a.way = (i : Int) then a.more else 0) + gain p i ∧ (if a.way = (i : Int) then a.more else 0) + gain p i ≤ _
    rw [List.length_cons]
    split <;> omega
theorem arcs_way {t : BT} {d : Nat → Int} : ∀ a ∈ arcsB t d, (-1 ≤ a.more ∧ a.more ≤ 1) ∧ (a.way = -1 ∨ ∃ j : Nat, j < t.m ∧ a.way = (j : Int)) := by
  intro a ha
  rcases mem_arcs.1 ha with ⟨w, hw, ⟨_, rfl⟩ | ⟨_, rfl⟩⟩ | ⟨h, hh, ⟨h1, rfl⟩ | ⟨h1, rfl⟩⟩ | ⟨i, hi, rfl | ⟨_, rfl⟩⟩
  · exact ⟨by dsimp only; omega, .inl rfl⟩
  · exact ⟨by dsimp only; omega, .inl rfl⟩
  · exact ⟨by dsimp only; omega, .inl rfl⟩
  · exact ⟨by dsimp only; omega, .inl rfl⟩
  · exact ⟨by dsimp only; omega, .inr ⟨i, hi, rfl⟩⟩
  · exact ⟨by dsimp only; omega, .inr ⟨i, hi, rfl⟩⟩
theorem div_small {t : BT} (hs : BSm t) {d : Nat → Int} (hd : Div t d) {i : Nat} (hi : i < t.m) : 0 ≤ d i ∧ d i ≤ 9 := by
  refine ⟨hd.pos i hi, ?_⟩
  have h1 := hd.lack _ (hs.ok.hh i hi)
  have h2 := (hs.hs _ (hs.ok.hh i hi)).2
  have h3 : (if t.hh i = t.hh i then d i else 0) ≤ drawH t d (t.hh i) := sumR_get (f := fun j => if t.hh j = t.hh i then d j else 0) (fun j hj => by
    split
    · exact hd.pos j hj
    · exact Int.le_refl _) hi
  rw [if_pos rfl] at h3
  unfold lackH at h1
  omega
theorem chain_fr {src : Nat → Arc} {s v : Nat} {a : Arc} {p : List Arc} (h : Chain src s v (a :: p)) : v ≠ s ∧ a = src v ∧ Chain src s a.fr p := by
  cases h with
  | cons h1 h2 => exact ⟨h1, rfl, h2⟩
theorem chain_end {src : Nat → Arc} {s v : Nat} (h : Chain src s v []) : v = s := by
  cases h with
  | nil => rfl
end Go.Proofs.YtldcehhhndlhdaaGreatDoor.Bk
/- The lacks of a fairest division are one list; the town of the example. No program here; no conditions. -/
namespace Go.Proofs.YtldcehhhndlhdaaGreatDoor.Bk
theorem earlier_none : ∀ {k l : List Int}, k.length = l.length → earlierL k l = false → earlierL l k = false → k = l
  | [], [], _, _, _ => rfl
  | [], _ :: _, h, _, _ => by simp at h
  | _ :: _, [], h, _, _ => by simp at h
  | x :: k, y :: l, h, h1, h2 => by
    unfold earlierL at h1 h2
    by_cases e : x = y
    · subst e
      rw [if_pos rfl] at h1 h2
      rw [earlier_none (by simpa using h) h1 h2]
    · rw [if_neg e, decide_eq_false_iff_not] at h1
      rw [if_neg (fun h => e h.symm), decide_eq_false_iff_not] at h2
      exact absurd (show x = y by omega) e
theorem wetter_refl (t : BT) : Wetter t t := ⟨rfl, rfl, rfl, rfl, rfl, rfl, fun _ _ => Int.le_refl _⟩
theorem best_one {t : BT} {d e : Nat → Int} (hd : Best t d) (he : Best t e) (h6 : t.nH ≤ 6) {k l : List Int} (hk : k.Perm (lacksL t d)) (hl : l.Perm (lacksL t e)) (sk : SortD k) (sl : SortD l) : k = l := by
  refine earlier_none (by rw [hk.length_eq, hl.length_eq]; simp [lacksL]) (wetter_fair (wetter_refl t) hd he h6 hk hl sk) (wetter_fair (wetter_refl t) he hd h6 hl hk sl)
/-- The town of the example. -/
def exB : BT := ⟨3, 2, 4, fun h => [5, 4, 3].getD h 0, fun w => [4, 3].getD w 0, fun i => [0, 1, 1, 2].getD i 0, fun i => [0, 0, 1, 1].getD i 0⟩
def exD : Nat → Int := fun i => [3, 1, 1, 2].getD i 0
theorem dearN_line (k : Nat) : 42000 * (k : Int) - 35000 ≤ dearN k := by
  induction k with
  | zero => decide
  | succ k ih =>
    have := dearN_pos k
    have := dearN_succ k
    rcases Nat.eq_zero_or_pos k with rfl | h
    · decide
    · omega
theorem dear_line {n : Int} (h : 0 ≤ n) : 42000 * n - 35000 ≤ dear n := by
  have := dearN_line n.toNat
  unfold dear
  omega
theorem ex_lacks : lacksL exB exD = [2, 2, 1] := by decide
theorem ex_best : Best exB exD := by
  refine ⟨⟨by decide, by decide, by decide⟩, fun e he => ?_⟩
  have l0 := he.lack 0 (by decide)
  have l1 := he.lack 1 (by decide)
  have l2 := he.lack 2 (by decide)
  have w0 := he.has 0 (by decide)
  have w1 := he.has 1 (by decide)
  have e0 : lackH exB e 0 = 5 - e 0 := by simp [lackH, drawH, sumR, exB]
  have e1 : lackH exB e 1 = 4 - (e 1 + e 2) := by simp [lackH, drawH, sumR, exB]
  have e2 : lackH exB e 2 = 3 - e 3 := by simp [lackH, drawH, sumR, exB]
  have f0 : hasW exB e 0 = 4 - (e 0 + e 1) := by simp [hasW, giveW, sumR, exB]
  have f1 : hasW exB e 1 = 3 - (e 2 + e 3) := by simp [hasW, giveW, sumR, exB]
  have d0 := dear_line l0
  have d1 := dear_line l1
  have d2 := dear_line l2
  have hc : costB exB exD = 105000 := by decide
  have hc2 : costB exB e = dear (lackH exB e 0) + dear (lackH exB e 1) + dear (lackH exB e 2) := by
    show sumR 3 (fun h => dear (lackH exB e h)) = _
    simp only [sumR]
    omega
  omega
end Go.Proofs.YtldcehhhndlhdaaGreatDoor.Bk
/- The town of a roster: its houses, wells and ways; what a fairest division of it says of the roster. No program here; no conditions. -/
namespace Go.Proofs.YtldcehhhndlhdaaGreatDoor
open Go.RowKit Go.Sort Go.Shelf
def waysFrom (s : Hr.Str) (i k : Nat) : List Sp := (List.range k).map fun (j : Nat) => ⟨(i : Int), s.frm + (j : Int)⟩
theorem waysFrom_zero (s : Hr.Str) (i : Nat) : waysFrom s i 0 = [] := rfl
theorem waysFrom_succ (s : Hr.Str) (i k : Nat) : waysFrom s i (k + 1) = waysFrom s i k ++ [⟨(i : Int), s.frm + (k : Int)⟩] := by
  unfold waysFrom
  rw [List.range_succ, List.map_append]
  rfl
theorem waysFrom_len (s : Hr.Str) (i k : Nat) : (waysFrom s i k).length = k := by simp [waysFrom]
def strAt (ss : List Hr.Str) (i : Nat) : Hr.Str := ss.getD i ⟨0, 0, 0, 0⟩
theorem strAt_eq {ss : List Hr.Str} {i : Nat} (h : i < ss.length) : strAt ss i = ss[i] := by
  unfold strAt
  rw [List.getD_eq_getElem?_getD, List.getElem?_eq_getElem h, Option.getD_some]
def waysTo (ss : List Hr.Str) (n : Nat) : List Sp := (List.range n).flatMap fun i => waysFrom (strAt ss i) i (Hr.wide (strAt ss i))
theorem waysTo_zero (ss : List Hr.Str) : waysTo ss 0 = [] := rfl
theorem waysTo_succ {ss : List Hr.Str} {n : Nat} (h : n < ss.length) : waysTo ss (n + 1) = waysTo ss n ++ waysFrom ss[n] n (Hr.wide ss[n]) := by
  unfold waysTo
  rw [List.range_succ, List.flatMap_append, List.flatMap_singleton, strAt_eq h]
theorem mem_ways {ss : List Hr.Str} {n : Nat} {y : Sp} : y ∈ waysTo ss n ↔ ∃ i, i < n ∧ y.low = (i : Int) ∧ (strAt ss i).frm ≤ y.high ∧ y.high ≤ (strAt ss i).to := by
  unfold waysTo waysFrom
  rw [List.mem_flatMap]
  constructor
  · rintro ⟨i, hi, hy⟩
    obtain ⟨j, hj, rfl⟩ := List.mem_map.1 hy
    have h1 := List.mem_range.1 hj
    unfold Hr.wide at h1
    exact ⟨i, List.mem_range.1 hi, rfl, by dsimp only; omega, by dsimp only; omega⟩
  · rintro ⟨i, hi, h1, h2, h3⟩
    refine ⟨i, List.mem_range.2 hi, List.mem_map.2 ⟨(y.high - (strAt ss i).frm).toNat, List.mem_range.2 (by unfold Hr.wide; omega), ?_⟩⟩
    obtain ⟨a, b⟩ := y
    dsimp only at h1 h2 h3 ⊢
    rw [h1]
    congr 1
    omega
theorem waysTo_le {ss : List Hr.Str} (hw : ∀ s ∈ ss, Hr.wide s ≤ 8) : ∀ n, n ≤ ss.length → (waysTo ss n).length ≤ 8 * n
  | 0, _ => by simp [waysTo_zero]
  | n + 1, h => by
    rw [waysTo_succ (by omega), List.length_append, waysFrom_len]
    have := waysTo_le hw n (by omega)
    have := hw _ (List.getElem_mem (show n < ss.length by omega))
    omega
/-- The town of a roster. -/
def streetsT (r : Hr.Ros) : BTown := ⟨List.replicate r.strs.length 1, r.room, waysTo r.strs r.strs.length⟩
theorem bef_trans {a b c : Sp} (h : befY a b = true) (k : befY b c = true) : befY a c = true := by
  unfold befY at *
  simp only [Bool.or_eq_true, Bool.and_eq_true, decide_eq_true_eq] at *
  omega
theorem bef_all {t : BTown} (h : bVal t = true) (i : Nat) : ∀ j, i < j → j < t.ys.length → befY (spAt t.ys i) (spAt t.ys j) = true
  | 0, h1, _ => absurd h1 (by omega)
  | j + 1, h1, h2 => by
    have h3 := (bVal_spec h).2.2.2.2 (j + 1) h2
    unfold okY at h3
    simp only [Bool.and_eq_true, Bool.or_eq_true, decide_eq_true_eq, Nat.add_sub_cancel] at h3
    have h4 : befY (spAt t.ys j) (spAt t.ys (j + 1)) = true := by
      rcases h3.2 with h | h
      · exact absurd h (by omega)
      · exact h
    by_cases e : i = j
    · rw [e]; exact h4
    · exact bef_trans (bef_all h i j (by omega) (by omega)) h4
theorem streets_rb {r : Hr.Ros} (hr : Hr.ROk r) (hv : bVal (streetsT r) = true) : Bk.RB r (streetsT r).bt := by
  have hm : ∀ j, j < (streetsT r).ys.length → ∃ i, i < r.strs.length ∧ (spAt (streetsT r).ys j).low = (i : Int) ∧ (strAt r.strs i).frm ≤ (spAt (streetsT r).ys j).high ∧ (spAt (streetsT r).ys j).high ≤ (strAt r.strs i).to := fun j hj => by
    rw [spAt_len _ _ hj]
    exact mem_ways.1 (List.getElem_mem hj)
  have hfr : ∀ i, i < r.strs.length → 0 ≤ (strAt r.strs i).frm := fun i hi => by
    rw [strAt_eq hi]
    exact (hr.strs _ (List.getElem_mem hi)).frm0
  refine ⟨by show (List.replicate _ _).length = _; simp, rfl, fun h hh => ?_, fun w hw => ?_, BTown.bt_ok hv, fun j hj h => ?_, fun h hh x h1 h2 => ?_, fun i j hi hj e1 e2 => ?_⟩
  · show (List.replicate r.strs.length (1 : Int)).getD h 0 = 1
    have hh' : h < r.strs.length := by
      have : h < (List.replicate r.strs.length (1 : Int)).length := hh
      simpa using this
    rw [List.getD_eq_getElem?_getD, List.getElem?_replicate, if_pos hh']
    rfl
  · rfl
  · obtain ⟨i, hi, e, h1, h2⟩ := hm j hj
    have e1 : (streetsT r).bt.hh j = i := by show (spAt (streetsT r).ys j).low.toNat = i; omega
    have e2 : ((streetsT r).bt.ww j : Int) = (spAt (streetsT r).ys j).high := by
      show ((spAt (streetsT r).ys j).high.toNat : Int) = _
      have := hfr i hi
      omega
    rw [e2]
    rw [strAt_eq hi] at h1 h2
    simp only [e1]
    exact ⟨h1, h2⟩
  · have hy : (⟨(h : Int), (x : Int)⟩ : Sp) ∈ (streetsT r).ys := mem_ways.2 ⟨h, hh, rfl, by rw [strAt_eq hh]; exact h1, by rw [strAt_eq hh]; exact h2⟩
    obtain ⟨j, hj, e⟩ := List.getElem_of_mem hy
    refine ⟨j, hj, ?_, ?_⟩
    · show (spAt (streetsT r).ys j).low.toNat = h
      rw [spAt_len _ _ hj, e]
      simp
    · show (spAt (streetsT r).ys j).high.toNat = x
      rw [spAt_len _ _ hj, e]
      simp
  · have hi' : i < (streetsT r).ys.length := hi
    have hj' : j < (streetsT r).ys.length := hj
    obtain ⟨a, ha, ea, ea1, -⟩ := hm i hi'
    obtain ⟨b, hb, eb, eb1, -⟩ := hm j hj'
    have e1' : (spAt (streetsT r).ys i).low.toNat = (spAt (streetsT r).ys j).low.toNat := e1
    have e2' : (spAt (streetsT r).ys i).high.toNat = (spAt (streetsT r).ys j).high.toNat := e2
    have f1 := hfr a ha
    have f2 := hfr b hb
    have key : ∀ i j, i < j → j < (streetsT r).ys.length → (spAt (streetsT r).ys i).low = (spAt (streetsT r).ys j).low → (spAt (streetsT r).ys i).high = (spAt (streetsT r).ys j).high → False := fun i j h1 h2 h3 h4 => by
      have := bef_all hv i j h1 h2
      unfold befY at this
      simp only [Bool.or_eq_true, Bool.and_eq_true, decide_eq_true_eq] at this
      omega
    rcases Nat.lt_trichotomy i j with h | h | h
    · exact (key i j h hj' (by omega) (by omega)).elim
    · exact h
    · exact (key j i h hi' (by omega) (by omega)).elim
end Go.Proofs.YtldcehhhndlhdaaGreatDoor
/- Walks: TrailingZeros of small numbers; the list of some houses. -/
namespace Go.Proofs.YtldcehhhndlhdaaGreatDoor
open Go.RowKit Go.Sort Go.Shelf

/-- The table of the library, as far as small numbers ask it. -/
def TzAt (w : World) : Prop := ∀ k : Fin 6, w.cell? ⟨2, [0, 1, 3, 7, 15, 31].getD k.val 0, none⟩ = some (.int .u8 (k.val : Int))
theorem TzAt.below {w w' : World} (h : TzAt w) (hb : Below w.heap.size w w') : TzAt w' := fun k => keep_cell hb (h k)
/-- The first bit of a small number; the number without it; its bits. -/
def tzN (s : Nat) : Nat := ((List.range 6).find? fun i => s / 2 ^ i % 2 == 1).getD 0
def lowN (s : Nat) : Nat := s - 2 ^ tzN s
def listN (s : Nat) : List Int := ((List.range 6).filter fun i => s / 2 ^ i % 2 == 1).map fun i : Nat => (i : Int)
theorem tz_small : ∀ s : Fin 64, s.val ≠ 0 → tzN s.val < 6 ∧ IntKind.u64.wrap (bits BinOp.and IntKind.u64 (s.val : Int) (IntKind.u64.wrap (-(s.val : Int))) * 285870213051353865) / 288230376151711744 = (([0, 1, 3, 7, 15, 31].getD (tzN s.val) 0 : Nat) : Int) := by decide +kernel
theorem low_small : ∀ s : Fin 64, s.val ≠ 0 → bits BinOp.and IntKind.u64 (s.val : Int) (IntKind.u64.wrap ((s.val : Int) - 1)) = (lowN s.val : Int) ∧ lowN s.val < s.val ∧ listN s.val = (tzN s.val : Int) :: listN (lowN s.val) := by decide +kernel
theorem listN_zero : listN 0 = [] := by decide
theorem list_len : ∀ s : Fin 64, (listN s.val).length ≤ 6 := by decide +kernel

set_option maxRecDepth 20000 in
set_option maxHeartbeats 400000 in
theorem tz64_any (s : Nat) (w : World) (h0 : s ≠ 0) (h64 : s < 64) (hT : TzAt w) :
    Calls Tryz.prog 79 #[.int .u64 s] w fun e w' => e = .returned (I (tzN s)) ∧ w = w' := by
  obtain ⟨h6, he⟩ := tz_small ⟨s, h64⟩ h0
  have hc := hT ⟨tzN s, h6⟩
  dsimp only at he hc h6
  have hs0 : ((s : Int) == 0) = false := by simp; omega
  obtain ⟨ix, hix⟩ : ∃ x : Nat, [0, 1, 3, 7, 15, 31].getD (tzN s) 0 = x := ⟨_, rfl⟩
  rw [hix] at he hc
  have hl : ix < 64 := by
    rw [← hix]
    have : ∀ k : Fin 6, [0, 1, 3, 7, 15, 31].getD k.val 0 < 64 := by decide
    exact this ⟨_, h6⟩
  have hli : (ix : Int) < 64 := by omega
  obtain ⟨z, hz⟩ : ∃ z, tzN s = z := ⟨_, rfl⟩
  rw [hz] at hc h6 ⊢
  clear hix hz hT h0 h64
  have hz6 : (z : Int) < 6 := by omega
  go_enter Tryz.func79, Tryz.ntmps79
  go_wp2_with fail
  go_ret
  exact ⟨rfl, rfl⟩

set_option maxRecDepth 20000 in
set_option maxHeartbeats 400000 in
theorem tz_any (s : Nat) (w : World) (h0 : s ≠ 0) (h64 : s < 64) (hT : TzAt w) :
    Calls Tryz.prog 65 #[.int .u64 s] w fun e w' => e = .returned (I (tzN s)) ∧ w = w' := by
  go_enter Tryz.func65, Tryz.ntmps65
  go_wp2_with fail
  refine (tz64_any s _ h0 h64 hT).mono ?_
  rintro e w1 ⟨rfl, rfl⟩
  go_wp2_with fail
  go_ret
  exact ⟨rfl, rfl⟩

set_option maxRecDepth 20000 in
set_option maxHeartbeats 2000000 in
theorem glist_any (s : Nat) (w : World) (h64 : s < 64) (hT : TzAt w) :
    Calls Tryz.prog 32 #[.int .u64 s] w fun e w' => ∃ v, e = .returned v ∧ w'.ownsRow w.heap.size 3 1 v (listN s).length ((listN s).map I) ∧ Below w.heap.size w w' := by
  have S := Lib.hid ((St.init w).nil 3 1)
  have HT := Lib.hid hT
  have H64 := Lib.hid h64
  obtain ⟨i0, hi, hz0, hz1, hz2⟩ := info_parts Tryz.info3
  have h02 : 0 < 1 := by decide
  clear hT
  go_enter Tryz.func32, Tryz.ntmps32
  go_wp2_with fail
  go_loopw [0, 3] (fun u v wr => ∃ (r : Nat) (l : List Int) (A : Option Addr) (c : Nat), Hid (r < 64 ∧ l ++ listN r = listN s) ∧ u = .int .u64 r ∧ v = .slice A l.length c ∧ Hid (St w wr wr.heap.size [.own 3 1 (.slice A l.length c) l.length (l.map I)])) (fun u _ _ => (intOf u).toNat)
  case atStart => exact ⟨s, [], none, 0, Lib.hid ⟨h64, rfl⟩, rfl, rfl, S⟩
  case round =>
    clear S
    obtain ⟨r, l, A, c, HR, rfl, rfl, S⟩ := hrel
    by_cases hr0 : r = 0
    · have HF := Lib.hid (show l = listN s by have := HR.out.2; rw [hr0, listN_zero, List.append_nil] at this; exact this)
      subst hr0
      go_wp2_with fail
      go_ret
      exact ⟨_, rfl, by rw [← HF.out]; exact S.out.own 0 rfl, S.out.bel⟩
    · have hrq : ((r : Int) == 0) = false := by simp; omega
      obtain ⟨e1, e2, e3⟩ := low_small ⟨r, HR.out.1⟩ hr0
      dsimp only at e1 e2 e3
      have HE := Lib.hid (And.intro e2 e3)
      have hlen : l.length ≤ 6 := by
        have h1 := list_len ⟨s, H64.out⟩
        dsimp only at h1
        rw [← HR.out.2] at h1
        simp at h1
        omega
      have h63 : l.length + 1 ≤ maxLen := by simp only [maxLen]; omega
      have hby : (l.length + 1) * 8 ≤ 140737488355328 := by omega
      obtain ⟨q, hq⟩ : ∃ q, lowN r = q := ⟨_, rfl⟩
      obtain ⟨z, hz⟩ : ∃ z, tzN r = z := ⟨_, rfl⟩
      rw [hq] at e1
      have HQ := Lib.hid hq
      have HZ := Lib.hid hz
      clear e2 e3 hq hz
      go_wp2_with fail
      refine (tz_any r _ hr0 HR.out.1 (HT.out.below S.out.bel)).mono ?_
      rintro e w1 ⟨rfl, rfl⟩
      rw [HZ.out]
      have T := Lib.hid (S.out.alloc [I (z : Nat)] 3)
      go_wp2_with (at_builtin; refine wpList_append_St T.out 1 rfl _ _ 22 rfl 3 i0 (.int .i64 0) 1 8 Tryz.underlying22 hi hz0 hz1 hz2 rfl h02 rfl rfl _ 1 [I (z : Nat)] rfl (reads_box1 (T.out.get 0 0 rfl rfl)) (ints_one [(z : Int)]) h63 hby ?_; intro v5 w5 hS5; have S := Lib.hid hS5; clear hS5)
      obtain ⟨A', c', rfl⟩ := own_shape (S.out.own 1 rfl)
      go_roundw
      case rel => exact ⟨q, l ++ [(z : Int)], A', c', Lib.hid ⟨by have := HE.out.1; have := HQ.out; have := HR.out.1; omega, by rw [List.append_assoc, ← HR.out.2, HE.out.2, HQ.out, HZ.out]; rfl⟩, rfl, by simp, Lib.hid (by have h := S.out.fix.tail; simpa using h)⟩
      case measure => have := HE.out.1; have := HQ.out; simp [intOf]; omega

end Go.Proofs.YtldcehhhndlhdaaGreatDoor
/- Walks: slices.Compare of numbers. -/
namespace Go.Proofs.YtldcehhhndlhdaaGreatDoor
open Go.RowKit Go.Sort Go.Shelf

def cmpLL : List Int → List Int → Int
  | [], [] => 0
  | [], _ :: _ => -1
  | _ :: _, [] => 1
  | x :: xs, y :: ys => if cmpI x y = 0 then cmpLL xs ys else cmpI x y
theorem cmpLL_drop {xs ys : List Int} : ∀ {k : Nat}, k ≤ xs.length → k ≤ ys.length → (∀ i (h : i < xs.length) (h' : i < ys.length), i < k → cmpI xs[i] ys[i] = 0) → cmpLL xs ys = cmpLL (xs.drop k) (ys.drop k)
  | 0, _, _, _ => by simp
  | k + 1, h1, h2, h => by
    rw [cmpLL_drop (k := k) (by omega) (by omega) (fun i a b c => h i a b (by omega)), List.drop_eq_getElem_cons (show k < xs.length by omega), List.drop_eq_getElem_cons (show k < ys.length by omega)]
    show (if cmpI xs[k] ys[k] = 0 then _ else _) = _
    rw [if_pos (h k _ _ (by omega))]

set_option maxRecDepth 20000 in
set_option maxHeartbeats 2000000 in
theorem compareL_any (va vb : Value) (xs ys : List Int) (w : World) (hr : Ints w va xs) (hr' : Ints w vb ys) (hl : xs.length ≤ 1000) (hl' : ys.length ≤ 1000) :
    Calls Tryz.prog 35 #[va, vb] w fun e w' => e = .returned (I (cmpLL xs ys)) ∧ Below w.heap.size w w' := by
  obtain ⟨A, c, rfl, hnc, hcm, hc⟩ := hr.open_
  obtain ⟨A', c', rfl, hnc', hcm', hc'⟩ := hr'.open_
  have HC := Lib.hid hc
  have HC' := Lib.hid hc'
  clear hc hr hc' hr' hnc hcm hnc' hcm'
  go_enter Tryz.func35, Tryz.ntmps35
  go_wp2_with fail
  go_loopw [11] (fun i wr => ∃ k : Nat, k ≤ xs.length ∧ i = I k ∧ Hid (k ≤ ys.length) ∧ Hid (∀ i (h : i < xs.length) (h' : i < ys.length), i < k → cmpI xs[i] ys[i] = 0) ∧ Hid (Below w.heap.size w wr)) (fun i _ => xs.length - (intOf i).toNat)
  case atStart => exact ⟨0, by omega, rfl, Lib.hid (by omega), Lib.hid (fun i h h' hi => absurd hi (by omega)), Lib.hid (Below.refl _ _)⟩
  case round =>
    obtain ⟨k, hk, rfl, HK, hz, hw⟩ := hrel
    by_cases hlt : k < xs.length
    · have hki : (k : Int) < (xs.length : Int) := by omega
      obtain ⟨b, o, rfl, hbl, hcell⟩ := HC.out (by omega)
      have x0 := keep_cell hw.out (hcell k hlt)
      clear hcell hbl
      by_cases hlt' : k < ys.length
      · have hkj : (k : Int) < (ys.length : Int) := by omega
        obtain ⟨b', o', rfl, hbl', hcell'⟩ := HC'.out (by omega)
        have y0 := keep_cell hw.out (hcell' k hlt')
        clear hcell' hbl'
        have HE := Lib.hid (show cmpLL xs ys = if cmpI xs[k] ys[k] = 0 then cmpLL (xs.drop (k + 1)) (ys.drop (k + 1)) else cmpI xs[k] ys[k] from by
          rw [cmpLL_drop (k := k) (by omega) (by omega) hz.out, List.drop_eq_getElem_cons hlt, List.drop_eq_getElem_cons hlt']
          rfl)
        obtain ⟨x, hx⟩ : ∃ x, xs[k] = x := ⟨_, rfl⟩
        obtain ⟨y, hy⟩ : ∃ y, ys[k] = y := ⟨_, rfl⟩
        rw [hx, hy] at HE
        rw [hx] at x0
        rw [hy] at y0
        have HX := Lib.hid hx
        have HY := Lib.hid hy
        clear hx hy
        go_wp2_with fail
        refine (compare_any x y _).mono ?_
        rintro e w1 ⟨rfl, rfl⟩
        obtain ⟨z, hzz⟩ : ∃ z, cmpI x y = z := ⟨_, rfl⟩
        rw [hzz] at HE ⊢
        have HZZ := Lib.hid hzz
        clear hzz x0 y0
        by_cases h0 : z = 0
        · subst h0
          have HZ := Lib.hid (show ∀ i (h : i < xs.length) (h' : i < ys.length), i < k + 1 → cmpI xs[i] ys[i] = 0 from fun i h h' hi => by
            by_cases e : i = k
            · subst e; rw [HX.out, HY.out]; exact HZZ.out
            · exact hz.out i h h' (by omega))
          go_wp2_with fail
          go_roundw
          case rel => exact ⟨k + 1, by omega, by go_num, Lib.hid (by omega), HZ, hw⟩
          case measure => first | (simp [intOf]; done) | (simp [intOf]; omega)
        · have h0b : (z != 0) = true := by simpa using h0
          have HF := Lib.hid (show cmpLL xs ys = z by rw [HE.out, if_neg h0])
          clear HE h0
          go_wp2_with fail
          go_ret
          exact ⟨by rw [HF.out]; rfl, hw.out⟩
      · have hkj : (ys.length : Int) ≤ (k : Int) := by omega
        have HF := Lib.hid (show cmpLL xs ys = 1 by
          rw [cmpLL_drop (k := k) (by omega) HK.out hz.out, List.drop_eq_getElem_cons hlt, List.drop_eq_nil_of_le (show ys.length ≤ k by omega)]
          rfl)
        clear hlt'
        go_wp2_with fail
        go_ret
        exact ⟨by rw [HF.out]; rfl, hw.out⟩
    · obtain rfl : k = xs.length := by omega
      by_cases hlt' : xs.length < ys.length
      · have hkj : (xs.length : Int) < (ys.length : Int) := by omega
        have HF := Lib.hid (show cmpLL xs ys = -1 by
          rw [cmpLL_drop (k := xs.length) (by omega) HK.out hz.out, List.drop_length, List.drop_eq_getElem_cons hlt']
          rfl)
        clear hlt
        go_wp2_with fail
        go_ret
        exact ⟨by rw [HF.out]; rfl, hw.out⟩
      · have hkj : (ys.length : Int) ≤ (xs.length : Int) := by omega
        have HF := Lib.hid (show cmpLL xs ys = 0 by
          rw [cmpLL_drop (k := xs.length) (by omega) HK.out hz.out, List.drop_length, List.drop_eq_nil_of_le (show ys.length ≤ xs.length by omega)]
          rfl)
        clear hlt hlt'
        go_wp2_with fail
        go_ret
        exact ⟨by rw [HF.out]; rfl, hw.out⟩
end Go.Proofs.YtldcehhhndlhdaaGreatDoor
/- Steps in rows; several cells stored into a row of the call's own. -/
namespace Go.Proofs.YtldcehhhndlhdaaGreatDoor
open Go.RowKit Go.Sort Go.Shelf

def setsAt : List Value → Nat → List Value → List Value
  | xs, _, [] => xs
  | xs, o, v :: vs => setsAt (xs.set o v) (o + 1) vs
theorem St.puts {w0 : World} {n i e size g m cap : Nat} : ∀ (vs : List Value) (o : Nat) {w : World} {L : List Item} {xs : List Value}, St w0 w n L → L[i]? = some (.own e size (.slice (some ⟨g, 0, none⟩) m cap) m xs) →
    St w0 (w.setCells g o vs) n (L.set i (.own e size (.slice (some ⟨g, 0, none⟩) m cap) m (setsAt xs o vs)))
  | [], o, w, L, xs, h, hi => by
    have eL : L.set i (.own e size (.slice (some ⟨g, 0, none⟩) m cap) m xs) = L := by
      apply List.ext_getElem?
      intro j
      rw [List.getElem?_set]
      split
      · rename_i hj
        subst hj
        rw [hi]
        rw [if_pos (List.getElem?_eq_some_iff.1 hi).1]
      · rfl
    show St w0 w n (L.set i (.own e size (.slice (some ⟨g, 0, none⟩) m cap) m xs))
    rw [eL]
    exact h
  | v :: vs, o, w, L, xs, h, hi => by
    have h1 := h.put i o v hi
    have hl : i < L.length := (List.getElem?_eq_some_iff.1 hi).1
    have h2 := St.puts vs (o + 1) h1 (xs := xs.set o v) (by rw [List.getElem?_set_self hl])
    rw [List.set_set] at h2
    exact h2
theorem grown_setCells {b : Nat} : ∀ (vs : List Value) (o : Nat) (w : World), w.grownBy (w.setCells b o vs) (some b)
  | [], _, w => ⟨rfl, rfl, rfl, Nat.le_refl _, fun _ _ _ => rfl⟩
  | v :: vs, o, w => by
    have h1 := grown_setCell w ⟨b, o, none⟩ v
    have h2 := grown_setCells (b := b) vs (o + 1) (w.setCell ⟨b, o, none⟩ v)
    exact grown_trans' h1 h2
theorem size_setCells {b : Nat} : ∀ (vs : List Value) (o : Nat) (w : World), (w.setCells b o vs).heap.size = w.heap.size
  | [], _, _ => rfl
  | v :: vs, o, w => by
    show ((w.setCell ⟨b, o, none⟩ v).setCells b (o + 1) vs).heap.size = _
    rw [size_setCells vs (o + 1)]
    simp [World.setCell]
theorem setsAt_mid : ∀ (new old pre post : List Value), old.length = new.length → setsAt (pre ++ (old ++ post)) pre.length new = pre ++ (new ++ post)
  | [], old, pre, post, h => by
    have : old = [] := List.eq_nil_of_length_eq_zero (by simpa using h)
    subst this
    rfl
  | v :: new, [], _, _, h => by simp at h
  | v :: new, u :: old, pre, post, h => by
    show setsAt ((pre ++ (u :: old ++ post)).set pre.length v) (pre.length + 1) new = _
    have e : (pre ++ (u :: old ++ post)).set pre.length v = (pre ++ [v]) ++ (old ++ post) := by simp
    rw [e]
    have := setsAt_mid new old (pre ++ [v]) post (by simpa using h)
    rw [List.length_append, List.length_singleton] at this
    rw [this]
    simp
/-! Steps. -/
abbrev arcCells (a : Bk.Arc) : List Value := [I a.fr, I a.to, I a.cost, I a.way, I a.more]
def arcRow (l : List Bk.Arc) : List Value := l.flatMap arcCells
theorem arcRow_len (l : List Bk.Arc) : (arcRow l).length = l.length * 5 := by
  induction l with
  | nil => rfl
  | cons p ps ih => simp [arcRow] at ih ⊢; omega
theorem arcRow_at : ∀ (l : List Bk.Arc) (i : Nat) (h : i < l.length), (arcRow l)[i * 5]? = some (I l[i].fr) ∧ (arcRow l)[i * 5 + 1]? = some (I l[i].to) ∧ (arcRow l)[i * 5 + 2]? = some (I l[i].cost) ∧ (arcRow l)[i * 5 + 3]? = some (I l[i].way) ∧ (arcRow l)[i * 5 + 4]? = some (I l[i].more)
  | [], i, h => absurd h (by simp)
  | s :: ss, 0, _ => ⟨rfl, rfl, rfl, rfl, rfl⟩
  | s :: ss, i + 1, h => by
    have := arcRow_at ss i (by simpa using h)
    have e : arcRow (s :: ss) = I s.fr :: I s.to :: I s.cost :: I s.way :: I s.more :: arcRow ss := rfl
    rw [e, show (i + 1) * 5 = i * 5 + 5 from by omega]
    simpa using this
theorem arcRow_append (k l : List Bk.Arc) : arcRow (k ++ l) = arcRow k ++ arcRow l := by simp [arcRow]
theorem arcRow_set (l : List Bk.Arc) {i : Nat} (h : i < l.length) (a : Bk.Arc) : setsAt (arcRow l) (i * 5) (arcCells a) = arcRow (l.set i a) := by
  have e1 : arcRow l = arcRow (l.take i) ++ (arcCells l[i] ++ arcRow (l.drop (i + 1))) := by
    conv => lhs; rw [← List.take_append_drop i l, List.drop_eq_getElem_cons h, arcRow_append]
    rfl
  have e2 : arcRow (l.set i a) = arcRow (l.take i) ++ (arcCells a ++ arcRow (l.drop (i + 1))) := by
    rw [List.set_eq_take_append_cons_drop, if_pos h, arcRow_append]
    rfl
  have e3 : (arcRow (l.take i)).length = i * 5 := by rw [arcRow_len, List.length_take, Nat.min_eq_left (by omega)]
  rw [e1, e2, ← e3]
  exact setsAt_mid _ _ _ _ rfl
theorem arc_one (a : Bk.Arc) : ∀ v ∈ arcCells a, v.oneCell' = true := by
  intro v hv
  simp at hv
  rcases hv with rfl | rfl | rfl | rfl | rfl <;> rfl
theorem arcRow_one (l : List Bk.Arc) : ∀ v ∈ arcRow l, v.oneCell' = true := by
  intro v hv
  obtain ⟨a, _, ha⟩ := List.mem_flatMap.1 hv
  exact arc_one a v ha
theorem madeA (N : Nat) : (madeCells #[.int .i64 0, .int .i64 0, .int .i64 0, .int .i64 0, .int .i64 0] (N * 5)).toList = arcRow (List.replicate N ⟨0, 0, 0, 0, 0⟩) := by
  apply List.ext_getElem
  · rw [arcRow_len]
    simp [madeCells]
  · intro i h1 h2
    have hi : i < N * 5 := by simpa [madeCells] using h1
    obtain ⟨q, r, hr, rfl⟩ : ∃ q r, r < 5 ∧ i = q * 5 + r := ⟨i / 5, i % 5, by omega, by omega⟩
    have hq : q < (List.replicate N (⟨0, 0, 0, 0, 0⟩ : Bk.Arc)).length := by simp; omega
    obtain ⟨g0, g1, g2, g3, g4⟩ := arcRow_at _ q hq
    have e : (arcRow (List.replicate N (⟨0, 0, 0, 0, 0⟩ : Bk.Arc)))[q * 5 + r]? = some (I 0) := by
      simp only [List.getElem_replicate] at g0 g1 g2 g3 g4
      rcases r with _ | _ | _ | _ | _ | r
      · exact g0
      · exact g1
      · exact g2
      · exact g3
      · exact g4
      · omega
    rw [List.getElem?_eq_getElem h2] at e
    injection e with e
    rw [e]
    have hm : (q * 5 + r) % 5 = r := by omega
    simp [madeCells, hm]
    rcases r with _ | _ | _ | _ | _ | r <;> first | rfl | omega
section
variable {w0 w : World} {n : Nat} {L : List Item}
theorem St.there (h : St w0 w n L) (i : Nat) {e g N cap : Nat} {xs : List Value} {size : Nat} (hi : L[i]? = some (.own e size (.slice (some ⟨g, 0, none⟩) N cap) N xs)) {o k : Nat} (hk : o + k ≤ xs.length) : w.there g o k := by
  intro j hj
  refine ⟨?_, (h.own i hi).frozenAt _⟩
  obtain ⟨hl, A, c, e, _, _, hc⟩ := h.row i hi
  injection e with e1 e2 e3
  subst e1
  have hN : 0 < N := by
    rcases Nat.eq_zero_or_pos N with h0 | h0
    · subst h0; simp at hl; subst hl; simp at hk; omega
    · exact h0
  obtain ⟨b, o', e4, hcell⟩ := hc hN
  injection e4 with e4
  injection e4 with e5 e6
  subst e5
  subst e6
  have := hcell (o + j) _ (List.getElem?_eq_getElem (show o + j < xs.length by omega))
  rw [Nat.zero_add] at this
  rw [this]
  rfl
/-- A cell of a row of steps. -/
theorem St.arc (h : St w0 w n L) (i : Nat) {e g N cap : Nat} {l : List Bk.Arc} (hi : L[i]? = some (.own e 5 (.slice (some ⟨g, 0, none⟩) N cap) N (arcRow l))) {k : Nat} (hk : k < l.length) :
    w.cell? ⟨g, k * 5, none⟩ = some (I l[k].fr) ∧ w.cell? ⟨g, k * 5 + 1, none⟩ = some (I l[k].to) ∧ w.cell? ⟨g, k * 5 + 2, none⟩ = some (I l[k].cost) ∧ w.cell? ⟨g, k * 5 + 3, none⟩ = some (I l[k].way) ∧ w.cell? ⟨g, k * 5 + 4, none⟩ = some (I l[k].more) := by
  obtain ⟨hl, A, c, e, _, _, hc⟩ := h.row i hi
  injection e with e1 e2 e3
  subst e1
  rw [arcRow_len] at hl
  obtain ⟨b, o', e4, hcell⟩ := hc (by omega)
  injection e4 with e4
  injection e4 with e5 e6
  subst e5
  subst e6
  obtain ⟨g0, g1, g2, g3, g4⟩ := arcRow_at l k hk
  have z : ∀ j u, (arcRow l)[j]? = some u → w.cell? ⟨g, j, none⟩ = some u := fun j u hu => by have := hcell j u hu; rwa [Nat.zero_add] at this
  exact ⟨z _ _ g0, z _ _ g1, z _ _ g2, z _ _ g3, z _ _ g4⟩
end
end Go.Proofs.YtldcehhhndlhdaaGreatDoor

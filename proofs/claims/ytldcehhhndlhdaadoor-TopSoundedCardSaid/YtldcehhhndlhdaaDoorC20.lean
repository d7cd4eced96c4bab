/- Walks of the reference: IsOne, ask, known, Level, Lowest, Highest, Over. -/
import Derived.Test.YtldcehhhndlhdaaDoorC19
import Derived.Test.YtldcehhhndlhdaaDoorC17
import Derived.Test.YtldcehhhndlhdaaDoorC18
namespace Go.Proofs.YtldcehhhndlhdaaDoor
open Go.RowKit Go.Sort

set_option maxRecDepth 20000 in
set_option maxHeartbeats 2000000 in
theorem isOne_any (v : Value) (t : Twn) (w : World) (hv : TwnAt w v t) (hvl : Vl t) (hl1 : t.snd.length ≤ 1000) (hl2 : t.slp.length ≤ 1000) :
    Calls Tryd.prog 20 #[v] w fun e w' => e = .returned (.bool (diagOk (closeM (baseM t)))) ∧ Below w.heap.size w w' := by
  obtain ⟨sv, pv, rfl, hs, hp⟩ := hv
  have HSN := Lib.hid hs
  have HSP := Lib.hid hp
  obtain ⟨A1, c1, rfl, -, -, -⟩ := id hs.open_
  obtain ⟨A2, c2, rfl, -, -, -⟩ := id hp.open_
  clear hs hp
  have S := Lib.hid (show St w (w.alloc (.cells #[I t.wells, .slice A1 t.snd.length c1, .slice A2 t.slp.length c2] 25)) (w.heap.size + 1) [.box w.heap.size [I t.wells, .slice A1 t.snd.length c1, .slice A2 t.slp.length c2]] from (St.init w).alloc [I t.wells, .slice A1 t.snd.length c1, .slice A2 t.slp.length c2] 25)
  have q0 := S.out.get 0 0 rfl rfl
  have q1 := S.out.get 0 1 rfl rfl
  have q2 := S.out.get 0 2 rfl rfl
  have HE := Lib.hid (says_spans hvl (baseM_says hvl))
  go_enter Tryd.func20, Tryd.ntmps20
  go_wp2_with fail
  clear q0 q1 q2
  refine (spans_any _ t _ ⟨_, _, rfl, HSN.out.below S.out.bel, HSP.out.below S.out.bel⟩ hvl hl1 hl2).mono ?_
  rintro e w1 (⟨l, v, hs, rfl, ho, hb⟩ | ⟨hs, rfl, hb⟩)
  · rw [hs] at HE
    obtain ⟨A, c, rfl⟩ := own_shape ho
    have S := Lib.hid (S.out.call hb)
    clear hb ho hs
    go_wp2_with fail
    go_ret
    exact ⟨by rw [HE.out]; rfl, S.out.bel⟩
  · rw [hs] at HE
    have S := Lib.hid (S.out.call hb)
    clear hb hs
    go_wp2_with fail
    go_ret
    exact ⟨by rw [HE.out]; rfl, S.out.bel⟩

/-- The spans of a town that has a truth, in new memory. -/
def RetKnown (t : Twn) (w : World) (e : Ending) (w' : World) : Prop := ∃ l v, e = .returned (.tuple #[v, I 0]) ∧ (Exact t l ∧ ∀ w : Nat, (w : Int) < t.wells → lvl (closeM (baseM t)) w = spAt l w) ∧ w'.ownsRow w.heap.size 47 2 v l.length (spCells l) ∧ Below w.heap.size w w'
theorem openE_ask {t : Twn} {is : Bool} (h : openE t is = 0) : askE t is = 0 ∧ openE t true = 0 ∧ ∃ l, spansR t = some l := by
  obtain ⟨h1, h2, h3⟩ := openE_zero' h
  subst h2
  refine ⟨by simp [askE, h1], h, ?_⟩
  have := says_spans (valid_vl h1) (baseM_says (valid_vl h1))
  rw [h3] at this
  exact Option.isSome_iff_exists.1 this.symm
theorem openE_ask' {t : Twn} {is : Bool} (h : openE t is ≠ 0) : askE t is ≠ 0 ∧ askE t is = openE t is ∨ askE t is = 0 ∧ openE t is = 3 ∧ valid t = true ∧ spansR t = none := by
  unfold openE askE at *
  cases hv : valid t
  · simp
  · cases is
    · simp
    · have := says_spans (valid_vl hv) (baseM_says (valid_vl hv))
      simp only [hv, if_true] at h ⊢
      split at h
      · exact absurd rfl h
      · rename_i hd
        rw [Bool.not_eq_true] at hd
        rw [hd] at this
        refine .inr ⟨trivial, by rw [hd]; rfl, trivial, ?_⟩
        cases hs : spansR t
        · rfl
        · rw [hs] at this; cases this
theorem exact_lvl {t : Twn} (h : openE t true = 0) {l : List Sp} (hs : spansR t = some l) : Exact t l ∧ ∀ w : Nat, (w : Int) < t.wells → lvl (closeM (baseM t)) w = spAt l w := by
  obtain ⟨hv, ht, -⟩ := open_exact h
  have he := spansR_some hv hs
  exact ⟨he, fun w hw => lvl_exact hv ht he hw⟩

theorem openE_inv {t : Twn} (h : valid t = false) (is : Bool) : openE t is = 10 := by simp [openE, h]
end Go.Proofs.YtldcehhhndlhdaaDoor
/- The plain law of the two soundings. -/
namespace Go.Proofs.YtldcehhhndlhdaaDoor
open Go.RowKit Go.Sort Go.Shelf

/-- What the level of a well is: the reference's span. -/
theorem lev_of {t : Twn} (hv : valid t = true) {l : List Sp} (hs : spansR t = some l) {n : Nat} (hn : (n : Int) < t.wells) : levelP t n = (spAt l n, 0) ∧ openE t true = 0 ∧ lvl (closeM (baseM t)) n = spAt l n ∧ n < l.length ∧ 0 ≤ (spAt l n).low ∧ (spAt l n).low ≤ (spAt l n).high ∧ (spAt l n).high ≤ 99 := by
  have he := spansR_some (valid_vl hv) hs
  have h0 : openE t true = 0 := open_of_truth hv he.low
  have hl := (exact_lvl h0 hs).2 n hn
  have hlen := he.len
  have hnl : n < l.length := by omega
  have hb := he.low.own n hn
  have hb2 := he.high.own n hn
  try dsimp only at hb hb2
  have hw : isWell t.wells n = true := isWell_iff.2 ⟨by omega, by omega⟩
  have hh := he.all _ he.low
  refine ⟨?_, h0, hl, hnl, hb.1, ?_, hb2.2⟩
  · unfold levelP
    rw [hw, if_pos h0, ← hl]
    simp [lvl]
  · have h1 := (lvl_one h0 hn).1
    obtain ⟨x, hx, hxe⟩ := h1
    have h2 := he.all x hx n hnl
    rw [hl] at hxe
    omega
theorem mask_bit (t : QTown) (i : Nat) : ∀ k, (maskQ t k).testBit i = (decide (i < k) && okW t i)
  | 0 => by simp [maskQ]
  | k + 1 => by
    have h := mask_bit t i k
    have hlt := maskQ_lt t k
    unfold maskQ
    by_cases hi : i < k
    · cases hk : okW t k
      · simp only [Bool.false_eq_true, if_false, Nat.add_zero, h, hi, Nat.lt_succ_of_lt hi]
      · simp only [if_true]
        rw [Nat.add_comm, Nat.testBit_two_pow_add_gt hi, h]
        simp [hi, Nat.lt_succ_of_lt hi]
    · by_cases he : i = k
      · subst he
        have h0 : (maskQ t i).testBit i = false := Nat.testBit_lt_two_pow hlt
        cases hk : okW t i
        · simp [h0]
        · simp only [if_true]
          rw [Nat.add_comm, Nat.testBit_two_pow_add_eq, h0]
          simp
      · have h2 : maskQ t k + (if okW t k then 2 ^ k else 0) < 2 ^ i := by
          have : 2 ^ (k + 1) ≤ 2 ^ i := Nat.pow_le_pow_right (by omega) (by omega)
          rw [Nat.pow_succ] at this
          split <;> omega
        rw [Nat.testBit_lt_two_pow h2]
        simp; omega
theorem leftL_eq {t : QTown} : leftL t = ((List.range 6).filter fun i => decide (i < t.wds.length) && okW t i).map fun i : Nat => (i : Int) := by
  unfold leftL listN
  congr 1
  apply List.filter_congr
  intro i _
  rw [← mask_bit, Nat.testBit_eq_decide_div_mod_eq]
  rfl
/-- A narrower fact. -/
structure Nrw (f g : QFact) : Prop where
  fr : g.fr = f.fr
  many : g.many = f.many
  to : g.to = f.to
  low : f.low ≤ g.low
  high : g.high ≤ f.high
theorem Nrw.ok {t : QTown} {f g : QFact} (h : Nrw f g) {i : Nat} (hk : okW (t.addF g) i = true) : okW (t.addF f) i = true := by
  simp only [okW, QTown.addF, List.all_append, List.all_cons, List.all_nil, Bool.and_true, Bool.and_eq_true] at hk ⊢
  refine ⟨hk.1, ?_⟩
  have h2 := hk.2
  unfold agrQ at h2 ⊢
  rw [h.fr, h.many, h.to] at h2
  have h3 := inR_iff.1 h2
  have := h.low
  have := h.high
  exact inR_iff.2 ⟨by omega, by omega⟩
theorem Nrw.left {t : QTown} {f g : QFact} (h : Nrw f g) : (leftL (t.addF g)).length ≤ (leftL (t.addF f)).length ∧ ∀ n ∈ leftL (t.addF g), n ∈ leftL (t.addF f) := by
  rw [leftL_eq, leftL_eq]
  have him : ∀ i, (decide (i < (t.addF g).wds.length) && okW (t.addF g) i) = true → (decide (i < (t.addF f).wds.length) && okW (t.addF f) i) = true := fun i hi => by
    rw [Bool.and_eq_true] at hi ⊢
    exact ⟨hi.1, h.ok hi.2⟩
  refine ⟨?_, fun n hn => ?_⟩
  · rw [List.length_map, List.length_map, ← List.countP_eq_length_filter, ← List.countP_eq_length_filter]
    exact List.countP_mono_left fun i _ hi => him i hi
  · obtain ⟨i, hi, rfl⟩ := List.mem_map.1 hn
    obtain ⟨h1, h2⟩ := List.mem_filter.1 hi
    exact List.mem_map.2 ⟨i, List.mem_filter.2 ⟨h1, him i h2⟩, rfl⟩
theorem Nrw.valid {t : QTown} {f g : QFact} (h : Nrw f g) (hv : qValid (t.addF f) = true) (h0 : 0 ≤ g.low) (h1 : g.low ≤ g.high) : qValid (t.addF g) = true := by
  have hf := (qValid_spec hv).2.2.2.2.2 f (by simp [QTown.addF])
  unfold qValid at hv ⊢
  simp only [QTown.addF, Bool.and_eq_true, decide_eq_true_eq, Bool.not_eq_true', List.any_append, List.any_cons, List.any_nil, Bool.or_false, Bool.or_eq_false_iff, List.length_append, List.length_cons, List.length_nil] at hv hf ⊢
  refine ⟨⟨hv.1.1, hv.1.2⟩, hv.2.1, ?_⟩
  have := h.fr; have := h.many; have := h.to; have := h.high
  unfold badFct inR
  simp
  omega
/-- The world agrees with the fact that was told: it is no reason to go. -/
theorem told_out {t : QTown} {f : QFact} {n : Nat} (h : agrQ (t.wds.getD n []) f = true) : (t.fcs.length : Int) ∉ (outR (t.addF f) n).1 := by
  intro hm
  have hm2 : (t.fcs.length : Int) ∈ outTo (t.addF f) n (t.addF f).fcs.length := by
    unfold outR at hm
    split at hm
    · simp at hm
    · exact hm
  unfold outTo at hm2
  obtain ⟨i, hi, he⟩ := List.mem_map.1 hm2
  obtain ⟨_, h2⟩ := List.mem_filter.1 hi
  have e : i = t.fcs.length := by omega
  subst e
  simp [QTown.addF] at h2
  simp [h2] at h
theorem outR_err (t : QTown) (n : Nat) : (outR t n).2 = 0 ∨ (outR t n).2 = 3 := by
  unfold outR
  split
  · exact .inr rfl
  · exact .inl rfl
/-- With one sounding more. -/
theorem lev_more {t : Twn} {s : Snd} {n : Nat} (hn : (n : Int) < t.wells) (h0 : openE t true = 0) (h1 : openE (addS t s) true = 0) : (lvl (closeM (baseM t)) n).low ≤ (lvl (closeM (baseM (addS t s))) n).low ∧ (lvl (closeM (baseM (addS t s))) n).high ≤ (lvl (closeM (baseM t)) n).high :=
  (nar_addS t s).lvl h1 h0 hn
end Go.Proofs.YtldcehhhndlhdaaDoor
/- The numbers of the two soundings. -/
namespace Go.Proofs.YtldcehhhndlhdaaDoor
open Go.RowKit Go.Sort Go.Shelf

theorem fall_bd {t : QTown} (h : qValid t = true) {n fr to : Nat} (hn : n < t.wds.length) (hfr : (fr : Int) < t.wells) (hto : (to : Int) < t.wells) : ∃ hf : fr < (t.wds[n]).length, to < (t.wds[n][fr]).length ∧ 0 ≤ fallQ t.wds[n] fr to ∧ fallQ t.wds[n] fr to ≤ 9 := by
  have h1 := (qValid_spec h).2.2.2.2.1 (t.wds[n]) (List.getElem_mem hn)
  have hf : fr < (t.wds[n]).length := by have := h1.1; omega
  have h2 := h1.2 (t.wds[n][fr]) (List.getElem_mem hf)
  have ht : to < (t.wds[n][fr]).length := by have := h2.1; omega
  have e1 : fallQ t.wds[n] fr to = t.wds[n][fr][to] := by simp [fallQ, List.getElem?_eq_getElem hf, List.getElem?_eq_getElem ht]
  rw [e1]
  exact ⟨hf, ht, h2.2 _ (List.getElem_mem ht)⟩
theorem agr_of {t : QTown} {n fr to : Nat} {many lo hi : Int} (hn : n < t.wds.length) (h : lo ≤ many * fallQ t.wds[n] fr to ∧ many * fallQ t.wds[n] fr to ≤ hi) : agrQ (t.wds.getD n []) ⟨fr, many, to, lo, hi⟩ = true := by
  unfold agrQ
  rw [List.getD_eq_getElem?_getD, List.getElem?_eq_getElem hn, Option.getD_some]
  refine inR_iff.2 ?_
  dsimp only
  rw [Int.toNat_natCast, Int.toNat_natCast, Int.mul_comm]
  exact h
theorem lev_open {t : Twn} (h0 : openE t true = 0) {n : Nat} (hn : (n : Int) < t.wells) : levelP t n = (lvl (closeM (baseM t)) n, 0) ∧ (lvl (closeM (baseM t)) n).low ≤ (lvl (closeM (baseM t)) n).high := by
  have hw : isWell t.wells n = true := isWell_iff.2 ⟨by omega, by omega⟩
  obtain ⟨-, -, l, he, hl⟩ := open_exact h0
  have hlen := he.len
  have h1 := he.all _ he.low n (by omega)
  refine ⟨?_, ?_⟩
  · unfold levelP
    rw [hw, if_pos h0]
    simp [lvl]
  · rw [hl n hn]
    exact h1.2
theorem more_open {t : Twn} (hv : valid t = true) (hd : diagOk (closeM (baseM t)) = true) : openE t true = 0 := by
  unfold openE
  rw [hv, hd]
  rfl
theorem told_open {w w' : World} {wv fv : Value} {t : QTown} {f : QFact} {Its : List Item} (S : St w w' w'.heap.size (.own 49 5 fv (t.addF f).fcs.length (fctCells (t.addF f).fcs) :: Its)) (h : HoldsW Its wv t.wds) : LW w' wv (t.addF f).wds ∧ Fcts w' fv (t.addF f).fcs :=
  ⟨h _ w' fun x hx => S.ok x (List.mem_cons_of_mem _ hx), Reads.of_own (S.own 0 rfl)⟩
theorem max_if (a b : Int) : (if a < b then b else a) = max a b := by split <;> omega
end Go.Proofs.YtldcehhhndlhdaaDoor
/- Walks of the reference: In, All, But, Words. -/
namespace Go.Proofs.YtldcehhhndlhdaaDoor
open Go.RowKit Go.Sort

set_option maxRecDepth 20000 in
set_option maxHeartbeats 1000000 in
theorem in_any (v : Value) (xs : List Int) (n : Int) (w : World) (hr : Ints w v xs) :
    Calls Tryd.prog 18 #[v, I n] w fun e w' => e = .returned (.bool (decide (n ∈ xs))) ∧ Below w.heap.size w w' := by
  obtain ⟨A, c, rfl, hnc, hcm, hc⟩ := hr.open_
  have HC := Lib.hid hc; clear hc hr
  go_enter Tryd.func18, Tryd.ntmps18
  go_wp2_with fail
  go_loopw [5] (fun i wr => ∃ k : Nat, k ≤ xs.length ∧ i = I k ∧ Hid (n ∉ xs.take k) ∧ Hid (Below w.heap.size w wr)) (fun i _ => xs.length - (intOf i).toNat)
  case atStart => exact ⟨0, by omega, rfl, Lib.hid (by simp), Lib.hid (Below.refl _ _)⟩
  case round =>
    obtain ⟨k, hk, rfl, hn, hw⟩ := hrel
    by_cases hlt : k < xs.length
    · obtain ⟨b, o, rfl, hbl, hcell⟩ := HC.out (by omega)
      have x0 := keep_cell hw.out (hcell k hlt)
      clear hcell
      have hmem := List.getElem_mem hlt
      have htk : xs.take (k + 1) = xs.take k ++ [xs[k]] := List.take_succ_eq_append_getElem hlt
      obtain ⟨x, hx⟩ : ∃ x, xs[k] = x := ⟨_, rfl⟩
      rw [hx] at x0 hmem htk
      have HM := Lib.hid hmem
      have HT := Lib.hid htk
      clear hx hmem htk
      cases he : x == n
      · have HNE := Lib.hid (show x ≠ n by simpa using he)
        go_wp2_with fail
        go_roundw
        case rel => exact ⟨k + 1, by omega, by go_num, Lib.hid (by rw [HT.out, List.mem_append]; exact fun hm => hm.elim hn.out (fun e => HNE.out (List.mem_singleton.1 e).symm)), hw⟩
        case measure => simp [intOf]; omega
      · have HE := Lib.hid (show n ∈ xs by have e := eq_of_beq he; rw [← e]; exact HM.out)
        go_wp2_with fail
        go_ret
        exact ⟨by rw [decide_eq_true HE.out]; rfl, hw.out⟩
    · have HE := Lib.hid (show n ∉ xs by have := hn.out; rwa [List.take_of_length_le (by omega)] at this)
      go_wp2_with fail
      go_ret
      exact ⟨by rw [decide_eq_false HE.out]; rfl, hw.out⟩

def RetRow (l : List Int) (w : World) (e : Ending) (w' : World) : Prop := ∃ v, e = .returned v ∧ w'.ownsRow w.heap.size 3 1 v l.length (l.map I) ∧ Below w.heap.size w w'
def allN (t : Twn) : List Nat := List.range (t.snd.length + t.slp.length)
theorem ofN_range_succ (k : Nat) : ofN (List.range (k + 1)) = ofN (List.range k) ++ [(k : Int)] := by rw [List.range_succ]; simp [ofN]

theorem ints_prefix {w : World} {b o c k : Nat} {xs : List Int} (_ : xs.length ≤ 1000) (hk : k ≤ xs.length) (hc : xs.length ≤ c) (hm : c ≤ 9223372036854775807) (h : ∀ (j : Nat) (hj : j < xs.length), w.cell? ⟨b, o + j, none⟩ = some (I xs[j])) : Ints w (.slice (some ⟨b, o, none⟩) k c) (xs.take k) := by
  have hl : (xs.take k).length = k := by rw [List.length_take]; omega
  unfold Ints
  rw [hl]
  refine ⟨by simp; omega, _, _, rfl, by omega, hm, fun _ => ⟨b, o, rfl, fun j u hu => ?_⟩⟩
  rw [List.getElem?_map] at hu
  cases hj : (xs.take k)[j]? with
  | none => rw [hj] at hu; simp at hu
  | some z =>
    rw [hj] at hu
    simp only [Option.map_some, Option.some.injEq] at hu
    subst hu
    obtain ⟨h1, h2⟩ := List.getElem?_eq_some_iff.1 hj
    rw [List.getElem_take] at h2
    rw [← h2]
    exact h j (by rw [hl] at h1; omega)
theorem ints_suffix {w : World} {b o c k : Nat} {xs : List Int} (hk : k ≤ xs.length) (hc : xs.length ≤ c) (hm : c ≤ 9223372036854775807) (h : ∀ (j : Nat) (hj : j < xs.length), w.cell? ⟨b, o + j, none⟩ = some (I xs[j])) (A : Option Addr) (hA : k < xs.length → A = some ⟨b, o + k, none⟩) : Ints w (.slice A (xs.length - k) (c - k)) (xs.drop k) := by
  have hl : (xs.drop k).length = xs.length - k := List.length_drop
  unfold Ints
  rw [hl]
  refine ⟨by simp, _, _, rfl, by omega, by omega, fun hp => ⟨b, o + k, hA (by omega), fun j u hu => ?_⟩⟩
  rw [List.getElem?_map] at hu
  cases hj : (xs.drop k)[j]? with
  | none => rw [hj] at hu; simp at hu
  | some z =>
    rw [hj] at hu
    simp only [Option.map_some, Option.some.injEq] at hu
    subst hu
    obtain ⟨h1, h2⟩ := List.getElem?_eq_some_iff.1 hj
    rw [List.getElem_drop] at h2
    rw [← h2, Nat.add_assoc]
    exact h (k + j) (by rw [hl] at h1; omega)

def butL (l : List Int) (k : Nat) : List Int := l.take k ++ l.drop (k + 1)
/-- A town with some of its words alone. -/
def addW (t o : Twn) (n : Nat) : Twn := if n < t.snd.length then addS o (t.snd.getD n default) else addP o (t.slp.getD (n - t.snd.length) default)
def wordsT (t : Twn) (ws : List Nat) : Twn := ws.foldl (addW t) ⟨t.wells, [], []⟩
theorem wordsT_succ {t : Twn} {ws : List Nat} {k : Nat} (h : k < ws.length) : wordsT t (ws.take (k + 1)) = addW t (wordsT t (ws.take k)) ws[k] := by
  rw [wordsT, List.take_succ_eq_append_getElem h, List.foldl_append]
  rfl
theorem wordsT_wells (t : Twn) (ws : List Nat) : (wordsT t ws).wells = t.wells := by
  have : ∀ (l : List Nat) (o : Twn), (l.foldl (addW t) o).wells = o.wells := by
    intro l
    induction l with
    | nil => intro o; rfl
    | cons a l ih => intro o; rw [List.foldl_cons, ih]; unfold addW; split <;> rfl
  exact this ws _
theorem wordsT_len (t : Twn) (ws : List Nat) : (wordsT t ws).snd.length ≤ ws.length ∧ (wordsT t ws).slp.length ≤ ws.length := by
  have : ∀ (l : List Nat) (o : Twn), (l.foldl (addW t) o).snd.length ≤ o.snd.length + l.length ∧ (l.foldl (addW t) o).slp.length ≤ o.slp.length + l.length := by
    intro l
    induction l with
    | nil => intro o; simp
    | cons a l ih =>
      intro o
      have := ih (addW t o a)
      rw [List.foldl_cons]
      have h2 : (addW t o a).snd.length ≤ o.snd.length + 1 ∧ (addW t o a).slp.length ≤ o.slp.length + 1 := by unfold addW; split <;> simp [addS, addP]
      simp only [List.length_cons]
      omega
  have := this ws ⟨t.wells, [], []⟩
  simpa [wordsT] using this

theorem St.rot3 {w0 w : World} {n : Nat} {x y z : Item} {K : List Item} (h : St w0 w n (x :: y :: z :: K)) : St w0 w n (z :: x :: y :: K) := by
  refine h.perm ?_
  exact (List.Perm.cons x (List.Perm.swap z y K)).trans (List.Perm.swap z x _)

end Go.Proofs.YtldcehhhndlhdaaDoor
/- Some of the words of a town. No function here. -/
namespace Go.Proofs.YtldcehhhndlhdaaDoor
open Go.RowKit Go.Sort

def Asc (l : List Nat) : Prop := l.Pairwise (· < ·)
theorem asc_eq : ∀ (l m : List Nat), Asc l → Asc m → (∀ x, x ∈ l ↔ x ∈ m) → l = m
  | [], [], _, _, _ => rfl
  | [], b :: m, _, _, h => by have := (h b).2 (by simp); simp at this
  | a :: l, [], _, _, h => by have := (h a).1 (by simp); simp at this
  | a :: l, b :: m, hl, hm, h => by
    obtain ⟨hl1, hl2⟩ := List.pairwise_cons.1 hl
    obtain ⟨hm1, hm2⟩ := List.pairwise_cons.1 hm
    have hab : a = b := by
      rcases List.mem_cons.1 ((h a).1 (by simp)) with e | e
      · exact e
      · rcases List.mem_cons.1 ((h b).2 (by simp)) with e' | e'
        · exact e'.symm
        · have := hm1 a e
          have := hl1 b e'
          omega
    subst hab
    congr 1
    refine asc_eq l m hl2 hm2 fun x => ⟨fun hx => ?_, fun hx => ?_⟩
    · rcases List.mem_cons.1 ((h x).1 (List.mem_cons_of_mem _ hx)) with e | e
      · have := hl1 x hx; omega
      · exact e
    · rcases List.mem_cons.1 ((h x).2 (List.mem_cons_of_mem _ hx)) with e | e
      · have := hm1 x hx; omega
      · exact e
theorem asc_range (M : Nat) : Asc (List.range M) := List.pairwise_lt_range
theorem asc_filter {ws : List Nat} {M : Nat} (h : Asc ws) (hb : ∀ n ∈ ws, n < M) : ws = (List.range M).filter (hasW ws) := by
  refine asc_eq _ _ h ((asc_range M).filter _) fun x => ?_
  simp only [List.mem_filter, List.mem_range, hasW, decide_eq_true_eq]
  exact ⟨fun hx => ⟨hb x hx, hx⟩, fun hx => hx.2⟩
theorem wordsT_filter (t : Twn) (p : Nat → Bool) : ∀ K, K ≤ t.snd.length + t.slp.length → wordsT t ((List.range K).filter p) = ⟨t.wells, subL p 0 (t.snd.take K), subL p t.snd.length (t.slp.take (K - t.snd.length))⟩
  | 0, _ => by simp [wordsT, subL]
  | K + 1, h => by
    have ih := wordsT_filter t p K (by omega)
    rw [List.range_succ, List.filter_append]
    by_cases hp : p K = true
    · have e : List.filter p [K] = [K] := by simp [hp]
      rw [e, wordsT, List.foldl_append]
      show addW t (wordsT t ((List.range K).filter p)) K = _
      rw [ih]
      by_cases hs : K < t.snd.length
      · rw [addW, if_pos hs, subL_snoc p t.snd 0 K hs, Nat.zero_add, if_pos hp, show K + 1 - t.snd.length = K - t.snd.length by omega]
        simp [addS, List.getElem?_eq_getElem hs]
      · have hk : K - t.snd.length < t.slp.length := by omega
        rw [addW, if_neg hs, List.take_of_length_le (show t.snd.length ≤ K by omega), List.take_of_length_le (show t.snd.length ≤ K + 1 by omega), show K + 1 - t.snd.length = (K - t.snd.length) + 1 by omega, subL_snoc p t.slp t.snd.length _ hk, show t.snd.length + (K - t.snd.length) = K by omega, if_pos hp]
        simp [addP, List.getElem?_eq_getElem hk]
    · have e : List.filter p [K] = [] := by simp [hp]
      rw [e, List.append_nil, ih]
      by_cases hs : K < t.snd.length
      · rw [subL_snoc p t.snd 0 K hs, Nat.zero_add, if_neg hp, List.append_nil, show K + 1 - t.snd.length = K - t.snd.length by omega]
      · have hk : K - t.snd.length < t.slp.length := by omega
        rw [List.take_of_length_le (show t.snd.length ≤ K by omega), List.take_of_length_le (show t.snd.length ≤ K + 1 by omega), show K + 1 - t.snd.length = (K - t.snd.length) + 1 by omega, subL_snoc p t.slp t.snd.length _ hk, show t.snd.length + (K - t.snd.length) = K by omega, if_neg hp, List.append_nil]
theorem wordsT_sub (t : Twn) (p : Nat → Bool) : wordsT t ((List.range (t.snd.length + t.slp.length)).filter p) = sub t p := by
  rw [wordsT_filter t p _ (Nat.le_refl _), sub, List.take_of_length_le (by omega), List.take_of_length_le (by omega)]
/-- Some words, in their order. -/
theorem words_asc {t : Twn} {ws : List Nat} (h : Asc ws) (hb : ∀ n ∈ ws, n < t.snd.length + t.slp.length) : wordsT t ws = sub t (hasW ws) := by
  rw [← wordsT_sub, ← asc_filter h hb]
theorem butL_map (ws : List Nat) (k : Nat) : butL (ofN ws) k = ofN (ws.eraseIdx k) := by
  rw [butL, ofN, ofN, List.eraseIdx_eq_take_drop_succ, List.map_append, List.map_take, List.map_drop]
theorem erase_asc {ws : List Nat} (h : Asc ws) (k : Nat) : Asc (ws.eraseIdx k) := h.sublist (List.eraseIdx_sublist _ _)
theorem erase_range {M k : Nat} : (List.range M).eraseIdx k = (List.range M).filter (butW k) := by
  refine asc_eq _ _ (erase_asc (asc_range M) k) ((asc_range M).filter _) fun x => ?_
  rw [List.mem_eraseIdx_iff_getElem]
  simp only [List.mem_filter, List.mem_range, butW, bne_iff_ne, ne_eq]
  constructor
  · rintro ⟨j, hj, hne, rfl⟩
    simp at hj ⊢
    omega
  · rintro ⟨h1, h2⟩
    exact ⟨x, by simpa using h1, h2, by simp⟩
theorem words_but (t : Twn) (k : Nat) : wordsT t ((allN t).eraseIdx k) = sub t (butW k) := by
  rw [allN, erase_range, wordsT_sub]
theorem Vl.valid' {t : Twn} (h : Vl t) (h1 : t.snd.length ≤ 8) (h2 : t.slp.length ≤ 8) : valid t = true := valid_iff'.2 ⟨h, h1, h2⟩
theorem sub_len (t : Twn) (is : Nat → Bool) : (sub t is).snd.length ≤ t.snd.length ∧ (sub t is).slp.length ≤ t.slp.length := ⟨(subL_sublist _ _ _).length_le, (subL_sublist _ _ _).length_le⟩
theorem sub_valid {t : Twn} (h : valid t = true) (is : Nat → Bool) : valid (sub t is) = true := by
  obtain ⟨h1, h2, h3⟩ := valid_iff'.1 h
  have := sub_len t is
  exact (h1.sub is).valid' (by omega) (by omega)
theorem sub_one {t : Twn} (h : openE t true = 0) (is : Nat → Bool) : openE (sub t is) true = 0 := by
  obtain ⟨x, hx⟩ := has_truth h
  exact open_of_truth (sub_valid (openE_zero' h).1 is) hx.sub
theorem Sp.ext' {a b : Sp} (h1 : a.low = b.low) (h2 : a.high = b.high) : a = b := by
  cases a; cases b; simp_all
theorem same_lows {t o : Twn} (hw : o.wells = t.wells) : sameL (closeM (baseM t)) (closeM (baseM o)) (List.range t.wells.toNat) = (decide (lowL t = lowL o) && decide (highL t = highL o)) := by
  rw [Bool.eq_iff_iff, Bool.and_eq_true, decide_eq_true_eq, decide_eq_true_eq]
  unfold sameL lowL highL
  rw [hw, List.all_eq_true]
  constructor
  · intro h
    constructor
    · refine List.map_congr_left fun x hx => ?_
      rw [eq_of_beq (h x hx)]
    · refine List.map_congr_left fun x hx => ?_
      rw [eq_of_beq (h x hx)]
  · rintro ⟨h1, h2⟩ x hx
    have a := List.map_inj_left.1 h1 x hx
    have b := List.map_inj_left.1 h2 x hx
    rw [beq_iff_eq]
    exact Sp.ext' a b
theorem mem_idle {t : Twn} {M k : Nat} (hk : k < M) : ((k : Nat) : Int) ∈ idleTo t M ↔ sameL (closeM (baseM t)) (closeM (baseM (sub t (butW k)))) (List.range t.wells.toNat) = true := by
  unfold idleTo
  rw [List.mem_map]
  constructor
  · rintro ⟨a, ha, e⟩
    obtain rfl : a = k := by omega
    exact (List.mem_filter.1 ha).2
  · intro h
    exact ⟨k, List.mem_filter.2 ⟨List.mem_range.2 hk, h⟩, rfl⟩
end Go.Proofs.YtldcehhhndlhdaaDoor

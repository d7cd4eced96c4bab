/- Walks: the reference's Bound. -/
import Derived.Test.YtokendenofbnhaaW33
import Derived.Test.YtokendenofbnhaaW18
namespace Go.Proofs.Ytokendenofbnhaa
open Go.RowKit Go.Sort

theorem bound_bad {r : Ros} {st er : Int} (h : newsE r (isStreet r st) = er) (h0 : er ≠ 0) : boundR r st = (0, er) := by
  have hk : knownR stepsI r (isStreet r st) = (0, er) := by
    unfold newsE at h
    unfold knownR
    by_cases ha : askE r (isStreet r st) = 0
    · rw [if_pos ha] at h ⊢
      have hv := valid_iff.1 (askE_zero.1 ha).1
      by_cases hn : newsL r = []
      · rw [if_pos hn] at h
        have hs := (news_nil hv).1 hn
        have hb : (bestR stepsI r).2 < 0 := by
          unfold someR at hs
          simpa using hs
        rw [if_pos hb, ← h]
      · rw [if_neg hn] at h
        exact absurd h.symm h0
    · rw [if_neg ha] at h ⊢
      rw [h]
  unfold boundR
  rw [hk]
  exact if_neg h0
theorem news_okB {r : Ros} {st : Int} (h : newsE r (isStreet r st) = 0) : ROk r ∧ isStreet r st = true ∧ someR r = true := by
  unfold newsE at h
  by_cases ha : askE r (isStreet r st) = 0
  · rw [if_pos ha] at h
    have hv := valid_iff.1 (askE_zero.1 ha).1
    refine ⟨hv, (askE_zero.1 ha).2, ?_⟩
    by_cases hn : newsL r = []
    · rw [if_pos hn] at h
      cases h
    · cases hs : someR r
      · exact absurd ((news_nil hv).2 hs) hn
      · rfl
  · rw [if_neg ha] at h
    exact absurd h ha
def knownV (a b : Int) : Int := if a = 0 then 2 else if a = b then 1 else 3
/-- Those of the least cost; those of them in which the street keeps its hour. -/
def isMin (r : Ros) (l : List Int) : Bool := costL r.strs l == (bestR stepsI r).1
def keepsB (r : Ros) (st : Nat) (l : List Int) : Bool := isMin r l && (l.getD st (-2) == (r.strs.getD st default).has)
theorem countP_take {α : Type} (p : α → Bool) (L : List α) (k : Nat) (h : k < L.length) : (L.take (k + 1)).countP p = (L.take k).countP p + if p L[k] = true then 1 else 0 := by
  rw [List.take_succ_eq_append_getElem h, List.countP_append, List.countP_singleton]
theorem bound_count {r : Ros} (h : ROk r) (hs : someR r = true) {st : Nat} (hk : st < r.strs.length) :
    boundR r (st : Int) = (if (newsL r).countP (keepsB r st) = 0 then 2 else if (newsL r).countP (keepsB r st) = (newsL r).countP (isMin r) then 1 else 3, 0) := by
  rw [(bound_val h hk).2 hs]
  have hle : (newsL r).countP (keepsB r st) ≤ (newsL r).countP (isMin r) := List.countP_mono_left fun l _ hl => by
    unfold keepsB at hl
    rw [Bool.and_eq_true] at hl
    exact hl.1
  have hd : r.strs.getD st default = r.strs[st] := by rw [List.getD_eq_getElem?_getD, List.getElem?_eq_getElem hk]; rfl
  have hat : ∀ l, newB r l = true → ∃ x, l[st]? = some x ∧ l.getD st (-2) = x ∧ 0 ≤ x := fun l hl => by
    obtain ⟨a, b⟩ := fit_iff.1 ((new_iff h).1 hl).1
    have hl2 : st < l.length := by omega
    have := b st hk hl2
    have := (h.strs _ (List.getElem_mem hk)).frm0
    exact ⟨l[st], List.getElem?_eq_getElem hl2, by rw [List.getD_eq_getElem?_getD, List.getElem?_eq_getElem hl2]; rfl, by omega⟩
  have hstay : staysTo r st (bestR stepsI r).1 r.strs[st] (wide r.strs[st]) = true ↔ (newsL r).countP (keepsB r st) ≠ 0 := by
    unfold staysTo
    rw [hits h hs hk (fun x => x == r.strs[st].has)]
    constructor
    · rintro ⟨l, x, a, b, c, d⟩
      have : 0 < (newsL r).countP (keepsB r st) := List.countP_pos_iff.2 ⟨l, mem_news.2 a, by
        obtain ⟨y, e1, e2, -⟩ := hat l a
        rw [c] at e1
        injection e1 with e1
        unfold keepsB isMin
        rw [b, e2, ← e1, hd]
        simpa using d⟩
      omega
    · intro hn
      obtain ⟨l, hl, hp⟩ := List.countP_pos_iff.1 (show 0 < (newsL r).countP (keepsB r st) by omega)
      obtain ⟨y, e1, e2, -⟩ := hat l (mem_news.1 hl)
      unfold keepsB isMin at hp
      rw [Bool.and_eq_true, beq_iff_eq, e2, hd] at hp
      exact ⟨l, y, mem_news.1 hl, hp.1, e1, hp.2⟩
  have hgo : goesTo r st (bestR stepsI r).1 r.strs[st] (wide r.strs[st]) = true ↔ (newsL r).countP (keepsB r st) ≠ (newsL r).countP (isMin r) := by
    unfold goesTo
    rw [hits h hs hk (fun x => x != r.strs[st].has)]
    have hsplit : (newsL r).countP (isMin r) = (newsL r).countP (keepsB r st) + (newsL r).countP (fun l => isMin r l && !(l.getD st (-2) == (r.strs.getD st default).has)) := by
      have : ∀ L : List (List Int), L.countP (isMin r) = L.countP (keepsB r st) + L.countP (fun l => isMin r l && !(l.getD st (-2) == (r.strs.getD st default).has)) := by
        intro L
        induction L with
        | nil => rfl
        | cons l L ih =>
          rw [List.countP_cons, List.countP_cons, List.countP_cons, ih]
          unfold keepsB
          cases isMin r l <;> cases (l.getD st (-2) == (r.strs.getD st default).has) <;> simp <;> omega
      exact this _
    constructor
    · rintro ⟨l, x, a, b, c, d⟩
      have : 0 < (newsL r).countP (fun l => isMin r l && !(l.getD st (-2) == (r.strs.getD st default).has)) := List.countP_pos_iff.2 ⟨l, mem_news.2 a, by
        obtain ⟨y, e1, e2, -⟩ := hat l a
        rw [c] at e1
        injection e1 with e1
        unfold isMin
        rw [b, e2, ← e1, hd]
        simpa using d⟩
      omega
    · intro hn
      obtain ⟨l, hl, hp⟩ := List.countP_pos_iff.1 (show 0 < (newsL r).countP (fun l => isMin r l && !(l.getD st (-2) == (r.strs.getD st default).has)) by omega)
      obtain ⟨y, e1, e2, -⟩ := hat l (mem_news.1 hl)
      unfold isMin at hp
      rw [Bool.and_eq_true, beq_iff_eq, e2, hd] at hp
      exact ⟨l, y, mem_news.1 hl, hp.1, e1, by simpa using hp.2⟩
  have hpos : 0 < (newsL r).countP (isMin r) := by
    obtain ⟨a, b, -⟩ := least_real h hs
    exact List.countP_pos_iff.2 ⟨_, mem_news.2 a, by unfold isMin; rw [b]; simp⟩
  by_cases hh : r.strs[st].has = -1
  · have hz : (newsL r).countP (keepsB r st) = 0 := by
      rw [List.countP_eq_zero]
      intro l hl hp
      obtain ⟨y, e1, e2, e3⟩ := hat l (mem_news.1 hl)
      unfold keepsB at hp
      rw [Bool.and_eq_true, beq_iff_eq, e2, hd, hh] at hp
      omega
    rw [if_pos hh, if_pos hz]
  · rw [if_neg hh]
    cases hg : goesTo r st (bestR stepsI r).1 r.strs[st] (wide r.strs[st])
    · have hg' : (newsL r).countP (keepsB r st) = (newsL r).countP (isMin r) := Classical.byContradiction fun e => by
        rw [hgo.2 e] at hg; cases hg
      rw [if_pos rfl, if_neg (by omega), if_pos hg']
    · have hg' := hgo.1 hg
      rw [if_neg (by simp)]
      cases hst : staysTo r st (bestR stepsI r).1 r.strs[st] (wide r.strs[st])
      · have hz : (newsL r).countP (keepsB r st) = 0 := Classical.byContradiction fun e => by
          rw [hstay.2 e] at hst; cases hst
        rw [if_pos rfl, if_pos hz]
      · have hz := hstay.1 hst
        rw [if_neg (by simp), if_neg hz, if_neg hg']

set_option maxRecDepth 20000 in
set_option maxHeartbeats 1000000 in
theorem known_any (a b : Int) (w : World) :
    Calls Try.prog 78 #[I a, I b] w fun e w' => e = .returned (I (knownV a b)) ∧ w = w' := by
  go_enter Try.func78, Try.ntmps78
  by_cases h1 : a = 0
  · have q1 : (a == 0) = true := by simp [h1]
    have H := Lib.hid h1
    clear h1
    go_wp2_with fail
    go_ret
    exact ⟨by rw [show knownV a b = 2 by unfold knownV; rw [if_pos H.out]]; rfl, rfl⟩
  · have q1 : (a == 0) = false := by simp [h1]
    have H := Lib.hid h1
    clear h1
    by_cases h2 : a = b
    · have q2 : (a == b) = true := by simp [h2]
      have H2 := Lib.hid h2
      clear h2
      go_wp2_with fail
      go_ret
      exact ⟨by rw [show knownV a b = 1 by unfold knownV; rw [if_neg H.out, if_pos H2.out]]; rfl, rfl⟩
    · have q2 : (a == b) = false := by simp [h2]
      have H2 := Lib.hid h2
      clear h2
      go_wp2_with fail
      go_ret
      exact ⟨by rw [show knownV a b = 3 by unfold knownV; rw [if_neg H.out, if_neg H2.out]]; rfl, rfl⟩

set_option maxRecDepth 20000 in
set_option maxHeartbeats 6000000 in
theorem rBound_any (v : Value) (r : Ros) (z : Int) (w : World) (hv : RosAt w v r) :
    Calls Try.prog 36 #[v, I z] w fun e w' => e = .returned (.tuple #[I (boundR r z).1, I (boundR r z).2]) ∧ Below w.heap.size w w' := by
  obtain ⟨rv, sv, rfl, hr, hs⟩ := hv
  obtain ⟨A1, c1, rfl, hr1, hr2, -⟩ := hr.open_
  obtain ⟨A2, c2, rfl, hs1, hs2, -⟩ := hs.open_
  have HR := Lib.hid hr
  have HS := Lib.hid hs
  clear hr hs
  have S := Lib.hid (show St w (w.alloc (.cells #[.slice A1 r.room.length c1, .slice A2 r.strs.length c2] 25)) (w.heap.size + 1) [.box w.heap.size [.slice A1 r.room.length c1, .slice A2 r.strs.length c2]] from (St.init w).alloc [.slice A1 r.room.length c1, .slice A2 r.strs.length c2] 25)
  go_enter Try.func36, Try.ntmps36
  go_wp2_with fail
  refine wp_region_seg [([0, 1, 2], 3), ([], 4)] [5, 6, 7, 8, 9] [] 10 (by kernel_rfl) (by kernel_rfl) ?_
  intro KQ hKQ w0 hb
  have S := Lib.hid (S.out.call hb)
  clear hb
  have q0 := cell_regrown (S.out.get 0 0 rfl rfl)
  have q1 := cell_regrown (S.out.get 0 1 rfl rfl)
  refine seg_next ?_
  simp only [opsAt, List.filterMap_cons, List.filterMap_nil, List.getElem?_toArray, List.getElem?_cons_succ, List.getElem?_cons_zero]
  repeat (first | go_big_quiet_step (fail) | quiet_step (fail))
  refine wpQuiet_nil ?_
  intro K hK
  refine loud_op rfl rfl ?_
  go_simp
  refine (rIsStreet_any _ r _ _ ⟨_, _, rfl, HR.out.below S.out.bel, HS.out.below S.out.bel⟩).mono ?_
  rintro e wi ⟨rfl, hb⟩
  have S := Lib.hid (S.out.call hb)
  refine hK _ _ hb ?_
  clear hK K hb q0 q1
  refine seg_next ?_
  simp only [opsAt, List.filterMap_nil]
  refine wpQuiet_nil ?_
  intro K hK
  refine loud_op rfl rfl ?_
  go_simp
  refine (rNews_any _ r (isStreet r z) _ ⟨_, _, rfl, HR.out.below S.out.bel, HS.out.below S.out.bel⟩).mono ?_
  rintro e w1 ⟨vn, rfl, asl, hrd, hll, hb⟩
  obtain ⟨-, Al, cl, rfl, hl1, hl2, hlc⟩ := id hrd
  have S := Lib.hid (S.out.call hb)
  have HLV := Lib.hid hll
  obtain ⟨er, her⟩ : ∃ x, newsE r (isStreet r z) = x := ⟨_, rfl⟩
  have HER := Lib.hid her
  rw [her]
  refine hK _ _ hb ?_
  clear hK K hb hll her
  refine seg_last ?_
  simp only [opsAt, List.filterMap_cons, List.filterMap_nil, List.getElem?_toArray, List.getElem?_cons_succ, List.getElem?_cons_zero]
  repeat (first | go_big_quiet_step (fail) | quiet_step (fail))
  refine wpQuiet_nil ?_
  by_cases hE : er = 0
  · have hq : (er != 0) = false := by simp [hE]
    have HE := Lib.hid (show newsE r (isStreet r z) = 0 by rw [HER.out]; exact hE)
    clear hE
    obtain ⟨hvd, hst, hs⟩ := news_okB HE.out
    obtain ⟨st, rfl⟩ := Int.eq_ofNat_of_zero_le (isStreet_spec hst).1
    have hk : st < r.strs.length := by have := (isStreet_spec hst).2; omega
    have hki : (st : Int) < (r.strs.length : Int) := by omega
    have HLL := Lib.hid (show LL w1 asl (newsL r) by have q := HLV.out; unfold newsV at q; rwa [if_pos HE.out] at q)
    have HRD := Lib.hid hrd
    have HVD := Lib.hid hvd
    have HSS := Lib.hid hs
    have HAL := Lib.hid HLL.out.1
    have hposl : 0 < asl.length := by
      rw [HAL.out]
      rcases Nat.eq_zero_or_pos (newsL r).length with h | h
      · have := (news_nil hvd).1 (List.length_eq_zero_iff.1 h)
        rw [hs] at this
        cases this
      · exact h
    obtain ⟨bl, ol, e, hcl⟩ := hlc hposl
    subst e
    have HCL := Lib.hid hcl
    obtain ⟨_, _, e, _, _, hsc⟩ := HS.out.open_
    injection e with e1 e2 e3
    subst e1
    obtain ⟨b2, o2, e, hb2, hcell2⟩ := hsc (by omega)
    subst e
    have hh0 := (hcell2 st hk).1
    obtain ⟨has, hhas⟩ : ∃ x, r.strs[st].has = x := ⟨_, rfl⟩
    rw [hhas] at hh0
    have HH0 := Lib.hid hh0
    have HHAS := Lib.hid (show (r.strs.getD st default).has = has by rw [List.getD_eq_getElem?_getD, List.getElem?_eq_getElem hk, ← hhas]; rfl)
    clear hcl hlc hrd hsc e2 e3 hcell2 hb2 hh0 hhas hst hs hvd
    obtain ⟨hnw, hcb, -⟩ := least_real HVD.out HSS.out
    have hmn := roster_min HVD.out
    rw [if_pos HSS.out] at hmn
    obtain ⟨m, hm⟩ : ∃ x, rosterP stepsI r.strs (pad r.room) = x := ⟨_, rfl⟩
    rw [hm] at hnw hcb hmn
    obtain ⟨le, hle⟩ : ∃ x, (bestR stepsI r).1 = x := ⟨_, rfl⟩
    rw [hle] at hcb
    have HLE := Lib.hid hle
    have HCB := Lib.hid hcb
    have HMN := Lib.hid hmn
    have HNW := Lib.hid hnw
    clear hm hle hcb hmn hnw
    go_wp2_with fail
    refine wp_region_seg [([0, 1, 2], 3), ([], 4)] [5] [] 6 (by kernel_rfl) (by kernel_rfl) ?_
    intro KQ hKQ w2 hb
    have SB := S
    have T := Lib.hid ((St.init w1).call hb)
    clear S hb
    have q0 := cell_regrown (keep_cell T.out.bel (SB.out.get 0 0 rfl rfl))
    have q1 := cell_regrown (keep_cell T.out.bel (SB.out.get 0 1 rfl rfl))
    refine seg_next ?_
    simp only [opsAt, List.filterMap_cons, List.filterMap_nil, List.getElem?_toArray, List.getElem?_cons_succ, List.getElem?_cons_zero]
    repeat (first | go_big_quiet_step (fail) | quiet_step (fail))
    refine wpQuiet_nil ?_
    intro K hK
    refine loud_op rfl rfl ?_
    go_simp
    refine (rLeast0_any _ _ r asl (newsL r) m _ ⟨_, _, rfl, HR.out.below (bto SB.out.bel T.out.bel), HS.out.below (bto SB.out.bel T.out.bel)⟩ HVD.out (HRD.out.below T.out.bel) (HLL.out.below T.out.bel) (fun l hl => mem_news.1 hl) HMN.out).mono ?_
    rintro e w3 ⟨vm, rfl, him, hb⟩
    have HIM := Lib.hid him
    have T := Lib.hid (T.out.call hb)
    refine hK _ _ hb ?_
    clear hK K hb q0 q1 him
    refine seg_next ?_
    simp only [opsAt, List.filterMap_nil]
    refine wpQuiet_nil ?_
    intro K hK
    refine loud_op rfl rfl ?_
    go_simp
    refine (costOf_any _ _ r m _ ⟨_, _, rfl, HR.out.below (bto SB.out.bel T.out.bel), HS.out.below (bto SB.out.bel T.out.bel)⟩ HVD.out HIM.out (InL.of_new HNW.out)).mono ?_
    rintro e w4 ⟨rfl, hb⟩
    rw [HCB.out]
    have T := Lib.hid (T.out.call hb)
    refine hK _ _ hb ?_
    clear hK K hb
    refine seg_last ?_
    simp only [opsAt, List.filterMap_cons, List.filterMap_nil, List.getElem?_toArray, List.getElem?_cons_succ, List.getElem?_cons_zero]
    repeat (first | go_big_quiet_step (fail) | quiet_step (fail))
    refine wpQuiet_nil ?_
    go_wp2_with fail
    go_loopw [9, 10, 11] (fun ua us i wr => ∃ k : Nat, k ≤ asl.length ∧ ua = I ((((newsL r).take k).countP (isMin r) : Nat) : Int) ∧ us = I ((((newsL r).take k).countP (keepsB r st) : Nat) : Int) ∧ i = I k ∧ Hid (St w1 wr wr.heap.size [])) (fun _ _ i _ => asl.length - (intOf i).toNat)
    case atStart => exact ⟨0, by omega, rfl, rfl, rfl, Lib.hid T.out.fix⟩
    case round =>
      clear T
      obtain ⟨k, hk2, rfl, rfl, rfl, T⟩ := hrel
      by_cases hlt : k < asl.length
      · have hki2 : (k : Int) < (asl.length : Int) := by omega
        have hkL : k < (newsL r).length := by have := HAL.out; omega
        have hcl := HCL.out
        have y0 := hcl k asl[k] (List.getElem?_eq_getElem hlt)
        have hin := HLL.out.2 k hlt hkL
        have hnk : newB r (newsL r)[k] = true := mem_news.1 (List.getElem_mem _)
        have hca := countP_take (isMin r) (newsL r) k hkL
        have hcs := countP_take (keepsB r st) (newsL r) k hkL
        obtain ⟨u, hu⟩ : ∃ x, asl[k] = x := ⟨_, rfl⟩
        rw [hu] at y0 hin
        have hin0 := hin
        obtain ⟨-, Au, cu, rfl, -⟩ := hin
        have HIN := Lib.hid hin0
        have Y0 := Lib.hid y0
        obtain ⟨l, hl⟩ : ∃ x, (newsL r)[k] = x := ⟨_, rfl⟩
        rw [hl] at HIN Y0 hnk hca hcs
        have HNK := Lib.hid hnk
        have HCA := Lib.hid hca
        have HCS := Lib.hid hcs
        clear hcl hin0 y0 hl hu hnk hca hcs
        obtain ⟨cl0, hc0⟩ : ∃ x, costL r.strs l = x := ⟨_, rfl⟩
        have HC0 := Lib.hid hc0
        clear hc0
        obtain ⟨na, hna⟩ : ∃ x, ((newsL r).take k).countP (isMin r) = x := ⟨_, rfl⟩
        obtain ⟨ns, hns⟩ : ∃ x, ((newsL r).take k).countP (keepsB r st) = x := ⟨_, rfl⟩
        have hnab : na ≤ 262144 := by rw [← hna]; exact Nat.le_trans List.countP_le_length (Nat.le_trans (by rw [List.length_take]; exact Nat.min_le_right _ _) (newsL_len HVD.out))
        have hnsb : ns ≤ 262144 := by rw [← hns]; exact Nat.le_trans List.countP_le_length (Nat.le_trans (by rw [List.length_take]; exact Nat.min_le_right _ _) (newsL_len HVD.out))
        rw [hna, hns]
        rw [hna] at HCA
        rw [hns] at HCS
        clear hna hns
        go_wp2_with fail
        refine wp_region_seg [([0, 1, 2, 3, 4, 6], 5)] [7] [] 8 (by kernel_rfl) (by kernel_rfl) ?_
        intro KQ hKQ w4 hb
        have T := Lib.hid (T.out.call hb)
        clear hb
        have q0 := cell_regrown (keep_cell T.out.bel (SB.out.get 0 0 rfl rfl))
        have q1 := cell_regrown (keep_cell T.out.bel (SB.out.get 0 1 rfl rfl))
        have y0 := cell_regrown (keep_cell T.out.bel Y0.out)
        refine seg_next ?_
        simp only [opsAt, List.filterMap_cons, List.filterMap_nil, List.getElem?_toArray, List.getElem?_cons_succ, List.getElem?_cons_zero]
        repeat (first | go_big_quiet_step (fail) | quiet_step (fail))
        refine wpQuiet_nil ?_
        intro K hK
        refine loud_op rfl rfl ?_
        go_simp
        refine (costOf_any _ _ r l _ ⟨_, _, rfl, HR.out.below (bto SB.out.bel T.out.bel), HS.out.below (bto SB.out.bel T.out.bel)⟩ HVD.out (HIN.out.below T.out.bel) (InL.of_new HNK.out)).mono ?_
        rintro e w5 ⟨rfl, hb⟩
        rw [HC0.out]
        have T := Lib.hid (T.out.call hb)
        refine hK _ _ hb ?_
        clear hK K hb q0 q1 y0
        refine seg_last ?_
        simp only [opsAt, List.filterMap_cons, List.filterMap_nil, List.getElem?_toArray, List.getElem?_cons_succ, List.getElem?_cons_zero]
        repeat (first | go_big_quiet_step (fail) | quiet_step (fail))
        refine wpQuiet_nil ?_
        by_cases hmin : cl0 = le
        · have hmq : (cl0 != le) = false := by simp [hmin]
          have HM := Lib.hid (show isMin r l = true by unfold isMin; rw [HC0.out, HLE.out, hmin]; simp)
          clear hmin
          have hlen := goodL_length _ _ _ HNK.out
          have hstl : st < l.length := by omega
          have hstli : (st : Int) < (l.length : Int) := by omega
          obtain ⟨-, _, _, e, -, -, hc⟩ := id HIN.out
          injection e with e1 e2 e3
          obtain ⟨bi, oi, e4, hci⟩ := hc (by omega)
          rw [← e1] at e4
          subst e4
          have z0 := hci st (I l[st]) (by rw [List.getElem?_map, List.getElem?_eq_getElem hstl]; rfl)
          obtain ⟨x, hx⟩ : ∃ x, l[st] = x := ⟨_, rfl⟩
          rw [hx] at z0
          have HX := Lib.hid (show l.getD st (-2) = x by rw [List.getD_eq_getElem?_getD, List.getElem?_eq_getElem hstl, hx]; rfl)
          have Z0 := Lib.hid z0
          clear z0 hx hc hci e1 e2 e3
          go_wp2_with fail
          have q1 := cell_regrown (keep_cell T.out.bel (SB.out.get 0 1 rfl rfl))
          have y0 := cell_regrown (keep_cell T.out.bel Y0.out)
          have z0 := cell_regrown (keep_cell T.out.bel Z0.out)
          have h0 := cell_regrown (keep_cell T.out.bel (keep_cell SB.out.bel HH0.out))
          refine wp_region_quiet_below (by kernel_rfl) (by kernel_rfl) ?_
          repeat (first | go_big_quiet_step (fail) | quiet_step (fail))
          refine wpQuiet_nil ?_
          rintro w6 ⟨p6, hp6⟩
          have T := Lib.hid (show St w1 w6 w6.heap.size _ from (by rw [hp6]; exact T.out.call (below_regrown _ _ _)))
          clear hp6 q1 y0 z0 h0
          by_cases hxe : x = has
          · have hxq : (x == has) = true := by simp [hxe]
            have HK2 := Lib.hid (show keepsB r st l = true by unfold keepsB; rw [HM.out, HX.out, HHAS.out, hxe]; simp)
            clear hxe
            go_wp2_with fail
            try go_frame
            go_roundw
            case rel => exact ⟨k + 1, by omega, by rw [HCA.out, if_pos HM.out]; go_num, by rw [HCS.out, if_pos HK2.out]; go_num, by go_num, Lib.hid T.out.fix⟩
            case measure => first | (simp [intOf]; done) | (simp [intOf]; omega)
          · have hxq : (x == has) = false := by simp [hxe]
            have HK2 := Lib.hid (show ¬ keepsB r st l = true by unfold keepsB; rw [HM.out, HX.out, HHAS.out]; simpa using hxe)
            clear hxe
            go_wp2_with fail
            try go_frame
            go_roundw
            case rel => exact ⟨k + 1, by omega, by rw [HCA.out, if_pos HM.out]; go_num, by rw [HCS.out, if_neg HK2.out, Nat.add_zero], by go_num, Lib.hid T.out.fix⟩
            case measure => first | (simp [intOf]; done) | (simp [intOf]; omega)
        · have hmq : (cl0 != le) = true := by simp [hmin]
          have HM := Lib.hid (show ¬ isMin r l = true by unfold isMin; rw [HC0.out, HLE.out]; simpa using hmin)
          have HK2 := Lib.hid (show ¬ keepsB r st l = true by unfold keepsB; intro e; rw [Bool.and_eq_true] at e; exact HM.out e.1)
          clear hmin
          go_wp2_with fail
          try go_frame
          go_roundw
          case rel => exact ⟨k + 1, by omega, by rw [HCA.out, if_neg HM.out, Nat.add_zero], by rw [HCS.out, if_neg HK2.out, Nat.add_zero], by go_num, Lib.hid T.out.fix⟩
          case measure => first | (simp [intOf]; done) | (simp [intOf]; omega)
      · obtain rfl : k = asl.length := by omega
        have hfin := bound_count HVD.out HSS.out hk
        rw [HAL.out, List.take_length]
        obtain ⟨na, hna⟩ : ∃ x, (newsL r).countP (isMin r) = x := ⟨_, rfl⟩
        obtain ⟨ns, hns⟩ : ∃ x, (newsL r).countP (keepsB r st) = x := ⟨_, rfl⟩
        rw [hna, hns]
        rw [hna, hns] at hfin
        have HFIN := Lib.hid hfin
        clear hfin hna hns
        have HAL2 := HAL
        go_wp2_with fail
        refine (known_any (ns : Int) (na : Int) _).mono ?_
        rintro e w7 ⟨rfl, rfl⟩
        go_wp2_with fail
        go_ret2
        refine ⟨?_, bto SB.out.bel T.out.bel⟩
        rw [HFIN.out, show knownV (ns : Int) (na : Int) = if ns = 0 then 2 else if ns = na then 1 else 3 by
          unfold knownV
          by_cases h1 : ns = 0
          · rw [if_pos h1, if_pos (by omega)]
          · rw [if_neg h1, if_neg (by omega)]
            by_cases h2 : ns = na
            · rw [if_pos h2, if_pos (by omega)]
            · rw [if_neg h2, if_neg (by omega)]]
        rfl
  · have hq : (er != 0) = true := by simp [hE]
    have HBAD := Lib.hid (bound_bad HER.out hE)
    clear hE hrd hlc
    go_wp2_with fail
    go_ret2
    exact ⟨by rw [HBAD.out]; rfl, S.out.bel⟩

end Go.Proofs.Ytokendenofbnhaa

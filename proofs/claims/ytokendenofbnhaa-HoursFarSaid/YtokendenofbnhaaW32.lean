/- Walks: the reference's news, least, Roster, Least. -/
import Derived.Test.YtokendenofbnhaaW31
namespace Go.Proofs.Ytokendenofbnhaa
open Go.RowKit Go.Sort

theorem allFrom_mem : ∀ (ss : List Str) (p l : List Int), l ∈ allFrom ss p → l.length = p.length + ss.length
  | [], p, l, h => by
    rw [allFrom, List.mem_singleton] at h
    rw [h]
    rfl
  | s :: ss, p, l, h => by
    simp only [allFrom, List.mem_flatMap] at h
    obtain ⟨x, _, h⟩ := h
    have := allFrom_mem ss _ _ h
    simp at this
    simp only [List.length_cons]
    omega
theorem ints_nil (w : World) : Ints w (.slice none 0 0) [] := ⟨rfl, none, 0, rfl, by simp, by omega, fun h => absurd h (by simp)⟩
theorem reads_nil (w : World) : Reads w 1 (.slice none 0 0) 0 [] := ⟨rfl, none, 0, rfl, by simp, by omega, fun h => absurd h (by simp)⟩
def newsE (r : Ros) (is : Bool) : Int := if askE r is = 0 then (if newsL r = [] then 3 else 0) else askE r is
def newsV (r : Ros) (is : Bool) : List (List Int) := if newsE r is = 0 then newsL r else []
/-- The lists of a row, as far as a loop has come, that are new rosters. -/
def newTo (r : Ros) (L : List (List Int)) (k : Nat) : List (List Int) := (L.take k).filter (newB r)
theorem newTo_yes {r : Ros} {L : List (List Int)} {k : Nat} (h : k < L.length) (hn : newB r L[k] = true) : newTo r L (k + 1) = newTo r L k ++ [L[k]] := by
  unfold newTo
  rw [List.take_succ_eq_append_getElem h, List.filter_append, List.filter_cons_of_pos hn]
  rfl
theorem newTo_no {r : Ros} {L : List (List Int)} {k : Nat} (h : k < L.length) (hn : newB r L[k] = false) : newTo r L (k + 1) = newTo r L k := by
  unfold newTo
  rw [List.take_succ_eq_append_getElem h, List.filter_append, List.filter_cons_of_neg (by rw [hn]; simp)]
  simp
def BestTo (r : Ros) (L : List (List Int)) (b k : Nat) : Prop := ∃ h : b < L.length, (∀ i (hi : i < L.length), i < b → costL r.strs L[b] < costL r.strs L[i]) ∧ ∀ i (hi : i < L.length), i < k → costL r.strs L[b] ≤ costL r.strs L[i]
theorem LL.snoc {w : World} {cs : List Value} {L : List (List Int)} {u : Value} {l : List Int} (h : LL w cs L) (hu : Ints w u l) : LL w (cs ++ [u]) (L ++ [l]) := by
  refine ⟨by simp [h.1], fun i h1 h2 => ?_⟩
  by_cases hi : i < cs.length
  · rw [List.getElem_append_left hi, List.getElem_append_left (by rw [← h.1]; exact hi)]
    exact h.2 i hi _
  · have e : i = cs.length := by simp at h1; omega
    subst e
    rw [List.getElem_append_right (by omega), List.getElem_append_right (by rw [h.1]; exact Nat.le_refl _)]
    simpa using hu
theorem firstMin_char {α : Type} {f : α → Int} : ∀ {L : List α} {m : α}, firstMin f L = some m → ∃ j, ∃ h : j < L.length, L[j] = m ∧ (∀ i (hi : i < L.length), i < j → f m < f L[i]) ∧ ∀ i (hi : i < L.length), f m ≤ f L[i]
  | [], _, h => by simp [firstMin] at h
  | x :: l, m, h => by
    have hle := firstMin_le h
    simp only [firstMin] at h
    cases hl : firstMin f l with
    | none =>
      rw [hl] at h
      injection h with h
      exact ⟨0, by simp, by simpa using h, fun i _ hi => absurd hi (by omega), fun i hi => hle _ (List.getElem_mem hi)⟩
    | some y =>
      rw [hl] at h
      simp only at h
      by_cases hy : f y < f x
      · rw [if_pos hy] at h
        injection h with h
        subst h
        obtain ⟨j, hj, e, h1, h2⟩ := firstMin_char hl
        refine ⟨j + 1, by simpa using hj, by simpa using e, fun i hi hij => ?_, fun i hi => hle _ (List.getElem_mem hi)⟩
        cases i with
        | zero => simpa using hy
        | succ i => simpa using h1 i (by simpa using hi) (by omega)
      · rw [if_neg hy] at h
        injection h with h
        exact ⟨0, by simp, by simpa using h, fun i _ hi => absurd hi (by omega), fun i hi => hle _ (List.getElem_mem hi)⟩

set_option maxRecDepth 20000 in
set_option maxHeartbeats 4000000 in
theorem rNews_any (v : Value) (r : Ros) (is : Bool) (w : World) (hv : RosAt w v r) :
    Calls Try.prog 72 #[v, .bool is] w fun e w' => ∃ v', e = .returned (.tuple #[v', I (newsE r is)]) ∧ ∃ cs, Reads w' 1 v' cs.length cs ∧ LL w' cs (newsV r is) ∧ Below w.heap.size w w' := by
  obtain ⟨iT, hiT, hzT0, hzT1, hzT2⟩ := info_parts (P := Try.prog) (e := 22) (z := .slice none 0 0) (size := 1) (bytes := 24) (by kernel_rfl)
  have h02 : 0 < 1 := by omega
  obtain ⟨rv, sv, rfl, hr, hs⟩ := hv
  obtain ⟨A1, c1, rfl, hr1, hr2, -⟩ := hr.open_
  obtain ⟨A2, c2, rfl, hs1, hs2, -⟩ := hs.open_
  have HR := Lib.hid hr
  have HS := Lib.hid hs
  clear hr hs
  have S := Lib.hid (show St w (w.alloc (.cells #[.slice A1 r.room.length c1, .slice A2 r.strs.length c2] 25)) (w.heap.size + 1) [.box w.heap.size [.slice A1 r.room.length c1, .slice A2 r.strs.length c2]] from (St.init w).alloc [.slice A1 r.room.length c1, .slice A2 r.strs.length c2] 25)
  have q0 := S.out.get 0 0 rfl rfl
  have q1 := S.out.get 0 1 rfl rfl
  go_enter Try.func72, Try.ntmps72
  go_wp2_with fail
  clear q0 q1
  refine (rAsk_any _ r is _ ⟨_, _, rfl, HR.out.below S.out.bel, HS.out.below S.out.bel⟩).mono ?_
  rintro e w1 ⟨rfl, hb⟩
  have S := Lib.hid (S.out.call hb)
  clear hb
  by_cases ha : askE r is = 0
  · have HVD := Lib.hid (valid_iff.1 (askE_zero.1 ha).1)
    have HNE := Lib.hid (show newsE r is = if newsL r = [] then 3 else 0 by unfold newsE; rw [if_pos ha])
    rw [ha]
    clear ha
    have q0 := S.out.get 0 0 rfl rfl
    have q1 := S.out.get 0 1 rfl rfl
    go_wp2_with fail
    clear q0 q1
    refine (lists_any r HVD.out r.strs.length _ _ [] _ ⟨_, _, rfl, HR.out.below S.out.bel, HS.out.below S.out.bel⟩ (ints_nil _) (by simp)).mono ?_
    rintro e w2 ⟨vl, rfl, asl, hown, hll, -, -, hb⟩
    rw [show r.strs.drop ([] : List Int).length = r.strs from rfl] at hll
    have S := Lib.hid (S.out.call hb)
    clear hb
    obtain ⟨L, hL⟩ : ∃ x, allFrom r.strs [] = x := ⟨_, rfl⟩
    have hnl : newsL r = newTo r L L.length := by unfold newsL newTo; rw [hL, List.take_length]
    have hmem : ∀ l ∈ L, l.length ≤ 1000 := fun l hl => by
      rw [← hL] at hl
      have := allFrom_mem _ _ _ hl
      have := HVD.out.sl
      simp at *
      omega
    have hcap : L.length ≤ 262144 := by
      rw [← hL]
      exact Nat.le_trans (allFrom_len _ HVD.out.strs _) (pow8 HVD.out.sl)
    rw [hL] at hll
    have HNL := Lib.hid hnl
    have HMEM := Lib.hid hmem
    have HLL := Lib.hid hll
    have hrd := Reads.of_own hown
    obtain ⟨-, Al, cl, rfl, hl1, hl2, hlc⟩ := id hrd
    have HRD := Lib.hid hrd
    have HLC := Lib.hid hlc
    have haL : asl.length = L.length := hll.1
    clear hL hnl hmem hll hrd hlc hown
    have T := Lib.hid ((St.init w2).nil 22 1)
    go_wp2_with fail
    go_loopw [7, 9] (fun u i wr => ∃ (k : Nat) (vo : Value) (cs : List Value), k ≤ asl.length ∧ vo = u ∧ i = I k ∧ Hid (LL w2 cs (newTo r L k)) ∧ Hid (St w2 wr wr.heap.size [.own 22 1 vo cs.length cs])) (fun _ i _ => asl.length - (intOf i).toNat)
    case atStart => exact ⟨0, _, [], by omega, rfl, rfl, Lib.hid ⟨rfl, fun i h1 _ => absurd h1 (by simp)⟩, Lib.hid T.out.fix⟩
    case round =>
      clear T
      obtain ⟨k, vo, cs, hk, rfl, rfl, HC, T⟩ := hrel
      by_cases hlt : k < asl.length
      · have hki : (k : Int) < (asl.length : Int) := by omega
        have hkL : k < L.length := by omega
        obtain ⟨bl, ol, e, hcl⟩ := HLC.out (by omega)
        subst e
        have y0 := hcl k asl[k] (List.getElem?_eq_getElem hlt)
        have hin := HLL.out.2 k hlt hkL
        obtain ⟨u, hu⟩ : ∃ x, asl[k] = x := ⟨_, rfl⟩
        rw [hu] at y0 hin
        have hin0 := hin
        obtain ⟨-, Au, cu, rfl, -⟩ := hin
        have HIN := Lib.hid hin0
        have Y0 := Lib.hid y0
        have hm := HMEM.out _ (List.getElem_mem hkL)
        obtain ⟨l, hl⟩ : ∃ x, L[k] = x := ⟨_, rfl⟩
        rw [hl] at HIN hm Y0
        have HL := Lib.hid hl
        clear hcl hin0 y0 hl hu
        go_wp2_with fail
        refine wp_region_seg [([0, 1, 2, 3, 4], 5)] [] [] 6 (by kernel_rfl) (by kernel_rfl) ?_
        intro KQ hKQ w4 hb
        have T := Lib.hid (T.out.call hb)
        clear hb
        have q0 := cell_regrown (keep_cell T.out.bel (S.out.get 0 0 rfl rfl))
        have q1 := cell_regrown (keep_cell T.out.bel (S.out.get 0 1 rfl rfl))
        have y0 := cell_regrown (keep_cell T.out.bel Y0.out)
        refine seg_next ?_
        simp only [opsAt, List.filterMap_cons, List.filterMap_nil, List.getElem?_toArray, List.getElem?_cons_succ, List.getElem?_cons_zero]
        repeat (first | go_big_quiet_step (fail) | quiet_step (fail))
        refine wpQuiet_nil ?_
        intro K hK
        refine loud_op rfl rfl ?_
        go_simp
        refine (isNew_any _ _ r l _ ⟨_, _, rfl, HR.out.below (bto S.out.bel T.out.bel), HS.out.below (bto S.out.bel T.out.bel)⟩ HVD.out (HIN.out.below T.out.bel) hm).mono ?_
        rintro e w5 ⟨rfl, hb⟩
        have T := Lib.hid (T.out.call hb)
        refine hK _ _ hb ?_
        clear hK K hb q0 q1 y0
        refine seg_last ?_
        simp only [opsAt, List.filterMap_nil]
        refine wpQuiet_nil ?_
        have hcl2 : cs.length ≤ 262144 := by
          rw [HC.out.1]
          unfold newTo
          have := List.length_filter_le (newB r) (L.take k)
          rw [List.length_take] at this
          omega
        cases hn : newB r l
        · have HNX := Lib.hid (newTo_no (r := r) hkL (by rw [HL.out, hn]))
          go_wp2_with fail
          try go_frame
          go_roundw
          case rel => exact ⟨k + 1, vo, cs, by omega, rfl, by go_num, Lib.hid (by rw [HNX.out]; exact HC.out), T⟩
          case measure => first | (simp [intOf]; done) | (simp [intOf]; omega)
        · have HNX := Lib.hid (newTo_yes (r := r) hkL (by rw [HL.out, hn]))
          rw [HL.out] at HNX
          clear hn
          have y0 := keep_cell T.out.bel Y0.out
          have h63 : cs.length + 1 ≤ maxLen := by simp only [maxLen]; omega
          have hby : (cs.length + 1) * 24 ≤ 140737488355328 := by omega
          have T := Lib.hid (T.out.alloc [.slice Au l.length cu] 22)
          go_wp2_with (at_builtin; refine wpList_append_St T.out 1 rfl _ _ 78 rfl 22 iT (.slice none 0 0) 1 24 Try.underlying78 hiT hzT0 hzT1 hzT2 rfl h02 rfl rfl _ 1 [.slice Au l.length cu] rfl (reads_box1 (T.out.get 0 0 rfl rfl)) (fun u hu => by rw [List.mem_singleton.1 hu]; rfl) h63 hby ?_; intro v' w6 hS6; have T := Lib.hid hS6.tail; clear hS6)
          clear y0
          try go_frame
          go_roundw
          case rel => exact ⟨k + 1, _, cs ++ [.slice Au l.length cu], by omega, rfl, by go_num, Lib.hid (by rw [HNX.out]; exact HC.out.snoc HIN.out), Lib.hid (by rw [List.length_append]; exact T.out)⟩
          case measure => first | (simp [intOf]; done) | (simp [intOf]; omega)
      · obtain rfl : k = asl.length := by omega
        rw [haL, ← HNL.out] at HC
        have hcs := HC.out.1
        obtain ⟨Ac, cc, rfl⟩ := own_shape (T.out.own 0 rfl)
        by_cases hnil : newsL r = []
        · rw [if_pos hnil] at HNE
          have hz : ((cs.length : Int) == 0) = true := by rw [hcs, hnil]; rfl
          have hz2 : cs.length = 0 := by rw [hcs, hnil]; rfl
          clear hcs hnil
          go_wp2_with fail
          go_ret2
          exact ⟨.slice none 0 0, by rw [HNE.out]; rfl, [], reads_nil _, by unfold newsV; rw [if_neg (by rw [HNE.out]; simp)]; exact ⟨rfl, fun i h1 _ => absurd h1 (by simp)⟩, bto S.out.bel T.out.bel⟩
        · rw [if_neg hnil] at HNE
          have hpos : cs.length ≠ 0 := by rw [hcs]; intro e; exact hnil (List.length_eq_zero_iff.1 e)
          have hz : ((cs.length : Int) == 0) = false := by rw [beq_eq_false_iff_ne]; omega
          have hz1 : ¬ (cs.length : Int) = 0 := by omega
          have hz3 : ¬ cs = [] := fun e => hpos (by rw [e]; rfl)
          clear hcs hnil
          go_wp2_with fail
          go_ret2
          exact ⟨_, by rw [HNE.out]; rfl, cs, T.out.row 0 rfl, by unfold newsV; rw [if_pos HNE.out]; exact HC.out.below T.out.bel, bto S.out.bel T.out.bel⟩
  · have hnz : newsE r is = askE r is := by unfold newsE; rw [if_neg ha]
    obtain ⟨er, her⟩ : ∃ x, askE r is = x := ⟨_, rfl⟩
    have hq : (er != 0) = true := by rw [← her]; simpa using ha
    have HNZ := Lib.hid (hnz.trans her)
    have HNE := Lib.hid (show er ≠ 0 from by rw [← her]; exact ha)
    rw [her]
    clear ha her hnz
    go_wp2_with fail
    go_ret2
    exact ⟨.slice none 0 0, by rw [HNZ.out]; rfl, [], reads_nil _, by unfold newsV; rw [if_neg (by rw [HNZ.out]; exact HNE.out)]; exact ⟨rfl, fun i h1 _ => absurd h1 (by simp)⟩, S.out.bel⟩

set_option maxRecDepth 20000 in
set_option maxHeartbeats 4000000 in
theorem rLeast0_any (v v2 : Value) (r : Ros) (asl : List Value) (L : List (List Int)) (m : List Int) (w : World) (hv : RosAt w v r) (hvd : ROk r) (hr : Reads w 1 v2 asl.length asl) (hll : LL w asl L) (hnew : ∀ l ∈ L, newB r l = true) (hm : firstMin (costL r.strs) L = some m) :
    Calls Try.prog 73 #[v, v2] w fun e w' => ∃ v', e = .returned v' ∧ Ints w' v' m ∧ Below w.heap.size w w' := by
  obtain ⟨rv, sv, rfl, hr, hs⟩ := hv
  obtain ⟨A1, c1, rfl, hr1, hr2, -⟩ := hr.open_
  obtain ⟨A2, c2, rfl, hs1, hs2, -⟩ := hs.open_
  have HR := Lib.hid hr
  have HS := Lib.hid hs
  clear hr hs
  have S := Lib.hid (show St w (w.alloc (.cells #[.slice A1 r.room.length c1, .slice A2 r.strs.length c2] 25)) (w.heap.size + 1) [.box w.heap.size [.slice A1 r.room.length c1, .slice A2 r.strs.length c2]] from (St.init w).alloc [.slice A1 r.room.length c1, .slice A2 r.strs.length c2] 25)
  obtain ⟨-, Al, cl, rfl, hl1, hl2, hlc⟩ := id hr
  have HLC := Lib.hid hlc
  have HLL := Lib.hid hll
  have HNEW := Lib.hid hnew
  have HVD := Lib.hid hvd
  have haL : asl.length = L.length := hll.1
  obtain ⟨j, hj, hje, hjlt, hjle⟩ := firstMin_char hm
  have HJ := Lib.hid (And.intro hje (And.intro hjlt hjle))
  have hpos : 0 < asl.length := by omega
  have hposi : (0 : Int) < (asl.length : Int) := by omega
  obtain ⟨bl, ol, e, hcl⟩ := hlc hpos
  subst e
  have HCL := Lib.hid hcl
  have y0 := hcl 0 asl[0] (List.getElem?_eq_getElem hpos)
  rw [Nat.add_zero] at y0
  have y0 := keep_cell S.out.bel y0
  have HAL := Lib.hid haL
  clear hlc hll hnew hvd hje hjlt hjle hcl hr hm haL
  go_enter Try.func73, Try.ntmps73
  go_wp2_with fail
  clear y0
  go_loopw [5, 6] (fun u i wr => ∃ (k b : Nat) (ub : Value), k ≤ asl.length ∧ ub = u ∧ asl[b]? = some ub ∧ i = I k ∧ Hid (BestTo r L b k) ∧ Hid (St w wr wr.heap.size [.box w.heap.size [.slice A1 r.room.length c1, .slice A2 r.strs.length c2]])) (fun _ i _ => asl.length - (intOf i).toNat)
  case atStart => exact ⟨0, 0, _, by omega, rfl, List.getElem?_eq_getElem hpos, rfl, Lib.hid ⟨by have := HAL.out; omega, fun i _ h => absurd h (by omega), fun i _ h => absurd h (by omega)⟩, Lib.hid S.out.fix⟩
  case round =>
    clear S
    obtain ⟨k, b, ub, hk, rfl, hub0, rfl, HI, S⟩ := hrel
    obtain ⟨hb2, -⟩ := HI.out
    have hb : b < asl.length := by have := HAL.out; omega
    have hub : asl[b] = ub := by rw [List.getElem?_eq_getElem hb] at hub0; injection hub0
    have hinb := HLL.out.2 b hb hb2
    rw [hub] at hinb
    have HUB := Lib.hid hub0
    have hinb0 := hinb
    obtain ⟨-, Ab, cb, rfl, -⟩ := hinb
    have HINB := Lib.hid hinb0
    obtain ⟨lb, hlb⟩ : ∃ x, L[b] = x := ⟨_, rfl⟩
    rw [hlb] at HINB HUB
    rw [hlb]
    have HLB := Lib.hid hlb
    clear hinb0 hub hlb hub0
    by_cases hlt : k < asl.length
    · have hki : (k : Int) < (asl.length : Int) := by omega
      have hkL : k < L.length := by have := HAL.out; omega
      have y0 := HCL.out k asl[k] (List.getElem?_eq_getElem hlt)
      have hin := HLL.out.2 k hlt hkL
      obtain ⟨u, hu⟩ : ∃ x, asl[k] = x := ⟨_, rfl⟩
      rw [hu] at y0 hin
      have HU := Lib.hid hu
      have hin0 := hin
      obtain ⟨-, Au, cu, rfl, -⟩ := hin
      have HIN := Lib.hid hin0
      have Y0 := Lib.hid y0
      obtain ⟨l, hl⟩ : ∃ x, L[k] = x := ⟨_, rfl⟩
      rw [hl] at HIN HU Y0
      have HL := Lib.hid hl
      obtain ⟨ck, hck⟩ : ∃ x, costL r.strs l = x := ⟨_, rfl⟩
      obtain ⟨cbb, hcb⟩ : ∃ x, costL r.strs lb = x := ⟨_, rfl⟩
      have HCK := Lib.hid hck
      have HCB := Lib.hid hcb
      clear hin0 y0 hl hu hck hcb
      go_wp2_with fail
      refine wp_region_seg [([0, 1, 2, 3, 4, 6, 7], 5), ([], 8)] [9] [] 10 (by kernel_rfl) (by kernel_rfl) ?_
      intro KQ hKQ w4 hb
      have S := Lib.hid (S.out.call hb)
      clear hb
      have q0 := cell_regrown (S.out.get 0 0 rfl rfl)
      have q1 := cell_regrown (S.out.get 0 1 rfl rfl)
      have y0 := cell_regrown (keep_cell S.out.bel Y0.out)
      refine seg_next ?_
      simp only [opsAt, List.filterMap_cons, List.filterMap_nil, List.getElem?_toArray, List.getElem?_cons_succ, List.getElem?_cons_zero]
      repeat (first | go_big_quiet_step (fail) | quiet_step (fail))
      refine wpQuiet_nil ?_
      intro K hK
      refine loud_op rfl rfl ?_
      go_simp
      refine (costOf_any _ _ r l _ ⟨_, _, rfl, HR.out.below S.out.bel, HS.out.below S.out.bel⟩ HVD.out (HIN.out.below S.out.bel) (InL.of_new (HNEW.out _ (by rw [← HL.out]; exact List.getElem_mem _)))).mono ?_
      rintro e w5 ⟨rfl, hb⟩
      rw [HCK.out]
      have S := Lib.hid (S.out.call hb)
      refine hK _ _ hb ?_
      clear hK K hb q0 q1 y0
      refine seg_next ?_
      simp only [opsAt, List.filterMap_nil]
      refine wpQuiet_nil ?_
      intro K hK
      refine loud_op rfl rfl ?_
      go_simp
      refine (costOf_any _ _ r lb _ ⟨_, _, rfl, HR.out.below S.out.bel, HS.out.below S.out.bel⟩ HVD.out (HINB.out.below S.out.bel) (InL.of_new (HNEW.out _ (by rw [← HLB.out]; exact List.getElem_mem _)))).mono ?_
      rintro e w5 ⟨rfl, hb⟩
      rw [HCB.out]
      have S := Lib.hid (S.out.call hb)
      refine hK _ _ hb ?_
      clear hK K hb
      refine seg_last ?_
      simp only [opsAt, List.filterMap_cons, List.filterMap_nil, List.getElem?_toArray, List.getElem?_cons_succ, List.getElem?_cons_zero]
      repeat (first | go_big_quiet_step (fail) | quiet_step (fail))
      refine wpQuiet_nil ?_
      have y0 := keep_cell S.out.bel Y0.out
      by_cases hlc : ck < cbb
      · have HCC := Lib.hid hlc
        go_wp2_with fail
        try go_frame
        go_roundw
        case rel => exact ⟨k + 1, k, _, by omega, rfl, by rw [List.getElem?_eq_getElem hlt, HU.out], by go_num, Lib.hid ⟨hkL, fun i hi hik => by
          have := HI.out.2.2 i hi hik
          rw [HLB.out, HCB.out] at this
          rw [HL.out, HCK.out]
          have := HCC.out
          omega, fun i hi hik => by
          rw [HL.out, HCK.out]
          by_cases e : i = k
          · subst e; rw [HL.out, HCK.out]; exact Int.le_refl _
          · have := HI.out.2.2 i hi (by omega)
            rw [HLB.out, HCB.out] at this
            have := HCC.out
            omega⟩, S⟩
        case measure => first | (simp [intOf]; done) | (simp [intOf]; omega)
      · have HCC := Lib.hid hlc
        go_wp2_with fail
        try go_frame
        go_roundw
        case rel => exact ⟨k + 1, b, _, by omega, rfl, HUB.out, by go_num, Lib.hid ⟨hb2, HI.out.2.1, fun i hi hik => by
          by_cases e : i = k
          · subst e; rw [HL.out, HCK.out, HLB.out, HCB.out]; have := HCC.out; omega
          · exact HI.out.2.2 i hi (by omega)⟩, S⟩
        case measure => first | (simp [intOf]; done) | (simp [intOf]; omega)
    · obtain rfl : k = asl.length := by omega
      have hbj : lb = m := by
        obtain ⟨e1, e2, e3⟩ := HJ.out
        have i1 := HI.out.2.1
        have i2 := HI.out.2.2
        have hbj : b = j := by
          rcases Nat.lt_trichotomy b j with h | h | h
          · have a := e2 b hb2 h
            have c := i2 j hj (by have := HAL.out; omega)
            rw [e1] at c
            omega
          · exact h
          · have a := i1 j hj h
            have c := e3 b hb2
            rw [e1] at a
            omega
        rw [← HLB.out, ← e1]
        congr 1
      have HBJ := Lib.hid hbj
      clear hbj
      go_wp2_with fail
      go_ret
      exact ⟨_, rfl, by have q := HINB.out.below S.out.bel; rw [HBJ.out] at q ⊢; exact q, S.out.bel⟩

end Go.Proofs.Ytokendenofbnhaa

/- Walks: the reference's Roster, Least, Far, Fewest, Fair. -/
import Derived.Test.YtokendenofbnhaaW32
import Derived.Test.YtokendenofbnhaaW29
import Derived.Test.YtokendenofbnhaaW13
namespace Go.Proofs.Ytokendenofbnhaa
open Go.RowKit Go.Sort

theorem news_ok {r : Ros} (h : newsE r true = 0) : ROk r ∧ someR r = true := by
  unfold newsE at h
  by_cases ha : askE r true = 0
  · rw [if_pos ha] at h
    have hv := valid_iff.1 (askE_zero.1 ha).1
    refine ⟨hv, ?_⟩
    by_cases hn : newsL r = []
    · rw [if_pos hn] at h
      cases h
    · cases hs : someR r
      · exact absurd ((news_nil hv).2 hs) hn
      · rfl
  · rw [if_neg ha] at h
    exact absurd h ha
theorem news_bad {r : Ros} {er : Int} (h : newsE r true = er) (h0 : er ≠ 0) : leastR r = (0, er) ∧ rosterR r = ([], er) ∧ farR r = (0, er) ∧ fewestR r = (0, er) ∧ fairR r = ([], er) := by
  by_cases ha : askE r true = 0
  · have hv := valid_iff.1 (askE_zero.1 ha).1
    have hn : newsL r = [] := by
      apply Classical.byContradiction
      intro hn
      unfold newsE at h
      rw [if_pos ha, if_neg hn] at h
      exact h0 h.symm
    have he : er = 3 := by
      unfold newsE at h
      rw [if_pos ha, if_pos hn] at h
      exact h.symm
    have hs := (news_nil hv).1 hn
    obtain ⟨a, b⟩ := none_said hv hs
    subst he
    refine ⟨by rw [least_val hv, hs]; rfl, a, by rw [far_val hv, hs]; rfl, by rw [fewest_val hv, hs]; rfl, b⟩
  · have he : askE r true = er := by
      unfold newsE at h
      rwa [if_neg ha] at h
    have hk : ∀ w, knownR w r true = (0, er) := fun w => by unfold knownR; rw [if_neg ha, he]
    have hl : leastR r = (0, er) := hk _
    refine ⟨hl, ?_, ?_, hk _, ?_⟩
    · unfold rosterR; rw [hl]; exact if_neg h0
    · unfold farR; rw [hl]; exact if_neg h0
    · unfold fairR; rw [hl]; exact if_neg h0
theorem farOf_ge {r : Ros} (h : ROk r) (hs : someR r = true) {l : List Int} (hl : newB r l = true) : (farN r : Int) ≤ farOf r.strs l := by
  have hlm := goodL_length _ _ _ hl
  have b := (farTo_bd h.strs (InL.of_new hl) l.length (by omega)).1
  obtain ⟨x, hx⟩ := Int.eq_ofNat_of_zero_le (show 0 ≤ farOf r.strs l from b)
  have c := (far_real h hs).2 l x hl ((farOf_iff (by omega) hlm).1 (by omega))
  omega
theorem farOf_le {r : Ros} (h : ROk r) (hs : someR r = true) : ∃ l, newB r l = true ∧ farOf r.strs l ≤ (farN r : Int) := by
  obtain ⟨⟨l, hl, hn⟩, -⟩ := far_real h hs
  exact ⟨l, hl, (farOf_iff (by omega) (goodL_length _ _ _ hl)).2 hn⟩
def MinOf (f : List Int → Int) (L : List (List Int)) (k : Nat) (x : Int) : Prop := (∃ i, ∃ h : i < L.length, x = f L[i]) ∧ ∀ i (h : i < L.length), i < k → x ≤ f L[i]
theorem MinOf.step {f : List Int → Int} {L : List (List Int)} {k : Nat} {x : Int} (h : MinOf f L k x) (hk : k < L.length) : MinOf f L (k + 1) (min x (f L[k])) := by
  refine ⟨?_, fun i hi hik => ?_⟩
  · by_cases hx : x ≤ f L[k]
    · obtain ⟨i, hi, e⟩ := h.1
      exact ⟨i, hi, by omega⟩
    · exact ⟨k, hk, by omega⟩
  · by_cases e : i = k
    · subst e; omega
    · have := h.2 i hi (by omega); omega
def FewOf (r : Ros) (L : List (List Int)) (k : Nat) (x : Int) : Prop := (x = r.strs.length ∨ ∃ i, ∃ h : i < L.length, x = movedN r.strs L[i]) ∧ ∀ i (h : i < L.length), i < k → x ≤ movedN r.strs L[i]
theorem FewOf.step {r : Ros} {L : List (List Int)} {k : Nat} {x : Int} (h : FewOf r L k x) (hk : k < L.length) : FewOf r L (k + 1) (min x (movedN r.strs L[k])) := by
  refine ⟨?_, fun i hi hik => ?_⟩
  · by_cases hx : x ≤ movedN r.strs L[k]
    · rcases h.1 with e | ⟨i, hi, e⟩
      · exact .inl (by omega)
      · exact .inr ⟨i, hi, by omega⟩
    · exact .inr ⟨k, hk, by omega⟩
  · by_cases e : i = k
    · subst e; omega
    · have := h.2 i hi (by omega); omega
theorem moved_to2 (ss : List Str) (l : List Int) (hl : l.length = ss.length) : ∀ k, k ≤ ss.length → ((movedTo ss l k).length : Int) = sumW onceI (ss.take k) (l.take k)
  | 0, _ => by simp [movedTo, sumW]
  | k + 1, h => by
    have ih := moved_to2 ss l hl k (by omega)
    have h1 : k < ss.length := by omega
    have h2 : k < l.length := by omega
    rw [sumW_snoc onceI ss l k h1 h2, movedTo_succ, show l.getD k 0 = l[k] by simp [List.getD_eq_getElem?_getD, List.getElem?_eq_getElem h2], show ss.getD k default = ss[k] by simp [List.getD_eq_getElem?_getD, List.getElem?_eq_getElem h1]]
    have hm := moveI_nonneg ss[k] l[k]
    have e : onceI ss[k] l[k] = min 1 (moveI ss[k] l[k]) := rfl
    rw [e]
    by_cases hp : 0 < moveI ss[k] l[k]
    · rw [if_pos hp, List.length_append]
      simp only [List.length_cons, List.length_nil]
      omega
    · rw [if_neg hp]
      omega
theorem moved_len2 (ss : List Str) (l : List Int) (hl : l.length = ss.length) : ((movedL ss l).length : Int) = movedN ss l := by
  have := moved_to2 ss l hl ss.length (by omega)
  rw [List.take_length, show l.take ss.length = l by rw [← hl, List.take_length]] at this
  unfold movedL movedN
  rw [hl]
  exact this
theorem near_filter {r : Ros} (h : ROk r) : (newsL r).filter (mayL (upToI (farN r : Int)) r.strs) = (newsL r).filter fun l => decide (farOf r.strs l ≤ (farN r : Int)) := by
  refine List.filter_congr fun l hl => ?_
  rw [Bool.eq_iff_iff, mayL_near h.strs, decide_eq_true_eq]
  exact (farOf_iff (by omega) (goodL_length _ _ _ (mem_news.1 hl))).symm

set_option maxRecDepth 20000 in
set_option maxHeartbeats 2000000 in
theorem rRoster_any (v : Value) (r : Ros) (w : World) (hv : RosAt w v r) :
    Calls Try.prog 34 #[v] w fun e w' => ∃ v', e = .returned (.tuple #[v', I (rosterR r).2]) ∧ Ints w' v' (rosterR r).1 ∧ Below w.heap.size w w' := by
  obtain ⟨rv, sv, rfl, hr, hs⟩ := hv
  obtain ⟨A1, c1, rfl, hr1, hr2, -⟩ := hr.open_
  obtain ⟨A2, c2, rfl, hs1, hs2, -⟩ := hs.open_
  have HR := Lib.hid hr
  have HS := Lib.hid hs
  clear hr hs
  have S := Lib.hid (show St w (w.alloc (.cells #[.slice A1 r.room.length c1, .slice A2 r.strs.length c2] 25)) (w.heap.size + 1) [.box w.heap.size [.slice A1 r.room.length c1, .slice A2 r.strs.length c2]] from (St.init w).alloc [.slice A1 r.room.length c1, .slice A2 r.strs.length c2] 25)
  have q0 := S.out.get 0 0 rfl rfl
  have q1 := S.out.get 0 1 rfl rfl
  go_enter Try.func34, Try.ntmps34
  go_wp2_with fail
  clear q0 q1
  refine (rNews_any _ r true _ ⟨_, _, rfl, HR.out.below S.out.bel, HS.out.below S.out.bel⟩).mono ?_
  rintro e w1 ⟨vn, rfl, asl, hrd, hll, hb⟩
  have S := Lib.hid (S.out.call hb)
  clear hb
  by_cases hE : newsE r true = 0
  · obtain ⟨hvd, hs⟩ := news_ok hE
    have hll2 : LL w1 asl (newsL r) := by unfold newsV at hll; rw [if_pos hE] at hll; exact hll
    rw [hE]
    obtain ⟨-, Al, cl, rfl, hl1, hl2, hlc⟩ := id hrd
    have HRD := Lib.hid hrd
    have HLC := Lib.hid hlc
    have HLL := Lib.hid hll2
    have HVD := Lib.hid hvd
    have HSS := Lib.hid hs
    have HAL := Lib.hid hll2.1
    have HPO := Lib.hid (show 0 < (newsL r).length from by
      rcases Nat.eq_zero_or_pos (newsL r).length with h | h
      · have := (news_nil hvd).1 (List.length_eq_zero_iff.1 h)
        rw [hs] at this
        cases this
      · exact h)
    clear hrd hll hll2 hlc hvd hs hE
    have hposl : 0 < asl.length := by have := HAL.out; have := HPO.out; omega
    have q0 := S.out.get 0 0 rfl rfl
    have q1 := S.out.get 0 1 rfl rfl
    go_wp2_with fail
    clear q0 q1
    have hmin := roster_min HVD.out
    rw [if_pos HSS.out] at hmin
    refine (rLeast0_any _ _ r asl (newsL r) _ _ ⟨_, _, rfl, HR.out.below S.out.bel, HS.out.below S.out.bel⟩ HVD.out HRD.out HLL.out (fun l hl => mem_news.1 hl) hmin).mono ?_
    rintro e w2 ⟨v', rfl, hi, hb⟩
    have HRE := Lib.hid (show rosterR r = (rosterP stepsI r.strs (pad r.room), 0) by unfold rosterR; rw [least_val HVD.out, if_pos HSS.out]; rfl)
    have S := Lib.hid (S.out.call hb)
    clear hb
    go_wp2_with fail
    go_ret2
    exact ⟨v', by rw [HRE.out]; rfl, by rw [HRE.out]; exact hi, S.out.bel⟩
  · have HBAD := Lib.hid (news_bad rfl hE)
    obtain ⟨er, her⟩ : ∃ x, newsE r true = x := ⟨_, rfl⟩
    have hq : (er != 0) = true := by rw [← her]; simpa using hE
    rw [her] at HBAD ⊢
    obtain ⟨-, An, cn, rfl, -⟩ := id hrd
    clear hE her hrd hll
    go_wp2_with fail
    go_ret2
    exact ⟨.slice none 0 0, by rw [HBAD.out.2.1]; rfl, by rw [HBAD.out.2.1]; exact ints_nil _, S.out.bel⟩

set_option maxRecDepth 20000 in
set_option maxHeartbeats 2000000 in
theorem rLeast_any (v : Value) (r : Ros) (w : World) (hv : RosAt w v r) :
    Calls Try.prog 33 #[v] w fun e w' => e = .returned (.tuple #[I (leastR r).1, I (leastR r).2]) ∧ Below w.heap.size w w' := by
  obtain ⟨rv, sv, rfl, hr, hs⟩ := hv
  obtain ⟨A1, c1, rfl, hr1, hr2, -⟩ := hr.open_
  obtain ⟨A2, c2, rfl, hs1, hs2, -⟩ := hs.open_
  have HR := Lib.hid hr
  have HS := Lib.hid hs
  clear hr hs
  have S := Lib.hid (show St w (w.alloc (.cells #[.slice A1 r.room.length c1, .slice A2 r.strs.length c2] 25)) (w.heap.size + 1) [.box w.heap.size [.slice A1 r.room.length c1, .slice A2 r.strs.length c2]] from (St.init w).alloc [.slice A1 r.room.length c1, .slice A2 r.strs.length c2] 25)
  have q0 := S.out.get 0 0 rfl rfl
  have q1 := S.out.get 0 1 rfl rfl
  go_enter Try.func33, Try.ntmps33
  go_wp2_with fail
  clear q0 q1
  refine (rRoster_any _ r _ ⟨_, _, rfl, HR.out.below S.out.bel, HS.out.below S.out.bel⟩).mono ?_
  rintro e w1 ⟨vn, rfl, hi, hb⟩
  have S := Lib.hid (S.out.call hb)
  clear hb
  by_cases hE : newsE r true = 0
  · obtain ⟨hvd, hs⟩ := news_ok hE
    obtain ⟨l, hro, hnl, hcl⟩ := roster_said hvd hs
    have HLE := Lib.hid (show leastR r = ((bestR stepsI r).1, 0) by rw [least_val hvd, if_pos hs])
    rw [hro] at hi ⊢
    obtain ⟨-, Al, cl, rfl, -⟩ := id hi
    have q0 := S.out.get 0 0 rfl rfl
    have q1 := S.out.get 0 1 rfl rfl
    go_wp2_with fail
    clear q0 q1
    refine (costOf_any _ _ r l _ ⟨_, _, rfl, HR.out.below S.out.bel, HS.out.below S.out.bel⟩ hvd hi (InL.of_new hnl)).mono ?_
    rintro e w2 ⟨rfl, hb⟩
    have S := Lib.hid (S.out.call hb)
    clear hb
    go_wp2_with fail
    go_ret2
    exact ⟨by rw [HLE.out]; rfl, S.out.bel⟩
  · have HBAD := Lib.hid (news_bad rfl hE)
    obtain ⟨er, her⟩ : ∃ x, newsE r true = x := ⟨_, rfl⟩
    have hq : (er != 0) = true := by rw [← her]; simpa using hE
    rw [her] at HBAD
    rw [HBAD.out.2.1] at hi ⊢
    obtain ⟨-, Al, cl, rfl, -⟩ := id hi
    clear hE her hi
    go_wp2_with fail
    go_ret2
    exact ⟨by rw [HBAD.out.1]; rfl, S.out.bel⟩

set_option maxRecDepth 20000 in
set_option maxHeartbeats 4000000 in
theorem rFar_any (v : Value) (r : Ros) (w : World) (hv : RosAt w v r) :
    Calls Try.prog 42 #[v] w fun e w' => e = .returned (.tuple #[I (farR r).1, I (farR r).2]) ∧ Below w.heap.size w w' := by
  obtain ⟨rv, sv, rfl, hr, hs⟩ := hv
  obtain ⟨A1, c1, rfl, hr1, hr2, -⟩ := hr.open_
  obtain ⟨A2, c2, rfl, hs1, hs2, -⟩ := hs.open_
  have HR := Lib.hid hr
  have HS := Lib.hid hs
  clear hr hs
  have S := Lib.hid (show St w (w.alloc (.cells #[.slice A1 r.room.length c1, .slice A2 r.strs.length c2] 25)) (w.heap.size + 1) [.box w.heap.size [.slice A1 r.room.length c1, .slice A2 r.strs.length c2]] from (St.init w).alloc [.slice A1 r.room.length c1, .slice A2 r.strs.length c2] 25)
  have q0 := S.out.get 0 0 rfl rfl
  have q1 := S.out.get 0 1 rfl rfl
  go_enter Try.func42, Try.ntmps42
  go_wp2_with fail
  clear q0 q1
  refine (rNews_any _ r true _ ⟨_, _, rfl, HR.out.below S.out.bel, HS.out.below S.out.bel⟩).mono ?_
  rintro e w1 ⟨vn, rfl, asl, hrd, hll, hb⟩
  have S := Lib.hid (S.out.call hb)
  clear hb
  by_cases hE : newsE r true = 0
  · obtain ⟨hvd, hs⟩ := news_ok hE
    have hll2 : LL w1 asl (newsL r) := by unfold newsV at hll; rw [if_pos hE] at hll; exact hll
    rw [hE]
    obtain ⟨-, Al, cl, rfl, hl1, hl2, hlc⟩ := id hrd
    have HRD := Lib.hid hrd
    have HLC := Lib.hid hlc
    have HLL := Lib.hid hll2
    have HVD := Lib.hid hvd
    have HSS := Lib.hid hs
    have HAL := Lib.hid hll2.1
    have HPO := Lib.hid (show 0 < (newsL r).length from by
      rcases Nat.eq_zero_or_pos (newsL r).length with h | h
      · have := (news_nil hvd).1 (List.length_eq_zero_iff.1 h)
        rw [hs] at this
        cases this
      · exact h)
    clear hrd hll hll2 hlc hvd hs hE
    have hposl : 0 < asl.length := by have := HAL.out; have := HPO.out; omega
    have SB := S
    clear S
    have T := Lib.hid (St.init w1)
    have hlt := hposl
    have hk0i : (0 : Int) < (asl.length : Int) := by omega
    obtain ⟨k, hk0⟩ : ∃ k, k = 0 := ⟨0, rfl⟩
    have hlt : k < asl.length := by omega
    have hkL : k < (newsL r).length := by have := HAL.out; omega
    obtain ⟨bl, ol, e, hcl⟩ := HLC.out (by omega)
    subst e
    have y0 := hcl k asl[k] (List.getElem?_eq_getElem hlt)
    have hin := HLL.out.2 k hlt hkL
    have hnk : newB r (newsL r)[k] = true := mem_news.1 (List.getElem_mem _)
    obtain ⟨u, hu⟩ : ∃ x, asl[k] = x := ⟨_, rfl⟩
    rw [hu] at y0 hin
    have hin0 := hin
    obtain ⟨-, Au, cu, rfl, -⟩ := hin
    have HIN := Lib.hid hin0
    have Y0 := Lib.hid y0
    obtain ⟨l, hl⟩ : ∃ x, (newsL r)[k] = x := ⟨_, rfl⟩
    rw [hl] at HIN Y0 hnk
    have HL := Lib.hid hl
    have HNK := Lib.hid hnk
    clear hcl hin0 y0 hl hu hnk
    rw [hk0] at Y0
    rw [Nat.add_zero] at Y0
    obtain ⟨f0, hf0⟩ : ∃ x, farOf r.strs l = x := ⟨_, rfl⟩
    have HF0 := Lib.hid hf0
    have HMI := Lib.hid (show MinOf (farOf r.strs) (newsL r) 0 f0 from ⟨⟨k, hkL, by rw [HL.out, HF0.out]⟩, fun i _ h => absurd h (by omega)⟩)
    clear hf0
    go_wp2_with fail
    refine wp_region_seg [([0, 1, 2, 3], 4)] [5] [] 6 (by kernel_rfl) (by kernel_rfl) ?_
    intro KQ hKQ w4 hb
    have T := Lib.hid (T.out.call hb)
    clear hb
    have q0 := cell_regrown (keep_cell T.out.bel (SB.out.get 0 0 rfl rfl))
    have q1 := cell_regrown (keep_cell T.out.bel (SB.out.get 0 1 rfl rfl))
    have y0 := cell_regrown (keep_cell T.out.bel Y0.out)
    refine seg_next ?_
    simp only [opsAt, List.filterMap_cons, List.filterMap_nil, List.getElem?_toArray, List.getElem?_cons_succ, List.getElem?_cons_zero]
    repeat (first | go_big_quiet_step (fail) | quiet_step (fail))
    refine wpQuiet_nil ?_
    intro K hK
    refine loud_op rfl rfl ?_
    go_simp
    refine (farOf_any _ _ r l _ ⟨_, _, rfl, HR.out.below (bto SB.out.bel T.out.bel), HS.out.below (bto SB.out.bel T.out.bel)⟩ HVD.out (HIN.out.below T.out.bel) (InL.of_new HNK.out)).mono ?_
    rintro e w5 ⟨rfl, hb⟩
    rw [HF0.out]
    have T := Lib.hid (T.out.call hb)
    refine hK _ _ hb ?_
    clear hK K hb q0 q1 y0
    refine seg_last ?_
    simp only [opsAt, List.filterMap_cons, List.filterMap_nil, List.getElem?_toArray, List.getElem?_cons_succ, List.getElem?_cons_zero]
    repeat (first | go_big_quiet_step (fail) | quiet_step (fail))
    refine wpQuiet_nil ?_
    go_wp2_with fail
    clear HL HIN HNK Y0 HF0 hkL hlt hk0
    have HCL := Lib.hid (show ∀ j u, asl[j]? = some u → w1.cell? ⟨bl, ol + j, none⟩ = some u from by obtain ⟨b', o', e', h'⟩ := HLC.out hposl; injection e' with e'; injection e' with e6 e7 e8; subst e6; subst e7; exact h')
    go_loopw [6, 7] (fun u i wr => ∃ (k : Nat) (x : Int), k ≤ asl.length ∧ u = I x ∧ i = I k ∧ Hid (MinOf (farOf r.strs) (newsL r) k x) ∧ Hid (St w1 wr wr.heap.size [])) (fun _ i _ => asl.length - (intOf i).toNat)
    case atStart => exact ⟨0, f0, by omega, rfl, rfl, HMI, Lib.hid T.out.fix⟩
    case round =>
      clear T HMI
      obtain ⟨k, x, hk, rfl, rfl, HMI, T⟩ := hrel
      by_cases hlt : k < asl.length
      · have hki : (k : Int) < (asl.length : Int) := by omega
        have hkL : k < (newsL r).length := by have := HAL.out; omega
        have hcl := HCL.out
        have y0 := hcl k asl[k] (List.getElem?_eq_getElem hlt)
        have hin := HLL.out.2 k hlt hkL
        have hnk : newB r (newsL r)[k] = true := mem_news.1 (List.getElem_mem _)
        obtain ⟨u, hu⟩ : ∃ x, asl[k] = x := ⟨_, rfl⟩
        rw [hu] at y0 hin
        have hin0 := hin
        obtain ⟨-, Au, cu, rfl, -⟩ := hin
        have HIN := Lib.hid hin0
        have Y0 := Lib.hid y0
        obtain ⟨l, hl⟩ : ∃ x, (newsL r)[k] = x := ⟨_, rfl⟩
        rw [hl] at HIN Y0 hnk
        have HL := Lib.hid hl
        have HNK := Lib.hid hnk
        clear hcl hin0 y0 hl hu hnk
        obtain ⟨fl, hfl⟩ : ∃ x, farOf r.strs l = x := ⟨_, rfl⟩
        have HFL := Lib.hid hfl
        clear hfl
        go_wp2_with fail
        refine wp_region_seg [([0, 1, 2, 3, 4, 5], 6)] [7, 8] [] 9 (by kernel_rfl) (by kernel_rfl) ?_
        intro KQ hKQ w4 hb
        have T := Lib.hid (T.out.call hb)
        clear hb
        have q0 := cell_regrown (keep_cell T.out.bel (SB.out.get 0 0 rfl rfl))
        have q1 := cell_regrown (keep_cell T.out.bel (SB.out.get 0 1 rfl rfl))
        have y0 := cell_regrown (keep_cell T.out.bel Y0.out)
        refine seg_next ?_
        simp only [opsAt, List.filterMap_cons, List.filterMap_nil, List.getElem?_toArray, List.getElem?_cons_succ, List.getElem?_cons_zero]
        repeat (first | go_big_quiet_step (fail) | quiet_step (fail))
        refine wpQuiet_nil ?_
        intro K hK
        refine loud_op rfl rfl ?_
        go_simp
        refine (farOf_any _ _ r l _ ⟨_, _, rfl, HR.out.below (bto SB.out.bel T.out.bel), HS.out.below (bto SB.out.bel T.out.bel)⟩ HVD.out (HIN.out.below T.out.bel) (InL.of_new HNK.out)).mono ?_
        rintro e w5 ⟨rfl, hb⟩
        rw [HFL.out]
        have T := Lib.hid (T.out.call hb)
        refine hK _ _ hb ?_
        clear hK K hb q0 q1 y0
        refine seg_last ?_
        simp only [opsAt, List.filterMap_cons, List.filterMap_nil, List.getElem?_toArray, List.getElem?_cons_succ, List.getElem?_cons_zero]
        repeat (first | go_big_quiet_step (fail) | quiet_step (fail))
        refine wpQuiet_nil ?_
        have HST := HMI.out.step hkL
        rw [HL.out, HFL.out] at HST
        go_wp2_with fail
        try go_frame
        go_roundw
        case rel => exact ⟨k + 1, _, by omega, rfl, by go_num, Lib.hid HST, T⟩
        case measure => first | (simp [intOf]; done) | (simp [intOf]; omega)
      · obtain rfl : k = asl.length := by omega
        have hx : x = (farN r : Int) := by
          obtain ⟨⟨i, hi, e⟩, h2⟩ := HMI.out
          obtain ⟨l, hl, hle⟩ := farOf_le HVD.out HSS.out
          obtain ⟨j, hj, e2⟩ := List.mem_iff_getElem.1 (mem_news.2 hl)
          have a := h2 j hj (by have := HAL.out; omega)
          rw [e2] at a
          have c := farOf_ge HVD.out HSS.out (mem_news.1 (List.getElem_mem hi))
          omega
        have HRE := Lib.hid (show farR r = (x, 0) by rw [far_val HVD.out, if_pos HSS.out, hx])
        clear hx
        go_wp2_with fail
        go_ret2
        exact ⟨by rw [HRE.out]; rfl, bto SB.out.bel T.out.bel⟩
  · have HBAD := Lib.hid (news_bad rfl hE)
    obtain ⟨er, her⟩ : ∃ x, newsE r true = x := ⟨_, rfl⟩
    have hq : (er != 0) = true := by rw [← her]; simpa using hE
    rw [her] at HBAD ⊢
    obtain ⟨-, An, cn, rfl, -⟩ := id hrd
    clear hE her hrd hll
    go_wp2_with fail
    go_ret2
    exact ⟨by rw [HBAD.out.2.2.1]; rfl, S.out.bel⟩

set_option maxRecDepth 20000 in
set_option maxHeartbeats 4000000 in
theorem rFewest_any (v : Value) (r : Ros) (w : World) (hv : RosAt w v r) :
    Calls Try.prog 44 #[v] w fun e w' => e = .returned (.tuple #[I (fewestR r).1, I (fewestR r).2]) ∧ Below w.heap.size w w' := by
  obtain ⟨rv, sv, rfl, hr, hs⟩ := hv
  obtain ⟨A1, c1, rfl, hr1, hr2, -⟩ := hr.open_
  obtain ⟨A2, c2, rfl, hs1, hs2, -⟩ := hs.open_
  have HR := Lib.hid hr
  have HS := Lib.hid hs
  clear hr hs
  have S := Lib.hid (show St w (w.alloc (.cells #[.slice A1 r.room.length c1, .slice A2 r.strs.length c2] 25)) (w.heap.size + 1) [.box w.heap.size [.slice A1 r.room.length c1, .slice A2 r.strs.length c2]] from (St.init w).alloc [.slice A1 r.room.length c1, .slice A2 r.strs.length c2] 25)
  have q0 := S.out.get 0 0 rfl rfl
  have q1 := S.out.get 0 1 rfl rfl
  go_enter Try.func44, Try.ntmps44
  go_wp2_with fail
  clear q0 q1
  refine (rNews_any _ r true _ ⟨_, _, rfl, HR.out.below S.out.bel, HS.out.below S.out.bel⟩).mono ?_
  rintro e w1 ⟨vn, rfl, asl, hrd, hll, hb⟩
  have S := Lib.hid (S.out.call hb)
  clear hb
  by_cases hE : newsE r true = 0
  · obtain ⟨hvd, hs⟩ := news_ok hE
    have hll2 : LL w1 asl (newsL r) := by unfold newsV at hll; rw [if_pos hE] at hll; exact hll
    rw [hE]
    obtain ⟨-, Al, cl, rfl, hl1, hl2, hlc⟩ := id hrd
    have HRD := Lib.hid hrd
    have HLC := Lib.hid hlc
    have HLL := Lib.hid hll2
    have HVD := Lib.hid hvd
    have HSS := Lib.hid hs
    have HAL := Lib.hid hll2.1
    have HPO := Lib.hid (show 0 < (newsL r).length from by
      rcases Nat.eq_zero_or_pos (newsL r).length with h | h
      · have := (news_nil hvd).1 (List.length_eq_zero_iff.1 h)
        rw [hs] at this
        cases this
      · exact h)
    clear hrd hll hll2 hlc hvd hs hE
    have hposl : 0 < asl.length := by have := HAL.out; have := HPO.out; omega
    obtain ⟨bl, ol, e, hcl⟩ := HLC.out hposl
    subst e
    have HCL := Lib.hid hcl
    clear hcl
    have SB := S
    have q0 := SB.out.get 0 0 rfl rfl
    have q1 := SB.out.get 0 1 rfl rfl
    clear S
    have T := Lib.hid (St.init w1)
    go_wp2_with fail
    clear q0 q1
    go_loopw [6, 7] (fun u i wr => ∃ (k : Nat) (x : Int), k ≤ asl.length ∧ u = I x ∧ i = I k ∧ Hid (FewOf r (newsL r) k x) ∧ Hid (St w1 wr wr.heap.size [])) (fun _ i _ => asl.length - (intOf i).toNat)
    case atStart => exact ⟨0, _, by omega, rfl, rfl, Lib.hid ⟨.inl rfl, fun i _ h => absurd h (by omega)⟩, Lib.hid T.out.fix⟩
    case round =>
      clear T
      obtain ⟨k, x, hk, rfl, rfl, HMI, T⟩ := hrel
      by_cases hlt : k < asl.length
      · have hki : (k : Int) < (asl.length : Int) := by omega
        have hkL : k < (newsL r).length := by have := HAL.out; omega
        have hcl := HCL.out
        have y0 := hcl k asl[k] (List.getElem?_eq_getElem hlt)
        have hin := HLL.out.2 k hlt hkL
        have hnk : newB r (newsL r)[k] = true := mem_news.1 (List.getElem_mem _)
        obtain ⟨u, hu⟩ : ∃ x, asl[k] = x := ⟨_, rfl⟩
        rw [hu] at y0 hin
        have hin0 := hin
        obtain ⟨-, Au, cu, rfl, -⟩ := hin
        have HIN := Lib.hid hin0
        have Y0 := Lib.hid y0
        obtain ⟨l, hl⟩ : ∃ x, (newsL r)[k] = x := ⟨_, rfl⟩
        rw [hl] at HIN Y0 hnk
        have HL := Lib.hid hl
        have HNK := Lib.hid hnk
        clear hcl hin0 y0 hl hu hnk
        obtain ⟨ml, hml⟩ : ∃ x, (movedL r.strs l).length = x := ⟨_, rfl⟩
        have HML := Lib.hid hml
        have HMN := Lib.hid (show movedN r.strs l = (ml : Int) by rw [← moved_len2 r.strs l (goodL_length _ _ _ HNK.out), HML.out])
        clear hml
        go_wp2_with fail
        refine wp_region_seg [([0, 1, 2, 3, 4, 5], 6)] [7, 8, 9] [] 10 (by kernel_rfl) (by kernel_rfl) ?_
        intro KQ hKQ w4 hb
        have T := Lib.hid (T.out.call hb)
        clear hb
        have q0 := cell_regrown (keep_cell T.out.bel (SB.out.get 0 0 rfl rfl))
        have q1 := cell_regrown (keep_cell T.out.bel (SB.out.get 0 1 rfl rfl))
        have y0 := cell_regrown (keep_cell T.out.bel Y0.out)
        refine seg_next ?_
        simp only [opsAt, List.filterMap_cons, List.filterMap_nil, List.getElem?_toArray, List.getElem?_cons_succ, List.getElem?_cons_zero]
        repeat (first | go_big_quiet_step (fail) | quiet_step (fail))
        refine wpQuiet_nil ?_
        intro K hK
        refine loud_op rfl rfl ?_
        go_simp
        refine (movedOf_any _ _ r l _ ⟨_, _, rfl, HR.out.below (bto SB.out.bel T.out.bel), HS.out.below (bto SB.out.bel T.out.bel)⟩ HVD.out (HIN.out.below T.out.bel) (InL.of_new HNK.out)).mono ?_
        rintro e w5 ⟨vm, rfl, hown, hb⟩
        obtain ⟨Am, cm, rfl⟩ := own_shape hown
        clear hown
        rw [HML.out]
        have T := Lib.hid (T.out.call hb)
        refine hK _ _ hb ?_
        clear hK K hb q0 q1 y0
        refine seg_last ?_
        simp only [opsAt, List.filterMap_cons, List.filterMap_nil, List.getElem?_toArray, List.getElem?_cons_succ, List.getElem?_cons_zero]
        repeat (first | go_big_quiet_step (fail) | quiet_step (fail))
        refine wpQuiet_nil ?_
        have HST := HMI.out.step hkL
        rw [HL.out, HMN.out] at HST
        go_wp2_with fail
        try go_frame
        go_roundw
        case rel => exact ⟨k + 1, _, by omega, rfl, by go_num, Lib.hid HST, T⟩
        case measure => first | (simp [intOf]; done) | (simp [intOf]; omega)
      · obtain rfl : k = asl.length := by omega
        have hx : x = (bestR onceI r).1 := by
          obtain ⟨h1, h2⟩ := HMI.out
          obtain ⟨⟨l, hl, hle⟩, hge⟩ := fewest_real HVD.out HSS.out
          obtain ⟨j, hj, e2⟩ := List.mem_iff_getElem.1 (mem_news.2 hl)
          have a := h2 j hj (by have := HAL.out; omega)
          rw [e2] at a
          have d := (movedN_bd r.strs l).2
          rcases h1 with e | ⟨i, hi, e⟩
          · omega
          · have c := hge _ (mem_news.1 (List.getElem_mem hi))
            omega
        have HRE := Lib.hid (show fewestR r = (x, 0) by rw [fewest_val HVD.out, if_pos HSS.out, hx])
        clear hx
        go_wp2_with fail
        go_ret2
        exact ⟨by rw [HRE.out]; rfl, bto SB.out.bel T.out.bel⟩
  · have HBAD := Lib.hid (news_bad rfl hE)
    obtain ⟨er, her⟩ : ∃ x, newsE r true = x := ⟨_, rfl⟩
    have hq : (er != 0) = true := by rw [← her]; simpa using hE
    rw [her] at HBAD ⊢
    obtain ⟨-, An, cn, rfl, -⟩ := id hrd
    clear hE her hrd hll
    go_wp2_with fail
    go_ret2
    exact ⟨by rw [HBAD.out.2.2.2.1]; rfl, S.out.bel⟩

/-- Of a list, as far as a loop has come, what is so. -/
def selTo {α : Type} (p : α → Bool) (L : List α) (k : Nat) : List α := (L.take k).filter p
theorem selTo_yes {α : Type} {p : α → Bool} {L : List α} {k : Nat} (h : k < L.length) (hn : p L[k] = true) : selTo p L (k + 1) = selTo p L k ++ [L[k]] := by
  unfold selTo
  rw [List.take_succ_eq_append_getElem h, List.filter_append, List.filter_cons_of_pos hn]
  rfl
theorem selTo_no {α : Type} {p : α → Bool} {L : List α} {k : Nat} (h : k < L.length) (hn : p L[k] = false) : selTo p L (k + 1) = selTo p L k := by
  unfold selTo
  rw [List.take_succ_eq_append_getElem h, List.filter_append, List.filter_cons_of_neg (by rw [hn]; simp)]
  simp
theorem newsL_len {r : Ros} (h : ROk r) : (newsL r).length ≤ 262144 := by
  unfold newsL
  exact Nat.le_trans (List.length_filter_le _ _) (Nat.le_trans (allFrom_len _ h.strs _) (pow8 h.sl))

set_option maxRecDepth 20000 in
set_option maxHeartbeats 4000000 in
theorem rFair_any (v : Value) (r : Ros) (w : World) (hv : RosAt w v r) :
    Calls Try.prog 46 #[v] w fun e w' => ∃ v', e = .returned (.tuple #[v', I (fairR r).2]) ∧ Ints w' v' (fairR r).1 ∧ Below w.heap.size w w' := by
  obtain ⟨iT, hiT, hzT0, hzT1, hzT2⟩ := info_parts (P := Try.prog) (e := 22) (z := .slice none 0 0) (size := 1) (bytes := 24) (by kernel_rfl)
  have h02 : 0 < 1 := by omega
  obtain ⟨rv, sv, rfl, hr, hs⟩ := hv
  obtain ⟨A1, c1, rfl, hr1, hr2, -⟩ := hr.open_
  obtain ⟨A2, c2, rfl, hs1, hs2, -⟩ := hs.open_
  have HR := Lib.hid hr
  have HS := Lib.hid hs
  clear hr hs
  have S := Lib.hid (show St w (w.alloc (.cells #[.slice A1 r.room.length c1, .slice A2 r.strs.length c2] 25)) (w.heap.size + 1) [.box w.heap.size [.slice A1 r.room.length c1, .slice A2 r.strs.length c2]] from (St.init w).alloc [.slice A1 r.room.length c1, .slice A2 r.strs.length c2] 25)
  have q0 := S.out.get 0 0 rfl rfl
  have q1 := S.out.get 0 1 rfl rfl
  go_enter Try.func46, Try.ntmps46
  go_wp2_with fail
  clear q0 q1
  refine (rNews_any _ r true _ ⟨_, _, rfl, HR.out.below S.out.bel, HS.out.below S.out.bel⟩).mono ?_
  rintro e w1 ⟨vn, rfl, asl, hrd, hll, hb⟩
  have S := Lib.hid (S.out.call hb)
  clear hb
  by_cases hE : newsE r true = 0
  · obtain ⟨hvd, hs⟩ := news_ok hE
    have hll2 : LL w1 asl (newsL r) := by unfold newsV at hll; rw [if_pos hE] at hll; exact hll
    rw [hE]
    obtain ⟨-, Al, cl, rfl, hl1, hl2, hlc⟩ := id hrd
    have HRD := Lib.hid hrd
    have HLC := Lib.hid hlc
    have HLL := Lib.hid hll2
    have HVD := Lib.hid hvd
    have HSS := Lib.hid hs
    have HAL := Lib.hid hll2.1
    have HPO := Lib.hid (show 0 < (newsL r).length from by
      rcases Nat.eq_zero_or_pos (newsL r).length with h | h
      · have := (news_nil hvd).1 (List.length_eq_zero_iff.1 h)
        rw [hs] at this
        cases this
      · exact h)
    clear hrd hll hll2 hlc hvd hs hE
    have hposl : 0 < asl.length := by have := HAL.out; have := HPO.out; omega
    obtain ⟨bl, ol, e, hcl⟩ := HLC.out hposl
    subst e
    have HCL := Lib.hid hcl
    clear hcl
    have SB := S
    have q0 := SB.out.get 0 0 rfl rfl
    have q1 := SB.out.get 0 1 rfl rfl
    go_wp2_with fail
    clear q0 q1
    refine (rFar_any _ r _ ⟨_, _, rfl, HR.out.below S.out.bel, HS.out.below S.out.bel⟩).mono ?_
    rintro e w2 ⟨rfl, hb⟩
    have hfv : farR r = ((farN r : Int), 0) := by rw [far_val HVD.out, if_pos HSS.out]
    rw [hfv]
    clear S hfv
    have T := Lib.hid (((St.init w1).call hb).nil 22 1)
    clear hb
    obtain ⟨fa, hfa⟩ : ∃ x, (farN r : Int) = x := ⟨_, rfl⟩
    rw [hfa]
    have HFA := Lib.hid hfa
    clear hfa
    go_wp2_with fail
    go_loopw [8, 9] (fun u i wr => ∃ (k : Nat) (vo : Value) (cs : List Value), k ≤ asl.length ∧ vo = u ∧ i = I k ∧ Hid (LL w1 cs (selTo (fun l => decide (farOf r.strs l ≤ (farN r : Int))) (newsL r) k)) ∧ Hid (St w1 wr wr.heap.size [.own 22 1 vo cs.length cs])) (fun _ i _ => asl.length - (intOf i).toNat)
    case atStart => exact ⟨0, _, [], by omega, rfl, rfl, Lib.hid ⟨rfl, fun i h1 _ => absurd h1 (by simp)⟩, Lib.hid T.out.fix⟩
    case round =>
      clear T
      obtain ⟨k, vo, cs, hk, rfl, rfl, HC, T⟩ := hrel
      by_cases hlt : k < asl.length
      · have hki : (k : Int) < (asl.length : Int) := by omega
        have hkL : k < (newsL r).length := by have := HAL.out; omega
        have hcl := HCL.out
        have y0 := hcl k asl[k] (List.getElem?_eq_getElem hlt)
        have hin := HLL.out.2 k hlt hkL
        have hnk : newB r (newsL r)[k] = true := mem_news.1 (List.getElem_mem _)
        obtain ⟨u, hu⟩ : ∃ x, asl[k] = x := ⟨_, rfl⟩
        rw [hu] at y0 hin
        have hin0 := hin
        obtain ⟨-, Au, cu, rfl, -⟩ := hin
        have HIN := Lib.hid hin0
        have Y0 := Lib.hid y0
        obtain ⟨l, hl⟩ : ∃ x, (newsL r)[k] = x := ⟨_, rfl⟩
        rw [hl] at HIN Y0 hnk
        have HL := Lib.hid hl
        have HNK := Lib.hid hnk
        clear hcl hin0 y0 hl hu hnk
        obtain ⟨fl, hfl⟩ : ∃ x, farOf r.strs l = x := ⟨_, rfl⟩
        have HFL := Lib.hid hfl
        clear hfl
        go_wp2_with fail
        refine wp_region_seg [([0, 1, 2, 3, 4, 6], 5)] [7] [] 8 (by kernel_rfl) (by kernel_rfl) ?_
        intro KQ hKQ w4 hb
        have T := Lib.hid (T.out.call hb)
        clear hb
        have q0 := cell_regrown (keep_cell T.out.bel (SB.out.get 0 0 rfl rfl))
        have q1 := cell_regrown (keep_cell T.out.bel (SB.out.get 0 1 rfl rfl))
        have y0 := cell_regrown (keep_cell T.out.bel Y0.out)
        refine seg_next ?_
        simp only [opsAt, List.filterMap_cons, List.filterMap_nil, List.getElem?_toArray, List.getElem?_cons_succ, List.getElem?_cons_zero]
        repeat (first | go_big_quiet_step (fail) | quiet_step (fail))
        refine wpQuiet_nil ?_
        intro K hK
        refine loud_op rfl rfl ?_
        go_simp
        refine (farOf_any _ _ r l _ ⟨_, _, rfl, HR.out.below (bto SB.out.bel T.out.bel), HS.out.below (bto SB.out.bel T.out.bel)⟩ HVD.out (HIN.out.below T.out.bel) (InL.of_new HNK.out)).mono ?_
        rintro e w5 ⟨rfl, hb⟩
        rw [HFL.out]
        have T := Lib.hid (T.out.call hb)
        refine hK _ _ hb ?_
        clear hK K hb q0 q1 y0
        refine seg_last ?_
        simp only [opsAt, List.filterMap_cons, List.filterMap_nil, List.getElem?_toArray, List.getElem?_cons_succ, List.getElem?_cons_zero]
        repeat (first | go_big_quiet_step (fail) | quiet_step (fail))
        refine wpQuiet_nil ?_
        have hcl2 : cs.length ≤ 262144 := by
          rw [HC.out.1]
          unfold selTo
          have := List.length_filter_le (fun l => decide (farOf r.strs l ≤ (farN r : Int))) ((newsL r).take k)
          have h2 := newsL_len HVD.out
          rw [List.length_take] at this
          omega
        by_cases hle : fl ≤ fa
        · have HNX := Lib.hid (selTo_yes (p := (fun l => decide (farOf r.strs l ≤ (farN r : Int)))) hkL (by rw [HL.out, HFL.out, HFA.out]; simpa using hle))
          rw [HL.out] at HNX
          have y0 := keep_cell T.out.bel Y0.out
          have h63 : cs.length + 1 ≤ maxLen := by simp only [maxLen]; omega
          have hby : (cs.length + 1) * 24 ≤ 140737488355328 := by omega
          have T := Lib.hid (T.out.alloc [.slice Au l.length cu] 22)
          go_wp2_with (at_builtin; refine wpList_append_St T.out 1 rfl _ _ 78 rfl 22 iT (.slice none 0 0) 1 24 Try.underlying78 hiT hzT0 hzT1 hzT2 rfl h02 rfl rfl _ 1 [.slice Au l.length cu] rfl (reads_box1 (T.out.get 0 0 rfl rfl)) (fun u hu => by rw [List.mem_singleton.1 hu]; rfl) h63 hby ?_; intro v' w6 hS6; have T := Lib.hid hS6.tail; clear hS6)
          clear y0
          try go_frame
          go_roundw
          case rel => exact ⟨k + 1, _, cs ++ [.slice Au l.length cu], by omega, rfl, by go_num, Lib.hid (by rw [HNX.out]; exact HC.out.snoc HIN.out), Lib.hid (by rw [List.length_append]; exact T.out)⟩
          case measure => first | (simp [intOf]; done) | (simp [intOf]; omega)
        · have HNX := Lib.hid (selTo_no (p := (fun l => decide (farOf r.strs l ≤ (farN r : Int)))) hkL (by rw [HL.out, HFL.out, HFA.out]; simpa using hle))
          go_wp2_with fail
          try go_frame
          go_roundw
          case rel => exact ⟨k + 1, vo, cs, by omega, rfl, by go_num, Lib.hid (by rw [HNX.out]; exact HC.out), T⟩
          case measure => first | (simp [intOf]; done) | (simp [intOf]; omega)
      · obtain rfl : k = asl.length := by omega
        have hall : selTo (fun l => decide (farOf r.strs l ≤ (farN r : Int))) (newsL r) asl.length = (newsL r).filter (fun l => decide (farOf r.strs l ≤ (farN r : Int))) := by unfold selTo; rw [HAL.out, List.take_length]
        rw [hall] at HC
        have hmin := fair_min HVD.out HSS.out
        rw [near_filter HVD.out] at hmin
        have HMIN := Lib.hid hmin
        have HRE := Lib.hid (show fairR r = (rosterP (upToI (farN r : Int)) r.strs (pad r.room), 0) by unfold fairR; rw [least_val HVD.out, if_pos HSS.out]; rfl)
        clear hall hmin
        have q0 := keep_cell T.out.bel (SB.out.get 0 0 rfl rfl)
        have q1 := keep_cell T.out.bel (SB.out.get 0 1 rfl rfl)
        go_wp2_with fail
        clear q0 q1
        refine (rLeast0_any _ _ r cs _ _ _ ⟨_, _, rfl, HR.out.below (bto SB.out.bel T.out.bel), HS.out.below (bto SB.out.bel T.out.bel)⟩ HVD.out (T.out.row 0 rfl) (HC.out.below T.out.bel) (fun l hl => mem_news.1 (List.mem_filter.1 hl).1) HMIN.out).mono ?_
        rintro e w7 ⟨v', rfl, hi, hb⟩
        have T := Lib.hid (T.out.call hb)
        clear hb
        go_wp2_with fail
        go_ret2
        exact ⟨v', by rw [HRE.out]; rfl, by rw [HRE.out]; exact hi, bto SB.out.bel T.out.bel⟩
  · have HBAD := Lib.hid (news_bad rfl hE)
    obtain ⟨er, her⟩ : ∃ x, newsE r true = x := ⟨_, rfl⟩
    have hq : (er != 0) = true := by rw [← her]; simpa using hE
    rw [her] at HBAD ⊢
    obtain ⟨-, An, cn, rfl, -⟩ := id hrd
    clear hE her hrd hll
    go_wp2_with fail
    go_ret2
    exact ⟨.slice none 0 0, by rw [HBAD.out.2.2.2.2]; rfl, by rw [HBAD.out.2.2.2.2]; exact ints_nil _, S.out.bel⟩

end Go.Proofs.Ytokendenofbnhaa

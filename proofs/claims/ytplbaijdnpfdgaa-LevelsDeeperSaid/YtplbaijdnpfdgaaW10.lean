/- Walks: same. -/
import Derived.Test.YtplbaijdnpfdgaaW9
import Derived.Test.YtplbaijdnpfdgaaSegIn
import Derived.Test.YtplbaijdnpfdgaaEq
namespace Go.Proofs.Ytplbaijdnpfdgaa
open Go.RowKit Go.Sort Go.Shelf
attribute [local go_sem] Oper.semAt_some

/-- Whether bounds leave the same levels. -/
def sameL (ms mo : List Int) (xs : List Nat) : Bool := xs.all fun x => lvl ms x == lvl mo x
theorem sameL_snoc (ms mo : List Int) (xs : List Nat) (x : Nat) : sameL ms mo (xs ++ [x]) = (sameL ms mo xs && (lvl ms x == lvl mo x)) := by simp [sameL]

set_option maxRecDepth 100000 in
set_option maxHeartbeats 4000000 in
theorem same_any (B Bo N : Nat) (ms mo : List Int) (w : World) (hm : MatAt w B ms) (hmo : MatAt w Bo mo) (hN : N ≤ 6) (hok : Okm ms) (hoo : Okm mo) :
    Calls Try.prog 92 #[.pointer (some ⟨B, 0, none⟩), .pointer (some ⟨Bo, 0, none⟩), I (N : Nat)] w fun e w' => e = .returned (.bool (sameL ms mo (List.range N))) ∧ Below w.heap.size w w' := by
  have S := Lib.hid (show St w ((w.alloc (.cells #[.pointer (some ⟨Bo, 0, none⟩)] 81)).alloc (.cells #[.bool false] 4)) (w.heap.size + 1 + 1) [.box (w.heap.size + 1) [.bool false], .box w.heap.size [.pointer (some ⟨Bo, 0, none⟩)]] from ((St.init w).alloc [.pointer (some ⟨Bo, 0, none⟩)] 81).alloc [.bool false] 4)
  have HM := Lib.hid hm
  have HMO := Lib.hid hmo
  have HOK := Lib.hid hok
  have HOO := Lib.hid hoo
  clear hm hmo hok hoo
  refine calls_of_marks Try.func92 rfl ?_
  simp only [Try.ntmps92, List.size_toArray, List.length_cons, List.length_nil, Nat.reduceAdd, Nat.reduceSub, Array.replicate_succ, Array.replicate_zero, List.push_toArray, List.append_toArray, List.nil_append, List.cons_append]
  go_wp2_with fail
  refine (levels_any B N _).mono ?_
  rintro e w1 ⟨rfl, rfl⟩
  have S := Lib.hid ((S.out.alloc [.pointer (some ⟨B, 0, none⟩)] 81).alloc [I (N : Nat)] 3)
  go_wp2_with fail
  obtain ⟨WB, hWB⟩ : ∃ WB, (((w.alloc (.cells #[.pointer (some ⟨Bo, 0, none⟩)] 81)).alloc (.cells #[.bool false] 4)).alloc (.cells #[.pointer (some ⟨B, 0, none⟩)] 81)).alloc (.cells #[I (N : Nat)] 3) = WB := ⟨_, rfl⟩
  rw [hWB] at S ⊢
  clear hWB
  have S := Lib.hid S.out.fix
  have c0 := S.out.get 0 0 rfl rfl
  have c1 := S.out.get 1 0 rfl rfl
  have hbs := S.out.bel.size
  have hl0 := S.out.lt 0 rfl
  have hBw := HM.out.lt
  have hBo := HMO.out.lt
  refine (wpIn_wide (n := 5)).1 ?_
  refine wpIn_rangeFunc_R (F := Fence.wide) rfl (by omega) (gf := 107) (lb := #[.pointer (some ⟨w.heap.size + 1 + 1 + 1, 0, none⟩), .pointer (some ⟨w.heap.size + 1 + 1, 0, none⟩)]) rfl trivial (enters_of Try.func107 (by kernel_rfl) rfl)
    (levels_seq WB _ _ B N ms hN HOK.out c0 c1 (HM.out.below S.out.bel)) (fun h k => h.trans k) (KpK.putObj (by intro k hk; simp at hk; omega)) (Below.refl _ _) (fun _ => rfl)
    (fun pre W => (Hid (pre = List.range pre.length) ∧ pre.length ≤ N ∧ Hid (sameL ms mo pre = true)) ∧ St w W W.heap.size [.box (w.heap.size + 1 + 1 + 1) [I (N : Nat)], .box (w.heap.size + 1 + 1) [.pointer (some ⟨B, 0, none⟩)], .box (w.heap.size + 1) [.bool false], .box w.heap.size [.pointer (some ⟨Bo, 0, none⟩)]])
    (fun c pre W => (Hid (pre = List.range pre.length) ∧ pre.length ≤ N ∧ Hid (sameL ms mo pre = false)) ∧ Hid (c = .ret) ∧ St w W W.heap.size [.box (w.heap.size + 1 + 1 + 1) [I (N : Nat)], .box (w.heap.size + 1 + 1) [.pointer (some ⟨B, 0, none⟩)], .box (w.heap.size + 1) [.bool false], .box w.heap.size [.pointer (some ⟨Bo, 0, none⟩)]]) ?hI ?hIx (fun _ _ => trivial) ⟨⟨Lib.hid rfl, by simp, Lib.hid rfl⟩, S.out⟩
    (fun pre x a' W => ((Hid (pre = List.range pre.length) ∧ pre.length ≤ N ∧ Hid (sameL ms mo pre = true)) ∧ Hid (x = pre.length) ∧ x < N) ∧ ∃ Bx, St w W W.heap.size (.box Bx [I (lvl ms x).low, I (lvl ms x).high] :: [.box (w.heap.size + 1 + 1 + 1) [I (N : Nat)], .box (w.heap.size + 1 + 1) [.pointer (some ⟨B, 0, none⟩)], .box (w.heap.size + 1) [.bool false], .box w.heap.size [.pointer (some ⟨Bo, 0, none⟩)]]) ∧
      a' = { tmps := #[.pointer (some ⟨B, 0, none⟩), .pointer (some ⟨Bo, 0, none⟩), I (N : Nat), undef, .pointer (some ⟨w.heap.size, 0, none⟩), undef, .pointer (some ⟨w.heap.size + 1, 0, none⟩), I (x : Nat), .pointer (some ⟨Bx, 0, none⟩), .pointer (some ⟨B, 0, none⟩), I (N : Nat), .func (.func 107) #[] #[.pointer (some ⟨w.heap.size + 1 + 1 + 1, 0, none⟩), .pointer (some ⟨w.heap.size + 1 + 1, 0, none⟩)], I (x : Nat), (lvl ms x).val, undef, undef, undef, undef, undef], defers := [] }) ?hAx ?assign ?body ?done ?stop
  case hI => exact fun s A B' row hs hg hr => ⟨hs.1, hs.2.other hg hr (by omega) (by simp [Item.cel])⟩
  case hIx => exact fun c s A B' row hs hg hr => ⟨hs.1, hs.2.1, hs.2.2.other hg hr (by omega) (by simp [Item.cel])⟩
  case hAx =>
    rintro pre x a' _ A B' row ⟨h1, Bx, h2, h3⟩ hg hr
    exact ⟨h1, Bx, h2.other hg hr (by omega) (by simp [Item.cel]), h3⟩
  case assign =>
    rintro l pre x W K ⟨h1, h2⟩ ⟨hR, hRN⟩ hK
    have S2 := Lib.hid (h2.alloc [I (lvl ms x).low, I (lvl ms x).high] 40)
    have hKs : ∀ k ∈ [w.heap.size + 1 + 1 + 1, w.heap.size + 1 + 1, B], k < W.heap.size := by
      intro k hk
      have := h2.lt 0 rfl
      simp at hk
      omega
    have HR := Lib.hid hR
    clear hR
    simp only [encL]
    gi_wp2
    exact hK _ _ ((KeepsOthers.alloc _ _).from _) (KpK.below ((Below.refl _ _).alloc (Nat.le_refl _) _) hKs) ⟨h1, S2.out.tail.fix⟩ ⟨⟨h1, HR.out, hRN⟩, W.heap.size, S2.out.fix, rfl⟩
  case body =>
    rintro l pre x a' W hl ⟨r, hr⟩ - ⟨⟨⟨h1, h1', h4⟩, h2, h3⟩, Bx, hS, rfl⟩
    have S := Lib.hid hS
    clear hS
    have hKs : ∀ k ∈ [w.heap.size + 1 + 1 + 1, w.heap.size + 1 + 1, B], k < W.heap.size := by
      intro k hk
      have := S.out.lt 1 rfl
      simp at hk
      omega
    have hx6 : x < 7 := by omega
    gi_wp2_with fail
    refine wpIn_region_seg [([0, 1, 2], 3)] [4] [] 5 (by kernel_rfl) (by kernel_rfl) ?_
    intro KQ hKQ w2 hb
    have HB := Lib.hid hb
    have S := Lib.hid (S.out.call hb)
    clear hb
    have k0 := cell_regrown (S.out.get 0 0 rfl rfl)
    have k1 := cell_regrown (S.out.get 0 1 rfl rfl)
    have k2 := cell_regrown (S.out.get 4 0 rfl rfl)
    refine seg_next ?_
    simp only [opsAt, List.filterMap_cons, List.filterMap_nil, List.getElem?_toArray, List.getElem?_cons_succ, List.getElem?_cons_zero]
    repeat (first | go_big_quiet_step (fail) | quiet_step (fail))
    refine wpQuiet_nil ?_
    intro K hK
    refine loud_op rfl rfl ?_
    go_simp
    refine (span_any Bo 6 x mo w2 (HMO.out.below S.out.bel) HOO.out.1 (by omega) (by omega) (by omega) (by omega) (by simpa using (HOO.out.2 x hx6).1) (by simpa using (HOO.out.2 x hx6).2)).mono ?_
    rintro e w3 ⟨rfl, hb⟩
    have HB2 := Lib.hid (bto HB.out hb)
    have S := Lib.hid (S.out.call hb)
    refine hK _ _ hb ?_
    clear hK K hb k0 k1 k2
    rw [show (6 : Int).toNat = 6 from rfl, Int.toNat_natCast]
    refine seg_last ?_
    simp only [opsAt, List.filterMap_cons, List.filterMap_nil, List.getElem?_toArray, List.getElem?_cons_succ, List.getElem?_cons_zero]
    have hg := guardT40
    have HB3 := Lib.hid (KpK.below HB2.out hKs)
    have hsn := sameL_snoc ms mo pre x
    rw [h4.out, Bool.true_and] at hsn
    have hrg : pre ++ [x] = List.range (pre ++ [x]).length := by rw [List.length_append, List.length_singleton, List.range_succ, h2.out, ← h1.out]
    have HRG := Lib.hid hrg
    have HLN := Lib.hid (show (pre ++ [x]).length ≤ N by simp; have := h2.out; omega)
    have S := Lib.hid S.out.tail
    obtain ⟨⟨p1, p2⟩, hp⟩ : ∃ a, lvl ms x = a := ⟨_, rfl⟩
    obtain ⟨⟨r1, r2⟩, hr'⟩ : ∃ a, lvl mo x = a := ⟨_, rfl⟩
    rw [show (⟨-at_ mo x 6, at_ mo 6 x⟩ : Sp) = ⟨r1, r2⟩ from hr', hp]
    rw [hp, hr'] at hsn
    have HSN := Lib.hid hsn
    clear hp hr' hrg hsn hl hr
    by_cases e1 : p1 = r1
    · subst e1
      by_cases e2 : p2 = r2
      · subst e2
        have HE := Lib.hid (show sameL ms mo (pre ++ [x]) = true by rw [HSN.out]; simp)
        repeat (first | go_big_quiet_step (fail) | quiet_step (fail))
        refine wpQuiet_nil ?_
        gi_wp2
        refine hKQ _ _ ?_
        gi_wp2
        exact ⟨(ko_below HB2.out).from _, HB3.out, ⟨HRG, HLN.out, HE⟩, S.out⟩
      · have HE := Lib.hid (show sameL ms mo (pre ++ [x]) = false by rw [HSN.out]; simp [e2])
        repeat (first | go_big_quiet_step (fail) | quiet_step (fail))
        refine wpQuiet_nil ?_
        have q0 := S.out.get 2 0 rfl rfl
        have z0 := S.out.free 2 0 rfl
        have HC := Lib.hid (show KeepsOthers w3 (w3.setCell ⟨w.heap.size + 1, 0, none⟩ (.bool false)) from KeepsOthers.setCell _ _ _)
        have S2 := Lib.hid (S.out.set 2 0 (.bool false) rfl)
        gi_wp2
        refine hKQ _ _ ?_
        gi_wp2
        exact ⟨((ko_below HB2.out).trans HC.out).from _, ⟨HRG, HLN.out, HE⟩, Lib.hid rfl, S2.out.fix⟩
    · have HE := Lib.hid (show sameL ms mo (pre ++ [x]) = false by rw [HSN.out]; simp [e1])
      repeat (first | go_big_quiet_step (fail) | quiet_step (fail))
      refine wpQuiet_nil ?_
      have q0 := S.out.get 2 0 rfl rfl
      have z0 := S.out.free 2 0 rfl
      have HC := Lib.hid (show KeepsOthers w3 (w3.setCell ⟨w.heap.size + 1, 0, none⟩ (.bool false)) from KeepsOthers.setCell _ _ _)
      have S2 := Lib.hid (S.out.set 2 0 (.bool false) rfl)
      gi_wp2
      refine hKQ _ _ ?_
      gi_wp2
      exact ⟨((ko_below HB2.out).trans HC.out).from _, ⟨HRG, HLN.out, HE⟩, Lib.hid rfl, S2.out.fix⟩
  case done =>
    rintro D xs W hD rfl ⟨⟨h1, h1', h4⟩, hS⟩ hK
    have q0 := hS.get 2 0 rfl rfl
    have z0 := hS.free 2 0 rfl
    have S2 := Lib.hid (hS.set 2 0 (.bool true) rfl)
    have HK2 := (KeepsOthers.setCell W ⟨w.heap.size + 1, 0, none⟩ (.bool true)).same D _ hK rfl
    clear q0
    have q0 := hS.get 2 0 rfl rfl
    go_wp2_with fail
    refine ⟨by simp, .inl ⟨_, _, rfl, run_takeDeferred HK2, ?_⟩⟩
    have S3 := S2.out.fix.putD (D := D) (by omega) HK2 rfl (.deferred none) (by simp [Item.cel])
    have q1 := S3.get 2 0 rfl rfl
    refine ⟨.bool true, ?_, by rw [h4.out], S3.bel⟩
    simp [results, Try.results92, go_sem, q1]
  case stop =>
    rintro D c pre W hD _ ⟨⟨h1, h1', h4⟩, hc, hS⟩ hK
    obtain rfl := hc.out
    have q0 := hS.get 2 0 rfl rfl
    gi_wp2
    refine ⟨by simp, .inl ⟨_, _, rfl, run_takeDeferred hK, ?_⟩⟩
    have S3 := hS.putD (D := D) (by omega) hK rfl (.deferred none) (by simp [Item.cel])
    have q1 := S3.get 2 0 rfl rfl
    refine ⟨.bool false, ?_, ?_, S3.bel⟩
    · simp [results, Try.results92, go_sem, q1]
    · have hall : sameL ms mo (List.range N) = false := by
        have h5 := h4.out
        rw [h1.out] at h5
        unfold sameL at h5 ⊢
        rw [List.all_eq_false] at h5 ⊢
        obtain ⟨y, hy, hy'⟩ := h5
        exact ⟨y, by rw [List.mem_range] at hy ⊢; omega, hy'⟩
      rw [hall]

end Go.Proofs.Ytplbaijdnpfdgaa

/- Walks: leave, sound, slope, span. -/
import Derived.Test.YtplbaijdnpfdgaaBase
namespace Go.Proofs.Ytplbaijdnpfdgaa
open Go.RowKit Go.Sort

set_option maxRecDepth 20000 in
set_option maxHeartbeats 1000000 in
theorem leave_any (B : Nat) (f t x : Int) (ms : List Int) (w : World) (hm : MatAt w B ms) (hl : ms.length = 49) (hf : 0 ≤ f) (hf' : f < 7) (ht : 0 ≤ t) (ht' : t < 7) :
    Calls Try.prog 103 #[.pointer (some ⟨B, 0, none⟩), I f, I t, I x] w fun e w' => e = .returned unitV ∧ w.grownBy w' (some B) ∧ MatAt w' B (leave ms f.toNat t.toNat x) := by
  obtain ⟨f, rfl⟩ := Int.eq_ofNat_of_zero_le hf
  obtain ⟨t, rfl⟩ := Int.eq_ofNat_of_zero_le ht
  go_enter Try.func103, Try.ntmps103
  go_wp2_with fail
  refine wp_region_treeB (.last [0, 1, 2, 3, 4, 5, 6, 7, 8, 9, 10, 11, 12, 13, 14] [15]) 15 (by kernel_rfl) (by kernel_rfl) ?_
  intro KQ hKQ w1 hb
  have hm1 := hm.below hb
  have hc := hm1.cell f t (by omega)
  have kc := cell_regrown hc
  have hz := hm1.free (f * 7 + t)
  refine treeB_last ?_
  simp only [opsAt, List.filterMap_cons, List.filterMap_nil, List.getElem?_toArray, List.getElem?_cons_succ, List.getElem?_cons_zero]
  repeat (first | go_big_quiet_step (fail) | quiet_step (fail))
  refine wpQuiet_nil ?_
  go_wp2_with fail
  all_goals
    go_end0
    refine ⟨rfl, grown_trans' (grown_of_below hb _) (grown_setCell _ _ _), ?_⟩
    have hs := hm1.set f t (min (at_ ms f t) x)
    first
      | (rw [Int.min_eq_left (by omega)] at hs; simpa [leave, Int.min_eq_left (show at_ ms f t ≤ x by omega)] using hs)
      | (rw [Int.min_eq_right (by omega)] at hs; simpa [leave, Int.min_eq_right (show x ≤ at_ ms f t by omega)] using hs)

/-- What is known of the bounds behind a world. -/
theorem mat_step {w w1 w2 : World} {B : Nat} (h : w.grownBy w1 (some B)) (k : w1.grownBy w2 (some B)) : w.grownBy w2 (some B) := grown_trans' h k

set_option maxRecDepth 20000 in
set_option maxHeartbeats 1000000 in
theorem sound_any (B : Nat) (s : Snd) (ms : List Int) (w : World) (hm : MatAt w B ms) (hl : ms.length = 49) (h0 : 0 ≤ s.well) (h1 : s.well < 6) (h2 : -1000 ≤ s.low) (h3 : s.low ≤ 1000) :
    Calls Try.prog 79 #[.pointer (some ⟨B, 0, none⟩), s.val] w fun e w' => e = .returned unitV ∧ w.grownBy w' (some B) ∧ MatAt w' B (soundM ms s) := by
  obtain ⟨sw, sl, sh⟩ := s
  dsimp only at h0 h1 h2 h3
  have hb0 : Below w.heap.size w (w.alloc (.cells #[I sw, I sl, I sh] 57)) := (Below.refl _ _).alloc (Nat.le_refl _) _
  have S := Lib.hid (show St w (w.alloc (.cells #[I sw, I sl, I sh] 57)) (w.heap.size + 1) [.box w.heap.size [I sw, I sl, I sh]] from (St.init w).alloc [I sw, I sl, I sh] 57)
  have hBlt := hm.lt
  have HM := Lib.hid hm
  have HL := Lib.hid hl
  have HB0 := Lib.hid hb0
  clear hm hl hb0
  go_enter Try.func79, Try.ntmps79
  go_wp2_with fail
  refine (leave_any B 6 sw sh ms _ (HM.out.below HB0.out) HL.out (by omega) (by omega) h0 (by omega)).mono ?_
  rintro e w1 ⟨rfl, hg, hm1⟩
  have hne : w.heap.size ≠ B := by omega
  have hblk : w1.heap[w.heap.size]? = (w.alloc (.cells #[I sw, I sl, I sh] 57)).heap[w.heap.size]? := hg.block _ (by simp) (by simp; omega)
  have e0 : ∀ o, w1.cell? ⟨w.heap.size, o, none⟩ = (w.alloc (.cells #[I sw, I sl, I sh] 57)).cell? ⟨w.heap.size, o, none⟩ := fun o => by simp only [World.cell?, hblk]
  have k0 : w1.cell? ⟨w.heap.size, 0, none⟩ = some (I sw) := (e0 0).trans (S.out.get 0 0 rfl rfl)
  have k1 : w1.cell? ⟨w.heap.size, 1, none⟩ = some (I sl) := (e0 1).trans (S.out.get 0 1 rfl rfl)
  have HM1 := Lib.hid hm1
  have HG := Lib.hid hg
  clear hm1 hg e0 hblk
  go_wp2_with fail
  refine (leave_any B sw 6 (-sl) _ _ HM1.out (by rw [leave_len]; exact HL.out) h0 (by omega) (by omega) (by omega)).mono ?_
  rintro e w2 ⟨rfl, hg2, hm2⟩
  go_wp2_with fail
  go_end0
  exact ⟨rfl, grown_trans' (grown_of_below HB0.out _) (grown_trans' HG.out hg2), hm2⟩

set_option maxRecDepth 20000 in
set_option maxHeartbeats 1000000 in
theorem slope_any (B : Nat) (s : Slp) (ms : List Int) (w : World) (hm : MatAt w B ms) (hl : ms.length = 49) (h0 : 0 ≤ s.a) (h1 : s.a < 6) (h0' : 0 ≤ s.b) (h1' : s.b < 6) (h2 : -1000 ≤ s.low) (h3 : s.low ≤ 1000) :
    Calls Try.prog 80 #[.pointer (some ⟨B, 0, none⟩), s.val] w fun e w' => e = .returned unitV ∧ w.grownBy w' (some B) ∧ MatAt w' B (slopeM ms s) := by
  obtain ⟨sa, sb, sl, sh⟩ := s
  dsimp only at h0 h1 h0' h1' h2 h3
  have hb0 : Below w.heap.size w (w.alloc (.cells #[I sa, I sb, I sl, I sh] 47)) := (Below.refl _ _).alloc (Nat.le_refl _) _
  have S := Lib.hid (show St w (w.alloc (.cells #[I sa, I sb, I sl, I sh] 47)) (w.heap.size + 1) [.box w.heap.size [I sa, I sb, I sl, I sh]] from (St.init w).alloc [I sa, I sb, I sl, I sh] 47)
  have hBlt := hm.lt
  have HM := Lib.hid hm
  have HL := Lib.hid hl
  have HB0 := Lib.hid hb0
  clear hm hl hb0
  go_enter Try.func80, Try.ntmps80
  go_wp2_with fail
  refine (leave_any B sa sb sh ms _ (HM.out.below HB0.out) HL.out h0 (by omega) h0' (by omega)).mono ?_
  rintro e w1 ⟨rfl, hg, hm1⟩
  have hne : w.heap.size ≠ B := by omega
  have hblk : w1.heap[w.heap.size]? = (w.alloc (.cells #[I sa, I sb, I sl, I sh] 47)).heap[w.heap.size]? := hg.block _ (by simp) (by simp; omega)
  have e0 : ∀ o, w1.cell? ⟨w.heap.size, o, none⟩ = (w.alloc (.cells #[I sa, I sb, I sl, I sh] 47)).cell? ⟨w.heap.size, o, none⟩ := fun o => by simp only [World.cell?, hblk]
  have k0 : w1.cell? ⟨w.heap.size, 0, none⟩ = some (I sa) := (e0 0).trans (S.out.get 0 0 rfl rfl)
  have k1 : w1.cell? ⟨w.heap.size, 1, none⟩ = some (I sb) := (e0 1).trans (S.out.get 0 1 rfl rfl)
  have k2 : w1.cell? ⟨w.heap.size, 2, none⟩ = some (I sl) := (e0 2).trans (S.out.get 0 2 rfl rfl)
  have HM1 := Lib.hid hm1
  have HG := Lib.hid hg
  clear hm1 hg e0 hblk
  go_wp2_with fail
  refine (leave_any B sb sa (-sl) _ _ HM1.out (by rw [leave_len]; exact HL.out) h0' (by omega) h0 (by omega)).mono ?_
  rintro e w2 ⟨rfl, hg2, hm2⟩
  go_wp2_with fail
  go_end0
  exact ⟨rfl, grown_trans' (grown_of_below HB0.out _) (grown_trans' HG.out hg2), hm2⟩

set_option maxRecDepth 20000 in
set_option maxHeartbeats 1000000 in
theorem span_any (B : Nat) (f t : Int) (ms : List Int) (w : World) (hm : MatAt w B ms) (hl : ms.length = 49) (hf : 0 ≤ f) (hf' : f < 7) (ht : 0 ≤ t) (ht' : t < 7) (hbd : -9000000000 ≤ at_ ms t.toNat f.toNat) (hbd' : at_ ms t.toNat f.toNat ≤ 9000000000) :
    Calls Try.prog 83 #[.pointer (some ⟨B, 0, none⟩), I f, I t] w fun e w' => e = .returned (Sp.val ⟨-at_ ms t.toNat f.toNat, at_ ms f.toNat t.toNat⟩) ∧ Below w.heap.size w w' := by
  obtain ⟨f, rfl⟩ := Int.eq_ofNat_of_zero_le hf
  obtain ⟨t, rfl⟩ := Int.eq_ofNat_of_zero_le ht
  rw [Int.toNat_natCast, Int.toNat_natCast] at *
  have S := Lib.hid (show St w (w.alloc (.cells #[I 0, I 0] 40)) (w.heap.size + 1) [.box w.heap.size [I 0, I 0]] from (St.init w).alloc [I 0, I 0] 40)
  go_enter Try.func83, Try.ntmps83
  go_wp2_with fail
  refine wp_region_treeB (.last [0, 1, 2, 3, 4, 5, 6, 7, 8, 9, 10, 11, 12, 13, 14, 15] [16]) 16 (by kernel_rfl) (by kernel_rfl) ?_
  intro KQ hKQ w1 hb
  have S := Lib.hid (S.out.call hb)
  have hm1 := hm.below S.out.bel
  have kc := cell_regrown (hm1.cell t f (by omega))
  have kc' := cell_regrown (hm1.cell f t (by omega))
  refine treeB_last ?_
  simp only [opsAt, List.filterMap_cons, List.filterMap_nil, List.getElem?_toArray, List.getElem?_cons_succ, List.getElem?_cons_zero]
  repeat (first | go_big_quiet_step (fail) | quiet_step (fail))
  refine wpQuiet_nil ?_
  have q0 := S.out.get 0 0 rfl rfl
  have q1 := S.out.get 0 1 rfl rfl
  have z0 := S.out.free 0 0 rfl
  have z1 := S.out.free 0 1 rfl
  clear kc kc'
  go_wp2_with fail
  have hlt := S.out.base 0 rfl
  refine bodyPost_ret (v := Sp.val ⟨-at_ ms t f, at_ ms f t⟩) (by simp [results, Try.results83, go_sem, q0, q1]) rfl ⟨rfl, ?_⟩
  exact (S.out.bel.setCell (by simp) _).setCell (by simp) _
end Go.Proofs.Ytplbaijdnpfdgaa

/- Walks: width. -/
import Derived.Test.YtplbaijdnpfdgaaW8
import Derived.Shelf.Abstract
namespace Go.Proofs.Ytplbaijdnpfdgaa
open Go.RowKit Go.Sort Go.Shelf
attribute [local go_sem] Oper.semAt_some

/-- How wide the levels are together. -/
def widL (ms : List Int) (xs : List Nat) : Int := (xs.map fun x => (lvl ms x).high - (lvl ms x).low).sum
theorem widL_snoc (ms : List Int) (xs : List Nat) (x : Nat) : widL ms (xs ++ [x]) = widL ms xs + ((lvl ms x).high - (lvl ms x).low) := by simp [widL]
/-- Levels of wells that are small numbers. -/
def Sml (ms : List Int) (N : Nat) : Prop := ∀ i, i < N → -99 ≤ (lvl ms i).low ∧ (lvl ms i).low ≤ 99 ∧ -99 ≤ (lvl ms i).high ∧ (lvl ms i).high ≤ 99
theorem widL_bd {ms : List Int} {N : Nat} (h : Sml ms N) (hN : N ≤ 6) : ∀ k, k ≤ N → -198 * k ≤ widL ms (List.range k) ∧ widL ms (List.range k) ≤ 198 * k
  | 0, _ => by simp [widL]
  | k + 1, hk => by
    have := widL_bd h hN k (by omega)
    have := h k (by omega)
    rw [List.range_succ, widL_snoc]
    omega

set_option maxRecDepth 100000 in
set_option maxHeartbeats 4000000 in
theorem width_any (B N : Nat) (ms : List Int) (w : World) (hm : MatAt w B ms) (hN : N ≤ 6) (hok : Okm ms) (hs : Sml ms N) :
    Calls Try.prog 93 #[.pointer (some ⟨B, 0, none⟩), I (N : Nat)] w fun e w' => e = .returned (I (widL ms (List.range N))) ∧ Below w.heap.size w w' := by
  have S := Lib.hid (show St w (w.alloc (.cells #[I 0] 3)) (w.heap.size + 1) [.box w.heap.size [I 0]] from (St.init w).alloc [I 0] 3)
  have HM := Lib.hid hm
  have HOK := Lib.hid hok
  have HS := Lib.hid hs
  clear hm hok hs
  refine calls_of_marks Try.func93 rfl ?_
  simp only [Try.ntmps93, List.size_toArray, List.length_cons, List.length_nil, Nat.reduceAdd, Nat.reduceSub, Array.replicate_succ, Array.replicate_zero, List.push_toArray, List.append_toArray, List.nil_append, List.cons_append]
  go_wp2_with fail
  refine (levels_any B N _).mono ?_
  rintro e w1 ⟨rfl, rfl⟩
  have S := Lib.hid ((S.out.alloc [.pointer (some ⟨B, 0, none⟩)] 81).alloc [I (N : Nat)] 3)
  go_wp2_with fail
  obtain ⟨WB, hWB⟩ : ∃ WB, ((w.alloc (.cells #[I 0] 3)).alloc (.cells #[.pointer (some ⟨B, 0, none⟩)] 81)).alloc (.cells #[I (N : Nat)] 3) = WB := ⟨_, rfl⟩
  rw [hWB] at S ⊢
  clear hWB
  have S := Lib.hid S.out.fix
  have c0 := S.out.get 0 0 rfl rfl
  have c1 := S.out.get 1 0 rfl rfl
  have hbs := S.out.bel.size
  have hl0 := S.out.lt 0 rfl
  have hBw := HM.out.lt
  refine (wpIn_wide (n := 5)).1 ?_
  refine wpIn_rangeFunc_R (F := Fence.wide) rfl (by omega) (gf := 107) (lb := #[.pointer (some ⟨w.heap.size + 1 + 1, 0, none⟩), .pointer (some ⟨w.heap.size + 1, 0, none⟩)]) rfl trivial (enters_of Try.func107 (by kernel_rfl) rfl)
    (levels_seq WB _ _ B N ms hN HOK.out c0 c1 (HM.out.below S.out.bel)) (fun h k => h.trans k) (KpK.putObj (by intro k hk; simp at hk; omega)) (Below.refl _ _) (fun _ => rfl)
    (fun pre W => (Hid (pre = List.range pre.length) ∧ pre.length ≤ N) ∧ St w W W.heap.size [.box (w.heap.size + 1 + 1) [I (N : Nat)], .box (w.heap.size + 1) [.pointer (some ⟨B, 0, none⟩)], .box w.heap.size [I (widL ms pre)]])
    (fun _ _ _ => False) ?hI (fun _ _ _ _ _ hs _ _ => hs) (fun _ _ => trivial) ⟨⟨Lib.hid rfl, by simp⟩, S.out⟩
    (fun pre x a' W => ((Hid (pre = List.range pre.length) ∧ pre.length ≤ N) ∧ x = pre.length ∧ x < N) ∧ ∃ Bx, St w W W.heap.size [.box Bx [I (lvl ms x).low, I (lvl ms x).high], .box (w.heap.size + 1 + 1) [I (N : Nat)], .box (w.heap.size + 1) [.pointer (some ⟨B, 0, none⟩)], .box w.heap.size [I (widL ms pre)]] ∧
      a' = { tmps := #[.pointer (some ⟨B, 0, none⟩), I (N : Nat), undef, undef, I 0, .pointer (some ⟨w.heap.size, 0, none⟩), undef, .pointer (some ⟨Bx, 0, none⟩), .pointer (some ⟨B, 0, none⟩), I (N : Nat), .func (.func 107) #[] #[.pointer (some ⟨w.heap.size + 1 + 1, 0, none⟩), .pointer (some ⟨w.heap.size + 1, 0, none⟩)], I (x : Nat), (lvl ms x).val, undef, undef, undef, undef, undef, undef, undef, undef], defers := [] }) ?hAx ?assign ?body ?done ?stop
  case hI => exact fun s A B' row hs hg hr => ⟨hs.1, hs.2.other hg hr (by omega) (by simp [Item.cel])⟩
  case hAx =>
    rintro pre x a' _ A B' row ⟨h1, Bx, h2, h3⟩ hg hr
    exact ⟨h1, Bx, h2.other hg hr (by omega) (by simp [Item.cel]), h3⟩
  case assign =>
    rintro l pre x W K ⟨h1, h2⟩ hR hK
    have S2 := Lib.hid (h2.alloc [I (lvl ms x).low, I (lvl ms x).high] 40)
    have hKs : ∀ k ∈ [w.heap.size + 1 + 1, w.heap.size + 1, B], k < W.heap.size := by
      intro k hk
      have := h2.lt 0 rfl
      simp at hk
      omega
    have HR := Lib.hid hR
    clear hR
    simp only [encL]
    gi_wp2
    exact hK _ _ ((KeepsOthers.alloc _ _).from _) (KpK.below ((Below.refl _ _).alloc (Nat.le_refl _) _) hKs) ⟨h1, S2.out.tail.fix⟩ ⟨⟨h1, HR.out⟩, W.heap.size, S2.out.fix, rfl⟩
  case body =>
    rintro l pre x a' W hl ⟨r, hr⟩ - ⟨⟨⟨h1, h1'⟩, h2, h3⟩, Bx, hS, rfl⟩
    have hbw := widL_bd HS.out hN _ h1'
    rw [← h1.out] at hbw
    have hsm := HS.out x h3
    obtain ⟨sm1, sm2, sm3, sm4⟩ := hsm
    obtain ⟨bw1, bw2⟩ := hbw
    have hp6 : pre.length ≤ 6 := by omega
    have hsn := widL_snoc ms pre x
    have S2 := Lib.hid (hS.set 3 0 (I (widL ms pre + ((lvl ms x).high - (lvl ms x).low))) rfl)
    have hfin := Lib.hid (show (Hid (pre ++ [x] = List.range (pre ++ [x]).length) ∧ (pre ++ [x]).length ≤ N) ∧ St w (W.setCell ⟨w.heap.size, 0, none⟩ (I (widL ms pre + ((lvl ms x).high - (lvl ms x).low)))) (W.setCell ⟨w.heap.size, 0, none⟩ (I (widL ms pre + ((lvl ms x).high - (lvl ms x).low)))).heap.size [.box (w.heap.size + 1 + 1) [I (N : Nat)], .box (w.heap.size + 1) [.pointer (some ⟨B, 0, none⟩)], .box w.heap.size [I (widL ms (pre ++ [x]))]] from ⟨⟨Lib.hid (by
      rw [List.length_append, List.length_singleton, List.range_succ, h2, ← h1.out]), by simp; omega⟩, by rw [hsn]; exact S2.out.tail.fix⟩)
    have HK := Lib.hid (show KpK [w.heap.size + 1 + 1, w.heap.size + 1, B] W (W.setCell ⟨w.heap.size, 0, none⟩ (I (widL ms pre + ((lvl ms x).high - (lvl ms x).low)))) from KpK.setCell (by intro k hk; simp at hk; show k ≠ w.heap.size; omega))
    have p0 := hS.get 0 0 rfl rfl
    have p1 := hS.get 0 1 rfl rfl
    have q0 := hS.get 3 0 rfl rfl
    have z0 := hS.free 3 0 rfl
    clear hsn hS S2 hr hl h2
    gi_wp2
    exact ⟨(KeepsOthers.setCell _ _ _).from _, HK.out, hfin.out⟩
  case done =>
    rintro D xs W hD rfl ⟨h1, hS⟩ hK
    have q0 := hS.get 2 0 rfl rfl
    go_wp2_with fail
    refine ⟨by simp, .inl ⟨_, _, rfl, run_takeDeferred hK, ?_⟩⟩
    refine ⟨_, results_tmp rfl _ _ _, rfl, (hS.putD (by omega) hK rfl _ (by simp [Item.cel])).bel⟩
  case stop =>
    rintro D c pre W _ _ h _
    exact h.elim
end Go.Proofs.Ytplbaijdnpfdgaa

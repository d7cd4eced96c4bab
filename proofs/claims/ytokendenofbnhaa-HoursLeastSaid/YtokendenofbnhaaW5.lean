/- Walks: with, hire. -/
import Derived.Test.YtokendenofbnhaaW4
namespace Go.Proofs.Ytokendenofbnhaa
open Go.RowKit Go.Sort

set_option maxRecDepth 20000 in
set_option maxHeartbeats 4000000 in
theorem with_any (k h : Int) (left : List Int) (w : World) (hk : StOk k left) (hh0 : 0 ≤ h) (hh1 : h ≤ 7) :
    Calls Try.prog 93 #[stV k left, I h] w fun e w' => e = .returned (stV (k + 1) (dec left h)) ∧ Below w.heap.size w w' := by
  obtain ⟨hlen, h0, h1, hb⟩ := hk
  match left, hlen, hb with
  | [a, b, c, d, e, f, g, i], _, hb =>
    have ba := hb a (by simp)
    have bb := hb b (by simp)
    have bc := hb c (by simp)
    have bd := hb d (by simp)
    have be := hb e (by simp)
    have bf := hb f (by simp)
    have bg := hb g (by simp)
    have bi := hb i (by simp)
    clear hb
    have hc : h = 0 ∨ h = 1 ∨ h = 2 ∨ h = 3 ∨ h = 4 ∨ h = 5 ∨ h = 6 ∨ h = 7 := by omega
    rcases hc with rfl | rfl | rfl | rfl | rfl | rfl | rfl | rfl
    · show Calls Try.prog 93 #[.agg #[I k, I a, I b, I c, I d, I e, I f, I g, I i], I 0] w _
      go_enter Try.func93, Try.ntmps93
      go_wp2_with fail
      refine bodyPost_ret (v := .agg #[I (k + 1), I (a - 1), I b, I c, I d, I e, I f, I g, I i]) (by simp [results, Try.results93, go_sem]) rfl ⟨rfl, ?_⟩
      repeat (first | exact Below.refl _ _ | refine Below.setCell ?_ (by simp) _ | refine Below.alloc ?_ (by simp) _)
    · show Calls Try.prog 93 #[.agg #[I k, I a, I b, I c, I d, I e, I f, I g, I i], I 1] w _
      go_enter Try.func93, Try.ntmps93
      go_wp2_with fail
      refine bodyPost_ret (v := .agg #[I (k + 1), I a, I (b - 1), I c, I d, I e, I f, I g, I i]) (by simp [results, Try.results93, go_sem]) rfl ⟨rfl, ?_⟩
      repeat (first | exact Below.refl _ _ | refine Below.setCell ?_ (by simp) _ | refine Below.alloc ?_ (by simp) _)
    · show Calls Try.prog 93 #[.agg #[I k, I a, I b, I c, I d, I e, I f, I g, I i], I 2] w _
      go_enter Try.func93, Try.ntmps93
      go_wp2_with fail
      refine bodyPost_ret (v := .agg #[I (k + 1), I a, I b, I (c - 1), I d, I e, I f, I g, I i]) (by simp [results, Try.results93, go_sem]) rfl ⟨rfl, ?_⟩
      repeat (first | exact Below.refl _ _ | refine Below.setCell ?_ (by simp) _ | refine Below.alloc ?_ (by simp) _)
    · show Calls Try.prog 93 #[.agg #[I k, I a, I b, I c, I d, I e, I f, I g, I i], I 3] w _
      go_enter Try.func93, Try.ntmps93
      go_wp2_with fail
      refine bodyPost_ret (v := .agg #[I (k + 1), I a, I b, I c, I (d - 1), I e, I f, I g, I i]) (by simp [results, Try.results93, go_sem]) rfl ⟨rfl, ?_⟩
      repeat (first | exact Below.refl _ _ | refine Below.setCell ?_ (by simp) _ | refine Below.alloc ?_ (by simp) _)
    · show Calls Try.prog 93 #[.agg #[I k, I a, I b, I c, I d, I e, I f, I g, I i], I 4] w _
      go_enter Try.func93, Try.ntmps93
      go_wp2_with fail
      refine bodyPost_ret (v := .agg #[I (k + 1), I a, I b, I c, I d, I (e - 1), I f, I g, I i]) (by simp [results, Try.results93, go_sem]) rfl ⟨rfl, ?_⟩
      repeat (first | exact Below.refl _ _ | refine Below.setCell ?_ (by simp) _ | refine Below.alloc ?_ (by simp) _)
    · show Calls Try.prog 93 #[.agg #[I k, I a, I b, I c, I d, I e, I f, I g, I i], I 5] w _
      go_enter Try.func93, Try.ntmps93
      go_wp2_with fail
      refine bodyPost_ret (v := .agg #[I (k + 1), I a, I b, I c, I d, I e, I (f - 1), I g, I i]) (by simp [results, Try.results93, go_sem]) rfl ⟨rfl, ?_⟩
      repeat (first | exact Below.refl _ _ | refine Below.setCell ?_ (by simp) _ | refine Below.alloc ?_ (by simp) _)
    · show Calls Try.prog 93 #[.agg #[I k, I a, I b, I c, I d, I e, I f, I g, I i], I 6] w _
      go_enter Try.func93, Try.ntmps93
      go_wp2_with fail
      refine bodyPost_ret (v := .agg #[I (k + 1), I a, I b, I c, I d, I e, I f, I (g - 1), I i]) (by simp [results, Try.results93, go_sem]) rfl ⟨rfl, ?_⟩
      repeat (first | exact Below.refl _ _ | refine Below.setCell ?_ (by simp) _ | refine Below.alloc ?_ (by simp) _)
    · show Calls Try.prog 93 #[.agg #[I k, I a, I b, I c, I d, I e, I f, I g, I i], I 7] w _
      go_enter Try.func93, Try.ntmps93
      go_wp2_with fail
      refine bodyPost_ret (v := .agg #[I (k + 1), I a, I b, I c, I d, I e, I f, I g, I (i - 1)]) (by simp [results, Try.results93, go_sem]) rfl ⟨rfl, ?_⟩
      repeat (first | exact Below.refl _ _ | refine Below.setCell ?_ (by simp) _ | refine Below.alloc ?_ (by simp) _)

set_option maxRecDepth 20000 in
set_option maxHeartbeats 1000000 in
theorem hire_any (v : Value) (g : Fn) (l1 l2 : Array Value) (r : Ros) (orc : Nat → List Int → Int × Int) (w : World) (hv : RosAt w v r) :
    Calls Try.prog 76 #[v, .func g l1 l2] w fun e w' => ∃ c m rv sv, v = .agg #[rv, sv] ∧ e = .returned (.pointer (some ⟨c, 0, none⟩)) ∧ St w w' w'.heap.size [.box c [rv, sv, .func g l1 l2, .map (some m)], .any m (MemoP orc)] := by
  obtain ⟨rv, sv, rfl, hr, hs⟩ := hv
  obtain ⟨A, c, rfl, h1, h2, -⟩ := hr.open_
  obtain ⟨A', c', rfl, h3, h4, -⟩ := hs.open_
  clear hr hs
  have hmm := @run_makeMap Try.prog
  go_enter Try.func76, Try.ntmps76
  go_wp2_with fail
  go_ret
  refine ⟨w.heap.size + 2, w.heap.size + 1, _, _, rfl, rfl, ?_⟩
  have S := (((St.init w).alloc' (.cells #[.slice A r.room.length c, .slice A' r.strs.length c'] 25)).allocO (.map #[] 0) (MemoP orc) (MemoP.new orc)).alloc [.slice A r.room.length c, .slice A' r.strs.length c', .func g l1 l2, .map (some (w.heap.size + 1))] 100
  exact S.call (Below.refl _ _)

end Go.Proofs.Ytokendenofbnhaa

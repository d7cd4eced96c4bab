/- The row TopRained, proved: WHATEVER THE INPUT, true; the input reads as it did. Conditions: none. -/
import Derived.Test.YtpolipcicfjkiaaK41
namespace Go.Proofs.Ytpolipcicfjkiaa
open Go.ChangeShapes Go.WideShapes Go.ChangeAt Go.RowKit Go.Deep Go.Joins

set_option maxRecDepth 100000 in
theorem topRained_lifted (os : Os) (started : os.Started) (H : Type) (enc : TypeId × Value → H) :
    ReturnsInLeavingWide {} Try.checked os 3 .any (Rows.topRainedSpec.pre6 enc Try.prog Try.f3 Rows.topRainedRow.domain false) (Rows.topRainedSpec.post enc Try.prog Try.f3 false true false false) := by
  refine returnsInLeavingWide_of_change_sized (C := Try.checked) Try.own started Try.func3
    (ChangeSpec.witness6 (enc := enc) (C := Try.checked) false ⟨#[], #[.agg #[.int .i64 0, .int .i64 0, .slice none 0 0], .agg #[.slice none 0 0, .slice none 0 0], .agg #[.int .i64 0, .int .i64 0, .int .i64 0, .int .i64 0]], []⟩ 8 (by kernel_rfl) (by kernel_rfl) (by kernel_rfl) (by kernel_rfl)) ?_
  intro W base args ds gs before hval0 hW hcnd _ _
  have hval : ∀ (j : Nat) t v, Try.f3.params[j]? = some t → args[j]? = some v → Value.okWide Try.prog W .any base t v := hval0
  have hW' := hW
  obtain ⟨p, q, hA0, hV, rfl, hfz, hnd⟩ := hW
  have hA : DataW.TrodAll enc Try.prog W 0 (fun _ => true) true Try.f3.params.toList args.toList ds p := hA0
  rw [Try.params3] at hA hval
  obtain ⟨v0, v1, v2, d0, d1, d2, p0, p1, p2, rfl, rfl, rfl, h0, h1, h2⟩ := trodAll_three hA
  obtain ⟨rfl, rfl⟩ := trodVars_none hV
  obtain ⟨y, hy⟩ := open_year (hval 0 24 v0 rfl rfl) h0
  obtain ⟨D, hD⟩ := open_line (hval 1 28 v1 rfl rfl) h1
  obtain ⟨pt, lo, hi, day, rfl⟩ := open_rained (hval 2 32 v2 rfl rfl) h2
  clear hA0 hval0
  have hlt : ∀ x ∈ p0 ++ p1 ++ p2, x.block < W.heap.size := fun x hx => hW'.lt x (by simpa using hx)
  refine top_fin hy hD fun W' hO => ?_
  have hb : Below W.heap.size W W' := ⟨hO.os, hO.tape, hO.out, hO.size, hO.kept⟩
  exact post_of_below (pa := p0 ++ p1 ++ p2) (pv := []) hW' (fun _ _ _ => trodAll_mk1 (shut_bool Try.underlying4 true)) (fun sp hsp0 => by
      have hsp : ∀ x ∈ p0 ++ p1 ++ p2, sp x.block = true := fun x hx => hsp0 x (by simpa using hx)
      have := trodAll_mk3 (stays (by kernel_rfl) (of_decide_eq_true (by kernel_rfl)) h0 hb hlt (by simp +contextual) sp hsp) (stays (by kernel_rfl) (of_decide_eq_true (by kernel_rfl)) h1 hb hlt (by simp +contextual) sp hsp) (stays (by kernel_rfl) (of_decide_eq_true (by kernel_rfl)) h2 hb hlt (by simp +contextual) sp hsp)
      rw [List.append_assoc]
      exact this) (fun _ _ => rfl) (by simp) hb (ok_one (by kernel_rfl) rfl (okWide_bool_mk Try.underlying4 true))

theorem topRained_holds : Rows.TopRainedSaid :=
  OpenClaim.holds_of_wide_leaving 3 Try.f3 rfl rfl rfl rfl rfl rfl rfl ⟨rfl, rfl, rfl, rfl, rfl⟩ rfl rfl rfl rfl rfl (by kernel_rfl) Try.func3 (by kernel_rfl)
    (of_decide_eq_true (by kernel_rfl)) (by unfold Func.isWrapper; first | (rw [if_pos (by decide +kernel)]; kernel_rfl) | (rw [if_neg (by decide +kernel)]; exact ⟨rfl, rfl⟩))
    (fun os started H enc _ => topRained_lifted os started H enc)
#print axioms topRained_holds
end Go.Proofs.Ytpolipcicfjkiaa

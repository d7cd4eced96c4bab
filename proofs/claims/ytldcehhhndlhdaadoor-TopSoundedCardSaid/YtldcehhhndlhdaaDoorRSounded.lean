/- The row TopSounded: whatever the two towns, the town of quarrels and the Sunk: true, and the arguments read as they did; the table of bits is as the program's text lays it. -/
import Derived.Test.YtldcehhhndlhdaaDoorLSounded
import Derived.Test.YtldcehhhndlhdaaDoorC21
import Derived.Test.YtldcehhhndlhdaaDoorRows
import Derived.ProofKit
import Derived.LaidMore
import Derived.Carry
import Derived.Stop.Joined
namespace Go.Proofs.YtldcehhhndlhdaaDoor
open Go.ChangeShapes Go.WideShapes Go.ChangeAt Go.RowKit Go.Deep Go.Joins

theorem g64 : Tryd.prog.globalNamed "math/bits.deBruijn64tab" = some 2 := by kernel_rfl
theorem t64 : (Tryd.prog.globals[2]?).map (·.type) = some 159 := by kernel_rfl
def tab64 : List Int := [0, 1, 56, 2, 57, 49, 28, 3, 61, 58, 42, 50, 38, 29, 17, 4, 62, 47, 59, 36, 45, 43, 51, 22, 53, 39, 33, 30, 24, 18, 12, 5, 63, 55, 48, 27, 60, 41, 37, 16, 46, 35, 44, 21, 52, 32, 23, 11, 54, 26, 40, 15, 34, 20, 31, 10, 25, 14, 19, 9, 13, 8, 7, 6]
def laidS : List (String × DataW Unit) := [("math/bits.deBruijn32tab", Rows.laid_math_bits_deBruijn32tab), ("math/bits.deBruijn64tab", Rows.laid_math_bits_deBruijn64tab)]
/-- The door's own heap meets the condition. -/
theorem door_met (os : Os) (args : Array Value) : laidMetH Tryd.prog laidS ((World.doorLaid Tryd.prog 24 os).forCall (fun _ _ => 0) ⟨#[], args, []⟩).memory :=
  laidMetH_of_parts3 (fuel := 8) (laidMet_of_run' 8 (by kernel_rfl) (by kernel_rfl)) (by kernel_rfl) (by kernel_rfl)
theorem tz_of_laid {W : World} (h : laidMetH Tryd.prog laidS W) : TzAt W := by
  rw [MakeChecks.laidMetH_plain _ _ _ (by kernel_rfl)] at h
  have h2 : laidMet Tryd.prog [("math/bits.deBruijn64tab", Lib.tabData .u8 tab64)] W := h.tail
  have ht := Lib.tabIs_of_head g64 t64 Tryd.underlying159 Tryd.underlying5 (by kernel_rfl) (by kernel_rfl) h2
  intro k
  match k with
  | ⟨0, _⟩ => exact ht.cell g64 0 (by decide)
  | ⟨1, _⟩ => exact ht.cell g64 1 (by decide)
  | ⟨2, _⟩ => exact ht.cell g64 3 (by decide)
  | ⟨3, _⟩ => exact ht.cell g64 7 (by decide)
  | ⟨4, _⟩ => exact ht.cell g64 15 (by decide)
  | ⟨5, _⟩ => exact ht.cell g64 31 (by decide)

set_option maxRecDepth 100000 in
theorem topSounded_lifted (os : Os) (started : os.Started) (H : Type) (enc : TypeId × Value → H) :
    ReturnsInHanded {} Tryd.checked os 3 .any (fun w args => (Rows.topSoundedSpec.pre enc Tryd.prog Tryd.f3 [] false w args ∧ laidMetH Tryd.prog laidS w) ∧ sizedMet enc Tryd.prog Tryd.f3 (OpenSpec.ofChange Rows.topSoundedSpec) false w args)
      (Rows.topSoundedSpec.post enc Tryd.prog Tryd.f3 false true false false) := by
  refine returnsInHanded_of_change_and (C := Tryd.checked) (X := fun w _ => laidMetH Tryd.prog laidS w) (fun _ _ _ hh h => h.of_heap hh) Tryd.own started (by kernel_rfl) Tryd.func3
    (ChangeSpec.witness_shaped (enc := enc) (C := Tryd.checked) (os := os) (X := fun w _ => laidMetH Tryd.prog laidS w) false (World.doorLaid Tryd.prog 24 os) #[.agg #[.int .i64 0, .slice none 0 0, .slice none 0 0], .agg #[.int .i64 0, .slice none 0 0, .slice none 0 0], .agg #[.int .i64 0, .slice none 0 0, .slice none 0 0], .agg #[.int .i64 0, .int .i64 0, .int .i64 0, .int .i64 0, .int .i64 0, .int .i64 0, .int .i64 0]] 8 rfl (World.shaped_of_RefB (by kernel_rfl) (by kernel_rfl)) (by kernel_rfl) (by kernel_rfl) (by kernel_rfl) (door_met os _)) ?_
  intro W base args ds gs before hval0 hW _ _ hL _
  have hval : ∀ (j : Nat) t v, Tryd.f3.params[j]? = some t → args[j]? = some v → Value.okWide Tryd.prog W .any base t v := hval0
  have hW' := hW
  obtain ⟨p, q, hA0, hV, rfl, hfz, hnd⟩ := hW
  have hA : DataW.TrodAll enc Tryd.prog W 0 (fun _ => true) true Tryd.f3.params.toList args.toList ds p := hA0
  rw [Tryd.params3] at hA hval
  obtain ⟨v0, v1, v2, v3, d0, d1, d2, d3, p0, p1, p2, p3, rfl, rfl, rfl, h0, h1, h2, h3⟩ := trodAll_four hA
  obtain ⟨rfl, rfl⟩ := trodVars_none hV
  obtain ⟨D0, hD0⟩ := open_twn (hval 0 25 v0 rfl rfl) h0
  obtain ⟨D1, hD1⟩ := open_twn (hval 1 25 v1 rfl rfl) h1
  obtain ⟨D2, hD2⟩ := open_quarrel (hval 2 29 v2 rfl rfl) h2
  obtain ⟨x3, y3, z3, u3, s3, rfl⟩ := open_sunk (hval 3 33 v3 rfl rfl) h3
  clear hA0 hval0
  have hlt : ∀ x ∈ p0 ++ (p1 ++ (p2 ++ p3)), x.block < W.heap.size := fun x hx => hW'.lt x (by simpa using hx)
  refine (topSounded_any v0 v1 v2 D0 D1 D2 x3 y3 z3 u3 s3 W hD0 hD1 hD2 (tz_of_laid hL)).mono fun e W' ⟨he, hb⟩ => ?_
  subst he
  exact ⟨_, rfl, post_of_below (pa := p0 ++ (p1 ++ (p2 ++ p3))) (pv := []) hW' (fun _ _ _ => trodAll_mk1 (shut_bool Tryd.underlying4 true)) (fun sp hsp0 => by
      have hsp : ∀ x ∈ p0 ++ (p1 ++ (p2 ++ p3)), sp x.block = true := fun x hx => hsp0 x (by simpa using hx)
      exact trodAll_mk4 (stays (by kernel_rfl) (of_decide_eq_true (by kernel_rfl)) h0 hb hlt (by simp +contextual) sp hsp) (stays (by kernel_rfl) (of_decide_eq_true (by kernel_rfl)) h1 hb hlt (by simp +contextual) sp hsp) (stays (by kernel_rfl) (of_decide_eq_true (by kernel_rfl)) h2 hb hlt (by simp +contextual) sp hsp) (stays (by kernel_rfl) (of_decide_eq_true (by kernel_rfl)) h3 hb hlt (by simp +contextual) sp hsp)) (fun _ _ => rfl) (by simp) hb (ok_one (by kernel_rfl) rfl (okWide_bool_mk Tryd.underlying4 true))⟩

theorem topSounded_row_holds : Rows.TopSoundedSaid :=
  OpenClaim.holds_of_wide 3 Tryd.f3 rfl rfl rfl rfl rfl rfl rfl ⟨rfl, rfl, rfl, rfl, rfl⟩ rfl rfl rfl rfl rfl (by kernel_rfl) Tryd.func3 (by kernel_rfl)
    (of_decide_eq_true (by kernel_rfl)) (by unfold Func.isWrapper; first | (rw [if_pos (by decide +kernel)]; kernel_rfl) | (rw [if_neg (by decide +kernel)]; exact ⟨rfl, rfl⟩))
    (fun os started H enc _ => topSounded_lifted os started H enc)
end Go.Proofs.YtldcehhhndlhdaaDoor

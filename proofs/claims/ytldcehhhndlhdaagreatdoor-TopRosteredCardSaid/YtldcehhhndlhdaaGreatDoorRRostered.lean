/- The row TopRostered: whatever the roster: true, and it reads as it did; the tables of bits and the wish of none are as the program's text lays them. -/
import Derived.Test.YtldcehhhndlhdaaGreatDoorLRostered
import Derived.Test.YtldcehhhndlhdaaGreatDoorC33
import Derived.Test.YtldcehhhndlhdaaGreatDoorRows
import Derived.ProofKit
import Derived.LaidMore
import Derived.Carry
import Derived.Stop.Joined
namespace Go.Proofs.YtldcehhhndlhdaaGreatDoor
open Go.ChangeShapes Go.WideShapes Go.ChangeAt Go.RowKit Go.Deep Go.Joins

theorem gNone : Tryz.prog.globalNamed "steening/buckets.none" = some 0 := by kernel_rfl
theorem tNone : (Tryz.prog.globals[0]?).map (·.type) = some 109 := by kernel_rfl
theorem g64 : Tryz.prog.globalNamed "math/bits.deBruijn64tab" = some 2 := by kernel_rfl
theorem t64 : (Tryz.prog.globals[2]?).map (·.type) = some 126 := by kernel_rfl
def tab64 : List Int := [0, 1, 56, 2, 57, 49, 28, 3, 61, 58, 42, 50, 38, 29, 17, 4, 62, 47, 59, 36, 45, 43, 51, 22, 53, 39, 33, 30, 24, 18, 12, 5, 63, 55, 48, 27, 60, 41, 37, 16, 46, 35, 44, 21, 52, 32, 23, 11, 54, 26, 40, 15, 34, 20, 31, 10, 25, 14, 19, 9, 13, 8, 7, 6]
def laidS : List (String × DataW Unit) := [("math/bits.deBruijn32tab", Rows.laid_math_bits_deBruijn32tab), ("math/bits.deBruijn64tab", Rows.laid_math_bits_deBruijn64tab), ("steening/buckets.none", Rows.laid_steening_buckets_none)]
/-- The door's own heap meets the condition. -/
theorem door_met (os : Os) (args : Array Value) : laidMetH Tryz.prog laidS ((World.doorLaid Tryz.prog 24 os).forCall (fun _ _ => 0) ⟨#[], args, []⟩).memory :=
  laidMetH_of_parts3 (fuel := 8) (laidMet_of_run' 8 (by kernel_rfl) (by kernel_rfl)) (by kernel_rfl) (by kernel_rfl)
set_option maxRecDepth 20000 in
theorem three_lits {w : World} {n : Nat} {cs : List Value} {x y z : Int} {p : List MemPlace} (h : DataW.trod (fun _ => ()) Tryz.prog w 0 (fun _ => true) false n 109 cs = some (.agg [.lit (.int .i64 x), .lit (.int .i64 y), .lit (.int .i64 z)], p)) : cs = [I x, I y, I z] := by
  obtain ⟨xs, m, _, he, hl, hx, hf⟩ := DataW.trod_struct Tryz.underlying109 h
  have hl3 : cs.length = 3 := hl.trans (by kernel_rfl)
  have he1 : [.lit (.int .i64 x), .lit (.int .i64 y), .lit (.int .i64 z)] = xs.map (·.1) := by
    have := congrArg Prod.fst he
    simpa using this
  match cs, hl3 with
  | [c0, c1, c2], _ =>
    have h0 := hf 0 _ rfl
    have h1 := hf 1 _ rfl
    have h2 := hf 2 _ rfl
    have hxl : xs.length = 3 := hx
    match xs, hxl, he1 with
    | [x0, x1, x2], _, he1 =>
      have hc : Tryz.prog.cellsOf 3 = 1 := by kernel_rfl
      simp [hc] at h0 h1 h2 he1
      obtain ⟨z0, e0, f0, -⟩ := DataW.trod_int Tryz.underlying3 h0
      obtain ⟨z1, e1, f1, -⟩ := DataW.trod_int Tryz.underlying3 h1
      obtain ⟨z2, e2, f2, -⟩ := DataW.trod_int Tryz.underlying3 h2
      subst f0 f1 f2
      simp at e0 e1 e2 he1
      obtain ⟨rfl, rfl, rfl⟩ := he1
      rw [e0, e1, e2]
theorem tz_of_laid {W : World} (h : laidMetH Tryz.prog laidS W) : TzAt W := by
  rw [MakeChecks.laidMetH_plain _ _ _ (by kernel_rfl)] at h
  have h2 : laidMet Tryz.prog (("math/bits.deBruijn64tab", Lib.tabData .u8 tab64) :: [("steening/buckets.none", Rows.laid_steening_buckets_none)]) W := h.tail
  have ht := Lib.tabIs_of_head g64 t64 Tryz.underlying126 Tryz.underlying5 (by kernel_rfl) (by kernel_rfl) h2
  intro k
  match k with
  | ⟨0, _⟩ => exact ht.cell g64 0 (by decide)
  | ⟨1, _⟩ => exact ht.cell g64 1 (by decide)
  | ⟨2, _⟩ => exact ht.cell g64 3 (by decide)
  | ⟨3, _⟩ => exact ht.cell g64 7 (by decide)
  | ⟨4, _⟩ => exact ht.cell g64 15 (by decide)
  | ⟨5, _⟩ => exact ht.cell g64 31 (by decide)

theorem nn_of_laid {W : World} (h : laidMetH Tryz.prog laidS W) : NnAt W := by
  rw [MakeChecks.laidMetH_plain _ _ _ (by kernel_rfl)] at h
  obtain ⟨ps, ⟨g', t', cs, fuel, p, q, hg', ht', hvar, hd, _, _⟩, _⟩ := h.tail.tail
  obtain rfl := Option.some.inj (gNone.symm.trans hg')
  obtain rfl := Option.some.inj (tNone.symm.trans ht')
  have hcs : cs.toList = [I (-1), I (-1), I 0] := three_lits hd
  have hc := fun i => World.var?_cell gNone hvar i
  have e : cs = #[I (-1), I (-1), I 0] := by
    have := congrArg List.toArray hcs
    simpa using this
  subst e
  exact ⟨hc 0, hc 1, hc 2⟩

set_option maxRecDepth 100000 in
theorem topRostered_lifted (os : Os) (started : os.Started) (H : Type) (enc : TypeId × Value → H) :
    ReturnsInHanded {} Tryz.checked os 3 .any (fun w args => (Rows.topRosteredSpec.pre enc Tryz.prog Tryz.f3 [] false w args ∧ laidMetH Tryz.prog laidS w) ∧ sizedMet enc Tryz.prog Tryz.f3 (OpenSpec.ofChange Rows.topRosteredSpec) false w args)
      (Rows.topRosteredSpec.post enc Tryz.prog Tryz.f3 false true false false) := by
  refine returnsInHanded_of_change_and (C := Tryz.checked) (X := fun w _ => laidMetH Tryz.prog laidS w) (fun _ _ _ hh h => h.of_heap hh) Tryz.own started (by kernel_rfl) Tryz.func3
    (ChangeSpec.witness_shaped (enc := enc) (C := Tryz.checked) (os := os) (X := fun w _ => laidMetH Tryz.prog laidS w) false (World.doorLaid Tryz.prog 24 os) #[.agg #[.slice none 0 0, .slice none 0 0]] 8 rfl (World.shaped_of_RefB (by kernel_rfl) (by kernel_rfl)) (by kernel_rfl) (by kernel_rfl) (by kernel_rfl) (door_met os _)) ?_
  intro W base args ds gs before hval0 hW _ _ hL _
  have hval : ∀ (j : Nat) t v, Tryz.f3.params[j]? = some t → args[j]? = some v → Value.okWide Tryz.prog W .any base t v := hval0
  have hW' := hW
  obtain ⟨p, q, hA0, hV, rfl, hfz, hnd⟩ := hW
  have hA : DataW.TrodAll enc Tryz.prog W 0 (fun _ => true) true Tryz.f3.params.toList args.toList ds p := hA0
  rw [Tryz.params3] at hA hval
  obtain ⟨v0, d0, rfl, rfl, h0⟩ := trodAll_one hA
  obtain ⟨rfl, rfl⟩ := trodVars_none hV
  obtain ⟨D0, hD0⟩ := Hr.open_ros (hval 0 25 v0 rfl rfl) h0
  clear hA0 hval0
  have hlt : ∀ x ∈ p, x.block < W.heap.size := fun x hx => hW'.lt x (by simpa using hx)
  refine (topRostered_any v0 D0 W hD0 (nn_of_laid hL) (tz_of_laid hL)).mono fun e W' ⟨he, hb⟩ => ?_
  subst he
  exact ⟨_, rfl, post_of_below (pa := p) (pv := []) hW' (fun _ _ _ => trodAll_mk1 (shut_bool Tryz.underlying4 true)) (fun sp hsp0 => by
      have hsp : ∀ x ∈ p, sp x.block = true := fun x hx => hsp0 x (by simpa using hx)
      exact trodAll_mk1 (stays (by kernel_rfl) (of_decide_eq_true (by kernel_rfl)) h0 hb hlt (by simp +contextual) sp hsp)) (fun _ _ => rfl) (by simp) hb (ok_one (by kernel_rfl) rfl (okWide_bool_mk Tryz.underlying4 true))⟩

theorem topRostered_row_holds : Rows.TopRosteredSaid :=
  OpenClaim.holds_of_wide 3 Tryz.f3 rfl rfl rfl rfl rfl rfl rfl ⟨rfl, rfl, rfl, rfl, rfl⟩ rfl rfl rfl rfl rfl (by kernel_rfl) Tryz.func3 (by kernel_rfl)
    (of_decide_eq_true (by kernel_rfl)) (by unfold Func.isWrapper; first | (rw [if_pos (by decide +kernel)]; kernel_rfl) | (rw [if_neg (by decide +kernel)]; exact ⟨rfl, rfl⟩))
    (fun os started H enc _ => topRostered_lifted os started H enc)
end Go.Proofs.YtldcehhhndlhdaaGreatDoor

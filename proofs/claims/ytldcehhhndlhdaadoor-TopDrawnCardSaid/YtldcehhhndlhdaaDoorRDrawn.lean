/- The row TopDrawn: whatever the two towns and the Drawn: true, and the arguments read as they did; the wish of none is as the program's text lays it. -/
import Derived.Test.YtldcehhhndlhdaaDoorLDrawn
import Derived.Test.YtldcehhhndlhdaaDoorC29
import Derived.Test.YtldcehhhndlhdaaDoorRows
import Derived.ProofKit
import Derived.LaidMore
import Derived.Carry
import Derived.Stop.Joined
namespace Go.Proofs.YtldcehhhndlhdaaDoor
open Go.ChangeShapes Go.WideShapes Go.ChangeAt Go.RowKit Go.Deep Go.Joins

theorem gNone : Tryd.prog.globalNamed "steening/buckets.none" = some 0 := by kernel_rfl
theorem tNone : (Tryd.prog.globals[0]?).map (·.type) = some 128 := by kernel_rfl
def laidS : List (String × DataW Unit) := [("steening/buckets.none", Rows.laid_steening_buckets_none)]
/-- The door's own heap meets the condition. -/
theorem door_met (os : Os) (args : Array Value) : laidMetH Tryd.prog laidS ((World.doorLaid Tryd.prog 24 os).forCall (fun _ _ => 0) ⟨#[], args, []⟩).memory :=
  laidMetH_of_parts3 (fuel := 8) (laidMet_of_run' 8 (by kernel_rfl) (by kernel_rfl)) (by kernel_rfl) (by kernel_rfl)
set_option maxRecDepth 20000 in
theorem three_lits {w : World} {n : Nat} {cs : List Value} {x y z : Int} {p : List MemPlace} (h : DataW.trod (fun _ => ()) Tryd.prog w 0 (fun _ => true) false n 128 cs = some (.agg [.lit (.int .i64 x), .lit (.int .i64 y), .lit (.int .i64 z)], p)) : cs = [I x, I y, I z] := by
  obtain ⟨xs, m, _, he, hl, hx, hf⟩ := DataW.trod_struct Tryd.underlying128 h
  have hl3 : cs.length = 3 := hl.trans (by kernel_rfl)
  have he1 : [.lit (.int .i64 x), .lit (.int .i64 y), .lit (.int .i64 z)] = xs.map (·.1) := by
    have := congrArg Prod.fst he
    simpa using this
  match cs, hl3 with
  | [c0, c1, c2], _ =>
    have h0 := hf 0 _ rfl
    have h1 := hf 1 _ rfl
    have h2 := hf 2 _ rfl
    have hxl : xs.length = 3 := hx
    match xs, hxl, he1 with
    | [x0, x1, x2], _, he1 =>
      have hc : Tryd.prog.cellsOf 3 = 1 := by kernel_rfl
      simp [hc] at h0 h1 h2 he1
      obtain ⟨z0, e0, f0, -⟩ := DataW.trod_int Tryd.underlying3 h0
      obtain ⟨z1, e1, f1, -⟩ := DataW.trod_int Tryd.underlying3 h1
      obtain ⟨z2, e2, f2, -⟩ := DataW.trod_int Tryd.underlying3 h2
      subst f0 f1 f2
      simp at e0 e1 e2 he1
      obtain ⟨rfl, rfl, rfl⟩ := he1
      rw [e0, e1, e2]
theorem nn_of_laid {W : World} (h : laidMetH Tryd.prog laidS W) : NnAt W := by
  rw [MakeChecks.laidMetH_plain _ _ _ (by kernel_rfl)] at h
  obtain ⟨ps, ⟨g', t', cs, fuel, p, q, hg', ht', hvar, hd, _, _⟩, _⟩ := h
  obtain rfl := Option.some.inj (gNone.symm.trans hg')
  obtain rfl := Option.some.inj (tNone.symm.trans ht')
  have hcs : cs.toList = [I (-1), I (-1), I 0] := three_lits hd
  have hc := fun i => World.var?_cell gNone hvar i
  have e : cs = #[I (-1), I (-1), I 0] := by
    have := congrArg List.toArray hcs
    simpa using this
  subst e
  exact ⟨hc 0, hc 1, hc 2⟩

set_option maxRecDepth 100000 in
theorem topDrawn_lifted (os : Os) (started : os.Started) (H : Type) (enc : TypeId × Value → H) :
    ReturnsInHanded {} Tryd.checked os 4 .any (fun w args => (Rows.topDrawnSpec.pre enc Tryd.prog Tryd.f4 [] false w args ∧ laidMetH Tryd.prog laidS w) ∧ sizedMet enc Tryd.prog Tryd.f4 (OpenSpec.ofChange Rows.topDrawnSpec) false w args)
      (Rows.topDrawnSpec.post enc Tryd.prog Tryd.f4 false true false false) := by
  refine returnsInHanded_of_change_and (C := Tryd.checked) (X := fun w _ => laidMetH Tryd.prog laidS w) (fun _ _ _ hh h => h.of_heap hh) Tryd.own started (by kernel_rfl) Tryd.func4
    (ChangeSpec.witness_shaped (enc := enc) (C := Tryd.checked) (os := os) (X := fun w _ => laidMetH Tryd.prog laidS w) false (World.doorLaid Tryd.prog 24 os) #[.agg #[.slice none 0 0, .slice none 0 0, .slice none 0 0], .agg #[.int .i64 0, .slice none 0 0, .slice none 0 0], .agg #[.slice none 0 0, .int .i64 0, .int .i64 0, .int .i64 0, .int .i64 0]] 8 rfl (World.shaped_of_RefB (by kernel_rfl) (by kernel_rfl)) (by kernel_rfl) (by kernel_rfl) (by kernel_rfl) (door_met os _)) ?_
  intro W base args ds gs before hval0 hW _ _ hL _
  have hval : ∀ (j : Nat) t v, Tryd.f4.params[j]? = some t → args[j]? = some v → Value.okWide Tryd.prog W .any base t v := hval0
  have hW' := hW
  obtain ⟨p, q, hA0, hV, rfl, hfz, hnd⟩ := hW
  have hA : DataW.TrodAll enc Tryd.prog W 0 (fun _ => true) true Tryd.f4.params.toList args.toList ds p := hA0
  rw [Tryd.params4] at hA hval
  obtain ⟨v0, v1, v2, d0, d1, d2, p0, p1, p2, rfl, rfl, rfl, h0, h1, h2⟩ := trodAll_three hA
  obtain ⟨rfl, rfl⟩ := trodVars_none hV
  obtain ⟨D0, hD0⟩ := open_btown (hval 0 62 v0 rfl rfl) h0
  obtain ⟨D1, hD1⟩ := open_twn (hval 1 25 v1 rfl rfl) h1
  obtain ⟨lv, l2, f2, s2, rfl, hL2⟩ := open_drawn (hval 2 64 v2 rfl rfl) h2
  clear hA0 hval0
  have hlt : ∀ x ∈ p0 ++ (p1 ++ p2), x.block < W.heap.size := fun x hx => hW'.lt x (by simpa using hx)
  refine (topDrawn_any v0 v1 lv D0 D1 l2 f2 s2 W hD0 hD1 hL2 (nn_of_laid hL)).mono fun e W' ⟨he, hb⟩ => ?_
  subst he
  exact ⟨_, rfl, post_of_below (pa := p0 ++ (p1 ++ p2)) (pv := []) hW' (fun _ _ _ => trodAll_mk1 (shut_bool Tryd.underlying4 true)) (fun sp hsp0 => by
      have hsp : ∀ x ∈ p0 ++ (p1 ++ p2), sp x.block = true := fun x hx => hsp0 x (by simpa using hx)
      exact trodAll_mk3 (stays (by kernel_rfl) (of_decide_eq_true (by kernel_rfl)) h0 hb hlt (by simp +contextual) sp hsp) (stays (by kernel_rfl) (of_decide_eq_true (by kernel_rfl)) h1 hb hlt (by simp +contextual) sp hsp) (stays (by kernel_rfl) (of_decide_eq_true (by kernel_rfl)) h2 hb hlt (by simp +contextual) sp hsp)) (fun _ _ => rfl) (by simp) hb (ok_one (by kernel_rfl) rfl (okWide_bool_mk Tryd.underlying4 true))⟩

theorem topDrawn_row_holds : Rows.TopDrawnSaid :=
  OpenClaim.holds_of_wide 4 Tryd.f4 rfl rfl rfl rfl rfl rfl rfl ⟨rfl, rfl, rfl, rfl, rfl⟩ rfl rfl rfl rfl rfl (by kernel_rfl) Tryd.func4 (by kernel_rfl)
    (of_decide_eq_true (by kernel_rfl)) (by unfold Func.isWrapper; first | (rw [if_pos (by decide +kernel)]; kernel_rfl) | (rw [if_neg (by decide +kernel)]; exact ⟨rfl, rfl⟩))
    (fun os started H enc _ => topDrawn_lifted os started H enc)
end Go.Proofs.YtldcehhhndlhdaaDoor

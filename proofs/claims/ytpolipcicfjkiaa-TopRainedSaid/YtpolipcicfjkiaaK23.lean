/- The caller's legs: from stop to stop, in the view. Conditions: none. -/
import Derived.Test.YtpolipcicfjkiaaK21
namespace Go.Proofs.Ytpolipcicfjkiaa.Cy
open Go Go.Conc Go.RowKit Go.Proofs
open Go.ConcN (WgLive)

theorem Stand'.ext {S : List (Nat × Obj)} {K K₁ : Nat → Prop} {V V₁ : World} (h : Stand' S V) (e : Ext K V K₁ V₁) : Stand' S V₁ := fun p hp => (e.old p.1 (Array.getElem?_eq_some_iff.1 (h p hp)).1).trans (h p hp)

section
variable {P : Program} {main still : Bool} {ty Wg : Nat} {St : Nat → (Nat → Prop) → Goroutine → World → World → Prop} {n d : Nat} {K : Nat → Prop} {V : World}
/-- A step of control. -/
theorem gv_ctl {g g' : Goroutine} (hs : g.status = .running) (h : ∀ w, stepG P main g w = .go g' w #[]) {S : List (Nat × Obj)} (ht : Tidy V) (hF : Stand' S V) (hN : ∀ K' V', Tidy V' → Stand' S V' → GV P main still ty Wg St n d K' g' V') : GV P main still ty Wg St (n + 1) d K g V :=
  .inr ⟨hs, fun K₁ V₁ w e r l => ⟨g', w, V₁, #[], h w, ⟨soft_still r (ht.ext e r) (by simp), fun _ => ⟨rfl, by simp⟩⟩, by
    rw [show deafBehind d #[] = d from deafBehind_still (by simp) d]
    exact hN K₁ V₁ (ht.ext e r) (hF.ext e)⟩⟩
end

/-- What is left of both's frame in a round's call. -/
def k5 (f : Func) : List Item := [.code (r28 f 6), .inBlock 1, .code (r28 f 7), .inLoop (l28 f), .inBlock 0, .code (e28 f)]
def k6 (f : Func) : List Item := [.inBlock 1, .code (r28 f 7), .inLoop (l28 f), .inBlock 0, .code (e28 f)]
def k8 (f : Func) : List Item := [.code (sqR (e28 f))]
abbrev b28f : Frame := Go.Conc.base 28
section
variable {P : Program} {main : Bool} {b : Frame} {a : Act} {k : List Item} {cs : List Frame} {w : World}
theorem st_m28 : stepG P main (G (b.at a (.code (m28 Try.f28) :: k)) cs) w = .go (G (b.at a (.code (r28 Try.f28 2) :: .code (.block 0 (.loop (l28 Try.f28))) :: k)) cs) w #[] := stepG_seq (x := r28 Try.f28 2) (y := .block 0 (.loop (l28 Try.f28)))
theorem st_l28 : stepG P main (G (b.at a (.code (l28 Try.f28) :: k)) cs) w = .go (G (b.at a (.code (r28 Try.f28 3) :: .code (.seq (.cond (.tmp 14) .skip (.exit 0)) (.seq (i28 Try.f28) (r28 Try.f28 7))) :: k)) cs) w #[] := stepG_seq (x := r28 Try.f28 3) (y := .seq (.cond (.tmp 14) .skip (.exit 0)) (.seq (i28 Try.f28) (r28 Try.f28 7)))
theorem st_i28 : stepG P main (G (b.at a (.code (i28 Try.f28) :: k)) cs) w = .go (G (b.at a (.code (.seq (r28 Try.f28 4) (.seq (r28 Try.f28 5) (r28 Try.f28 6))) :: .inBlock 1 :: k)) cs) w #[] := stepG_block (id := 1) (c := .seq (r28 Try.f28 4) (.seq (r28 Try.f28 5) (r28 Try.f28 6)))
theorem st_e28 : stepG P main (G (b.at a (.code (e28 Try.f28) :: k)) cs) w = .go (G (b.at a (.code (r28 Try.f28 8) :: .code (sqR (e28 Try.f28)) :: k)) cs) w #[] := stepG_seq (x := r28 Try.f28 8) (y := sqR (e28 Try.f28))
theorem st_r2 : stepG P main (G (b.at a (.code (r28 Try.f28 2) :: k)) cs) w = .go (G (b.at a (.inRegion (opsO (r28 Try.f28 2)) [0, 1, 2, 3, 4, 5, 6] :: k)) cs) w #[] := stepG_region (id := 2) (ops := opsO (r28 Try.f28 2))
theorem st_r3 : stepG P main (G (b.at a (.code (r28 Try.f28 3) :: k)) cs) w = .go (G (b.at a (.inRegion (opsO (r28 Try.f28 3)) [0] :: k)) cs) w #[] := stepG_region (id := 3) (ops := opsO (r28 Try.f28 3))
theorem st_r4 : stepG P main (G (b.at a (.code (r28 Try.f28 4) :: k)) cs) w = .go (G (b.at a (.inRegion (opsO (r28 Try.f28 4)) [0, 1, 2, 3] :: k)) cs) w #[] := stepG_region (id := 4) (ops := opsO (r28 Try.f28 4))
theorem st_r5 : stepG P main (G (b.at a (.code (r28 Try.f28 5) :: k)) cs) w = .go (G (b.at a (.inRegion (opsO (r28 Try.f28 5)) [0] :: k)) cs) w #[] := stepG_region (id := 5) (ops := opsO (r28 Try.f28 5))
theorem st_r6 : stepG P main (G (b.at a (.code (r28 Try.f28 6) :: k)) cs) w = .go (G (b.at a (.inRegion (opsO (r28 Try.f28 6)) [0, 1] :: k)) cs) w #[] := stepG_region (id := 6) (ops := opsO (r28 Try.f28 6))
theorem st_r7 : stepG P main (G (b.at a (.code (r28 Try.f28 7) :: k)) cs) w = .go (G (b.at a (.inRegion (opsO (r28 Try.f28 7)) [0, 1] :: k)) cs) w #[] := stepG_region (id := 7) (ops := opsO (r28 Try.f28 7))
theorem st_r8 : stepG P main (G (b.at a (.code (r28 Try.f28 8) :: k)) cs) w = .go (G (b.at a (.inRegion (opsO (r28 Try.f28 8)) [0] :: k)) cs) w #[] := stepG_region (id := 8) (ops := opsO (r28 Try.f28 8))
end

set_option maxRecDepth 100000 in
/-- From the loop's head to Add's call, round 0. -/
theorem g_add0 (m : Nat) (S : List (Nat × Obj)) (yb db wb Wg lb : Nat) (hl : (lb, two28 yb db wb) ∈ S) (x0 x5 x6 x7 x8 x9 x10 x14 x15 x16 x17 x18 x19 x20 x21 x22 : Value) (cs : List Frame) (St : Nat → (Nat → Prop) → Goroutine → World → World → Prop) (d : Nat) (K : Nat → Prop) (V : World) (ht : Tidy V) (hF : Stand' S V)
    (hS : ∀ onb K' V', Tidy V' → Stand' ((onb, .cells #[.pointer (some ⟨db, 0, none⟩), .func (.func 44) #[] #[.pointer (some ⟨yb, 0, none⟩)]] 90) :: S) V' → GV Try.prog true false link.tWg Wg St m d K' (G (b28f.at ⟨#[x0, .pointer (some ⟨yb, 0, none⟩), .pointer (some ⟨db, 0, none⟩), .pointer (some ⟨wb, 0, none⟩), .pointer (some ⟨Wg, 0, none⟩), x5, .pointer (some ⟨onb, 0, none⟩), x7, x8, x9, x10, .slice (some ⟨lb, 0, none⟩) 2 2, .int .i64 2, .int .i64 0, .bool (decide ((0 : Int) < 2)), .pointer (some ⟨lb, 0, none⟩), .agg #[.pointer (some ⟨db, 0, none⟩), .func (.func 44) #[] #[.pointer (some ⟨yb, 0, none⟩)]], x17, x18, x19, x20, x21, x22], []⟩ (.inRegion (opsO (r28 Try.f28 5)) [0] :: k5 Try.f28)) cs) V') :
    GV Try.prog true false link.tWg Wg St (m + 18) d K (G (b28f.at ⟨#[x0, .pointer (some ⟨yb, 0, none⟩), .pointer (some ⟨db, 0, none⟩), .pointer (some ⟨wb, 0, none⟩), .pointer (some ⟨Wg, 0, none⟩), x5, x6, x7, x8, x9, x10, .slice (some ⟨lb, 0, none⟩) 2 2, .int .i64 2, .int .i64 0, x14, x15, x16, x17, x18, x19, x20, x21, x22], []⟩ [.code (l28 Try.f28), .inLoop (l28 Try.f28), .inBlock 0, .code (e28 Try.f28)]) cs) V := by
  refine gv_ctl rfl (fun w => st_l28) ht hF (fun K V ht hF => ?_)
  refine gv_ctl rfl (fun w => st_r3) ht hF (fun K V ht hF => ?_)
  refine gv_of_opsK (m := m + 14) (T := Try.progTables) (F1 := PA.funcs) (F2 := Try.funcs) PA.shuts (fn := 28) (by decide +kernel) rfl (by decide) (Q := fun a' w' => a' = ⟨#[x0, .pointer (some ⟨yb, 0, none⟩), .pointer (some ⟨db, 0, none⟩), .pointer (some ⟨wb, 0, none⟩), .pointer (some ⟨Wg, 0, none⟩), x5, x6, x7, x8, x9, x10, .slice (some ⟨lb, 0, none⟩) 2 2, .int .i64 2, .int .i64 0, .bool (decide ((0 : Int) < 2)), x15, x16, x17, x18, x19, x20, x21, x22], []⟩ ∧ Stand' S w') (fun a V V₁ h e => ⟨h.1, h.2.rely e⟩) (fun a K V ht q => ?_) [0] _ _ _ ht (r3_k S yb db wb Wg lb 0 x0 x5 x6 x7 x8 x9 x10 x14 x15 x16 x17 x18 x19 x20 x21 x22 V hF)
  obtain ⟨rfl, hF⟩ := q
  refine gv_ctl rfl (fun w => stepG_seq) ht hF (fun K V ht hF => ?_)
  refine gv_ctl rfl (fun w => stepG_cond (t := true) (by simp [Act.eval])) ht hF (fun K V ht hF => ?_)
  simp only [if_true]
  refine gv_ctl rfl (fun w => stepG_skip) ht hF (fun K V ht hF => ?_)
  refine gv_ctl rfl (fun w => stepG_seq) ht hF (fun K V ht hF => ?_)
  refine gv_ctl rfl (fun w => st_i28) ht hF (fun K V ht hF => ?_)
  refine gv_ctl rfl (fun w => stepG_seq) ht hF (fun K V ht hF => ?_)
  refine gv_ctl rfl (fun w => st_r4) ht hF (fun K V ht hF => ?_)
  refine gv_of_opsK (m := m + 2) (T := Try.progTables) (F1 := PA.funcs) (F2 := Try.funcs) PA.shuts (fn := 28) (by decide +kernel) rfl (by decide) (Q := fun a' w' => ∃ onb : Nat, a' = ⟨#[x0, .pointer (some ⟨yb, 0, none⟩), .pointer (some ⟨db, 0, none⟩), .pointer (some ⟨wb, 0, none⟩), .pointer (some ⟨Wg, 0, none⟩), x5, .pointer (some ⟨onb, 0, none⟩), x7, x8, x9, x10, .slice (some ⟨lb, 0, none⟩) 2 2, .int .i64 2, .int .i64 0, .bool (decide ((0 : Int) < 2)), .pointer (some ⟨lb, 0, none⟩), .agg #[.pointer (some ⟨db, 0, none⟩), .func (.func 44) #[] #[.pointer (some ⟨yb, 0, none⟩)]], x17, x18, x19, x20, x21, x22], []⟩ ∧ Stand' ((onb, .cells #[.pointer (some ⟨db, 0, none⟩), .func (.func 44) #[] #[.pointer (some ⟨yb, 0, none⟩)]] 90) :: S) w') (fun a V V₁ h e => h.elim fun x h => ⟨x, h.1, h.2.rely e⟩) (fun a K V ht q => ?_) [0, 1, 2, 3] _ _ _ ht (r4_k0 S yb db wb Wg lb hl x0 x5 x6 x7 x8 x9 x10 (.bool (decide ((0 : Int) < 2))) x15 x16 x17 x18 x19 x20 x21 x22 V hF)
  obtain ⟨onb, rfl, hF⟩ := q
  refine gv_ctl rfl (fun w => stepG_seq) ht hF (fun K V ht hF => ?_)
  refine gv_ctl rfl (fun w => st_r5) ht hF (fun K V ht hF => ?_)
  exact hS onb K V ht hF

set_option maxRecDepth 100000 in
/-- From the loop's head to Add's call, round 1. -/
theorem g_add1 (m : Nat) (S : List (Nat × Obj)) (yb db wb Wg lb : Nat) (hl : (lb, two28 yb db wb) ∈ S) (x0 x5 x6 x7 x8 x9 x10 x14 x15 x16 x17 x18 x19 x20 x21 x22 : Value) (cs : List Frame) (St : Nat → (Nat → Prop) → Goroutine → World → World → Prop) (d : Nat) (K : Nat → Prop) (V : World) (ht : Tidy V) (hF : Stand' S V)
    (hS : ∀ onb K' V', Tidy V' → Stand' ((onb, .cells #[.pointer (some ⟨wb, 0, none⟩), .func (.func 45) #[] #[.pointer (some ⟨yb, 0, none⟩)]] 90) :: S) V' → GV Try.prog true false link.tWg Wg St m d K' (G (b28f.at ⟨#[x0, .pointer (some ⟨yb, 0, none⟩), .pointer (some ⟨db, 0, none⟩), .pointer (some ⟨wb, 0, none⟩), .pointer (some ⟨Wg, 0, none⟩), x5, .pointer (some ⟨onb, 0, none⟩), x7, x8, x9, x10, .slice (some ⟨lb, 0, none⟩) 2 2, .int .i64 2, .int .i64 1, .bool (decide ((1 : Int) < 2)), .pointer (some ⟨lb, 2, none⟩), .agg #[.pointer (some ⟨wb, 0, none⟩), .func (.func 45) #[] #[.pointer (some ⟨yb, 0, none⟩)]], x17, x18, x19, x20, x21, x22], []⟩ (.inRegion (opsO (r28 Try.f28 5)) [0] :: k5 Try.f28)) cs) V') :
    GV Try.prog true false link.tWg Wg St (m + 18) d K (G (b28f.at ⟨#[x0, .pointer (some ⟨yb, 0, none⟩), .pointer (some ⟨db, 0, none⟩), .pointer (some ⟨wb, 0, none⟩), .pointer (some ⟨Wg, 0, none⟩), x5, x6, x7, x8, x9, x10, .slice (some ⟨lb, 0, none⟩) 2 2, .int .i64 2, .int .i64 1, x14, x15, x16, x17, x18, x19, x20, x21, x22], []⟩ [.code (l28 Try.f28), .inLoop (l28 Try.f28), .inBlock 0, .code (e28 Try.f28)]) cs) V := by
  refine gv_ctl rfl (fun w => st_l28) ht hF (fun K V ht hF => ?_)
  refine gv_ctl rfl (fun w => st_r3) ht hF (fun K V ht hF => ?_)
  refine gv_of_opsK (m := m + 14) (T := Try.progTables) (F1 := PA.funcs) (F2 := Try.funcs) PA.shuts (fn := 28) (by decide +kernel) rfl (by decide) (Q := fun a' w' => a' = ⟨#[x0, .pointer (some ⟨yb, 0, none⟩), .pointer (some ⟨db, 0, none⟩), .pointer (some ⟨wb, 0, none⟩), .pointer (some ⟨Wg, 0, none⟩), x5, x6, x7, x8, x9, x10, .slice (some ⟨lb, 0, none⟩) 2 2, .int .i64 2, .int .i64 1, .bool (decide ((1 : Int) < 2)), x15, x16, x17, x18, x19, x20, x21, x22], []⟩ ∧ Stand' S w') (fun a V V₁ h e => ⟨h.1, h.2.rely e⟩) (fun a K V ht q => ?_) [0] _ _ _ ht (r3_k S yb db wb Wg lb 1 x0 x5 x6 x7 x8 x9 x10 x14 x15 x16 x17 x18 x19 x20 x21 x22 V hF)
  obtain ⟨rfl, hF⟩ := q
  refine gv_ctl rfl (fun w => stepG_seq) ht hF (fun K V ht hF => ?_)
  refine gv_ctl rfl (fun w => stepG_cond (t := true) (by simp [Act.eval])) ht hF (fun K V ht hF => ?_)
  simp only [if_true]
  refine gv_ctl rfl (fun w => stepG_skip) ht hF (fun K V ht hF => ?_)
  refine gv_ctl rfl (fun w => stepG_seq) ht hF (fun K V ht hF => ?_)
  refine gv_ctl rfl (fun w => st_i28) ht hF (fun K V ht hF => ?_)
  refine gv_ctl rfl (fun w => stepG_seq) ht hF (fun K V ht hF => ?_)
  refine gv_ctl rfl (fun w => st_r4) ht hF (fun K V ht hF => ?_)
  refine gv_of_opsK (m := m + 2) (T := Try.progTables) (F1 := PA.funcs) (F2 := Try.funcs) PA.shuts (fn := 28) (by decide +kernel) rfl (by decide) (Q := fun a' w' => ∃ onb : Nat, a' = ⟨#[x0, .pointer (some ⟨yb, 0, none⟩), .pointer (some ⟨db, 0, none⟩), .pointer (some ⟨wb, 0, none⟩), .pointer (some ⟨Wg, 0, none⟩), x5, .pointer (some ⟨onb, 0, none⟩), x7, x8, x9, x10, .slice (some ⟨lb, 0, none⟩) 2 2, .int .i64 2, .int .i64 1, .bool (decide ((1 : Int) < 2)), .pointer (some ⟨lb, 2, none⟩), .agg #[.pointer (some ⟨wb, 0, none⟩), .func (.func 45) #[] #[.pointer (some ⟨yb, 0, none⟩)]], x17, x18, x19, x20, x21, x22], []⟩ ∧ Stand' ((onb, .cells #[.pointer (some ⟨wb, 0, none⟩), .func (.func 45) #[] #[.pointer (some ⟨yb, 0, none⟩)]] 90) :: S) w') (fun a V V₁ h e => h.elim fun x h => ⟨x, h.1, h.2.rely e⟩) (fun a K V ht q => ?_) [0, 1, 2, 3] _ _ _ ht (r4_k1 S yb db wb Wg lb hl x0 x5 x6 x7 x8 x9 x10 (.bool (decide ((1 : Int) < 2))) x15 x16 x17 x18 x19 x20 x21 x22 V hF)
  obtain ⟨onb, rfl, hF⟩ := q
  refine gv_ctl rfl (fun w => stepG_seq) ht hF (fun K V ht hF => ?_)
  refine gv_ctl rfl (fun w => st_r5) ht hF (fun K V ht hF => ?_)
  exact hS onb K V ht hF

set_option maxRecDepth 100000 in
/-- From behind the group's allocation to Add's first call. -/
theorem g_a (m : Nat) (S : List (Nat × Obj)) (yb db wb Wg : Nat) (x0 x5 x6 x7 x8 x9 x10 x11 x12 x13 x14 x15 x16 x17 x18 x19 x20 x21 x22 : Value) (ops1 : Array Oper) (cs : List Frame) (St : Nat → (Nat → Prop) → Goroutine → World → World → Prop) (d : Nat) (K : Nat → Prop) (V : World) (ht : Tidy V) (hF : Stand' S V)
    (hS : ∀ lb onb K' V', Tidy V' → Stand' ((onb, .cells #[.pointer (some ⟨db, 0, none⟩), .func (.func 44) #[] #[.pointer (some ⟨yb, 0, none⟩)]] 90) :: (lb, two28 yb db wb) :: S) V' → GV Try.prog true false link.tWg Wg St m d K' (G (b28f.at ⟨#[x0, .pointer (some ⟨yb, 0, none⟩), .pointer (some ⟨db, 0, none⟩), .pointer (some ⟨wb, 0, none⟩), .pointer (some ⟨Wg, 0, none⟩), x5, .pointer (some ⟨onb, 0, none⟩), .func (.func 44) #[] #[.pointer (some ⟨yb, 0, none⟩)], .agg #[.pointer (some ⟨db, 0, none⟩), .func (.func 44) #[] #[.pointer (some ⟨yb, 0, none⟩)]], .func (.func 45) #[] #[.pointer (some ⟨yb, 0, none⟩)], .agg #[.pointer (some ⟨wb, 0, none⟩), .func (.func 45) #[] #[.pointer (some ⟨yb, 0, none⟩)]], .slice (some ⟨lb, 0, none⟩) 2 2, .int .i64 2, .int .i64 0, .bool (decide ((0 : Int) < 2)), .pointer (some ⟨lb, 0, none⟩), .agg #[.pointer (some ⟨db, 0, none⟩), .func (.func 44) #[] #[.pointer (some ⟨yb, 0, none⟩)]], x17, x18, x19, x20, x21, x22], []⟩ (.inRegion (opsO (r28 Try.f28 5)) [0] :: k5 Try.f28)) cs) V') :
    GV Try.prog true false link.tWg Wg St (m + 32) d K (G (b28f.at ⟨#[x0, .pointer (some ⟨yb, 0, none⟩), .pointer (some ⟨db, 0, none⟩), .pointer (some ⟨wb, 0, none⟩), .pointer (some ⟨Wg, 0, none⟩), x5, x6, x7, x8, x9, x10, x11, x12, x13, x14, x15, x16, x17, x18, x19, x20, x21, x22], []⟩ [.inRegion ops1 [], .code (.seq (m28 Try.f28) (e28 Try.f28))]) cs) V := by
  refine gv_ctl rfl (fun w => stepG_region_end) ht hF (fun K V ht hF => ?_)
  refine gv_ctl rfl (fun w => stepG_seq) ht hF (fun K V ht hF => ?_)
  refine gv_ctl rfl (fun w => st_m28) ht hF (fun K V ht hF => ?_)
  refine gv_ctl rfl (fun w => st_r2) ht hF (fun K V ht hF => ?_)
  refine gv_of_opsK (m := m + 20) (T := Try.progTables) (F1 := PA.funcs) (F2 := Try.funcs) PA.shuts (fn := 28) (by decide +kernel) rfl (by decide) (Q := fun a' w' => ∃ lb : Nat, a' = ⟨#[x0, .pointer (some ⟨yb, 0, none⟩), .pointer (some ⟨db, 0, none⟩), .pointer (some ⟨wb, 0, none⟩), .pointer (some ⟨Wg, 0, none⟩), x5, x6, .func (.func 44) #[] #[.pointer (some ⟨yb, 0, none⟩)], .agg #[.pointer (some ⟨db, 0, none⟩), .func (.func 44) #[] #[.pointer (some ⟨yb, 0, none⟩)]], .func (.func 45) #[] #[.pointer (some ⟨yb, 0, none⟩)], .agg #[.pointer (some ⟨wb, 0, none⟩), .func (.func 45) #[] #[.pointer (some ⟨yb, 0, none⟩)]], .slice (some ⟨lb, 0, none⟩) 2 2, .int .i64 2, .int .i64 0, x14, x15, x16, x17, x18, x19, x20, x21, x22], []⟩ ∧ Stand' ((lb, two28 yb db wb) :: S) w') (fun a V V₁ h e => h.elim fun x h => ⟨x, h.1, h.2.rely e⟩) (fun a K V ht q => ?_) [0, 1, 2, 3, 4, 5, 6] _ _ _ ht (r2_k S yb db wb Wg x0 x5 x6 x7 x8 x9 x10 x11 x12 x13 x14 x15 x16 x17 x18 x19 x20 x21 x22 V hF)
  obtain ⟨lb, rfl, hF⟩ := q
  refine gv_ctl rfl (fun w => stepG_block) ht hF (fun K V ht hF => ?_)
  refine gv_ctl rfl (fun w => stepG_loop) ht hF (fun K V ht hF => ?_)
  exact g_add0 m _ yb db wb Wg lb (List.mem_cons_self ..) x0 x5 x6 (.func (.func 44) #[] #[.pointer (some ⟨yb, 0, none⟩)]) (.agg #[.pointer (some ⟨db, 0, none⟩), .func (.func 44) #[] #[.pointer (some ⟨yb, 0, none⟩)]]) (.func (.func 45) #[] #[.pointer (some ⟨yb, 0, none⟩)]) (.agg #[.pointer (some ⟨wb, 0, none⟩), .func (.func 45) #[] #[.pointer (some ⟨yb, 0, none⟩)]]) x14 x15 x16 x17 x18 x19 x20 x21 x22 cs St d K V ht hF fun onb K' V' h1 h2 => hS lb onb K' V' h1 h2

set_option maxRecDepth 100000 in
theorem st_go0 (yb db wb Wg lb onb : Nat) (x0 x5 x7 x8 x9 x10 x17 x18 x19 x20 x21 x22 : Value) (cs : List Frame) (w : World) : stepG Try.prog true (G (b28f.at ⟨#[x0, .pointer (some ⟨yb, 0, none⟩), .pointer (some ⟨db, 0, none⟩), .pointer (some ⟨wb, 0, none⟩), .pointer (some ⟨Wg, 0, none⟩), x5, .pointer (some ⟨onb, 0, none⟩), x7, x8, x9, x10, .slice (some ⟨lb, 0, none⟩) 2 2, .int .i64 2, .int .i64 0, .bool true, .pointer (some ⟨lb, 0, none⟩), .agg #[.pointer (some ⟨db, 0, none⟩), .func (.func 44) #[] #[.pointer (some ⟨yb, 0, none⟩)]], x17, x18, x19, x20, x21, x22], []⟩ (.inRegion (opsO (r28 Try.f28 6)) [0, 1] :: k6 Try.f28)) cs) w = .go (G (b28f.at ⟨#[x0, .pointer (some ⟨yb, 0, none⟩), .pointer (some ⟨db, 0, none⟩), .pointer (some ⟨wb, 0, none⟩), .pointer (some ⟨Wg, 0, none⟩), x5, .pointer (some ⟨onb, 0, none⟩), x7, x8, x9, x10, .slice (some ⟨lb, 0, none⟩) 2 2, .int .i64 2, .int .i64 0, .bool true, .pointer (some ⟨lb, 0, none⟩), .agg #[.pointer (some ⟨db, 0, none⟩), .func (.func 44) #[] #[.pointer (some ⟨yb, 0, none⟩)]], x17, .func (.func 47) #[] #[.pointer (some ⟨Wg, 0, none⟩), .pointer (some ⟨yb, 0, none⟩), .pointer (some ⟨onb, 0, none⟩)], x19, x20, x21, x22], []⟩ (.inRegion (opsO (r28 Try.f28 6)) [1] :: k6 Try.f28)) cs) w #[] := by
  obtain ⟨o, h1, h2, h3, h4, h5⟩ := r6_k0 yb db wb Wg lb onb x0 x5 x7 x8 x9 x10 x17 x18 x19 x20 x21 x22 w
  rw [stepG_value h1 h2 (by decide) h4, listed_nil h5, h3]
  rfl

set_option maxRecDepth 100000 in
/-- From behind Add to the go statement, round 0. -/
theorem g_go0 (m : Nat) (S : List (Nat × Obj)) (yb db wb Wg lb onb : Nat) (x0 x5 x7 x8 x9 x10 x17 x18 x19 x20 x21 x22 : Value) (cs : List Frame) (St : Nat → (Nat → Prop) → Goroutine → World → World → Prop) (d : Nat) (K : Nat → Prop) (V : World) (ht : Tidy V) (hF : Stand' S V)
    (hS : ∀ K' V', Tidy V' → Stand' S V' → GV Try.prog true false link.tWg Wg St m d K' (G (b28f.at ⟨#[x0, .pointer (some ⟨yb, 0, none⟩), .pointer (some ⟨db, 0, none⟩), .pointer (some ⟨wb, 0, none⟩), .pointer (some ⟨Wg, 0, none⟩), x5, .pointer (some ⟨onb, 0, none⟩), x7, x8, x9, x10, .slice (some ⟨lb, 0, none⟩) 2 2, .int .i64 2, .int .i64 0, .bool true, .pointer (some ⟨lb, 0, none⟩), .agg #[.pointer (some ⟨db, 0, none⟩), .func (.func 44) #[] #[.pointer (some ⟨yb, 0, none⟩)]], x17, .func (.func 47) #[] #[.pointer (some ⟨Wg, 0, none⟩), .pointer (some ⟨yb, 0, none⟩), .pointer (some ⟨onb, 0, none⟩)], x19, x20, x21, x22], []⟩ (.inRegion (opsO (r28 Try.f28 6)) [1] :: k6 Try.f28)) cs) V') :
    GV Try.prog true false link.tWg Wg St (m + 3) d K (G (b28f.at ⟨#[x0, .pointer (some ⟨yb, 0, none⟩), .pointer (some ⟨db, 0, none⟩), .pointer (some ⟨wb, 0, none⟩), .pointer (some ⟨Wg, 0, none⟩), x5, .pointer (some ⟨onb, 0, none⟩), x7, x8, x9, x10, .slice (some ⟨lb, 0, none⟩) 2 2, .int .i64 2, .int .i64 0, .bool true, .pointer (some ⟨lb, 0, none⟩), .agg #[.pointer (some ⟨db, 0, none⟩), .func (.func 44) #[] #[.pointer (some ⟨yb, 0, none⟩)]], x17, x18, x19, x20, x21, x22], []⟩ (.inRegion (opsO (r28 Try.f28 5)) [] :: k5 Try.f28)) cs) V := by
  refine gv_ctl rfl (fun w => stepG_region_end) ht hF (fun K V ht hF => ?_)
  show GV Try.prog true false link.tWg Wg St (m + 2) d K (G (b28f.at ⟨#[x0, .pointer (some ⟨yb, 0, none⟩), .pointer (some ⟨db, 0, none⟩), .pointer (some ⟨wb, 0, none⟩), .pointer (some ⟨Wg, 0, none⟩), x5, .pointer (some ⟨onb, 0, none⟩), x7, x8, x9, x10, .slice (some ⟨lb, 0, none⟩) 2 2, .int .i64 2, .int .i64 0, .bool true, .pointer (some ⟨lb, 0, none⟩), .agg #[.pointer (some ⟨db, 0, none⟩), .func (.func 44) #[] #[.pointer (some ⟨yb, 0, none⟩)]], x17, x18, x19, x20, x21, x22], []⟩ (.code (r28 Try.f28 6) :: k6 Try.f28)) cs) V
  refine gv_ctl rfl (fun w => st_r6) ht hF (fun K V ht hF => ?_)
  refine gv_ctl rfl (fun w => st_go0 yb db wb Wg lb onb x0 x5 x7 x8 x9 x10 x17 x18 x19 x20 x21 x22 cs w) ht hF (fun K V ht hF => ?_)
  exact hS K V ht hF

set_option maxRecDepth 100000 in
theorem st_go1 (yb db wb Wg lb onb : Nat) (x0 x5 x7 x8 x9 x10 x17 x18 x19 x20 x21 x22 : Value) (cs : List Frame) (w : World) : stepG Try.prog true (G (b28f.at ⟨#[x0, .pointer (some ⟨yb, 0, none⟩), .pointer (some ⟨db, 0, none⟩), .pointer (some ⟨wb, 0, none⟩), .pointer (some ⟨Wg, 0, none⟩), x5, .pointer (some ⟨onb, 0, none⟩), x7, x8, x9, x10, .slice (some ⟨lb, 0, none⟩) 2 2, .int .i64 2, .int .i64 1, .bool true, .pointer (some ⟨lb, 2, none⟩), .agg #[.pointer (some ⟨wb, 0, none⟩), .func (.func 45) #[] #[.pointer (some ⟨yb, 0, none⟩)]], x17, x18, x19, x20, x21, x22], []⟩ (.inRegion (opsO (r28 Try.f28 6)) [0, 1] :: k6 Try.f28)) cs) w = .go (G (b28f.at ⟨#[x0, .pointer (some ⟨yb, 0, none⟩), .pointer (some ⟨db, 0, none⟩), .pointer (some ⟨wb, 0, none⟩), .pointer (some ⟨Wg, 0, none⟩), x5, .pointer (some ⟨onb, 0, none⟩), x7, x8, x9, x10, .slice (some ⟨lb, 0, none⟩) 2 2, .int .i64 2, .int .i64 1, .bool true, .pointer (some ⟨lb, 2, none⟩), .agg #[.pointer (some ⟨wb, 0, none⟩), .func (.func 45) #[] #[.pointer (some ⟨yb, 0, none⟩)]], x17, .func (.func 47) #[] #[.pointer (some ⟨Wg, 0, none⟩), .pointer (some ⟨yb, 0, none⟩), .pointer (some ⟨onb, 0, none⟩)], x19, x20, x21, x22], []⟩ (.inRegion (opsO (r28 Try.f28 6)) [1] :: k6 Try.f28)) cs) w #[] := by
  obtain ⟨o, h1, h2, h3, h4, h5⟩ := r6_k1 yb db wb Wg lb onb x0 x5 x7 x8 x9 x10 x17 x18 x19 x20 x21 x22 w
  rw [stepG_value h1 h2 (by decide) h4, listed_nil h5, h3]
  rfl

set_option maxRecDepth 100000 in
/-- From behind Add to the go statement, round 1. -/
theorem g_go1 (m : Nat) (S : List (Nat × Obj)) (yb db wb Wg lb onb : Nat) (x0 x5 x7 x8 x9 x10 x17 x18 x19 x20 x21 x22 : Value) (cs : List Frame) (St : Nat → (Nat → Prop) → Goroutine → World → World → Prop) (d : Nat) (K : Nat → Prop) (V : World) (ht : Tidy V) (hF : Stand' S V)
    (hS : ∀ K' V', Tidy V' → Stand' S V' → GV Try.prog true false link.tWg Wg St m d K' (G (b28f.at ⟨#[x0, .pointer (some ⟨yb, 0, none⟩), .pointer (some ⟨db, 0, none⟩), .pointer (some ⟨wb, 0, none⟩), .pointer (some ⟨Wg, 0, none⟩), x5, .pointer (some ⟨onb, 0, none⟩), x7, x8, x9, x10, .slice (some ⟨lb, 0, none⟩) 2 2, .int .i64 2, .int .i64 1, .bool true, .pointer (some ⟨lb, 2, none⟩), .agg #[.pointer (some ⟨wb, 0, none⟩), .func (.func 45) #[] #[.pointer (some ⟨yb, 0, none⟩)]], x17, .func (.func 47) #[] #[.pointer (some ⟨Wg, 0, none⟩), .pointer (some ⟨yb, 0, none⟩), .pointer (some ⟨onb, 0, none⟩)], x19, x20, x21, x22], []⟩ (.inRegion (opsO (r28 Try.f28 6)) [1] :: k6 Try.f28)) cs) V') :
    GV Try.prog true false link.tWg Wg St (m + 3) d K (G (b28f.at ⟨#[x0, .pointer (some ⟨yb, 0, none⟩), .pointer (some ⟨db, 0, none⟩), .pointer (some ⟨wb, 0, none⟩), .pointer (some ⟨Wg, 0, none⟩), x5, .pointer (some ⟨onb, 0, none⟩), x7, x8, x9, x10, .slice (some ⟨lb, 0, none⟩) 2 2, .int .i64 2, .int .i64 1, .bool true, .pointer (some ⟨lb, 2, none⟩), .agg #[.pointer (some ⟨wb, 0, none⟩), .func (.func 45) #[] #[.pointer (some ⟨yb, 0, none⟩)]], x17, x18, x19, x20, x21, x22], []⟩ (.inRegion (opsO (r28 Try.f28 5)) [] :: k5 Try.f28)) cs) V := by
  refine gv_ctl rfl (fun w => stepG_region_end) ht hF (fun K V ht hF => ?_)
  show GV Try.prog true false link.tWg Wg St (m + 2) d K (G (b28f.at ⟨#[x0, .pointer (some ⟨yb, 0, none⟩), .pointer (some ⟨db, 0, none⟩), .pointer (some ⟨wb, 0, none⟩), .pointer (some ⟨Wg, 0, none⟩), x5, .pointer (some ⟨onb, 0, none⟩), x7, x8, x9, x10, .slice (some ⟨lb, 0, none⟩) 2 2, .int .i64 2, .int .i64 1, .bool true, .pointer (some ⟨lb, 2, none⟩), .agg #[.pointer (some ⟨wb, 0, none⟩), .func (.func 45) #[] #[.pointer (some ⟨yb, 0, none⟩)]], x17, x18, x19, x20, x21, x22], []⟩ (.code (r28 Try.f28 6) :: k6 Try.f28)) cs) V
  refine gv_ctl rfl (fun w => st_r6) ht hF (fun K V ht hF => ?_)
  refine gv_ctl rfl (fun w => st_go1 yb db wb Wg lb onb x0 x5 x7 x8 x9 x10 x17 x18 x19 x20 x21 x22 cs w) ht hF (fun K V ht hF => ?_)
  exact hS K V ht hF

set_option maxRecDepth 100000 in
/-- From behind the first go statement to Add's second call. -/
theorem g_c (m : Nat) (S : List (Nat × Obj)) (yb db wb Wg lb onb : Nat) (hl : (lb, two28 yb db wb) ∈ S) (x0 x5 x7 x8 x9 x10 x17 x18 x19 x20 x21 x22 : Value) (cs : List Frame) (St : Nat → (Nat → Prop) → Goroutine → World → World → Prop) (d : Nat) (K : Nat → Prop) (V : World) (ht : Tidy V) (hF : Stand' S V)
    (hS : ∀ onb K' V', Tidy V' → Stand' ((onb, .cells #[.pointer (some ⟨wb, 0, none⟩), .func (.func 45) #[] #[.pointer (some ⟨yb, 0, none⟩)]] 90) :: S) V' → GV Try.prog true false link.tWg Wg St m d K' (G (b28f.at ⟨#[x0, .pointer (some ⟨yb, 0, none⟩), .pointer (some ⟨db, 0, none⟩), .pointer (some ⟨wb, 0, none⟩), .pointer (some ⟨Wg, 0, none⟩), x5, .pointer (some ⟨onb, 0, none⟩), x7, x8, x9, x10, .slice (some ⟨lb, 0, none⟩) 2 2, .int .i64 2, .int .i64 1, .bool (decide ((1 : Int) < 2)), .pointer (some ⟨lb, 2, none⟩), .agg #[.pointer (some ⟨wb, 0, none⟩), .func (.func 45) #[] #[.pointer (some ⟨yb, 0, none⟩)]], x17, x18, .int .i64 1, x20, x21, x22], []⟩ (.inRegion (opsO (r28 Try.f28 5)) [0] :: k5 Try.f28)) cs) V') :
    GV Try.prog true false link.tWg Wg St (m + 25) d K (G (b28f.at ⟨#[x0, .pointer (some ⟨yb, 0, none⟩), .pointer (some ⟨db, 0, none⟩), .pointer (some ⟨wb, 0, none⟩), .pointer (some ⟨Wg, 0, none⟩), x5, .pointer (some ⟨onb, 0, none⟩), x7, x8, x9, x10, .slice (some ⟨lb, 0, none⟩) 2 2, .int .i64 2, .int .i64 0, .bool true, .pointer (some ⟨lb, 0, none⟩), .agg #[.pointer (some ⟨db, 0, none⟩), .func (.func 44) #[] #[.pointer (some ⟨yb, 0, none⟩)]], x17, x18, x19, x20, x21, x22], []⟩ (.inRegion (opsO (r28 Try.f28 6)) [] :: k6 Try.f28)) cs) V := by
  have hw : IntKind.i64.wrap (0 + 1) = 1 := by decide
  refine gv_ctl rfl (fun w => stepG_region_end) ht hF (fun K V ht hF => ?_)
  refine gv_ctl rfl (fun w => stepG_inBlock) ht hF (fun K V ht hF => ?_)
  refine gv_ctl rfl (fun w => st_r7) ht hF (fun K V ht hF => ?_)
  refine gv_of_opsK (m := m + 19) (T := Try.progTables) (F1 := PA.funcs) (F2 := Try.funcs) PA.shuts (fn := 28) (by decide +kernel) rfl (by decide) (Q := fun a' w' => a' = ⟨#[x0, .pointer (some ⟨yb, 0, none⟩), .pointer (some ⟨db, 0, none⟩), .pointer (some ⟨wb, 0, none⟩), .pointer (some ⟨Wg, 0, none⟩), x5, .pointer (some ⟨onb, 0, none⟩), x7, x8, x9, x10, .slice (some ⟨lb, 0, none⟩) 2 2, .int .i64 2, .int .i64 (IntKind.i64.wrap (0 + 1)), .bool true, .pointer (some ⟨lb, 0, none⟩), .agg #[.pointer (some ⟨db, 0, none⟩), .func (.func 44) #[] #[.pointer (some ⟨yb, 0, none⟩)]], x17, x18, .int .i64 (IntKind.i64.wrap (0 + 1)), x20, x21, x22], []⟩ ∧ Stand' S w') (fun a V V₁ h e => ⟨h.1, h.2.rely e⟩) (fun a K V ht q => ?_) [0, 1] _ _ _ ht (r7_k S yb db wb Wg lb 0 x0 x5 (.pointer (some ⟨onb, 0, none⟩)) x7 x8 x9 x10 (.bool true) (.pointer (some ⟨lb, 0, none⟩)) (.agg #[.pointer (some ⟨db, 0, none⟩), .func (.func 44) #[] #[.pointer (some ⟨yb, 0, none⟩)]]) x17 x18 x19 x20 x21 x22 V hF)
  obtain ⟨rfl, hF⟩ := q
  refine gv_ctl rfl (fun w => stepG_inLoop) ht hF (fun K V ht hF => ?_)
  rw [hw]
  exact g_add1 m S yb db wb Wg lb hl x0 x5 (.pointer (some ⟨onb, 0, none⟩)) x7 x8 x9 x10 (.bool true) (.pointer (some ⟨lb, 0, none⟩)) (.agg #[.pointer (some ⟨db, 0, none⟩), .func (.func 44) #[] #[.pointer (some ⟨yb, 0, none⟩)]]) x17 x18 (.int .i64 1) x20 x21 x22 cs St d K V ht hF hS

set_option maxRecDepth 100000 in
/-- From behind the second go statement to Wait's call. -/
theorem g_e (m : Nat) (S : List (Nat × Obj)) (yb db wb Wg lb onb : Nat) (x0 x5 x7 x8 x9 x10 x17 x18 x19 x20 x21 x22 : Value) (cs : List Frame) (St : Nat → (Nat → Prop) → Goroutine → World → World → Prop) (d : Nat) (K : Nat → Prop) (V : World) (ht : Tidy V) (hF : Stand' S V)
    (hS : ∀ K' V', Tidy V' → Stand' S V' → GV Try.prog true false link.tWg Wg St m d K' (G (b28f.at ⟨#[x0, .pointer (some ⟨yb, 0, none⟩), .pointer (some ⟨db, 0, none⟩), .pointer (some ⟨wb, 0, none⟩), .pointer (some ⟨Wg, 0, none⟩), x5, .pointer (some ⟨onb, 0, none⟩), x7, x8, x9, x10, .slice (some ⟨lb, 0, none⟩) 2 2, .int .i64 2, .int .i64 2, .bool (decide ((2 : Int) < 2)), .pointer (some ⟨lb, 2, none⟩), .agg #[.pointer (some ⟨wb, 0, none⟩), .func (.func 45) #[] #[.pointer (some ⟨yb, 0, none⟩)]], x17, x18, .int .i64 2, x20, x21, x22], []⟩ (.inRegion (opsO (r28 Try.f28 8)) [0] :: k8 Try.f28)) cs) V') :
    GV Try.prog true false link.tWg Wg St (m + 16) d K (G (b28f.at ⟨#[x0, .pointer (some ⟨yb, 0, none⟩), .pointer (some ⟨db, 0, none⟩), .pointer (some ⟨wb, 0, none⟩), .pointer (some ⟨Wg, 0, none⟩), x5, .pointer (some ⟨onb, 0, none⟩), x7, x8, x9, x10, .slice (some ⟨lb, 0, none⟩) 2 2, .int .i64 2, .int .i64 1, .bool true, .pointer (some ⟨lb, 2, none⟩), .agg #[.pointer (some ⟨wb, 0, none⟩), .func (.func 45) #[] #[.pointer (some ⟨yb, 0, none⟩)]], x17, x18, x19, x20, x21, x22], []⟩ (.inRegion (opsO (r28 Try.f28 6)) [] :: k6 Try.f28)) cs) V := by
  have hw : IntKind.i64.wrap (1 + 1) = 2 := by decide
  refine gv_ctl rfl (fun w => stepG_region_end) ht hF (fun K V ht hF => ?_)
  refine gv_ctl rfl (fun w => stepG_inBlock) ht hF (fun K V ht hF => ?_)
  refine gv_ctl rfl (fun w => st_r7) ht hF (fun K V ht hF => ?_)
  refine gv_of_opsK (m := m + 10) (T := Try.progTables) (F1 := PA.funcs) (F2 := Try.funcs) PA.shuts (fn := 28) (by decide +kernel) rfl (by decide) (Q := fun a' w' => a' = ⟨#[x0, .pointer (some ⟨yb, 0, none⟩), .pointer (some ⟨db, 0, none⟩), .pointer (some ⟨wb, 0, none⟩), .pointer (some ⟨Wg, 0, none⟩), x5, .pointer (some ⟨onb, 0, none⟩), x7, x8, x9, x10, .slice (some ⟨lb, 0, none⟩) 2 2, .int .i64 2, .int .i64 (IntKind.i64.wrap (1 + 1)), .bool true, .pointer (some ⟨lb, 2, none⟩), .agg #[.pointer (some ⟨wb, 0, none⟩), .func (.func 45) #[] #[.pointer (some ⟨yb, 0, none⟩)]], x17, x18, .int .i64 (IntKind.i64.wrap (1 + 1)), x20, x21, x22], []⟩ ∧ Stand' S w') (fun a V V₁ h e => ⟨h.1, h.2.rely e⟩) (fun a K V ht q => ?_) [0, 1] _ _ _ ht (r7_k S yb db wb Wg lb 1 x0 x5 (.pointer (some ⟨onb, 0, none⟩)) x7 x8 x9 x10 (.bool true) (.pointer (some ⟨lb, 2, none⟩)) (.agg #[.pointer (some ⟨wb, 0, none⟩), .func (.func 45) #[] #[.pointer (some ⟨yb, 0, none⟩)]]) x17 x18 x19 x20 x21 x22 V hF)
  obtain ⟨rfl, hF⟩ := q
  rw [hw]
  refine gv_ctl rfl (fun w => stepG_inLoop) ht hF (fun K V ht hF => ?_)
  refine gv_ctl rfl (fun w => st_l28) ht hF (fun K V ht hF => ?_)
  refine gv_ctl rfl (fun w => st_r3) ht hF (fun K V ht hF => ?_)
  refine gv_of_opsK (m := m + 5) (T := Try.progTables) (F1 := PA.funcs) (F2 := Try.funcs) PA.shuts (fn := 28) (by decide +kernel) rfl (by decide) (Q := fun a' w' => a' = ⟨#[x0, .pointer (some ⟨yb, 0, none⟩), .pointer (some ⟨db, 0, none⟩), .pointer (some ⟨wb, 0, none⟩), .pointer (some ⟨Wg, 0, none⟩), x5, .pointer (some ⟨onb, 0, none⟩), x7, x8, x9, x10, .slice (some ⟨lb, 0, none⟩) 2 2, .int .i64 2, .int .i64 2, .bool (decide ((2 : Int) < 2)), .pointer (some ⟨lb, 2, none⟩), .agg #[.pointer (some ⟨wb, 0, none⟩), .func (.func 45) #[] #[.pointer (some ⟨yb, 0, none⟩)]], x17, x18, .int .i64 2, x20, x21, x22], []⟩ ∧ Stand' S w') (fun a V V₁ h e => ⟨h.1, h.2.rely e⟩) (fun a K V ht q => ?_) [0] _ _ _ ht (r3_k S yb db wb Wg lb 2 x0 x5 (.pointer (some ⟨onb, 0, none⟩)) x7 x8 x9 x10 (.bool true) (.pointer (some ⟨lb, 2, none⟩)) (.agg #[.pointer (some ⟨wb, 0, none⟩), .func (.func 45) #[] #[.pointer (some ⟨yb, 0, none⟩)]]) x17 x18 (.int .i64 2) x20 x21 x22 V hF)
  obtain ⟨rfl, hF⟩ := q
  refine gv_ctl rfl (fun w => stepG_seq) ht hF (fun K V ht hF => ?_)
  refine gv_ctl rfl (fun w => stepG_cond (t := false) (by simp [Act.eval])) ht hF (fun K V ht hF => ?_)
  simp only [Bool.false_eq_true, if_false]
  refine gv_ctl rfl (fun w => stepG_exit (k' := [.code (e28 Try.f28)]) (by rfl)) ht hF (fun K V ht hF => ?_)
  refine gv_ctl rfl (fun w => st_e28) ht hF (fun K V ht hF => ?_)
  refine gv_ctl rfl (fun w => st_r8) ht hF (fun K V ht hF => ?_)
  exact hS K V ht hF
end Go.Proofs.Ytpolipcicfjkiaa.Cy
/- The go statements: the workers' birth. Conditions: none. -/
namespace Go.Proofs.Ytpolipcicfjkiaa.Cy
open Go Go.Conc Go.RowKit Go.Proofs
open Go.ConcN (WgLive)

def yObj (size start : Int) (sl : Option Addr) (n capc : Nat) : Obj := .cells #[.int .i64 size, .int .i64 start, .slice sl n capc] 24
def nil60 : Obj := .cells #[.slice none 0 0] 60
def shP (yb fb n : Nat) (Away : Bool → Nat → Prop) (s b : Nat) : Prop := match s with
  | 0 => False
  | 3 => Away false b
  | 4 => Away true b
  | _ => b = yb ∨ (0 < n ∧ b = fb)
def scP (yb fb : Nat) (size start : Int) (sl : Option Addr) (n capc : Nat) (dc : Array Value) (b : Nat) : Option Obj :=
  if b = yb then some (yObj size start sl n capc) else if b = fb then some (.cells dc 59) else none
def row59 (p : Nat × Array Value × TypeId) : Nat × Obj := (p.1, .cells p.2.1 p.2.2)

theorem seen_at {cls : Nat → Cls} {g b : Nat} {w : World} {o : Obj} (h : w.heap[b]? = some o) (hm : cls b = .mine g) : (view cls g w).heap[b]? = some o := by
  rw [view_get, h]; simp [seenO, hm]
theorem seen_frz {cls : Nat → Cls} {g b : Nat} {w : World} {o : Obj} (h : w.heap[b]? = some o) (hm : cls b = .shared) : (view cls g w).heap[b]? = some (frzO o) := by
  rw [view_get, h]; simp [seenO, hm]

set_option maxRecDepth 100000 in
theorem st_spawn0 (yb db wb Wg lb onb : Nat) (x0 x5 x7 x8 x9 x10 x17 x19 x20 x21 x22 : Value) (cs : List Frame) (w : World) : stepG Try.prog true (G (b28f.at ⟨#[x0, .pointer (some ⟨yb, 0, none⟩), .pointer (some ⟨db, 0, none⟩), .pointer (some ⟨wb, 0, none⟩), .pointer (some ⟨Wg, 0, none⟩), x5, .pointer (some ⟨onb, 0, none⟩), x7, x8, x9, x10, .slice (some ⟨lb, 0, none⟩) 2 2, .int .i64 2, .int .i64 0, .bool true, .pointer (some ⟨lb, 0, none⟩), .agg #[.pointer (some ⟨db, 0, none⟩), .func (.func 44) #[] #[.pointer (some ⟨yb, 0, none⟩)]], x17, .func (.func 47) #[] #[.pointer (some ⟨Wg, 0, none⟩), .pointer (some ⟨yb, 0, none⟩), .pointer (some ⟨onb, 0, none⟩)], x19, x20, x21, x22], []⟩ (.inRegion (opsO (r28 Try.f28 6)) [1] :: k6 Try.f28)) cs) w =
    .spawn (G (b28f.at ⟨#[x0, .pointer (some ⟨yb, 0, none⟩), .pointer (some ⟨db, 0, none⟩), .pointer (some ⟨wb, 0, none⟩), .pointer (some ⟨Wg, 0, none⟩), x5, .pointer (some ⟨onb, 0, none⟩), x7, x8, x9, x10, .slice (some ⟨lb, 0, none⟩) 2 2, .int .i64 2, .int .i64 0, .bool true, .pointer (some ⟨lb, 0, none⟩), .agg #[.pointer (some ⟨db, 0, none⟩), .func (.func 44) #[] #[.pointer (some ⟨yb, 0, none⟩)]], x17, .func (.func 47) #[] #[.pointer (some ⟨Wg, 0, none⟩), .pointer (some ⟨yb, 0, none⟩), .pointer (some ⟨onb, 0, none⟩)], x19, x20, x21, x22], []⟩ (.inRegion (opsO (r28 Try.f28 6)) [] :: k6 Try.f28)) cs) (born Try.prog (call47 (.pointer (some ⟨Wg, 0, none⟩)) (.pointer (some ⟨yb, 0, none⟩)) (.pointer (some ⟨onb, 0, none⟩)))) w #[] := by
  obtain ⟨o, h1, h2, h3, h4⟩ : ∃ o : Oper, (opsO (r28 Try.f28 6))[1]? = some o ∧ o.op = .go { callee := .value (.tmp 18), args := #[], argTypes := #[] } ∧ o.guard = none ∧ o.dst = none := ⟨_, rfl, rfl, rfl, rfl⟩
  have hr : (execOp (⟨#[x0, .pointer (some ⟨yb, 0, none⟩), .pointer (some ⟨db, 0, none⟩), .pointer (some ⟨wb, 0, none⟩), .pointer (some ⟨Wg, 0, none⟩), x5, .pointer (some ⟨onb, 0, none⟩), x7, x8, x9, x10, .slice (some ⟨lb, 0, none⟩) 2 2, .int .i64 2, .int .i64 0, .bool true, .pointer (some ⟨lb, 0, none⟩), .agg #[.pointer (some ⟨db, 0, none⟩), .func (.func 44) #[] #[.pointer (some ⟨yb, 0, none⟩)]], x17, .func (.func 47) #[] #[.pointer (some ⟨Wg, 0, none⟩), .pointer (some ⟨yb, 0, none⟩), .pointer (some ⟨onb, 0, none⟩)], x19, x20, x21, x22], []⟩ : Act).eval o).run Try.prog w = .ok (.spawn (call47 (.pointer (some ⟨Wg, 0, none⟩)) (.pointer (some ⟨yb, 0, none⟩)) (.pointer (some ⟨onb, 0, none⟩)))) w := by
    unfold execOp
    simp [h2, go_sem, Act.eval, resolve, Deferred.ofValue, call47]
  have he : (execOp (⟨#[x0, .pointer (some ⟨yb, 0, none⟩), .pointer (some ⟨db, 0, none⟩), .pointer (some ⟨wb, 0, none⟩), .pointer (some ⟨Wg, 0, none⟩), x5, .pointer (some ⟨onb, 0, none⟩), x7, x8, x9, x10, .slice (some ⟨lb, 0, none⟩) 2 2, .int .i64 2, .int .i64 0, .bool true, .pointer (some ⟨lb, 0, none⟩), .agg #[.pointer (some ⟨db, 0, none⟩), .func (.func 44) #[] #[.pointer (some ⟨yb, 0, none⟩)]], x17, .func (.func 47) #[] #[.pointer (some ⟨Wg, 0, none⟩), .pointer (some ⟨yb, 0, none⟩), .pointer (some ⟨onb, 0, none⟩)], x19, x20, x21, x22], []⟩ : Act).eval o).events Try.prog w #[] = #[] := by
    unfold execOp
    simp [h2, go_sem, Act.eval, resolve, Deferred.ofValue]
  rw [stepG_spawn h1 (by simp [Region.wanted, h3]) (by decide) hr rfl, listed_nil he, h4]
  rfl

set_option maxRecDepth 100000 in
theorem st_spawn1 (yb db wb Wg lb onb : Nat) (x0 x5 x7 x8 x9 x10 x17 x19 x20 x21 x22 : Value) (cs : List Frame) (w : World) : stepG Try.prog true (G (b28f.at ⟨#[x0, .pointer (some ⟨yb, 0, none⟩), .pointer (some ⟨db, 0, none⟩), .pointer (some ⟨wb, 0, none⟩), .pointer (some ⟨Wg, 0, none⟩), x5, .pointer (some ⟨onb, 0, none⟩), x7, x8, x9, x10, .slice (some ⟨lb, 0, none⟩) 2 2, .int .i64 2, .int .i64 1, .bool true, .pointer (some ⟨lb, 2, none⟩), .agg #[.pointer (some ⟨wb, 0, none⟩), .func (.func 45) #[] #[.pointer (some ⟨yb, 0, none⟩)]], x17, .func (.func 47) #[] #[.pointer (some ⟨Wg, 0, none⟩), .pointer (some ⟨yb, 0, none⟩), .pointer (some ⟨onb, 0, none⟩)], x19, x20, x21, x22], []⟩ (.inRegion (opsO (r28 Try.f28 6)) [1] :: k6 Try.f28)) cs) w =
    .spawn (G (b28f.at ⟨#[x0, .pointer (some ⟨yb, 0, none⟩), .pointer (some ⟨db, 0, none⟩), .pointer (some ⟨wb, 0, none⟩), .pointer (some ⟨Wg, 0, none⟩), x5, .pointer (some ⟨onb, 0, none⟩), x7, x8, x9, x10, .slice (some ⟨lb, 0, none⟩) 2 2, .int .i64 2, .int .i64 1, .bool true, .pointer (some ⟨lb, 2, none⟩), .agg #[.pointer (some ⟨wb, 0, none⟩), .func (.func 45) #[] #[.pointer (some ⟨yb, 0, none⟩)]], x17, .func (.func 47) #[] #[.pointer (some ⟨Wg, 0, none⟩), .pointer (some ⟨yb, 0, none⟩), .pointer (some ⟨onb, 0, none⟩)], x19, x20, x21, x22], []⟩ (.inRegion (opsO (r28 Try.f28 6)) [] :: k6 Try.f28)) cs) (born Try.prog (call47 (.pointer (some ⟨Wg, 0, none⟩)) (.pointer (some ⟨yb, 0, none⟩)) (.pointer (some ⟨onb, 0, none⟩)))) w #[] := by
  obtain ⟨o, h1, h2, h3, h4⟩ : ∃ o : Oper, (opsO (r28 Try.f28 6))[1]? = some o ∧ o.op = .go { callee := .value (.tmp 18), args := #[], argTypes := #[] } ∧ o.guard = none ∧ o.dst = none := ⟨_, rfl, rfl, rfl, rfl⟩
  have hr : (execOp (⟨#[x0, .pointer (some ⟨yb, 0, none⟩), .pointer (some ⟨db, 0, none⟩), .pointer (some ⟨wb, 0, none⟩), .pointer (some ⟨Wg, 0, none⟩), x5, .pointer (some ⟨onb, 0, none⟩), x7, x8, x9, x10, .slice (some ⟨lb, 0, none⟩) 2 2, .int .i64 2, .int .i64 1, .bool true, .pointer (some ⟨lb, 2, none⟩), .agg #[.pointer (some ⟨wb, 0, none⟩), .func (.func 45) #[] #[.pointer (some ⟨yb, 0, none⟩)]], x17, .func (.func 47) #[] #[.pointer (some ⟨Wg, 0, none⟩), .pointer (some ⟨yb, 0, none⟩), .pointer (some ⟨onb, 0, none⟩)], x19, x20, x21, x22], []⟩ : Act).eval o).run Try.prog w = .ok (.spawn (call47 (.pointer (some ⟨Wg, 0, none⟩)) (.pointer (some ⟨yb, 0, none⟩)) (.pointer (some ⟨onb, 0, none⟩)))) w := by
    unfold execOp
    simp [h2, go_sem, Act.eval, resolve, Deferred.ofValue, call47]
  have he : (execOp (⟨#[x0, .pointer (some ⟨yb, 0, none⟩), .pointer (some ⟨db, 0, none⟩), .pointer (some ⟨wb, 0, none⟩), .pointer (some ⟨Wg, 0, none⟩), x5, .pointer (some ⟨onb, 0, none⟩), x7, x8, x9, x10, .slice (some ⟨lb, 0, none⟩) 2 2, .int .i64 2, .int .i64 1, .bool true, .pointer (some ⟨lb, 2, none⟩), .agg #[.pointer (some ⟨wb, 0, none⟩), .func (.func 45) #[] #[.pointer (some ⟨yb, 0, none⟩)]], x17, .func (.func 47) #[] #[.pointer (some ⟨Wg, 0, none⟩), .pointer (some ⟨yb, 0, none⟩), .pointer (some ⟨onb, 0, none⟩)], x19, x20, x21, x22], []⟩ : Act).eval o).events Try.prog w #[] = #[] := by
    unfold execOp
    simp [h2, go_sem, Act.eval, resolve, Deferred.ofValue]
  rw [stepG_spawn h1 (by simp [Region.wanted, h3]) (by decide) hr rfl, listed_nil he, h4]
  rfl
end Go.Proofs.Ytpolipcicfjkiaa.Cy

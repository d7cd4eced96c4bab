/- rained is true. Conditions: none. -/
import Derived.Test.YtpolipcicfjkiaaK34
import Derived.Laws.StructEq
import Derived.Test.YtpolipcicfjkiaaK33
import Derived.Test.YtpolipcicfjkiaaK29
import Derived.Deep.LoopGhost
import Derived.Test.YtpolipcicfjkiaaK31
import Derived.Test.YtpolipcicfjkiaaK32
import Derived.Test.YtpolipcicfjkiaaK25
namespace Go.Proofs.Ytpolipcicfjkiaa
open Go.RowKit Go.Sort
open Go.Proofs.Ytpolipcicfjkiaa.Cy (BelowH)

theorem ex_size : sizeR exD10 = .tuple #[I 9, I 0] := by kernel_rfl
theorem ex_flow : (.tuple #[.agg #[I (flowR exD 1).1.1, I (flowR exD 1).1.2], I (flowR exD 1).2] : Value) = .tuple #[.agg #[I 18, I 22], I 0] := by kernel_rfl

theorem PA.guard30 : PA.prog.eqGuardType PA.prog.depth 30 = false := by kernel_rfl
theorem PA.stood30 : PA.prog.stoodInHeld 30 = false := by kernel_rfl
theorem PA.fields30 : PA.prog.underlying 30 = some (.struct (PA.prog.fieldsOf 30)) := by kernel_rfl
theorem ex_equal (w : World) : (Op.equalIn 10000 30 (.agg #[.int .i64 18, .int .i64 22]) (.agg #[.int .i64 18, .int .i64 22])).run PA.prog w = .ok true w := by
  show (Op.equalIn (9997 + 3) 30 (.agg #[.int .i64 18, .int .i64 22]) (.agg #[.int .i64 18, .int .i64 22])).run PA.prog w = .ok true w
  rw [run_equalIn_agg w _ _ _ _ PA.fields30 PA.stood30]
  have hf : (PA.prog.fieldsOf 30).toList = [{ name := "Low", type := 3, offset := 0, embedded := false, tag := "", pkgPath := "", byteOffset := 0 }, { name := "High", type := 3, offset := 1, embedded := false, tag := "", pkgPath := "", byteOffset := 8 }] := by kernel_rfl
  rw [hf]
  simp [Op.eqFields, go_sem]
set_option maxRecDepth 20000 in
set_option maxHeartbeats 1000000 in
theorem rained_any (w : World) : Calls PA.prog 8 #[] w fun e w' => e = .returned (.bool true) ∧ BelowH w.heap.size w w' := by
  have hA2 : ∀ (W : World) x x', Below W.heap.size W ((W.alloc x).alloc x') := fun W x x' => ((Below.refl _ _).alloc (Nat.le_refl _) _).alloc (by simp) _
  have hA1 : ∀ (W : World) x, Below W.heap.size W (W.alloc x) := fun W x => (Below.refl _ _).alloc (Nat.le_refl _) _
  have hnew2 : ∀ (W : World) x x', ((W.alloc x).alloc x').heap[W.heap.size + 1]? = some x' := fun W x x' => by have := (Cy.hb_new (W.alloc x) x').blk; simpa using this
  go_enter PA.func8, Try.ntmps8
  go_wp2_with (first | (go_at_call 22; refine (example10_any _).mono ?_; rintro e w1 ⟨A, vd, rfl, hy, hb1⟩; have hy0 := hy; obtain ⟨pv, rfl, hp⟩ := hy0; obtain ⟨A', c', rfl, _, _, _⟩ := hp.open_; have HY := Lib.hid hy; have HB1 := Lib.hid hb1; clear hy hp hb1) | (go_at_call 24; refine (example_any _).mono ?_; rintro e w2 ⟨v, rfl, hd, hb2⟩; have HD := Lib.hid hd; have HB2 := Lib.hid hb2; clear hd hb2) | (go_at_call 23; refine (flow_any _ exD 1 _ HD.out (by decide) (by decide)).mono ?_; rintro e w3 ⟨rfl, hb3⟩; rw [ex_flow]; have hT := blk_keep hb3 (blk_keep HB2.out (hnew2 _ _ _)); have hTa := fun o => (Cy.hb_old ⟨hT⟩ o).blk; have t0a := fun o => Cy.cell_blk (i := 0) (hTa o) rfl; have t1a := fun o => Cy.cell_blk (i := 1) (hTa o) rfl; have t2a := fun o => Cy.cell_blk (i := 2) (hTa o) rfl; have HB3 := Lib.hid hb3; clear hb3 hT hTa) | (go_at_call 14; refine (ySize_any _ exD10 _ (HY.out.below (bto (hA2 _ _ _) (bto HB2.out (bto HB3.out (hA1 _ _))))) (by decide)).mono ?_; rintro e w4 ⟨rfl, hb4⟩; rw [ex_size]; have k0 := hb4.cell (p := ⟨w3.heap.size, 0, none⟩) (by simp); have k1 := hb4.cell (p := ⟨w3.heap.size, 1, none⟩) (by simp); have l0 := box_cell w3 #[.int .i64 18, .int .i64 22] 30 0 rfl; have l1 := box_cell w3 #[.int .i64 18, .int .i64 22] 30 1 rfl; have m0 := k0.trans l0; have m1 := k1.trans l1; have HB4 := Lib.hid hb4; clear hb4 k0 k1 l0 l1))
  rw [run_eqGuard_agg w4 .eql 30 _ _ _ _ PA.guard30]
  simp only [Result.andThen_ok, ex_equal]
  go_wp2_with fail
  go_ret
  refine ⟨rfl, ?_⟩
  exact hto (Cy.BelowH.of (bto (bto (bto (bto HB1.out (hA2 _ _ _)) HB2.out) HB3.out) (hA1 _ _))) HB4.out
end Go.Proofs.Ytpolipcicfjkiaa
/- lacking, the first day that lacks. Conditions: none. -/
namespace Go.Proofs.Ytpolipcicfjkiaa
open Go.RowKit Go.Sort
open Go.Proofs.Ytpolipcicfjkiaa.Cy (BelowH)

set_option maxHeartbeats 400000 in
theorem lacking_any (a b c : Int) (w : World) : Calls PA.prog 31 #[.agg #[I a, I b, I c]] w fun e w' => e = .returned (.bool (decide (0 < b))) ∧ Below w.heap.size w w' := by
  go_enter PA.func31, Try.ntmps31
  go_wp2_with fail
  go_ret
  exact ⟨by rfl, (Below.refl _ _).alloc (Nat.le_refl _) _⟩

/-- The first of the days that lacks, or -1. A day of a run is a point: its level, its lack, what ran over. -/
def firstL : List Pt → Nat → Int
  | [], _ => -1
  | p :: ps, k => if 0 < p.hi then k else firstL ps (k + 1)

set_option maxHeartbeats 400000 in
theorem indexDay_any (pv : Value) (ps : List Pt) (w : World) (hr : Pts w pv ps) (hl : ps.length ≤ 1000) :
    Calls PA.prog 51 #[pv, .func (.func 31) #[] #[]] w fun e w' => e = .returned (I (firstL ps 0)) ∧ Below w.heap.size w w' := by
  obtain ⟨A, c, rfl, hnc, hcm, hc⟩ := hr.open_
  have HC := Lib.hid hc; clear hc hr
  go_enter PA.func51, Try.ntmps51
  go_wp2_with fail
  go_loopw [8] (fun i wr => ∃ k : Nat, k ≤ ps.length ∧ i = I k ∧ firstL ps 0 = firstL (ps.drop k) k ∧ Below w.heap.size w wr) (fun i _ => ps.length - (intOf i).toNat)
  case atStart => exact ⟨0, by omega, rfl, rfl, Below.refl _ _⟩
  case round =>
    obtain ⟨k, hk, rfl, hF, hbw⟩ := hrel
    by_cases hlt : k < ps.length
    · obtain ⟨b, o, rfl, hbl, hcell⟩ := HC.out (by omega)
      obtain ⟨h1, h2, h3⟩ := hcell k hlt
      rw [← hbw.cell (p := ⟨b, _, none⟩) hbl] at h1 h2 h3
      rw [List.drop_eq_getElem_cons hlt, firstL] at hF
      have HF := Lib.hid hF; clear hF
      by_cases hb : 0 < ps[k].hi
      · have hd : decide (0 < ps[k].hi) = true := decide_eq_true hb
        go_wp2_with (go_at_call 31; refine (lacking_any _ _ _ _).mono ?_; rintro e w' ⟨rfl, hw'⟩; rw [hd])
        go_ret
        have := HF.out
        rw [if_pos hb] at this
        exact ⟨by rw [this]; rfl, bto hbw hw'⟩
      · have hd : decide (0 < ps[k].hi) = false := decide_eq_false hb
        go_wp2_with (go_at_call 31; refine (lacking_any _ _ _ _).mono ?_; rintro e w' ⟨rfl, hw'⟩; rw [hd])
        go_roundw
        case rel =>
          have := HF.out
          rw [if_neg (by omega)] at this
          exact ⟨k + 1, by omega, by go_num, this, bto hbw hw'⟩
        case measure => simp [intOf]; omega
    · obtain rfl : k = ps.length := by omega
      rw [List.drop_length] at hF
      go_wp2_with fail
      go_ret
      exact ⟨by rw [hF]; rfl, hbw⟩
set_option maxHeartbeats 400000 in
theorem firstDay_any (pv : Value) (ps : List Pt) (w : World) (hr : Pts w pv ps) (hl : ps.length ≤ 1000) :
    Calls PA.prog 30 #[pv, .func (.func 31) #[] #[]] w fun e w' => e = .returned (I (firstL ps 0)) ∧ Below w.heap.size w w' := by
  go_enter PA.func30, Try.ntmps30
  go_wp2_with (go_at_call 51; refine (indexDay_any _ _ _ hr hl).mono ?_; rintro e w' ⟨rfl, hw⟩)
  go_ret
  exact ⟨rfl, hw⟩
end Go.Proofs.Ytpolipcicfjkiaa
/- The plain law: more rain, no lower level, no greater lack. Conditions: none. -/
namespace Go.Proofs.Ytpolipcicfjkiaa
open Go.RowKit Go.Sort
open Go.Proofs.Ytpolipcicfjkiaa.Cy (BelowH stepD runD lastsB)

/-- Day by day: in range, no less rain, the same is wanted. -/
def Dom : List (Int × Int) → List (Int × Int) → Prop
  | [], [] => True
  | x :: xs, y :: ys => DayIn x ∧ DayIn y ∧ x.1 ≤ y.1 ∧ x.2 = y.2 ∧ Dom xs ys
  | _, _ => False
/-- Run by run: levels in range and no lower, lacks no greater. -/
def RLe (cap : Int) : List (Int × Int × Int) → List (Int × Int × Int) → Prop
  | [], [] => True
  | x :: xs, y :: ys => 0 ≤ x.1 ∧ x.1 ≤ y.1 ∧ y.1 ≤ cap ∧ 0 ≤ y.2.1 ∧ y.2.1 ≤ x.2.1 ∧ RLe cap xs ys
  | _, _ => False
theorem run_le {cap : Int} (h3 : cap ≤ 60) : ∀ (xs ys : List (Int × Int)) (lv lv' : Int), 0 ≤ lv → lv ≤ lv' → lv' ≤ cap → Dom xs ys → RLe cap (runD cap lv xs) (runD cap lv' ys)
  | [], [], _, _, _, _, _, _ => trivial
  | [], _ :: _, _, _, _, _, _, h => h.elim
  | _ :: _, [], _, _, _, _, _, h => h.elim
  | x :: xs, y :: ys, lv, lv', h0, h1, h2, h => by
    obtain ⟨hx, hy, hr, hw, ht⟩ := h
    rw [runD_cons h0 (by omega) h3 hx, runD_cons (by omega) h2 h3 hy]
    have a1 := hx.1
    have a2 := hy.1
    have a3 := hx.2.2.1
    refine ⟨?_, ?_, ?_, ?_, ?_, run_le h3 xs ys _ _ ?_ ?_ ?_ ht⟩ <;> (try simp only) <;> omega
theorem met_le {cap : Int} : ∀ (r r' : List (Int × Int × Int)), RLe cap r r' → met r = true → met r' = true
  | [], [], _, _ => rfl
  | [], _ :: _, h, _ => h.elim
  | _ :: _, [], h, _ => h.elim
  | x :: xs, y :: ys, h, hm => by
    obtain ⟨_, _, _, _, h5, ht⟩ := h
    have hm : (!decide (0 < x.2.1) && met xs) = true := hm
    rw [Bool.and_eq_true] at hm
    show (!decide (0 < y.2.1) && met ys) = true
    rw [met_le xs ys ht hm.2]
    have := hm.1
    simp at this ⊢
    omega
/-- The first day of a run that lacks. -/
def firstR : List (Int × Int × Int) → Nat → Int
  | [], _ => -1
  | x :: xs, k => if 0 < x.2.1 then k else firstR xs (k + 1)
theorem firstR_ge : ∀ (r : List (Int × Int × Int)) (k : Nat), firstR r k = -1 ∨ (k : Int) ≤ firstR r k
  | [], _ => .inl rfl
  | x :: xs, k => by
    unfold firstR
    split
    · exact .inr (Int.le_refl _)
    · rcases firstR_ge xs (k + 1) with h | h
      · exact .inl h
      · exact .inr (by omega)
theorem first_le {cap : Int} : ∀ (r r' : List (Int × Int × Int)) (k : Nat), RLe cap r r' → firstR r' k = -1 ∨ (0 ≤ firstR r k ∧ firstR r k ≤ firstR r' k)
  | [], [], _, _ => .inl rfl
  | [], _ :: _, _, h => h.elim
  | _ :: _, [], _, h => h.elim
  | x :: xs, y :: ys, k, h => by
    obtain ⟨_, _, _, _, h5, ht⟩ := h
    have key := firstR_ge (y :: ys) k
    by_cases hx : 0 < x.2.1
    · rw [show firstR (x :: xs) k = k by simp [firstR, hx]]
      rcases key with h | h
      · exact .inl h
      · exact .inr ⟨by omega, h⟩
    · rw [show firstR (x :: xs) k = firstR xs (k + 1) by simp [firstR, hx], show firstR (y :: ys) k = firstR ys (k + 1) by rw [firstR, if_neg (by omega)]]
      exact first_le xs ys (k + 1) ht
theorem findI_ge (f : Int → Bool) : ∀ (k : Nat) (s r : Int), findI f k s = some r → s ≤ r ∧ r < s + k ∧ f r = true
  | 0, _, _, e => by cases e
  | k + 1, s, r, e => by
    unfold findI at e
    split at e
    · rename_i h
      cases e
      exact ⟨Int.le_refl _, by omega, h⟩
    · have := findI_ge f k (s + 1) r e
      exact ⟨by omega, by omega, this.2.2⟩
theorem findI_mono {f g : Int → Bool} : ∀ (k : Nat) (s r : Int), (∀ x, s ≤ x → x < s + k → f x = true → g x = true) → findI f k s = some r → ∃ r', findI g k s = some r' ∧ r' ≤ r
  | 0, _, _, _, e => by cases e
  | k + 1, s, r, h, e => by
    unfold findI at e ⊢
    by_cases hf : f s = true
    · rw [if_pos hf] at e
      cases e
      rw [if_pos (h _ (Int.le_refl _) (by omega) hf)]
      exact ⟨_, rfl, Int.le_refl _⟩
    · rw [if_neg hf] at e
      by_cases hg : g s = true
      · rw [if_pos hg]
        refine ⟨_, rfl, ?_⟩
        have := findI_ge f k (s + 1) r e
        omega
      · rw [if_neg hg]
        exact findI_mono k (s + 1) r (fun x h1 h2 => h x (by omega) (by omega)) e
/-- Two years that differ in the rain alone, of which the second is the narrower. -/
def Nar (a b : CY) : Prop := a.size = b.size ∧ a.start = b.start ∧ a.days.length = b.days.length ∧ ∀ (i : Nat) (p q : Pt), a.days[i]? = some p → b.days[i]? = some q → p.lo ≤ q.lo ∧ q.lo ≤ q.hi ∧ q.hi ≤ p.hi ∧ p.cost = q.cost
theorem dom_of : ∀ (xs ys : List (Int × Int)), xs.length = ys.length → (∀ (i : Nat) x y, xs[i]? = some x → ys[i]? = some y → DayIn x ∧ DayIn y ∧ x.1 ≤ y.1 ∧ x.2 = y.2) → Dom xs ys
  | [], [], _, _ => trivial
  | [], _ :: _, h, _ => by simp at h
  | _ :: _, [], h, _ => by simp at h
  | x :: xs, y :: ys, hl, h => by
    obtain ⟨h1, h2, h3, h4⟩ := h 0 x y rfl rfl
    exact ⟨h1, h2, h3, h4, dom_of xs ys (by simpa using hl) fun i x' y' e e' => h (i + 1) x' y' (by simpa using e) (by simpa using e')⟩
end Go.Proofs.Ytpolipcicfjkiaa
/- The plain law: the narrower year. Conditions: the first is in range. -/
namespace Go.Proofs.Ytpolipcicfjkiaa
open Go.RowKit Go.Sort
open Go.Proofs.Ytpolipcicfjkiaa.Cy (BelowH stepD runD lastsB)

def PtIn (p : Pt) : Prop := 0 ≤ p.lo ∧ p.lo ≤ p.hi ∧ p.hi ≤ 20 ∧ 0 ≤ p.cost ∧ p.cost ≤ 20
def highD (y : CY) : List (Int × Int) := y.days.map fun p => (p.hi, p.cost)
theorem nar_low {a b : CY} (h : Nar a b) (hr : ∀ p ∈ a.days, PtIn p) : Dom (lowD a) (lowD b) := by
  obtain ⟨_, _, hl, hd⟩ := h
  refine dom_of _ _ (by simp [lowD, hl]) fun i x y hx hy => ?_
  simp only [lowD, List.getElem?_map] at hx hy
  obtain ⟨p, hp, rfl⟩ := Option.map_eq_some_iff.1 hx
  obtain ⟨q, hq, rfl⟩ := Option.map_eq_some_iff.1 hy
  obtain ⟨h1, h2, h3, h4⟩ := hd i p q hp hq
  obtain ⟨k1, k2, k3, k4, k5⟩ := hr p (List.mem_of_getElem? hp)
  exact ⟨⟨k1, by show p.lo ≤ 20; omega, k4, k5⟩, ⟨by show 0 ≤ q.lo; omega, by show q.lo ≤ 20; omega, by show 0 ≤ q.cost; omega, by show q.cost ≤ 20; omega⟩, h1, h4⟩
theorem nar_high {a b : CY} (h : Nar a b) (hr : ∀ p ∈ a.days, PtIn p) : Dom (highD b) (highD a) := by
  obtain ⟨_, _, hl, hd⟩ := h
  refine dom_of _ _ (by simp [highD, hl]) fun i x y hx hy => ?_
  simp only [highD, List.getElem?_map] at hx hy
  obtain ⟨q, hq, rfl⟩ := Option.map_eq_some_iff.1 hx
  obtain ⟨p, hp, rfl⟩ := Option.map_eq_some_iff.1 hy
  obtain ⟨h1, h2, h3, h4⟩ := hd i p q hp hq
  obtain ⟨k1, k2, k3, k4, k5⟩ := hr p (List.mem_of_getElem? hp)
  exact ⟨⟨by show 0 ≤ q.hi; omega, by show q.hi ≤ 20; omega, by show 0 ≤ q.cost; omega, by show q.cost ≤ 20; omega⟩, ⟨by show 0 ≤ p.hi; omega, k3, k4, k5⟩, h3, h4.symm⟩
theorem dom_self {y : CY} (hr : ∀ p ∈ y.days, PtIn p) : Dom (lowD y) (highD y) := by
  refine dom_of _ _ (by simp [lowD, highD]) fun i x z hx hz => ?_
  simp only [lowD, highD, List.getElem?_map] at hx hz
  obtain ⟨p, hp, rfl⟩ := Option.map_eq_some_iff.1 hx
  rw [hp] at hz
  cases hz
  obtain ⟨k1, k2, k3, k4, k5⟩ := hr p (List.mem_of_getElem? hp)
  exact ⟨⟨k1, by show p.lo ≤ 20; omega, k4, k5⟩, ⟨by show 0 ≤ p.hi; omega, k3, k4, k5⟩, k2, rfl⟩
theorem nar_in {a b : CY} (h : Nar a b) (hr : ∀ p ∈ a.days, PtIn p) : ∀ p ∈ b.days, PtIn p := by
  obtain ⟨_, _, hl, hd⟩ := h
  intro q hq
  obtain ⟨i, hi⟩ := List.mem_iff_getElem?.1 hq
  obtain ⟨hlt, _⟩ := List.getElem?_eq_some_iff.1 hi
  obtain ⟨h1, h2, h3, h4⟩ := hd i a.days[i] q (List.getElem?_eq_getElem (by omega)) hi
  obtain ⟨k1, k2, k3, k4, k5⟩ := hr a.days[i] (List.getElem_mem _)
  exact ⟨by omega, h2, by omega, by omega, by omega⟩

theorem lasts_nar {a b : CY} (h : Nar a b) (hs : 0 ≤ a.size ∧ a.size ≤ 60) (h0 : 0 ≤ a.start) (hr : ∀ p ∈ a.days, PtIn p) : lastsY a = true → lastsY b = true := by
  intro hl
  have hd := nar_low h hr
  obtain ⟨e1, e2, _, _⟩ := h
  show met (runD b.size (if b.size < b.start then b.size else b.start) (lowD b)) = true
  rw [← e1, ← e2]
  exact met_le _ _ (run_le hs.2 (lowD a) (lowD b) _ _ (by split <;> omega) (Int.le_refl _) (by split <;> omega) hd) hl
theorem size_nar {a b : CY} (h : Nar a b) (h0 : 0 ≤ a.start) (hr : ∀ p ∈ a.days, PtIn p) {s : Int} (hs : sizeY a = some s) : ∃ s', sizeY b = some s' ∧ s' ≤ s := by
  refine findI_mono 61 0 s (fun x h1 h2 hx => ?_) hs
  exact lasts_nar (a := { a with size := x }) (b := { b with size := x }) ⟨rfl, h.2.1, h.2.2⟩ ⟨h1, by show x ≤ 60; omega⟩ h0 hr hx
theorem start_nar {a b : CY} (h : Nar a b) (hz : 0 ≤ a.size ∧ a.size ≤ 60) (hr : ∀ p ∈ a.days, PtIn p) {s : Int} (hs : startY a = some s) : ∃ s', startY b = some s' ∧ s' ≤ s := by
  unfold startY at hs ⊢
  rw [← h.1]
  refine findI_mono (a.size.toNat + 1) 0 s (fun x h1 h2 hx => ?_) hs
  exact lasts_nar (a := { a with start := x }) (b := { size := a.size, start := x, days := b.days }) ⟨rfl, rfl, h.2.2⟩ hz h1 hr hx
theorem ration_nar {a b : CY} (h : Nar a b) (hz : 0 ≤ a.size ∧ a.size ≤ 60) (h0 : 0 ≤ a.start) (hr : ∀ p ∈ a.days, PtIn p) (hva : yValid a = true) : rationY a ≤ rationY b := by
  have key : ∀ m, 0 ≤ m → lastsY { a with days := ratD m a.days } = true → lastsY { b with days := ratD m b.days } = true := by
    intro m hm
    refine lasts_nar (a := { a with days := ratD m a.days }) (b := { b with days := ratD m b.days }) ⟨h.1, h.2.1, by simp [ratD, h.2.2.1], fun i p q hp hq => ?_⟩ hz h0 fun p hp => ?_
    · simp only [ratD, List.getElem?_map] at hp hq
      obtain ⟨p0, hp0, rfl⟩ := Option.map_eq_some_iff.1 hp
      obtain ⟨q0, hq0, rfl⟩ := Option.map_eq_some_iff.1 hq
      obtain ⟨k1, k2, k3, k4⟩ := h.2.2.2 i p0 q0 hp0 hq0
      exact ⟨k1, k2, k3, by show min p0.cost m = min q0.cost m; rw [k4]⟩
    · simp only [ratD, List.mem_map] at hp
      obtain ⟨p0, hp0, rfl⟩ := hp
      obtain ⟨k1, k2, k3, k4, k5⟩ := hr p0 hp0
      exact ⟨k1, k2, k3, by show 0 ≤ min p0.cost m; omega, by show min p0.cost m ≤ 20; omega⟩
  unfold rationY
  cases hf : findI (fun s => lastsY { a with days := ratD (20 - s) a.days }) 21 0 with
  | none =>
    have := lasts_zero hva
    have h2 : ∀ (k : Nat) (s r : Int), s ≤ r → r < s + k → findI (fun s => lastsY { a with days := ratD (20 - s) a.days }) k s = none → lastsY { a with days := ratD (20 - r) a.days } = false := by
      intro k
      induction k with
      | zero => intro s r h1 h2; omega
      | succ k ih =>
        intro s r h1 h2 hn
        unfold findI at hn
        split at hn
        · cases hn
        · rename_i hh
          by_cases e : s = r
          · subst e; simpa using hh
          · exact ih (s + 1) r (by omega) (by omega) hn
    have h3 := h2 21 0 20 (by omega) (by omega) hf
    rw [show (20 : Int) - 20 = 0 by omega, this] at h3
    cases h3
  | some r =>
    obtain ⟨r', h1, h2⟩ := findI_mono (g := fun s => lastsY { b with days := ratD (20 - s) b.days }) 21 0 r (fun x hx1 hx2 hx => key (20 - x) (by omega) hx) hf
    rw [h1]
    show 20 - r ≤ 20 - r'
    omega
end Go.Proofs.Ytpolipcicfjkiaa
/- Walks of the reference's Set and can. -/
namespace Go.Proofs.Ytpolipcicfjkiaa
open Go.RowKit Go.Sort

theorem ptCells_setFlow : ∀ (ps : List Pt) (i : Nat) (lo hi : Int), i < ps.length → ((ptCells ps).set (i * 3) (I lo)).set (i * 3 + 1) (I hi) = ptCells (ps.modify i fun x => { x with lo := lo, hi := hi })
  | [], i, _, _, h => absurd h (by simp)
  | p :: ps, 0, lo, hi, _ => by simp [ptCells, Pt.cells]
  | p :: ps, i + 1, lo, hi, h => by
    have ih := ptCells_setFlow ps i lo hi (by simpa using h)
    have e : ptCells (p :: ps) = I p.lo :: I p.hi :: I p.cost :: ptCells ps := rfl
    rw [e, show (i + 1) * 3 + 1 = (i * 3 + 1) + 3 from by omega, show (i + 1) * 3 = i * 3 + 3 from by omega]
    simp only [List.set_cons_succ, List.modify_succ_cons]
    rw [ih]
    rfl
theorem OwnAt.flow {w : World} {base g cap : Nat} {ov : Value} {d : DLine} (h : OwnAt w base g cap ov d) (p : Nat) (lo hi : Int) (hp : p < d.pts.length) :
    OwnAt ((w.setCell ⟨g, p * 3, none⟩ (I lo)).setCell ⟨g, p * 3 + 1, none⟩ (I hi)) base g cap ov (setFlow d p lo hi) := by
  have a1 := (h.pts.stored (p * 3) (I lo)).1
  have a2 := (a1.stored (p * 3 + 1) (I hi)).1
  rw [ptCells_setFlow _ _ _ _ hp] at a2
  have n1 := own_ne h.pts h.odds (by decide) (g := g) rfl
  refine ⟨by simpa [setFlow] using a2, ?_⟩
  exact own_setOther (own_setOther h.odds _ _ n1) _ _ n1

end Go.Proofs.Ytpolipcicfjkiaa
/- Walk of the reference's flowOf. -/
namespace Go.Proofs.Ytpolipcicfjkiaa
open Go.RowKit Go.Sort

theorem Box2.set1 {w : World} {B : Nat} {u0 u1 : Value} (h : Box2 w B u0 u1) (u : Value) : Box2 (w.setCell ⟨B, 1, none⟩ u) B u0 u :=
  ⟨by rw [World.cell?_setCell_other _ _ _ _ (by simp)]; exact h.c0, World.cell?_setCell_same _ _ _ h.c1, by simpa [go_sem] using h.f0, by simpa [go_sem] using h.f1⟩

end Go.Proofs.Ytpolipcicfjkiaa
/- Walks of the reference's worst, OddsOf, ask, Worst. -/
namespace Go.Proofs.Ytpolipcicfjkiaa
open Go.RowKit Go.Sort

theorem argmin_succ (g : Nat → Int) (f k : Nat) : argmin g f (k + 1) = if (argmin g f k).2 = 0 ∨ g (f + k + 1) < (argmin g f k).1 then (g (f + k + 1), f + k + 1) else argmin g f k := rfl
theorem tabG_worst (d : DLine) (f t p : Nat) (h1 : f < p) (h2 : p < t) : tabG (worstP d) (t - f) f p = costAt d p + max (worstN d f p) (worstN d p t) := by
  unfold tabG worstN worstP
  rw [show f + (t - f) - p = t - p by omega]
theorem worstN_eq (d : DLine) (f t : Nat) : worstN d f t = (argmin (tabG (worstP d) (t - f) f) f (t - f - 1)).1 := by
  unfold worstN
  rw [tab_eq]

end Go.Proofs.Ytpolipcicfjkiaa
/- Walks of the reference's known, Flow, lossOf. -/
namespace Go.Proofs.Ytpolipcicfjkiaa
open Go.RowKit Go.Sort

theorem flowsR_ask {d : DLine} {is : Bool} (h : askE d is ≠ 0) : flowsR d is = ([], askE d is) := by unfold flowsR; rw [if_neg h]
theorem flowsR_none {d : DLine} {is : Bool} (h : askE d is = 0) (hc : oneB d = false) : flowsR d is = ([], 3) := by
  unfold flowsR
  rw [oneB_clash (askE_ok h).1] at hc
  rw [if_pos h, if_pos (by cases hx : clashO d <;> simp [hx] at hc ⊢)]
theorem flowsR_one {d : DLine} {is : Bool} (h : askE d is = 0) (hc : oneB d = true) : flowsR d is = (flowsL d, 0) := by
  unfold flowsR
  rw [oneB_clash (askE_ok h).1] at hc
  rw [if_pos h, if_neg (by cases hx : clashO d <;> simp [hx] at hc ⊢)]
theorem flowsR_calm {d : DLine} {is : Bool} (h : (flowsR d is).2 = 0) : calm d.pts := (clash_none d).1 (flowsR_bd h).2.2.2

def lossP (d : DLine) (f t : Nat) : Int × Int := if f = t then (0, 0) else (max 0 (loSuf d.pts f - hiPre d.pts (t + 1)), hiPre d.pts (f + 1) - loSuf d.pts t)
theorem lostF_lossP (d : DLine) (f t : Nat) (hf : f < d.pts.length) (ht : t < d.pts.length) : lostF (flowsL d) f t = lossP d f t := by
  unfold lostF lossP
  have e : ∀ i, i < d.pts.length → (flowsL d).getD i (0, 0) = flowAt d i := fun i hi => by simp [flowsL, List.getD, hi]
  rw [e f hf, e t ht]; rfl
/-- What a round of 'lossOf' adds. -/
theorem loss_round {d : DLine} (hv : valid d = true) (hc : calm d.pts) (f t : Nat) (hft : f ≤ t) (ht : t < d.pts.length) (n : Int) (h0 : loSuf d.pts f ≤ n) (h1 : n ≤ hiPre d.pts (f + 1)) :
    ∃ a b M X : Int, flowAt (setFlow d f n n) t = (a, b) ∧ (0 ≤ a ∧ a ≤ 99 ∧ 0 ≤ b ∧ b ≤ 99) ∧ M ≤ n - b ∧ (n = loSuf d.pts f → M = n - b) ∧ X = n - a ∧ M = (if f = t then 0 else max 0 (loSuf d.pts f - hiPre d.pts (t + 1))) ∧ X = (if f = t then 0 else n - loSuf d.pts t) := by
  have b1 := loSuf_bd hv (d.pts.length - f) f (by omega)
  have b2 := hiPre_bd hv (f + 1)
  have b3 := loSuf_bd hv (d.pts.length - t) t (by omega)
  have b4 := hiPre_bd hv (t + 1)
  by_cases e : f = t
  · subst e
    refine ⟨n, n, 0, 0, flow_self hv hc f ht n h0 h1, by omega, by omega, by omega, by omega, by rw [if_pos rfl], by rw [if_pos rfl]⟩
  · refine ⟨loSuf d.pts t, min n (hiPre d.pts (t + 1)), _, _, flow_setFlow f t (by omega) ht n h0 h1, by omega, ?_, ?_, ?_, rfl, rfl⟩
    · rw [if_neg e]; omega
    · intro h; rw [if_neg e]; omega
    · rw [if_neg e]
end Go.Proofs.Ytpolipcicfjkiaa
/- Walk of the reference's lossOf. -/
namespace Go.Proofs.Ytpolipcicfjkiaa
open Go.RowKit Go.Sort

end Go.Proofs.Ytpolipcicfjkiaa
/- Walks of Lossy and Clash. -/
namespace Go.Proofs.Ytpolipcicfjkiaa
open Go.RowKit Go.Sort

def lossyOf (s : (Int × Int) × Int) : Int × Int := if s.2 = 0 then (if 0 < s.1.1 then (1, 0) else if s.1.2 = 0 then (2, 0) else (3, 0)) else (0, s.2)
def lossyR (d : DLine) (p : Int) : Int × Int := lossyOf (lossR d p)
end Go.Proofs.Ytpolipcicfjkiaa
/- Walks of the reference's Loss, Lossy, Whole. -/
namespace Go.Proofs.Ytpolipcicfjkiaa
open Go.RowKit Go.Sort

end Go.Proofs.Ytpolipcicfjkiaa
/- Walks of inside and In. -/
namespace Go.Proofs.Ytpolipcicfjkiaa
open Go.RowKit Go.Sort

def insideB (a b : Int × Int) : Bool := decide (b.1 ≤ a.1) && decide (a.1 ≤ a.2) && decide (a.2 ≤ b.2)
end Go.Proofs.Ytpolipcicfjkiaa
/- One more gauging, and each truth: plain laws over what the functions return. -/
namespace Go.Proofs.Ytpolipcicfjkiaa

theorem askE_yes {d : DLine} (h : valid d = true) : askE d true = 0 := by simp [askE, h]
theorem flowsR_calm' {d : DLine} (h : valid d = true) (hc : calm d.pts) : flowsR d true = (flowsL d, 0) := flowsR_one (askE_yes h) ((oneB_iff h).2 hc)
theorem flowsR_wild {d : DLine} (h : valid d = true) (hc : ¬ calm d.pts) : flowsR d true = ([], 3) := flowsR_none (askE_yes h) (by cases hx : oneB d; rfl; exact absurd ((oneB_iff h).1 hx) hc)
theorem flowR_ok {d : DLine} (h : valid d = true) (hc : calm d.pts) (q : Nat) (hq : q < d.pts.length) : flowR d q = (flowAt d q, 0) := by
  have hi : isPt d q = true := by simp [isPt, inR]; omega
  unfold flowR
  rw [hi, flowsR_calm' h hc]
  simp
theorem lossR_ok {d : DLine} (h : valid d = true) (hc : calm d.pts) (s : Nat) (hs : s < d.odds.length) : lossR d s = (lossP d s (s + 1), 0) := by
  have hi : isSt d s = true := by simp [isSt, inR]; omega
  have hpn := (valid_spec h).2.1
  unfold lossR
  rw [hi, flowsR_calm' h hc]
  simp only [if_true, Int.toNat_natCast]
  rw [lostF_lossP d s (s + 1) (by omega) (by omega)]
theorem wholeR_ok {d : DLine} (h : valid d = true) (hc : calm d.pts) : wholeR d = (lossP d 0 d.odds.length, 0) := by
  have hpn := (valid_spec h).2.1
  unfold wholeR
  rw [flowsR_calm' h hc]
  simp only [if_true]
  rw [lostF_lossP d 0 d.odds.length (by omega) (by omega)]
theorem wholeR_none {d : DLine} (h : valid d = true) (hc : ¬ calm d.pts) : wholeR d = ((0, 0), 3) := by
  unfold wholeR
  rw [flowsR_wild h hc]
  simp
theorem loSuf_down {d : DLine} (f t : Nat) (hft : f ≤ t) (ht : t < d.pts.length) : loSuf d.pts t ≤ loSuf d.pts f := by
  rw [loSuf_le _ _ (by omega)]
  have := (loSuf_le d.pts f (by omega) (loSuf d.pts f)).1 (Int.le_refl _)
  exact ⟨this.1, fun i h1 h2 => this.2 i (by omega) h2⟩
theorem hiPre_mono {d : DLine} (f t : Nat) (hft : f ≤ t) (ht : t ≤ d.pts.length) : hiPre d.pts t ≤ hiPre d.pts f := by
  rw [hiPre_all _ _ (by omega)]
  have := (hiPre_all d.pts t (by omega) (hiPre d.pts t)).1 (Int.le_refl _)
  exact ⟨this.1, fun i h1 => this.2 i (by omega)⟩
/-- A narrower line: what it leaves. -/
structure Narrow (d D : DLine) : Prop where
  vd : valid d = true
  vD : valid D = true
  lp : D.pts.length = d.pts.length
  lo : D.odds.length = d.odds.length
  cd : calm d.pts
  cD : calm D.pts
  low : ∀ i, i < d.pts.length → loSuf d.pts i ≤ loSuf D.pts i
  high : ∀ i, i ≤ d.pts.length → hiPre D.pts i ≤ hiPre d.pts i
theorem narrow_of {d : DLine} (hv : valid d = true) (p : Nat) (hp : p < d.pts.length) (lo hi : Int) (hin : insideB (lo, hi) ((d.pts[p]).lo, (d.pts[p]).hi) = true) (h1 : oneB (setFlow d p lo hi) = true) : Narrow d (setFlow d p lo hi) := by
  simp only [insideB, Bool.and_eq_true, decide_eq_true_eq] at hin
  obtain ⟨⟨i1, i2⟩, i3⟩ := hin
  obtain ⟨p1, p2, p3⟩ := valid_pt hv p hp
  have hg : d.pts.getD p default = d.pts[p] := by simp [List.getD, List.getElem?_eq_getElem hp]
  rw [hg] at p1 p2 p3
  have hV := setFlow_valid hv p lo hi (by omega) i2 (by omega)
  have hC := (oneB_iff hV).1 h1
  have hl := (setFlow_len d p lo hi).1
  have key : ∀ i, i < d.pts.length → (d.pts.getD i default).lo ≤ ((setFlow d p lo hi).pts.getD i default).lo ∧ ((setFlow d p lo hi).pts.getD i default).hi ≤ (d.pts.getD i default).hi := by
    intro i _
    rw [(setFlow_get d p lo hi i hp).1, (setFlow_get d p lo hi i hp).2]
    by_cases e : i = p
    · subst e; rw [if_pos rfl, if_pos rfl, hg]; exact ⟨i1, i3⟩
    · rw [if_neg e, if_neg e]; exact ⟨Int.le_refl _, Int.le_refl _⟩
  refine ⟨hv, hV, hl, by rw [(setFlow_len d p lo hi).2], fun b hb a ha => ?_, hC, fun i hi' => ?_, fun i hi' => ?_⟩
  · have h1 := hC b (by rw [hl]; exact hb) a ha
    have h2 := (key b hb).1
    have h3 := (key a (by omega)).2
    omega
  · rw [loSuf_le _ _ (by omega)]
    have := (loSuf_le (setFlow d p lo hi).pts i (by rw [hl]; omega) (loSuf (setFlow d p lo hi).pts i)).1 (Int.le_refl _)
    refine ⟨this.1, fun j h1 h2 => ?_⟩
    have h3 := this.2 j h1 (by rw [hl]; exact h2)
    have h4 := (key j h2).1
    omega
  · rw [hiPre_all _ _ hi']
    have := (hiPre_all (setFlow d p lo hi).pts i (by rw [hl]; omega) (hiPre (setFlow d p lo hi).pts i)).1 (Int.le_refl _)
    refine ⟨this.1, fun j h1 => ?_⟩
    have h3 := this.2 j h1
    have h4 := (key j (by omega)).2
    omega
theorem inside_iff (a b : Int × Int) : insideB a b = true ↔ b.1 ≤ a.1 ∧ a.1 ≤ a.2 ∧ a.2 ≤ b.2 := by
  unfold insideB
  simp [and_assoc]
theorem Narrow.flow {d D : DLine} (h : Narrow d D) (q : Nat) (hq : q < d.pts.length) : insideB (flowAt D q) (flowAt d q) = true := by
  rw [inside_iff]
  exact ⟨h.low q hq, calm_flow h.vD h.cD q (by rw [h.lp]; exact hq), h.high (q + 1) (by omega)⟩
theorem loss_facts {d : DLine} (hv : valid d = true) (hc : calm d.pts) (f t : Nat) (hft : f ≤ t) (ht : t < d.pts.length) : 0 ≤ (lossP d f t).1 ∧ (lossP d f t).1 ≤ (lossP d f t).2 := by
  have h1 := calm_flow hv hc f (by omega)
  have h2 := calm_flow hv hc t ht
  have h3 := loSuf_down f t hft ht
  have h4 := hiPre_mono (d := d) (f + 1) (t + 1) (by omega) (by omega)
  unfold lossP
  split
  · exact ⟨Int.le_refl _, Int.le_refl _⟩
  · exact ⟨by simp only; omega, by simp only; omega⟩
theorem Narrow.loss {d D : DLine} (h : Narrow d D) (f t : Nat) (hft : f ≤ t) (ht : t < d.pts.length) : insideB (lossP D f t) (lossP d f t) = true := by
  rw [inside_iff]
  have h0 := (loss_facts h.vD h.cD f t hft (by rw [h.lp]; exact ht)).2
  refine ⟨?_, h0, ?_⟩
  · have a1 := h.low f (by omega)
    have a2 := h.high (t + 1) (by omega)
    unfold lossP
    split
    · exact Int.le_refl _
    · simp only; omega
  · have a1 := h.low t ht
    have a2 := h.high (f + 1) (by omega)
    unfold lossP
    split
    · exact Int.le_refl _
    · simp only; omega
theorem lossyR_ok {d : DLine} (h : valid d = true) (hc : calm d.pts) (s : Nat) (hs : s < d.odds.length) : lossyR d s = ((if 0 < (lossP d s (s + 1)).1 then 1 else if (lossP d s (s + 1)).2 = 0 then 2 else 3), 0) := by
  unfold lossyR lossyOf
  rw [lossR_ok h hc s hs]
  simp only [if_true]
  split
  · rfl
  · split <;> rfl
theorem Narrow.lossy {d D : DLine} (h : Narrow d D) (s : Nat) (hs : s < d.odds.length) : (lossyR d s).1 = 3 ∨ (lossyR D s).1 = (lossyR d s).1 := by
  have hpn := (valid_spec h.vd).2.1
  have h1 := (inside_iff _ _).1 (h.loss s (s + 1) (by omega) (by omega))
  have h2 := loss_facts h.vd h.cd s (s + 1) (by omega) (by omega)
  have h3 := loss_facts h.vD h.cD s (s + 1) (by omega) (by rw [h.lp]; omega)
  rw [lossyR_ok h.vd h.cd s hs, lossyR_ok h.vD h.cD s (by rw [h.lo]; exact hs)]
  simp only
  by_cases c1 : 0 < (lossP d s (s + 1)).1
  · right; rw [if_pos c1, if_pos (by omega)]
  · rw [if_neg c1]
    by_cases c2 : (lossP d s (s + 1)).2 = 0
    · right; rw [if_pos c2, if_neg (by omega), if_pos (by omega)]
    · left; rw [if_neg c2]
end Go.Proofs.Ytpolipcicfjkiaa
/- The plain law: the rains of a narrower line; what the rest of TopRained asks. Conditions: as stated. -/
namespace Go.Proofs.Ytpolipcicfjkiaa
open Go.RowKit Go.Sort
open Go.Proofs.Ytpolipcicfjkiaa.Cy (BelowH stepD runD lastsB)

theorem rain_flow {d : DLine} (hv : valid d = true) (hc : calm d.pts) (k : Nat) (hk : k < d.pts.length) : (flowR d (k : Nat)).2 = 0 ∧ (flowR d (k : Nat)).1.1 ≤ (flowR d (k : Nat)).1.2 := by
  rw [flowR_ok hv hc k hk]
  exact ⟨rfl, calm_flow hv hc k hk⟩
theorem rainY_get (d : DLine) (y : CY) (i : Nat) : (rainY d y).days[i]? = (y.days[i]?).map (rainP d i) := by
  show (rainTo d y.days y.days.length)[i]? = _
  rw [rainTo_get]
  cases h : y.days[i]? with
  | none => rfl
  | some x => 
    have := (List.getElem?_eq_some_iff.1 h).1
    simp [this]
theorem rainY_len (d : DLine) (y : CY) : (rainY d y).days.length = y.days.length := rainTo_len d y.days _
theorem rain_nar {d D : DLine} (h : Narrow d D) (y : CY) (hl : y.days.length ≤ d.pts.length) : Nar (rainY d y) (rainY D y) := by
  refine ⟨rfl, rfl, by rw [rainY_len, rainY_len], fun i p q hp hq => ?_⟩
  rw [rainY_get] at hp hq
  obtain ⟨x, hx, rfl⟩ := Option.map_eq_some_iff.1 hp
  rw [hx] at hq
  cases hq
  have hi := (List.getElem?_eq_some_iff.1 hx).1
  have e1 := flowR_ok h.vd h.cd i (by omega)
  have e2 := flowR_ok h.vD h.cD i (by rw [h.lp]; omega)
  simp only [rainP, e1, e2, flowAt]
  exact ⟨h.low i (by omega), calm_flow h.vD h.cD i (by rw [h.lp]; omega), h.high (i + 1) (by omega), trivial⟩
/-- What a valid year's narrower one is. -/
theorem nar_valid {a b : CY} (h : Nar a b) (hv : yValid a = true) : yValid b = true := by
  obtain ⟨h1, h2, h3, h4, h5, h6⟩ := yValid_spec hv
  have hin := nar_in h (fun p hp => h6 p hp)
  obtain ⟨e1, e2, e3, _⟩ := h
  have hb : b.days.any badCd = false := List.any_eq_false.2 fun q hq => by
    have := hin q hq
    unfold PtIn at this
    simp [badCd, inR]
    omega
  simp [yValid, hb, inR]
  omega

/-- Dry of a year, by its low run. -/
def dryY (y : CY) : Int := firstR (runD y.size (if y.size < y.start then y.size else y.start) (lowD y)) 0
theorem dry_nar {a b : CY} (h : Nar a b) (hv : yValid a = true) : dryY b = -1 ∨ (0 ≤ dryY a ∧ dryY a ≤ dryY b) := by
  obtain ⟨h1, h2, h3, h4, h5, h6⟩ := yValid_spec hv
  have hd := nar_low h (fun p hp => h6 p hp)
  unfold dryY
  rw [← h.1, ← h.2.1]
  exact first_le _ _ 0 (run_le h2 (lowD a) (lowD b) _ _ (by split <;> omega) (Int.le_refl _) (by split <;> omega) hd)
theorem rle_at {cap : Int} : ∀ (r r' : List (Int × Int × Int)) (i : Nat) (x y : Int × Int × Int), RLe cap r r' → r[i]? = some x → r'[i]? = some y → 0 ≤ x.1 ∧ x.1 ≤ y.1 ∧ y.1 ≤ cap
  | [], _, _, _, _, _, e, _ => by simp at e
  | _ :: _, [], _, _, _, _, _, e => by simp at e
  | x :: xs, y :: ys, 0, a, b, h, e, e' => by
    cases e; cases e'
    exact ⟨h.1, h.2.1, h.2.2.1⟩
  | x :: xs, y :: ys, i + 1, a, b, h, e, e' => rle_at xs ys i a b h.2.2.2.2.2 (by simpa using e) (by simpa using e')
theorem runD_len (cap : Int) : ∀ (ds : List (Int × Int)) (lv : Int), (runD cap lv ds).length = ds.length
  | [], _ => rfl
  | d :: ds, lv => by rw [runD]; simp [runD_len cap ds]
/-- The levels of a day lie between those of the wider year, in order, within the cistern. -/
theorem level_nar {a b : CY} (h : Nar a b) (hv : yValid a = true) (i : Nat) (al ah bl bh : Int × Int × Int)
    (e1 : (runD a.size (if a.size < a.start then a.size else a.start) (lowD a))[i]? = some al) (e2 : (runD a.size (if a.size < a.start then a.size else a.start) (highD a))[i]? = some ah)
    (e3 : (runD b.size (if b.size < b.start then b.size else b.start) (lowD b))[i]? = some bl) (e4 : (runD b.size (if b.size < b.start then b.size else b.start) (highD b))[i]? = some bh) :
    al.1 ≤ bl.1 ∧ bl.1 ≤ bh.1 ∧ bh.1 ≤ ah.1 ∧ al.1 ≤ ah.1 ∧ ah.1 ≤ a.size := by
  obtain ⟨h1, h2, h3, h4, h5, h6⟩ := yValid_spec hv
  have hin := nar_in h (fun p hp => h6 p hp)
  rw [← h.1, ← h.2.1] at e3 e4
  have c0 : 0 ≤ (if a.size < a.start then a.size else a.start) := by split <;> omega
  have c1 : (if a.size < a.start then a.size else a.start) ≤ a.size := by split <;> omega
  have r1 := rle_at _ _ i al bl (run_le h2 _ _ _ _ c0 (Int.le_refl _) c1 (nar_low h (fun p hp => h6 p hp))) e1 e3
  have r2 := rle_at _ _ i bl bh (run_le h2 _ _ _ _ c0 (Int.le_refl _) c1 (dom_self hin)) e3 e4
  have r3 := rle_at _ _ i bh ah (run_le h2 _ _ _ _ c0 (Int.le_refl _) c1 (nar_high h (fun p hp => h6 p hp))) e4 e2
  have r4 := rle_at _ _ i al ah (run_le h2 _ _ _ _ c0 (Int.le_refl _) c1 (dom_self (fun p hp => h6 p hp))) e1 e2
  omega
end Go.Proofs.Ytpolipcicfjkiaa
/- What both leaves, read as days. Conditions: none. -/
namespace Go.Proofs.Ytpolipcicfjkiaa
open Go.RowKit Go.Sort
open Go.Proofs.Ytpolipcicfjkiaa.Cy (BelowH stepD runD lastsB accD)

/-- A run as the program keeps it: a day's level, its lack, what has run over till then. -/
def daysL : Int → List (Int × Int × Int) → List Pt
  | _, [] => []
  | s, d :: ds => ⟨d.1, d.2.1, IntKind.i64.wrap (s + d.2.2)⟩ :: daysL (IntKind.i64.wrap (s + d.2.2)) ds
theorem daysL_len : ∀ (r : List (Int × Int × Int)) (s : Int), (daysL s r).length = r.length
  | [], _ => rfl
  | d :: ds, s => by simp [daysL, daysL_len ds]
theorem daysL_cells : ∀ (r : List (Int × Int × Int)) (s : Int), ptCells (daysL s r) = accD s r
  | [], _ => rfl
  | d :: ds, s => by
    show [I d.1, I d.2.1, I (IntKind.i64.wrap (s + d.2.2))] ++ ptCells (daysL (IntKind.i64.wrap (s + d.2.2)) ds) = _
    rw [daysL_cells ds]
    rfl
theorem firstL_days : ∀ (r : List (Int × Int × Int)) (s : Int) (k : Nat), firstL (daysL s r) k = firstR r k
  | [], _, _ => rfl
  | d :: ds, s, k => by
    show (if 0 < d.2.1 then (k : Int) else firstL _ (k + 1)) = if 0 < d.2.1 then (k : Int) else firstR ds (k + 1)
    rw [firstL_days ds]
theorem daysL_lo : ∀ (r : List (Int × Int × Int)) (s : Int) (i : Nat), ((daysL s r)[i]?).map Pt.lo = (r[i]?).map (·.1)
  | [], _, _ => rfl
  | d :: ds, s, 0 => rfl
  | d :: ds, s, i + 1 => by
    show ((daysL _ ds)[i]?).map Pt.lo = _
    rw [daysL_lo ds]
    rfl
theorem left_pts {V : World} {ob n : Nat} {r : List (Int × Int × Int)} (h : Cy.Left ob n (accD 0 r) V) (hn : r.length = n) : ∃ v, V.heap[ob]? = some (.cells #[v] 60) ∧ Pts V v (daysL 0 r) := by
  obtain ⟨v, h1, h2, _⟩ := h
  refine ⟨v, h1, ?_⟩
  show Reads V 3 v (daysL 0 r).length (ptCells (daysL 0 r))
  rw [daysL_len, daysL_cells, hn]
  exact Reads.of_own h2
end Go.Proofs.Ytpolipcicfjkiaa
/- A lone run to a stop: the code ahead of it by the rules of 'wp', piece by piece. Conditions: none. -/
namespace Go.Proofs.Ytpolipcicfjkiaa
open Go.RowKit

/-- From this machine a lone run comes to a stop. -/
def Stops (P : Program) (S : Machine → Prop) (m : Machine) : Prop := ∃ m', Steps P m m' ∧ S m'
theorem Stops.of_steps {P : Program} {S : Machine → Prop} {m m' : Machine} (h : Steps P m m') (h' : Stops P S m') : Stops P S m := h'.elim fun m'' h'' => ⟨m'', h.trans h''.1, h''.2⟩
/-- This code, in this frame, with this rest, comes to a stop. -/
def GoS (P : Program) (S : Machine → Prop) (b : Frame) (k : List Item) (cs : List Frame) (c : Code) (a : Act) (w : World) : Prop := Stops P S (lone (b.at a (.code c :: k)) cs w)
/-- What an exit other than the end of the code has to bring. -/
def OutS (P : Program) (S : Machine → Prop) (b : Frame) (k : List Item) (cs : List Frame) (e : Exit) (a : Act) (w : World) : Prop := ∀ m, Arrives P m b k cs e a w → Stops P S m

section
variable {P : Program} {S : Machine → Prop} {b : Frame} {k : List Item} {cs : List Frame} {a : Act} {w : World}
theorem goS_seq {x y : Code} (h : ∀ K : Act → World → Prop, (∀ a w, GoS P S b k cs y a w → K a w) → x.wp P (Exit.then K (OutS P S b k cs)) a w) : GoS P S b k cs (x.seq y) a w := by
  obtain ⟨e, a₁, w₁, hq, harr⟩ := h _ (fun _ _ h => h) b (.code y :: k) cs
  refine Stops.of_steps (.one step_seq) ?_
  cases e with
  | normal => exact Stops.of_steps harr hq
  | exit id => exact hq _ (Arrives.pass rfl (fun _ _ => .inl (by simp)) harr)
  | goto l => exact hq _ (Arrives.pass rfl (fun _ _ => .inl (by simp)) harr)
  | ret => exact hq _ (Arrives.pass rfl (fun _ _ => .inl (by simp)) harr)
  | panic c => exact hq _ (Arrives.pass rfl (fun _ _ => .inl (by simp)) harr)
  | outgrown => exact hq _ (Arrives.pass rfl (fun _ _ => .inl (by simp)) harr)
/-- The stop lies within the first part. -/
theorem goS_into {x y : Code} (h : GoS P S b (.code y :: k) cs x a w) : GoS P S b k cs (x.seq y) a w := Stops.of_steps (.one step_seq) h
/-- The last piece. -/
theorem goS_last {c : Code} (h : c.wp P (fun e a w => OutS P S b k cs e a w) a w) : GoS P S b k cs c a w := by
  obtain ⟨e, a₁, w₁, hq, harr⟩ := h b k cs
  exact hq _ harr
theorem outS_ret (h : ∀ todo, Stops P S (lone { b.at a todo with mode := .returning } cs w)) : OutS P S b k cs .ret a w := fun _m ⟨todo, hs⟩ => Stops.of_steps hs (h todo)
theorem outS_normal (h : Stops P S (lone (b.at a k) cs w)) : OutS P S b k cs .normal a w := fun _m hs => Stops.of_steps hs h
end
end Go.Proofs.Ytpolipcicfjkiaa

/- Far of a year. Conditions: none. -/
import Derived.Test.YtpolipcicfjkiaaK33
import Derived.Test.YtpolipcicfjkiaaK31
import Derived.Test.YtpolipcicfjkiaaK32
namespace Go.Proofs.Ytpolipcicfjkiaa
open Go.RowKit Go.Sort
open Go.Proofs.Ytpolipcicfjkiaa.Cy (BelowH)

def wideF : Int → List Pt → Bool
  | _, [] => false
  | n, p :: ps => if 60 < n * (p.hi - p.lo + 1) then true else wideF (n * (p.hi - p.lo + 1)) ps
def farY (y : CY) : Bool := decide (40 < y.days.length) || (yValid y && wideF 1 y.days)

set_option maxRecDepth 20000 in
set_option maxHeartbeats 2000000 in
theorem yFar_any (v : Value) (y : CY) (w : World) (hv : YAt w v y) :
    Calls PA.prog 11 #[v] w fun e w' => e = .returned (.bool (farY y)) ∧ Below w.heap.size w w' := by
  have hv0 := hv
  obtain ⟨pv, rfl, hp⟩ := hv
  obtain ⟨A', c', rfl, hac', hcm', ha'⟩ := hp.open_
  have hb0 : ∀ x, Below w.heap.size w (w.alloc x) := fun x => (Below.refl _ _).alloc (Nat.le_refl _) _
  have HA := Lib.hid ha'; clear ha' hp
  have HV := Lib.hid hv0; clear hv0
  have HB0 := Lib.hid (Cy.hb_new w (.cells #[I y.size, I y.start, .slice A' y.days.length c'] 24)).blk
  by_cases hl : 40 < y.days.length
  · go_enter PA.func11, Try.ntmps11
    go_wp2_with fail
    go_ret
    exact ⟨by simp [farY, hl], hb0 _⟩
  · cases h1 : yValid y
    · have h2 : yChk y = 100 := by simp [yChk, h1]
      go_enter PA.func11, Try.ntmps11
      go_wp2_with (go_at_call 12; refine (r10Check_any _ _ _ (HV.out.below (hb0 _)) (by omega)).mono ?_; rintro e w1 ⟨rfl, hb1⟩)
      go_ret
      exact ⟨by simp [farY, hl, h1], bto (hb0 _) hb1⟩
    · have h2 : yChk y = 0 := by simp [yChk, h1]
      have HF := Lib.hid (show farY y = wideF 1 y.days by simp [farY, hl, h1])
      have HS := Lib.hid (yValid_spec h1).2.2.2.2.2
      clear h1
      go_enter PA.func11, Try.ntmps11
      go_wp2_with (go_at_call 12; refine (r10Check_any _ _ _ (HV.out.below (hb0 _)) (by omega)).mono ?_; rintro e w1 ⟨rfl, hb1⟩; have hbl := hb1.block w.heap.size (by simp); rw [HB0.out] at hbl; have c2 := Cy.cell_blk (i := 2) hbl rfl; have HB1 := Lib.hid hb1; clear hb1)
      have HL := Lib.hid hbl
      have HBW := Lib.hid (bto (hb0 _) HB1.out)
      clear c2 hbl HB1
      go_loopw [3, 4] (fun nv i wr => ∃ (k : Nat) (n : Int), k ≤ y.days.length ∧ i = I k ∧ nv = I n ∧ 1 ≤ n ∧ n ≤ 60 ∧ wideF 1 y.days = wideF n (y.days.drop k) ∧ Hid (Below w1.heap.size w1 wr)) (fun _ i _ => y.days.length - (intOf i).toNat)
      case atStart => exact ⟨0, 1, by omega, rfl, rfl, by omega, by omega, rfl, Lib.hid (Below.refl _ _)⟩
      case round =>
        obtain ⟨m, n, hm, rfl, rfl, hn0, hn1, hF, hbw⟩ := hrel
        have hlt1 := (Array.getElem?_eq_some_iff.1 HL.out).1
        have hbl := (hbw.out.block _ hlt1).trans HL.out
        have c2 := Cy.cell_blk (i := 2) hbl rfl
        have hbt : Below w.heap.size w wr := bto HBW.out hbw.out
        have HBT := Lib.hid hbt
        by_cases hlt : m < y.days.length
        · have hki : (m : Int) < (y.days.length : Int) := by omega
          obtain ⟨b, o, rfl, hbl', hcell⟩ := HA.out (by omega)
          obtain ⟨y0, y1, y2⟩ := hcell m hlt
          have hS := HS.out _ (List.getElem_mem hlt)
          rw [List.drop_eq_getElem_cons hlt, wideF] at hF
          obtain ⟨lo, hlo⟩ : ∃ x, y.days[m].lo = x := ⟨_, rfl⟩
          obtain ⟨hi, hhi⟩ : ∃ x, y.days[m].hi = x := ⟨_, rfl⟩
          rw [hlo] at y0 hS hF
          rw [hhi] at y1 hS hF
          obtain ⟨s1, s2, s3, -, -⟩ := hS
          have hmb : 0 ≤ n * (hi - lo + 1) ∧ n * (hi - lo + 1) ≤ 60 * 21 := ⟨Int.mul_nonneg (by omega) (by omega), Int.mul_le_mul hn1 (by omega) (by omega) (by omega)⟩
          have hm1 : 1 ≤ n * (hi - lo + 1) := by
            have := Int.mul_le_mul hn0 (show 1 ≤ hi - lo + 1 by omega) (by omega) (by omega : (0:Int) ≤ n)
            omega
          obtain ⟨M, hM⟩ : ∃ M, n * (hi - lo + 1) = M := ⟨_, rfl⟩
          rw [hM] at hmb hm1 hF
          have i1 : IntKind.i64.wrap (n * IntKind.i64.wrap (IntKind.i64.wrap (hi - lo) + 1)) = M := by
            rw [wrap_in (hi - lo) (by omega), wrap_in (hi - lo + 1) (by omega), hM, wrap_in M (by omega)]
          have HM := Lib.hid (And.intro hmb hm1)
          have HF' := Lib.hid hF
          have Y0 := Lib.hid (keep_cell hbt y0)
          have Y1 := Lib.hid (keep_cell hbt y1)
          have I1 := Lib.hid i1
          clear hcell y0 y1 y2 hbt hmb hm1 hF hlo hhi hM i1 s1 s2 s3
          go_wp2_with fail
          refine wp_region_segK [] [0, 1, 2, 3, 4, 5, 6, 7, 8, 9, 10, 11, 12, 13, 14, 15, 16, 17, 18] [] 19 (by kernel_rfl) (by kernel_rfl) ?_
          intro KQ hKQ wn hb
          have j0 := cell_regrown (keep_cell hb c2)
          have j1 := cell_regrown (keep_cell hb Y0.out)
          have j2 := cell_regrown (keep_cell hb Y1.out)
          refine seg_last ?_
          simp only [opsAt, List.filterMap_cons, List.filterMap_nil, List.getElem?_toArray, List.getElem?_cons_succ, List.getElem?_cons_zero]
          repeat (first | go_big_quiet_step (fail) | quiet_step (fail))
          refine wpQuiet_nil ?_
          rw [I1.out]
          clear j0 j1 j2
          have HB := Lib.hid (bto HBT.out hb)
          have HB2 := Lib.hid (bto hbw.out hb)
          have c2' := keep_cell hb c2
          by_cases h60 : 60 < M
          · go_wp2_with fail
            go_ret
            have := HF'.out
            rw [if_pos h60] at this
            exact ⟨by rw [HF.out, this]; rfl, HB.out⟩
          · have hM6 : M ≤ 60 := by omega
            go_wp2_with fail
            go_roundw
            case rel =>
              have := HF'.out
              rw [if_neg h60] at this
              exact ⟨m + 1, M, by omega, by go_num, rfl, HM.out.2, hM6, this, HB2⟩
            case measure => first | (simp [intOf]; done) | (simp [intOf]; omega)
        · obtain rfl : m = y.days.length := by omega
          rw [List.drop_length] at hF
          go_wp2_with fail
          go_ret
          exact ⟨by rw [HF.out, hF]; rfl, HBT.out⟩
end Go.Proofs.Ytpolipcicfjkiaa
/- The reference's Copy of a year. Conditions: none. -/
namespace Go.Proofs.Ytpolipcicfjkiaa
open Go.RowKit Go.Sort
open Go.Proofs.Ytpolipcicfjkiaa.Cy (BelowH)

/-- A year in memory of the call's own. -/
def OwnYear (w : World) (base : Nat) (v : Value) (y : CY) : Prop := ∃ pv, v = .agg #[I y.size, I y.start, pv] ∧ w.ownsRow base 59 3 pv y.days.length (ptCells y.days)
theorem OwnYear.at {w : World} {base : Nat} {v : Value} {y : CY} (h : OwnYear w base v y) : YAt w v y := h.elim fun pv h => ⟨pv, h.1, Reads.of_own h.2⟩

set_option maxRecDepth 20000 in
set_option maxHeartbeats 2000000 in
theorem yCopy_any (v : Value) (y : CY) (w : World) (hv : YAt w v y) (hl : y.days.length ≤ 1000) :
    Calls PA.prog 25 #[v] w fun e w' => ∃ v', e = .returned v' ∧ OwnYear w' w.heap.size v' y ∧ Below w.heap.size w w' := by
  obtain ⟨i0, hi, hz0, hz1, hz2⟩ := info_parts PA.info59
  have h02 : 0 < 3 := by omega
  have h63 : 0 + y.days.length ≤ maxLen := by simp only [maxLen]; omega
  have hby : (0 + y.days.length) * 24 ≤ 140737488355328 := by omega
  have hm0 : (0 : Nat) ≤ maxLen := by omega
  obtain ⟨pv, rfl, hp⟩ := hv
  have hp0 := hp
  obtain ⟨A, c, rfl, hac, hcm, _⟩ := hp0.open_
  clear hp0
  have hb3 : ∀ x y z, Below w.heap.size w (((w.alloc x).alloc y).alloc z) := fun x y z => (((Below.refl _ _).alloc (Nat.le_refl _) _).alloc (by simp) _).alloc (by simp; omega) _
  have hs3 : ∀ x y z, (((w.alloc x).alloc y).alloc z).heap.size = w.heap.size + 3 := fun x y z => by simp
  have bx : ∀ x y z, (((w.alloc x).alloc y).alloc z).heap[w.heap.size]? = some x := fun x y z => (Cy.hb_old (Cy.hb_old (Cy.hb_new w x) y) z).blk
  have by' : ∀ x y z, (((w.alloc x).alloc y).alloc z).heap[w.heap.size + 1]? = some y := fun x y z => by have := (Cy.hb_old (Cy.hb_new (w.alloc x) y) z).blk; simpa using this
  have bz : ∀ x y z, (((w.alloc x).alloc y).alloc z).heap[w.heap.size + 2]? = some z := fun x y z => by have := (Cy.hb_new ((w.alloc x).alloc y) z).blk; simpa using this
  have hown : ∀ x y z, ((((w.alloc x).alloc y).alloc z).alloc (.cells #[] 59)).ownsRow (w.heap.size + 3) 59 3 (.slice (some ⟨w.heap.size + 3, 0, none⟩) 0 0) 0 [] := fun x y z => by
    have := World.ownsRow_made (e := 59) (size := 3) (((w.alloc x).alloc y).alloc z) #[] 0 (Nat.le_refl _) hm0 rfl
    rwa [hs3] at this
  have hb4 : ∀ x y z e, Below w.heap.size w ((((w.alloc x).alloc y).alloc z).alloc e) := fun x y z e => (hb3 x y z).alloc (by simp; omega) _
  have hs4 : ∀ x y z e, w.heap.size + 3 ≤ ((((w.alloc x).alloc y).alloc z).alloc e).heap.size := fun x y z e => by simp
  have bx4 : ∀ x y z e, ((((w.alloc x).alloc y).alloc z).alloc e).heap[w.heap.size + 1]? = some y := fun x y z e => (Cy.hb_old ⟨by' x y z⟩ e).blk
  have bz4 : ∀ x y z e, ((((w.alloc x).alloc y).alloc z).alloc e).heap[w.heap.size + 2]? = some z := fun x y z e => (Cy.hb_old ⟨bz x y z⟩ e).blk
  have HP := Lib.hid hp; clear hp
  clear bx by' bz hb3
  go_enter PA.func25, Try.ntmps25
  go_wp2_with (at_builtin; refine wpList_append_src _ rfl _ _ 22 rfl (w.heap.size + 3) 59 i0 (.agg #[.int .i64 0, .int .i64 0, .int .i64 0]) 3 24 PA.under22 hi hz0 hz1 hz2 rfl h02 _ _ _ rfl (hown _ _ _) _ _ _ rfl (Reads.below HP.out (hb4 _ _ _ _)) (pts_one _) h63 hby (hs4 _ _ _ _) ?_; intro v' w4 hown' hgrow _; obtain ⟨A1, c1, rfl⟩ := own_shape hown'; have hB1 := (hgrow.block _ (by simp) (show (some (w.heap.size + 1) : Option Nat) ≠ some (w.heap.size + 3) by simp)).trans (bx4 _ _ _ _); have hB2 := (hgrow.block _ (by simp) (show (some (w.heap.size + 2) : Option Nat) ≠ some (w.heap.size + 3) by simp)).trans (bz4 _ _ _ _); have d0 := Cy.cell_blk (i := 0) hB1 rfl; have d1 := Cy.cell_blk (i := 1) hB1 rfl; have d2 := Cy.cell_blk (i := 2) hB1 rfl; have f0 := Cy.thaw_blk (i := 0) hB1; have f1 := Cy.thaw_blk (i := 1) hB1; have f2 := Cy.thaw_blk (i := 2) hB1; have e0 := Cy.cell_blk (i := 0) hB2 rfl; have e1 := Cy.cell_blk (i := 1) hB2 rfl; have e2 := Cy.cell_blk (i := 2) hB2 rfl; have g2 := Cy.thaw_blk (i := 2) hB2; have HG := Lib.hid hgrow; have HO := Lib.hid hown'; clear hgrow hown' hB1 hB2)
  obtain ⟨r0, r1, r2⟩ := res3 (w := w4.setCell ⟨w.heap.size + 1 + 1, 2, none⟩ (.slice A1 y.days.length c1)) ((World.cell?_setCell_other _ _ _ _ (by simp)).trans d0) ((World.cell?_setCell_other _ _ _ _ (by simp)).trans d1) ((World.cell?_setCell_other _ _ _ _ (by simp)).trans d2)
  have hO := HO.out
  have hB := (hb4 (.cells #[I y.size, I y.start, .slice A y.days.length c] 24) (.cells #[.int .i64 0, .int .i64 0, .slice none 0 0] 24) (.cells #[.int .i64 y.size, .int .i64 y.start, .slice A y.days.length c] 24) (.cells #[] 59)).grown HG.out (by simp; omega) (fun q hq => by
    have hq : some (w.heap.size + 3) = some q := hq
    injection hq with hq
    omega)
  refine bodyPost_ret (v := .agg #[I y.size, I y.start, .slice A1 y.days.length c1]) (by simp [results, Try.results25, go_sem, r0, r1, r2]) rfl ⟨_, rfl, ⟨_, rfl, ?_⟩, ?_⟩
  · rw [Nat.zero_add, List.nil_append] at hO
    exact own_base' (own_setCell (own_setCell (own_setCell (own_setCell hO ⟨w.heap.size + 1 + 1, 2, none⟩ _ (by show w.heap.size + 1 + 1 < w.heap.size + 3; omega)) ⟨w.heap.size + 1, 0, none⟩ _ (by show w.heap.size + 1 < w.heap.size + 3; omega)) ⟨w.heap.size + 1, 1, none⟩ _ (by show w.heap.size + 1 < w.heap.size + 3; omega)) ⟨w.heap.size + 1, 2, none⟩ _ (by show w.heap.size + 1 < w.heap.size + 3; omega)) (by omega)
  · exact (((hB.setCell (p := ⟨w.heap.size + 1 + 1, 2, none⟩) (by simp; omega) _).setCell (p := ⟨w.heap.size + 1, 0, none⟩) (by simp) _).setCell (p := ⟨w.heap.size + 1, 1, none⟩) (by simp) _).setCell (p := ⟨w.heap.size + 1, 2, none⟩) (by simp) _
end Go.Proofs.Ytpolipcicfjkiaa
/- rains. Conditions: the flows are found, in order. -/
namespace Go.Proofs.Ytpolipcicfjkiaa
open Go.RowKit Go.Sort
open Go.Proofs.Ytpolipcicfjkiaa.Cy (BelowH)

def rainP (d : DLine) (k : Nat) (x : Pt) : Pt := { lo := (flowR d k).1.1, hi := (flowR d k).1.2, cost := x.cost }
def rainTo (d : DLine) (ps : List Pt) : Nat → List Pt
  | 0 => ps
  | k + 1 => (rainTo d ps k).modify k (rainP d k)
theorem rainTo_len (d : DLine) (ps : List Pt) : ∀ k, (rainTo d ps k).length = ps.length
  | 0 => rfl
  | k + 1 => by simp [rainTo, rainTo_len d ps k]
theorem rainTo_get (d : DLine) (ps : List Pt) (i : Nat) : ∀ k, (rainTo d ps k)[i]? = (ps[i]?).map fun x => if i < k then rainP d i x else x
  | 0 => by simp [rainTo]
  | k + 1 => by
    rw [rainTo, List.getElem?_modify, rainTo_get d ps i k]
    cases ps[i]? with
    | none => simp
    | some x =>
      by_cases h : k = i
      · subst h; simp
      · have : (i < k + 1) ↔ (i < k) := by omega
        simp [h, this]
def rainY (d : DLine) (y : CY) : CY := { y with days := rainTo d y.days y.days.length }

theorem ownCd_put {W : World} {B g cap n : Nat} {ps : List Pt} (h : W.ownsRow B 59 3 (.slice (some ⟨g, 0, none⟩) n cap) n (ptCells ps)) (i : Nat) (p : Pt) (hi : i < ps.length) :
    (((W.setCell ⟨g, i * 3, none⟩ (I p.lo)).setCell ⟨g, i * 3 + 1, none⟩ (I p.hi)).setCell ⟨g, i * 3 + 2, none⟩ (I p.cost)).ownsRow B 59 3 (.slice (some ⟨g, 0, none⟩) n cap) n (ptCells (ps.set i p)) := by
  have := ((((h.stored (i * 3) (I p.lo)).1).stored (i * 3 + 1) (I p.hi)).1.stored (i * 3 + 2) (I p.cost)).1
  rw [ptCells_setPt _ _ _ hi] at this
  exact this
theorem ownCd_all {W : World} {B g cap n : Nat} {ps : List Pt} (hn : ps.length = n) (h : W.ownsRow B 59 3 (.slice (some ⟨g, 0, none⟩) n cap) n (ptCells ps)) (i : Nat) (p : Pt) (hp : ps[i]? = some p) :
    (W.cell? ⟨g, i * 3, none⟩ = some (I p.lo) ∧ W.cell? ⟨g, i * 3 + 1, none⟩ = some (I p.hi) ∧ W.cell? ⟨g, i * 3 + 2, none⟩ = some (I p.cost)) ∧ ∀ j, W.frozen? ⟨g, j, none⟩ = false := by
  obtain ⟨hi, rfl⟩ := List.getElem?_eq_some_iff.1 hp
  obtain ⟨e0, e1, e2⟩ := ptCells_at _ _ hi
  refine ⟨⟨?_, ?_, ?_⟩, fun j => h.frozenAt _⟩
  · rw [h.cellAt (i * 3) (by omega)]; exact e0
  · rw [h.cellAt (i * 3 + 1) (by omega)]; exact e1
  · rw [h.cellAt (i * 3 + 2) (by omega)]; exact e2

set_option maxRecDepth 20000 in
set_option maxHeartbeats 4000000 in
theorem rains_any (v : Value) (y : CY) (dv : Value) (d : DLine) (w : World) (hv : YAt w v y) (hl : y.days.length ≤ 100) (hd : LineAt w dv d) (hd1 : d.odds.length ≤ 1000) (hd2 : d.pts.length ≤ 1000)
    (hf : ∀ k, k < y.days.length → (flowR d (k : Nat)).2 = 0 ∧ (flowR d (k : Nat)).1.1 ≤ (flowR d (k : Nat)).1.2) :
    Calls PA.prog 10 #[v, dv] w fun e w' => ∃ v', e = .returned (.tuple #[v', .bool true]) ∧ OwnYear w' (w.heap.size + 3) v' (rainY d y) ∧ Below w.heap.size w w' := by
  have hv0 := hv
  obtain ⟨pv, rfl, hp⟩ := hv
  have hd0 := hd
  obtain ⟨dp, dq, rfl, _, _⟩ := hd
  have HV := Lib.hid hv0; clear hv0 hp
  have HD := Lib.hid hd0; clear hd0
  have HF := Lib.hid hf; clear hf
  have HL := Lib.hid hl
  have hb3 : ∀ x y z, Below w.heap.size w (((w.alloc x).alloc y).alloc z) := fun x y z => (((Below.refl _ _).alloc (Nat.le_refl _) _).alloc (by simp) _).alloc (by simp; omega) _
  have hs3 : ∀ x y z, (((w.alloc x).alloc y).alloc z).heap.size = w.heap.size + 3 := fun x y z => by simp
  have by' : ∀ x y z, (((w.alloc x).alloc y).alloc z).heap[w.heap.size + 1]? = some y := fun x y z => by have := (Cy.hb_old (Cy.hb_new (w.alloc x) y) z).blk; simpa using this
  have bz : ∀ x y z, (((w.alloc x).alloc y).alloc z).heap[w.heap.size + 2]? = some z := fun x y z => by have := (Cy.hb_new ((w.alloc x).alloc y) z).blk; simpa using this
  go_enter PA.func10, Try.ntmps10
  go_wp2_with (go_at_call 25; refine (yCopy_any _ _ _ (HV.out.below (hb3 _ _ _)) (by omega)).mono ?_; rintro e w2 ⟨v2, rfl, hown, hb2⟩; obtain ⟨pv', rfl, hrow⟩ := hown; obtain ⟨A, c, rfl⟩ := own_shape hrow; have hY1 := (hb2.block _ (by rw [hs3]; omega)).trans (by' _ _ _); have hZ1 := (hb2.block _ (by rw [hs3]; omega)).trans (bz _ _ _); clear by' bz)
  rw [hs3] at hrow
  have hbw := bto (hb3 _ _ _) hb2
  have hl1 : w.heap.size + 1 < w2.heap.size := (Array.getElem?_eq_some_iff.1 hY1).1
  have hl2 : w.heap.size + 2 < w2.heap.size := (Array.getElem?_eq_some_iff.1 hZ1).1
  have hbA : Below w2.heap.size w2 (w2.alloc (.cells #[I y.size, I y.start, .slice A y.days.length c] 24)) := (Below.refl _ _).alloc (Nat.le_refl _) _
  have HOwn := Lib.hid (own_below hrow hbA)
  have HBs := Lib.hid (Cy.hb_new w2 (.cells #[I y.size, I y.start, .slice A y.days.length c] 24)).blk
  have HBd := Lib.hid ((hbA.block _ hl1).trans hY1)
  have HBt := Lib.hid ((hbA.block _ hl2).trans hZ1)
  have HbW := Lib.hid (bto hbw hbA)
  have HNe : Hid (A.all (fun a => decide (a.block < w2.heap.size)) = true) := Lib.hid (by
    cases A with
    | none => rfl
    | some a => exact decide_eq_true (hrow.lt a.block rfl).2)
  clear hrow hbw hbA hY1 hZ1 hb2 hb3 hs3
  go_loopw [7] (fun i wr => ∃ k : Nat, k ≤ y.days.length ∧ i = I k ∧ Hid (wr.ownsRow (w.heap.size + 3) 59 3 (.slice A y.days.length c) y.days.length (ptCells (rainTo d y.days k))) ∧ Hid (A.all (fun a => decide (a.block < w2.heap.size)) = true) ∧ Hid (wr.heap[w2.heap.size]? = some (.cells #[I y.size, I y.start, .slice A y.days.length c] 24)) ∧ Hid (wr.heap[w.heap.size + 1]? = some (.cells #[dp, dq] 28)) ∧ Hid (wr.heap[w.heap.size + 2]? = some (.cells #[.int .i64 0, .int .i64 0, .slice none 0 0] 24)) ∧ Hid (Below w.heap.size w wr)) (fun i _ => y.days.length - (intOf i).toNat)
  case atStart => exact ⟨0, by omega, rfl, HOwn, HNe, HBs, HBd, HBt, HbW⟩
  case round =>
    clear HOwn HNe HBs HBd HBt HbW
    obtain ⟨k, hk, rfl, HOwn, HNe, HBs, HBd, HBt, HbW⟩ := hrel
    have c0 := Cy.cell_blk (i := 0) HBs.out rfl
    have c1 := Cy.cell_blk (i := 1) HBs.out rfl
    have c2 := Cy.cell_blk (i := 2) HBs.out rfl
    have d0 := Cy.cell_blk (i := 0) HBd.out rfl
    have d1 := Cy.cell_blk (i := 1) HBd.out rfl
    by_cases hlt : k < y.days.length
    · have hk7 : k < 1000 := by have := HL.out; omega
      have hki : (k : Int) < (y.days.length : Int) := by omega
      obtain ⟨hf1, hf2⟩ := HF.out k hlt
      have hget : (rainTo d y.days k)[k]? = some y.days[k] := by rw [rainTo_get, List.getElem?_eq_getElem hlt]; simp
      obtain ⟨g, cap, hAe, hg1, hg2⟩ := own_shape_pos HOwn.out (by omega)
      obtain ⟨rfl, -, rfl⟩ := slice_inj hAe
      clear hAe
      have HG := Lib.hid hget; clear hget
      go_wp2_with (go_at_call 23; refine (flow_any _ d _ _ (HD.out.below HbW.out) hd1 hd2).mono ?_; rintro e w5 ⟨rfl, hb5⟩; rw [hf1]; have hbs5 := (hb5.block _ (Array.getElem?_eq_some_iff.1 HBs.out).1).trans HBs.out; have k2 := Cy.cell_blk (i := 2) hbs5 rfl; have hO5 := own_below HOwn.out hb5; obtain ⟨⟨q0, q1, q2⟩, qf⟩ := ownCd_all (rainTo_len _ _ _) hO5 k _ HG.out; have hg5 := Nat.lt_of_lt_of_le hg2 hb5.size; have hw25 := (Array.getElem?_eq_some_iff.1 hbs5).1; have hgl := Nat.lt_of_lt_of_le hg2 hb5.size; have k2a := fun x => box_old w5 x k2; have k2b := fun x x' => box_old (w5.alloc x) x' (box_old w5 x k2); have q0a := fun x => box_old w5 x q0; have q1a := fun x => box_old w5 x q1; have q2a := fun x => box_old w5 x q2; have HB5 := Lib.hid hb5; have HBs5 := Lib.hid hbs5; have HO5 := Lib.hid hO5; clear hb5 hbs5 hO5 c0 c1 c2 d0 d1)
      have hgA : g < w2.heap.size := by have := HNe.out; simpa using this
      have hl' := (Array.getElem?_eq_some_iff.1 HBd.out).1
      have hl'' := (Array.getElem?_eq_some_iff.1 HBt.out).1
      have hput := ownCd_put HO5.out k ⟨(flowR d k).1.1, (flowR d k).1.2, y.days[k].cost⟩ (by rw [rainTo_len]; exact hlt)
      have he : (rainTo d y.days k).set k ⟨(flowR d k).1.1, (flowR d k).1.2, y.days[k].cost⟩ = rainTo d y.days (k + 1) := by
        apply List.ext_getElem?
        intro i
        rw [rainTo, List.getElem?_modify, List.getElem?_set]
        by_cases e : k = i
        · subst e; rw [if_pos rfl, HG.out, rainTo_len, if_pos hlt]; simp [rainP]
        · simp [e]
      rw [he] at hput
      have hbS := (((bto HbW.out HB5.out).setCell (p := ⟨g, k * 3, none⟩) (by show w.heap.size ≤ g; omega) (I (flowR d k).1.1)).setCell (p := ⟨g, k * 3 + 1, none⟩) (by show w.heap.size ≤ g; omega) (I (flowR d k).1.2)).setCell (p := ⟨g, k * 3 + 2, none⟩) (by show w.heap.size ≤ g; omega) (I y.days[k].cost)
      have hob : ∀ {b : Nat} {o : Obj}, b ≠ g → wr.heap[b]? = some o → (((w5.setCell ⟨g, k * 3, none⟩ (I (flowR d k).1.1)).setCell ⟨g, k * 3 + 1, none⟩ (I (flowR d k).1.2)).setCell ⟨g, k * 3 + 2, none⟩ (I y.days[k].cost)).heap[b]? = some o := fun {b o} hne h => by
        rw [Cy.setCell_ne _ _ _ (by show b ≠ g; exact hne), Cy.setCell_ne _ _ _ (by show b ≠ g; exact hne), Cy.setCell_ne _ _ _ (by show b ≠ g; exact hne)]
        exact (HB5.out.block _ (Array.getElem?_eq_some_iff.1 h).1).trans h
      have h1 := hob (by omega) HBs.out
      have h2 := hob (by omega) HBd.out
      have h3 := hob (by omega) HBt.out
      have hA2 : ∀ (W : World) x x', Below W.heap.size W ((W.alloc x).alloc x') := fun W x x' => ((Below.refl _ _).alloc (Nat.le_refl _) _).alloc (by simp) _
      refine ⟨⟨k + 1, by omega, by go_num, Lib.hid (own_below hput (hA2 _ _ _)), HNe, Lib.hid (Cy.hb_old (Cy.hb_old ⟨h1⟩ _) _).blk, Lib.hid (Cy.hb_old (Cy.hb_old ⟨h2⟩ _) _).blk, Lib.hid (Cy.hb_old (Cy.hb_old ⟨h3⟩ _) _).blk, Lib.hid (bto hbS (hA2 _ _ _))⟩, ?_⟩
      first | (simp [intOf]; done) | (simp [intOf]; omega)
    · obtain rfl : k = y.days.length := by omega
      have d0 := Cy.cell_blk (i := 0) HBt.out rfl
      have d1 := Cy.cell_blk (i := 1) HBt.out rfl
      have d2 := Cy.cell_blk (i := 2) HBt.out rfl
      have e0 := Cy.thaw_blk (i := 0) HBt.out
      have e1 := Cy.thaw_blk (i := 1) HBt.out
      have e2 := Cy.thaw_blk (i := 2) HBt.out
      go_wp2_with fail
      obtain ⟨r0, r1, r2⟩ := res3 d0 d1 d2
      refine bodyPost_ret (v := .tuple #[.agg #[I y.size, I y.start, .slice A y.days.length c], .bool true]) (by simp [results, Try.results10, go_sem, r0, r1, r2]) rfl ⟨_, rfl, ⟨_, rfl, ?_⟩, ?_⟩
      · have h2 := own_setCell (own_setCell (own_setCell HOwn.out ⟨w.heap.size + 2, 0, none⟩ (I y.size) (by show w.heap.size + 2 < w.heap.size + 3; omega)) ⟨w.heap.size + 2, 1, none⟩ (I y.start) (by show w.heap.size + 2 < w.heap.size + 3; omega)) ⟨w.heap.size + 2, 2, none⟩ (.slice A y.days.length c) (by show w.heap.size + 2 < w.heap.size + 3; omega)
        have hlen := rainTo_len d y.days y.days.length
        show World.ownsRow _ _ 59 3 _ (rainTo d y.days y.days.length).length _
        rw [hlen]
        exact h2
      · exact ((HbW.out.setCell (p := ⟨w.heap.size + 2, 0, none⟩) (by simp) _).setCell (p := ⟨w.heap.size + 2, 1, none⟩) (by simp) _).setCell (p := ⟨w.heap.size + 2, 2, none⟩) (by simp) _
end Go.Proofs.Ytpolipcicfjkiaa
/- The law's example of a year. Conditions: none. -/
namespace Go.Proofs.Ytpolipcicfjkiaa
open Go.RowKit Go.Sort
open Go.Proofs.Ytpolipcicfjkiaa.Cy (BelowH)

def exD10 : CY := ⟨10, 5, [⟨0, 2, 1⟩, ⟨6, 9, 2⟩, ⟨0, 0, 7⟩, ⟨4, 4, 3⟩]⟩
set_option maxHeartbeats 400000 in
theorem day_any (a b c : Int) (w : World) : Calls PA.prog 37 #[I a, I b, I c] w fun e w' => e = .returned (.agg #[I a, I b, I c]) ∧ Below w.heap.size w w' := by
  go_enter PA.func37, Try.ntmps37
  go_wp2_with fail
  refine bodyPost_ret (v := .agg #[I a, I b, I c]) (by simp [results, Try.results37, go_sem]) rfl ⟨rfl, ?_⟩
  repeat (first | exact Below.refl _ _ | refine Below.setCell ?_ (by simp) _ | exact (Below.refl _ _).alloc (Nat.le_refl _) _)
theorem any_next {P : Program} {ops : Array Oper} {Q : Exit → Act → World → Prop} {n : Nat} {listed : Array Bool} {a : Act} {w : World} (l : List Nat) (hr : Region.ready .any ops listed = l) (hne : l ≠ []) (h : ∀ i ∈ l, wpOp P ops Q i (fun a' w' => wpAny P .any ops Q n (listed.setIfInBounds i true) a' w') a w) : wpAny P .any ops Q (n + 1) listed a w :=
  ⟨fun h0 => absurd (hr ▸ h0) hne, fun i hi => h i (hr ▸ hi)⟩
theorem op_do {P : Program} {ops : Array Oper} {Q : Exit → Act → World → Prop} {i : Nat} {o : Oper} {K : Act → World → Prop} {a : Act} {w : World} (ho : ops[i]? = some o) (hw : Region.wanted o (yielded ops a.tmps) = true) (h : o.wp P a w K Q) : wpOp P ops Q i K a w := by
  unfold wpOp; rw [ho]; simp only [hw, if_true]; exact .inl h
theorem blk_keep {w w' : World} {b : Nat} {o : Obj} (hb : Below w.heap.size w w') (h : w.heap[b]? = some o) : w'.heap[b]? = some o := (hb.block _ (Array.getElem?_eq_some_iff.1 h).1).trans h
set_option maxRecDepth 20000 in
set_option maxHeartbeats 800000 in
theorem example10_any (w : World) : Calls PA.prog 22 #[] w fun e w' => ∃ A vd, e = .returned (.tuple #[.agg #[I 10, I 4, .slice A 4 4], vd]) ∧ YAt w' vd exD10 ∧ Below w.heap.size w w' := by
  have HB : ∀ x x', Below w.heap.size w ((w.alloc x).alloc x') := fun x x' => ((Below.refl _ _).alloc (Nat.le_refl _) _).alloc (by simp) _
  have hX : ∀ x x', ((w.alloc x).alloc x').heap[w.heap.size]? = some x := fun x x' => (Cy.hb_old (Cy.hb_new w x) x').blk
  have hY : ∀ x x', ((w.alloc x).alloc x').heap[w.heap.size + 1]? = some x' := fun x x' => by have := (Cy.hb_new (w.alloc x) x').blk; simpa using this
  have hX := hX (.cells #[.int .i64 0, .int .i64 0, .slice none 0 0] 24) (.cells #[.int .i64 0, .int .i64 0, .slice none 0 0] 24)
  have hY := hY (.cells #[.int .i64 0, .int .i64 0, .slice none 0 0] 24) (.cells #[.int .i64 0, .int .i64 0, .slice none 0 0] 24)
  have HB := Lib.hid (HB (.cells #[.int .i64 0, .int .i64 0, .slice none 0 0] 24) (.cells #[.int .i64 0, .int .i64 0, .slice none 0 0] 24))
  go_enter PA.func22, Try.ntmps22
  go_wp2_with (go_at_call 37; refine (day_any _ _ _ _).mono ?_; rintro e w1 ⟨rfl, hb⟩; have hX := blk_keep hb hX; have hY := blk_keep hb hY; have HB := Lib.hid (bto HB.out hb); clear hb; have hlx := (Array.getElem?_eq_some_iff.1 hY).1; have x0 := Cy.cell_blk (i := 0) hX rfl; have x1 := Cy.cell_blk (i := 1) hX rfl; have x2 := Cy.cell_blk (i := 2) hX rfl; have f0 := Cy.thaw_blk (i := 0) hX; have f1 := Cy.thaw_blk (i := 1) hX; have f2 := Cy.thaw_blk (i := 2) hX; have hXa := fun o => (Cy.hb_old ⟨hX⟩ o).blk; have x0a := fun o => Cy.cell_blk (i := 0) (hXa o) rfl; have x1a := fun o => Cy.cell_blk (i := 1) (hXa o) rfl; have x2a := fun o => Cy.cell_blk (i := 2) (hXa o) rfl; have f0a := fun o => Cy.thaw_blk (i := 0) (hXa o); have f1a := fun o => Cy.thaw_blk (i := 1) (hXa o); have f2a := fun o => Cy.thaw_blk (i := 2) (hXa o); have hly := (Array.getElem?_eq_some_iff.1 hX).1; clear hXa)
  have hX5 := (Cy.hb_old ⟨Cy.set_blk (i := 2) (v := .slice (some ⟨w1.heap.size, 0, none⟩) 4 4) (Cy.set_blk (i := 1) (v := .int .i64 4) (Cy.set_blk (i := 0) (v := .int .i64 10) hX))⟩ (.cells #[I 2, I 5, I 4, I 0, I 8, I 6, I 3, I 3, I 2, I 0, I 1, I 5] 59)).blk
  have hY5 := (Cy.hb_old ⟨((Cy.setCell_ne ((w1.setCell ⟨w.heap.size, 0, none⟩ (.int .i64 10)).setCell ⟨w.heap.size, 1, none⟩ (.int .i64 4)) ⟨w.heap.size, 2, none⟩ (.slice (some ⟨w1.heap.size, 0, none⟩) 4 4) (by show w.heap.size + 1 ≠ w.heap.size; omega)).trans ((Cy.setCell_ne (w1.setCell ⟨w.heap.size, 0, none⟩ (.int .i64 10)) ⟨w.heap.size, 1, none⟩ (.int .i64 4) (by show w.heap.size + 1 ≠ w.heap.size; omega)).trans ((Cy.setCell_ne w1 ⟨w.heap.size, 0, none⟩ (.int .i64 10) (by show w.heap.size + 1 ≠ w.heap.size; omega)).trans hY)))⟩ (.cells #[I 2, I 5, I 4, I 0, I 8, I 6, I 3, I 3, I 2, I 0, I 1, I 5] 59)).blk
  have HB5 := Lib.hid ((((HB.out.setCell (p := ⟨w.heap.size, 0, none⟩) (by simp) (.int .i64 10)).setCell (p := ⟨w.heap.size, 1, none⟩) (by simp) (.int .i64 4)).setCell (p := ⟨w.heap.size, 2, none⟩) (by simp) (.slice (some ⟨w1.heap.size, 0, none⟩) 4 4)).alloc (by simp; omega) (.cells #[I 2, I 5, I 4, I 0, I 8, I 6, I 3, I 3, I 2, I 0, I 1, I 5] 59))
  clear hX hY HB x0 x1 x2 f0 f1 f2 x0a x1a x2a f0a f1a f2a hlx hly
  have hX := hX5; clear hX5
  have hY := hY5; clear hY5
  have HB := HB5; clear HB5
  obtain ⟨W5, hW5⟩ : ∃ W5, W5 = ((((w1.setCell ⟨w.heap.size, 0, none⟩ (.int .i64 10)).setCell ⟨w.heap.size, 1, none⟩ (.int .i64 4)).setCell ⟨w.heap.size, 2, none⟩ (.slice (some ⟨w1.heap.size, 0, none⟩) 4 4)).alloc (.cells #[I 2, I 5, I 4, I 0, I 8, I 6, I 3, I 3, I 2, I 0, I 1, I 5] 59)) := ⟨_, rfl⟩
  rw [← hW5] at hX hY HB ⊢
  clear hW5
  simp only [List.setIfInBounds_toArray, List.set_cons_zero, List.set_cons_succ] at hX
  go_wp2_with (go_at_call 37; refine (day_any _ _ _ _).mono ?_; rintro e w2 ⟨rfl, hb⟩; have hX := blk_keep hb hX; have hY := blk_keep hb hY; have HB := Lib.hid (bto HB.out hb); clear hb; have hlx := (Array.getElem?_eq_some_iff.1 hX).1; have x0 := Cy.cell_blk (i := 0) hY rfl; have x1 := Cy.cell_blk (i := 1) hY rfl; have x2 := Cy.cell_blk (i := 2) hY rfl; have f0 := Cy.thaw_blk (i := 0) hY; have f1 := Cy.thaw_blk (i := 1) hY; have f2 := Cy.thaw_blk (i := 2) hY; have hXa := fun o => (Cy.hb_old ⟨hY⟩ o).blk; have x0a := fun o => Cy.cell_blk (i := 0) (hXa o) rfl; have x1a := fun o => Cy.cell_blk (i := 1) (hXa o) rfl; have x2a := fun o => Cy.cell_blk (i := 2) (hXa o) rfl; have f0a := fun o => Cy.thaw_blk (i := 0) (hXa o); have f1a := fun o => Cy.thaw_blk (i := 1) (hXa o); have f2a := fun o => Cy.thaw_blk (i := 2) (hXa o); have hly := (Array.getElem?_eq_some_iff.1 hY).1; clear hXa)
  have hX6 := (Cy.hb_old ⟨((Cy.setCell_ne ((w2.setCell ⟨w.heap.size + 1, 0, none⟩ (.int .i64 10)).setCell ⟨w.heap.size + 1, 1, none⟩ (.int .i64 5)) ⟨w.heap.size + 1, 2, none⟩ (.slice (some ⟨w2.heap.size, 0, none⟩) 4 4) (by show w.heap.size ≠ w.heap.size + 1; omega)).trans ((Cy.setCell_ne (w2.setCell ⟨w.heap.size + 1, 0, none⟩ (.int .i64 10)) ⟨w.heap.size + 1, 1, none⟩ (.int .i64 5) (by show w.heap.size ≠ w.heap.size + 1; omega)).trans ((Cy.setCell_ne w2 ⟨w.heap.size + 1, 0, none⟩ (.int .i64 10) (by show w.heap.size ≠ w.heap.size + 1; omega)).trans hX)))⟩ (.cells #[I 0, I 2, I 1, I 6, I 9, I 2, I 0, I 0, I 7, I 4, I 4, I 3] 59)).blk
  have hY6 := (Cy.hb_old ⟨Cy.set_blk (i := 2) (v := .slice (some ⟨w2.heap.size, 0, none⟩) 4 4) (Cy.set_blk (i := 1) (v := .int .i64 5) (Cy.set_blk (i := 0) (v := .int .i64 10) hY))⟩ (.cells #[I 0, I 2, I 1, I 6, I 9, I 2, I 0, I 0, I 7, I 4, I 4, I 3] 59)).blk
  have hR6 := (Cy.hb_new (((w2.setCell ⟨w.heap.size + 1, 0, none⟩ (.int .i64 10)).setCell ⟨w.heap.size + 1, 1, none⟩ (.int .i64 5)).setCell ⟨w.heap.size + 1, 2, none⟩ (.slice (some ⟨w2.heap.size, 0, none⟩) 4 4)) (.cells #[I 0, I 2, I 1, I 6, I 9, I 2, I 0, I 0, I 7, I 4, I 4, I 3] 59)).blk
  rw [show (((w2.setCell ⟨w.heap.size + 1, 0, none⟩ (.int .i64 10)).setCell ⟨w.heap.size + 1, 1, none⟩ (.int .i64 5)).setCell ⟨w.heap.size + 1, 2, none⟩ (.slice (some ⟨w2.heap.size, 0, none⟩) 4 4)).heap.size = w2.heap.size by simp] at hR6
  have HB6 := Lib.hid ((((HB.out.setCell (p := ⟨w.heap.size + 1, 0, none⟩) (by simp) (.int .i64 10)).setCell (p := ⟨w.heap.size + 1, 1, none⟩) (by simp) (.int .i64 5)).setCell (p := ⟨w.heap.size + 1, 2, none⟩) (by simp) (.slice (some ⟨w2.heap.size, 0, none⟩) 4 4)).alloc (by simp; omega) (.cells #[I 0, I 2, I 1, I 6, I 9, I 2, I 0, I 0, I 7, I 4, I 4, I 3] 59))
  clear hX hY HB x0 x1 x2 f0 f1 f2 x0a x1a x2a f0a f1a f2a
  obtain ⟨W8, hW8⟩ : ∃ W8, W8 = ((((w2.setCell ⟨w.heap.size + 1, 0, none⟩ (.int .i64 10)).setCell ⟨w.heap.size + 1, 1, none⟩ (.int .i64 5)).setCell ⟨w.heap.size + 1, 2, none⟩ (.slice (some ⟨w2.heap.size, 0, none⟩) 4 4)).alloc (.cells #[I 0, I 2, I 1, I 6, I 9, I 2, I 0, I 0, I 7, I 4, I 4, I 3] 59)) := ⟨_, rfl⟩
  rw [← hW8] at hX6 hY6 hR6 HB6 ⊢
  clear hW8
  simp only [List.setIfInBounds_toArray, List.set_cons_zero, List.set_cons_succ] at hY6
  refine wp_region_any (by kernel_rfl) ?_
  have hX7 : W8.drew.heap[w.heap.size]? = _ := hX6
  have hY7 : W8.drew.heap[w.heap.size + 1]? = _ := hY6
  have hR7 : W8.drew.heap[w2.heap.size]? = _ := hR6
  have HB7 := Lib.hid (HB6.out.drew)
  clear hX6 hY6 hR6 HB6
  show wpAny _ _ _ _ _ _ _ W8.drew
  generalize W8.drew = W9 at hX7 hY7 hR7 HB7 ⊢
  have z0 := Cy.thaw_blk (i := 0) hX7
  have z1 := Cy.thaw_blk (i := 1) hX7
  have z2 := Cy.thaw_blk (i := 2) hX7
  have t0 := Cy.thaw_blk (i := 0) hY7
  have t1 := Cy.thaw_blk (i := 1) hY7
  have t2 := Cy.thaw_blk (i := 2) hY7
  have x0 := Cy.cell_blk (i := 0) hX7 rfl
  have x1 := Cy.cell_blk (i := 1) hX7 rfl
  have x2 := Cy.cell_blk (i := 2) hX7 rfl
  have y0 := Cy.cell_blk (i := 0) hY7 rfl
  have y1 := Cy.cell_blk (i := 1) hY7 rfl
  have y2 := Cy.cell_blk (i := 2) hY7 rfl
  have ne1 : ∀ (V : World) (b : Nat) (i j k : Nat) (x y z : Value) (o : Obj), w2.heap.size ≠ b → V.heap[w2.heap.size]? = some o → (((V.setCell ⟨b, i, none⟩ x).setCell ⟨b, j, none⟩ y).setCell ⟨b, k, none⟩ z).heap[w2.heap.size]? = some o := fun V b i j k x y z o hne h => by
    rw [Cy.setCell_ne _ _ _ (by show w2.heap.size ≠ b; exact hne), Cy.setCell_ne _ _ _ (by show w2.heap.size ≠ b; exact hne), Cy.setCell_ne _ _ _ (by show w2.heap.size ≠ b; exact hne)]
    exact h
  have hRF := ne1 _ (w.heap.size + 1) 0 1 2 (.int .i64 10) (.int .i64 5) (.slice (some ⟨w2.heap.size, 0, none⟩) 4 4) _ (by omega) (ne1 _ w.heap.size 0 1 2 (.int .i64 10) (.int .i64 4) (.slice (some ⟨w1.heap.size, 0, none⟩) 4 4) _ (by omega) hR7)
  have hXF : ((((((W9.setCell ⟨w.heap.size, 0, none⟩ (.int .i64 10)).setCell ⟨w.heap.size, 1, none⟩ (.int .i64 4)).setCell ⟨w.heap.size, 2, none⟩ (.slice (some ⟨w1.heap.size, 0, none⟩) 4 4)).setCell ⟨w.heap.size + 1, 0, none⟩ (.int .i64 10)).setCell ⟨w.heap.size + 1, 1, none⟩ (.int .i64 5)).setCell ⟨w.heap.size + 1, 2, none⟩ (.slice (some ⟨w2.heap.size, 0, none⟩) 4 4)).heap[w.heap.size]? = some (.cells #[.int .i64 10, .int .i64 4, .slice (some ⟨w1.heap.size, 0, none⟩) 4 4] 24) := by
    rw [Cy.setCell_ne _ _ _ (by show w.heap.size ≠ w.heap.size + 1; omega), Cy.setCell_ne _ _ _ (by show w.heap.size ≠ w.heap.size + 1; omega), Cy.setCell_ne _ _ _ (by show w.heap.size ≠ w.heap.size + 1; omega)]
    exact Cy.set_blk (Cy.set_blk (Cy.set_blk hX7))
  have hYF : ((((((W9.setCell ⟨w.heap.size, 0, none⟩ (.int .i64 10)).setCell ⟨w.heap.size, 1, none⟩ (.int .i64 4)).setCell ⟨w.heap.size, 2, none⟩ (.slice (some ⟨w1.heap.size, 0, none⟩) 4 4)).setCell ⟨w.heap.size + 1, 0, none⟩ (.int .i64 10)).setCell ⟨w.heap.size + 1, 1, none⟩ (.int .i64 5)).setCell ⟨w.heap.size + 1, 2, none⟩ (.slice (some ⟨w2.heap.size, 0, none⟩) 4 4)).heap[w.heap.size + 1]? = some (.cells #[.int .i64 10, .int .i64 5, .slice (some ⟨w2.heap.size, 0, none⟩) 4 4] 24) := by
    refine Cy.set_blk (Cy.set_blk (Cy.set_blk (c := #[.int .i64 10, .int .i64 5, .slice (some ⟨w2.heap.size, 0, none⟩) 4 4]) ?_))
    rw [Cy.setCell_ne _ _ _ (by show w.heap.size + 1 ≠ w.heap.size; omega), Cy.setCell_ne _ _ _ (by show w.heap.size + 1 ≠ w.heap.size; omega), Cy.setCell_ne _ _ _ (by show w.heap.size + 1 ≠ w.heap.size; omega)]
    exact hY7
  have hbF := ((((((HB7.out.setCell (p := ⟨w.heap.size, 0, none⟩) (by simp) (.int .i64 10)).setCell (p := ⟨w.heap.size, 1, none⟩) (by simp) (.int .i64 4)).setCell (p := ⟨w.heap.size, 2, none⟩) (by simp) (.slice (some ⟨w1.heap.size, 0, none⟩) 4 4)).setCell (p := ⟨w.heap.size + 1, 0, none⟩) (by simp) (.int .i64 10)).setCell (p := ⟨w.heap.size + 1, 1, none⟩) (by simp) (.int .i64 5)).setCell (p := ⟨w.heap.size + 1, 2, none⟩) (by simp) (.slice (some ⟨w2.heap.size, 0, none⟩) 4 4))
  have hy : YAt ((((((W9.setCell ⟨w.heap.size, 0, none⟩ (.int .i64 10)).setCell ⟨w.heap.size, 1, none⟩ (.int .i64 4)).setCell ⟨w.heap.size, 2, none⟩ (.slice (some ⟨w1.heap.size, 0, none⟩) 4 4)).setCell ⟨w.heap.size + 1, 0, none⟩ (.int .i64 10)).setCell ⟨w.heap.size + 1, 1, none⟩ (.int .i64 5)).setCell ⟨w.heap.size + 1, 2, none⟩ (.slice (some ⟨w2.heap.size, 0, none⟩) 4 4)) (.agg #[I 10, I 5, .slice (some ⟨w2.heap.size, 0, none⟩) 4 4]) exD10 := ⟨_, rfl, ⟨rfl, _, _, rfl, by decide, by decide, fun _ => ⟨_, 0, rfl, fun j u hu => by
    rw [Nat.zero_add]
    exact Cy.cell_blk hRF (by rw [List.getElem?_toArray]; exact hu)⟩⟩⟩
  have c0 := Cy.cell_blk (i := 0) hXF rfl
  have c1 := Cy.cell_blk (i := 1) hXF rfl
  have c2 := Cy.cell_blk (i := 2) hXF rfl
  have c3 := Cy.cell_blk (i := 0) hYF rfl
  have c4 := Cy.cell_blk (i := 1) hYF rfl
  have c5 := Cy.cell_blk (i := 2) hYF rfl
  refine any_next [0, 1] (by kernel_rfl) (by simp) (all_two ?_ ?_)
  · refine op_do rfl rfl ?_
    go_simp
    refine any_next [1, 2] (by kernel_rfl) (by simp) (all_two ?_ ?_)
    · refine op_do rfl rfl ?_
      go_simp
      refine any_next [2] (by kernel_rfl) (by simp) (all_one ?_)
      refine op_do rfl rfl ?_
      go_simp
      refine any_next [3] (by kernel_rfl) (by simp) (all_one ?_)
      refine op_do rfl rfl ?_
      go_simp
      refine ⟨by kernel_rfl, ?_⟩
      go_wp2_with fail
      refine bodyPost_ret (v := .tuple #[.agg #[I 10, I 4, .slice (some ⟨w1.heap.size, 0, none⟩) 4 4], .agg #[I 10, I 5, .slice (some ⟨w2.heap.size, 0, none⟩) 4 4]]) (by simp [results, Try.results22, go_sem, c0, c1, c2, c3, c4, c5]) rfl ⟨_, _, rfl, hy, hbF⟩
    · refine op_do rfl rfl ?_
      go_simp
      refine any_next [1] (by kernel_rfl) (by simp) (all_one ?_)
      refine op_do rfl rfl ?_
      go_simp
      refine any_next [3] (by kernel_rfl) (by simp) (all_one ?_)
      refine op_do rfl rfl ?_
      go_simp
      refine ⟨by kernel_rfl, ?_⟩
      go_wp2_with fail
      refine bodyPost_ret (v := .tuple #[.agg #[I 10, I 4, .slice (some ⟨w1.heap.size, 0, none⟩) 4 4], .agg #[I 10, I 5, .slice (some ⟨w2.heap.size, 0, none⟩) 4 4]]) (by simp [results, Try.results22, go_sem, c0, c1, c2, c3, c4, c5]) rfl ⟨_, _, rfl, hy, hbF⟩
  · refine op_do rfl rfl ?_
    go_simp
    refine any_next [0] (by kernel_rfl) (by simp) (all_one ?_)
    refine op_do rfl rfl ?_
    go_simp
    refine any_next [2] (by kernel_rfl) (by simp) (all_one ?_)
    refine op_do rfl rfl ?_
    go_simp
    refine any_next [3] (by kernel_rfl) (by simp) (all_one ?_)
    refine op_do rfl rfl ?_
    go_simp
    refine ⟨by kernel_rfl, ?_⟩
    go_wp2_with fail
    refine bodyPost_ret (v := .tuple #[.agg #[I 10, I 4, .slice (some ⟨w1.heap.size, 0, none⟩) 4 4], .agg #[I 10, I 5, .slice (some ⟨w2.heap.size, 0, none⟩) 4 4]]) (by simp [results, Try.results22, go_sem, c0, c1, c2, c3, c4, c5]) rfl ⟨_, _, rfl, hy, hbF⟩
end Go.Proofs.Ytpolipcicfjkiaa

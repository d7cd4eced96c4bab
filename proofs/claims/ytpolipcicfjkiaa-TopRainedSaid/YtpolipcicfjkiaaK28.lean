/- The program's Check, ask and isDay of a cistern's year; none, lacking. Conditions: none. -/
import Derived.Test.YtpolipcicfjkiaaK27
import Derived.Test.YtpolipcicfjkiaaK22
import Derived.Maps.AppendAt
namespace Go.Proofs.Ytpolipcicfjkiaa
open Go.RowKit

set_option maxHeartbeats 1000000 in
theorem yCheck_any (v : Value) (y : CY) (w : World) (hv : YAt w v y) :
    Calls PA.prog 27 #[v] w fun e w' => e = .returned (I (yChk y)) ∧ Below w.heap.size w w' := by
  obtain ⟨pv, rfl, hp⟩ := hv
  obtain ⟨A', c', rfl, _, _, _⟩ := hp.open_
  have hb0 : ∀ x, Below w.heap.size w (w.alloc x) := fun x => (Below.refl _ _).alloc (Nat.le_refl _) _
  have HP := Lib.hid hp; clear hp
  cases h1 : inR y.size 0 60
  · go_enter PA.func27, Try.ntmps27
    go_wp2_with (go_at_call 42; refine (cwithin_any _ _ _ _).mono ?_; rintro e w' ⟨rfl, rfl⟩)
    go_ret
    exact ⟨by simp [yChk, yValid, h1], hb0 _⟩
  · cases h2 : inR y.start 0 y.size
    · go_enter PA.func27, Try.ntmps27
      go_wp2_with (go_at_call 42; refine (cwithin_any _ _ _ _).mono ?_; rintro e w' ⟨rfl, rfl⟩)
      go_ret
      exact ⟨by simp [yChk, yValid, h2], hb0 _⟩
    · by_cases h3 : 8 < y.days.length
      · go_enter PA.func27, Try.ntmps27
        go_wp2_with (go_at_call 42; refine (cwithin_any _ _ _ _).mono ?_; rintro e w' ⟨rfl, rfl⟩)
        go_ret
        exact ⟨by simp [yChk, yValid]; omega, hb0 _⟩
      · go_enter PA.func27, Try.ntmps27
        go_wp2_with (first | (go_at_call 42; refine (cwithin_any _ _ _ _).mono ?_; rintro e w' ⟨rfl, rfl⟩) | (go_at_call 43; refine (containsCd_any _ _ _ (HP.out.below (hb0 _))).mono ?_; rintro e w1 ⟨rfl, hb1⟩; obtain ⟨hc1, hf1⟩ := bcell hb1; cases h4 : y.days.any badCd))
        all_goals go_ret
        all_goals exact ⟨by simp [yChk, yValid, h1, h2, h4]; try omega, bto (hb0 _) hb1⟩

set_option maxHeartbeats 400000 in
theorem yIsDay_any (v : Value) (y : CY) (k : Int) (w : World) (hv : YAt w v y) (hl : y.days.length ≤ 1000) :
    Calls PA.prog 36 #[v, I k] w fun e w' => e = .returned (.bool (inR k 0 (y.days.length - 1))) ∧ Below w.heap.size w w' := by
  obtain ⟨pv, rfl, hp⟩ := hv
  obtain ⟨A', c', rfl, _, _, _⟩ := hp.open_
  have hb0 : ∀ x, Below w.heap.size w (w.alloc x) := fun x => (Below.refl _ _).alloc (Nat.le_refl _) _
  clear hp
  go_enter PA.func36, Try.ntmps36
  go_wp2_with (go_at_call 42; refine (cwithin_any _ _ _ _).mono ?_; rintro e w' ⟨rfl, rfl⟩)
  go_ret
  exact ⟨rfl, hb0 _⟩

set_option maxHeartbeats 400000 in
theorem yNone_any (k : Int) (w : World) :
    Calls PA.prog 29 #[I k] w fun e w' => e = .returned (if k < 0 then .tuple #[I 0, I 3] else .tuple #[I k, I 0]) ∧ w = w' := by
  by_cases h : k < 0
  · go_enter PA.func29, Try.ntmps29
    go_wp2_with fail
    go_ret2
    exact ⟨rfl, rfl⟩
  · go_enter PA.func29, Try.ntmps29
    go_wp2_with fail
    go_ret2
    exact ⟨rfl, rfl⟩

set_option maxHeartbeats 400000 in
theorem yAsk_any (v : Value) (y : CY) (is : Bool) (w : World) (hv : YAt w v y) :
    Calls PA.prog 35 #[v, .bool is] w fun e w' => e = .returned (I (if yValid y then (if is then 0 else 1) else 100)) ∧ Below w.heap.size w w' := by
  have hv0 := hv
  obtain ⟨pv, rfl, hp⟩ := hv
  have hb0 : ∀ x, Below w.heap.size w (w.alloc x) := fun x => (Below.refl _ _).alloc (Nat.le_refl _) _
  have HV := Lib.hid hv0; clear hv0 hp
  cases h1 : yValid y
  · have h2 : yChk y = 100 := by simp [yChk, h1]
    go_enter PA.func35, Try.ntmps35
    go_wp2_with (go_at_call 27; refine (yCheck_any _ _ _ (HV.out.below (hb0 _))).mono ?_; rintro e w1 ⟨rfl, hb1⟩)
    go_ret
    exact ⟨by simp, bto (hb0 _) hb1⟩
  · have h2 : yChk y = 0 := by simp [yChk, h1]
    cases is
    · go_enter PA.func35, Try.ntmps35
      go_wp2_with (go_at_call 27; refine (yCheck_any _ _ _ (HV.out.below (hb0 _))).mono ?_; rintro e w1 ⟨rfl, hb1⟩)
      go_ret
      exact ⟨by simp, bto (hb0 _) hb1⟩
    · go_enter PA.func35, Try.ntmps35
      go_wp2_with (go_at_call 27; refine (yCheck_any _ _ _ (HV.out.below (hb0 _))).mono ?_; rintro e w1 ⟨rfl, hb1⟩)
      go_ret
      exact ⟨by simp, bto (hb0 _) hb1⟩
end Go.Proofs.Ytpolipcicfjkiaa
/- lasts of a year. Conditions: none. -/
namespace Go.Proofs.Ytpolipcicfjkiaa
open Go.RowKit
open Go.Proofs.Ytpolipcicfjkiaa.Cy (BelowH lastsB lasts_any runD)

def lowD (y : CY) : List (Int × Int) := y.days.map fun p => (p.lo, p.cost)
def lastsY (y : CY) : Bool := lastsB y.size y.start (lowD y)

theorem cell_open {w : World} {b i : Nat} {v : Value} (h : w.cell? ⟨b, i, none⟩ = some v) : ∃ c e fr, w.heap[b]? = some (.cells c e fr) ∧ c[i]? = some v := by
  unfold World.cell? at h
  cases hb : w.heap[b]? with
  | none => rw [hb] at h; simp at h
  | some o => 
    rw [hb] at h
    cases o <;> simp at h
    exact ⟨_, _, _, rfl, h⟩

theorem Cy.BelowH.of {B : Nat} {w w' : World} (h : Below B w w') : BelowH B w w' := ⟨h.size, h.block⟩
theorem Cy.BelowH.refl (B : Nat) (w : World) : BelowH B w w := ⟨Nat.le_refl _, fun _ _ => rfl⟩
theorem Cy.BelowH.trans {B : Nat} {a b c : World} (h : BelowH B a b) (k : BelowH B b c) : BelowH B a c := ⟨Nat.le_trans h.size k.size, fun i hi => (k.block i hi).trans (h.block i hi)⟩
theorem Cy.BelowH.mono {B B' : Nat} {a b : World} (h : BelowH B a b) (hb : B' ≤ B) : BelowH B' a b := ⟨h.size, fun i hi => h.block i (by omega)⟩
/-- As 'bto'. -/
theorem hto {w a b : World} (h : BelowH w.heap.size w a) (k : BelowH a.heap.size a b) : BelowH w.heap.size w b := h.trans (k.mono h.size)
theorem Cy.BelowH.cell {B : Nat} {a b : World} (h : BelowH B a b) {p : Addr} (hp : p.block < B) : b.cell? p = a.cell? p := by
  unfold World.cell?
  rw [h.block _ hp]
theorem Reads.belowH {w w' : World} {size n : Nat} {v : Value} {xs : List Value} (h : Reads w size v n xs) (hb : BelowH w.heap.size w w') : Reads w' size v n xs := by
  obtain ⟨h1, A, c, h2, h3, h4, h5⟩ := h
  refine ⟨h1, A, c, h2, h3, h4, fun hn => ?_⟩
  obtain ⟨b, o, rfl, hc⟩ := h5 hn
  refine ⟨b, o, rfl, fun j u hu => ?_⟩
  have := hc j u hu
  rw [hb.cell (World.block_lt_of_cell? w _ this)]
  exact this
theorem YAt.belowH {w w' : World} {v : Value} {y : CY} (h : YAt w v y) (hb : BelowH w.heap.size w w') : YAt w' v y := h.elim fun pv h => ⟨pv, h.1, Reads.belowH h.2 hb⟩

theorem yLasts_any (v : Value) (y : CY) (w : World) (hv : YAt w v y) (hl : y.days.length ≤ 366) :
    Calls PA.prog 32 #[v] w fun e w' => e = .returned (.bool (lastsY y)) ∧ BelowH w.heap.size w w' := by
  obtain ⟨pv, rfl, hp⟩ := hv
  obtain ⟨A, c, rfl, hnc, hcm, hc⟩ := hp.open_
  by_cases h0 : 0 < y.days.length
  · obtain ⟨b, o, rfl, hbl, hcell⟩ := hc h0
    obtain ⟨dc, et, frd, hb, _⟩ := cell_open (hcell 0 h0).1
    have at_ : ∀ {i : Nat} {v : Value}, w.cell? ⟨b, i, none⟩ = some v → dc[i]? = some v := fun {i v} h => by
      obtain ⟨dc', et', fr', hb', h'⟩ := cell_open h
      rw [hb] at hb'
      cases hb'
      exact h'
    refine lasts_any y.size y.start (some ⟨b, o, none⟩) y.days.length o c b dc et frd (lowD y) (by simp [lowD]) hl (fun _ => rfl) (fun i d hd => ?_) w (fun _ => hb)
    unfold lowD at hd
    rw [List.getElem?_map] at hd
    obtain ⟨p, hp1, hp2⟩ := Option.map_eq_some_iff.1 hd
    obtain ⟨hi, rfl⟩ := List.getElem?_eq_some_iff.1 hp1
    subst hp2
    obtain ⟨h1, h2, h3⟩ := hcell i hi
    exact ⟨at_ h1, at_ h3, ⟨_, at_ h1⟩, ⟨_, at_ h2⟩⟩
  · exact lasts_any y.size y.start A y.days.length 0 c 0 #[] 0 (0, 0) (lowD y) (by simp [lowD]) hl (fun h => absurd h h0) (fun i d hd => by
      have : y.days = [] := List.eq_nil_of_length_eq_zero (by omega)
      simp [lowD, this] at hd) w (fun h => absurd h h0)
end Go.Proofs.Ytpolipcicfjkiaa
/- Size. Conditions: none. -/
namespace Go.Proofs.Ytpolipcicfjkiaa
open Go.RowKit
open Go.Proofs.Ytpolipcicfjkiaa.Cy (BelowH)

/-- The first number from s on for which f holds, of k. -/
def findI (f : Int → Bool) : Nat → Int → Option Int
  | 0, _ => none
  | k + 1, s => if f s then some s else findI f k (s + 1)
theorem findI_some {f : Int → Bool} : ∀ (k : Nat) (s r : Int), s ≤ r → r < s + k → f r = true → (∀ x, s ≤ x → x < r → f x = false) → findI f k s = some r
  | 0, s, r, h1, h2, _, _ => by omega
  | k + 1, s, r, h1, h2, h3, h4 => by
    unfold findI
    by_cases e : s = r
    · subst e; rw [h3]; rfl
    · rw [h4 s (by omega) (by omega)]
      exact findI_some k (s + 1) r (by omega) (by omega) h3 (fun x hx hx' => h4 x (by omega) hx')
theorem findI_none {f : Int → Bool} : ∀ (k : Nat) (s : Int), (∀ x, s ≤ x → x < s + k → f x = false) → findI f k s = none
  | 0, _, _ => rfl
  | k + 1, s, h => by
    unfold findI
    rw [h s (by omega) (by omega)]
    exact findI_none k (s + 1) fun x h1 h2 => h x (by omega) (by omega)

def sizeY (y : CY) : Option Int := findI (fun s => lastsY { y with size := s }) 61 0
def sizeR (y : CY) : Value := if yValid y then (match sizeY y with | some s => .tuple #[I s, I 0] | none => .tuple #[I 0, I 3]) else .tuple #[I 0, I 100]

def cellMu (b i : Nat) (top : Int) (w : World) : Nat := match w.cell? ⟨b, i, none⟩ with | some (.int _ s) => (top - s).toNat | _ => 0

set_option maxHeartbeats 2000000 in
theorem ySize_any (v : Value) (y : CY) (w : World) (hv : YAt w v y) (hl : y.days.length ≤ 366) :
    Calls PA.prog 14 #[v] w fun e w' => e = .returned (sizeR y) ∧ BelowH w.heap.size w w' := by
  have hv0 := hv
  obtain ⟨pv, rfl, hp⟩ := hv
  have hb0 : ∀ x, Below w.heap.size w (w.alloc x) := fun x => (Below.refl _ _).alloc (Nat.le_refl _) _
  have HV := Lib.hid hv0; clear hv0
  have HP := Lib.hid hp; clear hp
  cases h1 : yValid y
  · have h2 : yChk y = 100 := by simp [yChk, h1]
    go_enter PA.func14, Try.ntmps14
    go_wp2_with (go_at_call 27; refine (yCheck_any _ _ _ (HV.out.below (hb0 _))).mono ?_; rintro e w1 ⟨rfl, hb1⟩)
    go_ret2
    exact ⟨by simp [sizeR, h1], Cy.BelowH.of (bto (hb0 _) hb1)⟩
  · have h2 : yChk y = 0 := by simp [yChk, h1]
    have hR : sizeR y = (match sizeY y with | some s => .tuple #[I s, I 0] | none => .tuple #[I 0, I 3]) := by simp [sizeR, h1]
    have HR := Lib.hid hR; clear hR
    go_enter PA.func14, Try.ntmps14
    go_wp2_with (go_at_call 27; refine (yCheck_any _ _ _ (HV.out.below (hb0 _))).mono ?_; rintro e w1 ⟨rfl, hb1⟩; obtain ⟨hc1, hf1⟩ := bcell hb1)
    have hbx : w1.heap[w.heap.size]? = some (.cells #[I y.size, I y.start, pv] 24) := by
      rw [hb1.block _ (by simp)]
      exact (Cy.hb_new w _).blk
    have hB1 : BelowH w.heap.size w w1 := Cy.BelowH.of (bto (hb0 _) hb1)
    go_loopw [] (fun wr => ∃ s : Int, 0 ≤ s ∧ s ≤ 61 ∧ wr.heap[w.heap.size]? = some (.cells #[I s, I y.start, pv] 24) ∧ BelowH w.heap.size w wr ∧ ∀ x, 0 ≤ x → x < s → lastsY { y with size := x } = false) (fun wr => cellMu w.heap.size 0 61 wr)
    case atStart =>
      refine ⟨0, by omega, by omega, Cy.set_blk hbx, ⟨?_, fun k hk => ?_⟩, fun x h1 h2 => by omega⟩
      · have := hB1.size; unfold World.setCell; simpa using this
      · rw [Cy.setCell_ne _ _ _ (by show k ≠ w.heap.size; omega)]; exact hB1.block k hk
    case round =>
      obtain ⟨s, hs0, hs1, hbx, hB, hno⟩ := hrel
      have hc0 := Cy.cell_blk (i := 0) hbx rfl
      have hc1 := Cy.cell_blk (i := 1) hbx rfl
      have hc2 := Cy.cell_blk (i := 2) hbx rfl
      have hz0 := Cy.thaw_blk (i := 0) hbx
      have hlt := (Array.getElem?_eq_some_iff.1 hbx).1
      by_cases hs : s ≤ 60
      · go_wp2_with (go_at_call 32; refine (yLasts_any _ { y with size := s } _ ⟨pv, rfl, Reads.belowH HP.out hB⟩ hl).mono ?_; rintro e w2 ⟨rfl, hb2⟩; have hbx2 := (hb2.block _ hlt).trans hbx; have hd0 := Cy.cell_blk (i := 0) hbx2 rfl; have hy0 := Cy.thaw_blk (i := 0) hbx2; cases hla : lastsY { y with size := s })
        · go_roundw
          case rel => 
            refine ⟨s + 1, by omega, by omega, ?_, ?_, ?_⟩
            · exact Cy.set_blk hbx2
            · refine ⟨?_, fun k hk => ?_⟩
              · have := (hto hB hb2).size; unfold World.setCell; simpa using this
              · rw [Cy.setCell_ne _ _ _ (by show k ≠ w.heap.size; omega)]; exact (hto hB hb2).block k hk
            · intro x h1 h2
              by_cases e : x = s
              · rw [e]; exact hla
              · exact hno x h1 (by omega)
          case measure => 
            have := Cy.cell_blk (i := 0) (Cy.set_blk (i := 0) (v := I (s + 1)) hbx2) rfl
            simp [cellMu, this, hc0]
            omega
        · go_ret2
          refine ⟨?_, hto hB hb2⟩
          rw [HR.out, show sizeY y = some s from findI_some 61 0 s hs0 (by omega) hla hno]
          rfl
      · go_wp2_with fail
        go_ret2
        refine ⟨?_, hB⟩
        rw [HR.out, show sizeY y = none from findI_none 61 0 fun x h1 h2 => hno x h1 (by omega)]
        rfl
end Go.Proofs.Ytpolipcicfjkiaa
/- Start. Conditions: none. -/
namespace Go.Proofs.Ytpolipcicfjkiaa
open Go.RowKit
open Go.Proofs.Ytpolipcicfjkiaa.Cy (BelowH)

def startY (y : CY) : Option Int := findI (fun s => lastsY { y with start := s }) (y.size.toNat + 1) 0
def startR (y : CY) : Value := if yValid y then (match startY y with | some s => .tuple #[I s, I 0] | none => .tuple #[I 0, I 3]) else .tuple #[I 0, I 100]

set_option maxHeartbeats 2000000 in
theorem yStart_any (v : Value) (y : CY) (w : World) (hv : YAt w v y) (hl : y.days.length ≤ 366) :
    Calls PA.prog 15 #[v] w fun e w' => e = .returned (startR y) ∧ BelowH w.heap.size w w' := by
  have hv0 := hv
  obtain ⟨pv, rfl, hp⟩ := hv
  have hb0 : ∀ x, Below w.heap.size w (w.alloc x) := fun x => (Below.refl _ _).alloc (Nat.le_refl _) _
  have HV := Lib.hid hv0; clear hv0
  have HP := Lib.hid hp; clear hp
  cases h1 : yValid y
  · have h2 : yChk y = 100 := by simp [yChk, h1]
    go_enter PA.func15, Try.ntmps15
    go_wp2_with (go_at_call 27; refine (yCheck_any _ _ _ (HV.out.below (hb0 _))).mono ?_; rintro e w1 ⟨rfl, hb1⟩)
    go_ret2
    exact ⟨by simp [startR, h1], Cy.BelowH.of (bto (hb0 _) hb1)⟩
  · have h2 : yChk y = 0 := by simp [yChk, h1]
    have hR : startR y = (match startY y with | some s => .tuple #[I s, I 0] | none => .tuple #[I 0, I 3]) := by simp [startR, h1]
    have HR := Lib.hid hR; clear hR
    have hsz : 0 ≤ y.size ∧ y.size ≤ 60 := by simp [yValid, inR] at h1; omega
    go_enter PA.func15, Try.ntmps15
    go_wp2_with (go_at_call 27; refine (yCheck_any _ _ _ (HV.out.below (hb0 _))).mono ?_; rintro e w1 ⟨rfl, hb1⟩; obtain ⟨hc1, hf1⟩ := bcell hb1)
    have hbx : w1.heap[w.heap.size]? = some (.cells #[I y.size, I y.start, pv] 24) := by
      rw [hb1.block _ (by simp)]
      exact (Cy.hb_new w _).blk
    have hB1 : BelowH w.heap.size w w1 := Cy.BelowH.of (bto (hb0 _) hb1)
    go_loopw [] (fun wr => ∃ s : Int, 0 ≤ s ∧ s ≤ y.size + 1 ∧ wr.heap[w.heap.size]? = some (.cells #[I y.size, I s, pv] 24) ∧ BelowH w.heap.size w wr ∧ ∀ x, 0 ≤ x → x < s → lastsY { y with start := x } = false) (fun wr => cellMu w.heap.size 1 (y.size + 1) wr)
    case atStart =>
      refine ⟨0, by omega, by omega, Cy.set_blk hbx, ⟨?_, fun k hk => ?_⟩, fun x h1 h2 => by omega⟩
      · have := hB1.size; unfold World.setCell; simpa using this
      · rw [Cy.setCell_ne _ _ _ (by show k ≠ w.heap.size; omega)]; exact hB1.block k hk
    case round =>
      obtain ⟨s, hs0, hs1, hbx, hB, hno⟩ := hrel
      have hc0 := Cy.cell_blk (i := 0) hbx rfl
      have hc1 := Cy.cell_blk (i := 1) hbx rfl
      have hc2 := Cy.cell_blk (i := 2) hbx rfl
      have hz1 := Cy.thaw_blk (i := 1) hbx
      have hlt := (Array.getElem?_eq_some_iff.1 hbx).1
      by_cases hs : s ≤ y.size
      · go_wp2_with (go_at_call 32; refine (yLasts_any _ { y with start := s } _ ⟨pv, rfl, Reads.belowH HP.out hB⟩ hl).mono ?_; rintro e w2 ⟨rfl, hb2⟩; have hbx2 := (hb2.block _ hlt).trans hbx; have hd1 := Cy.cell_blk (i := 1) hbx2 rfl; have hy1 := Cy.thaw_blk (i := 1) hbx2; cases hla : lastsY { y with start := s })
        · go_roundw
          case rel => 
            refine ⟨s + 1, by omega, by omega, ?_, ?_, ?_⟩
            · exact Cy.set_blk hbx2
            · refine ⟨?_, fun k hk => ?_⟩
              · have := (hto hB hb2).size; unfold World.setCell; simpa using this
              · rw [Cy.setCell_ne _ _ _ (by show k ≠ w.heap.size; omega)]; exact (hto hB hb2).block k hk
            · intro x h1 h2
              by_cases e : x = s
              · rw [e]; exact hla
              · exact hno x h1 (by omega)
          case measure => 
            have := Cy.cell_blk (i := 1) (Cy.set_blk (i := 1) (v := I (s + 1)) hbx2) rfl
            simp [cellMu, this, hc1]
            omega
        · go_ret2
          refine ⟨?_, hto hB hb2⟩
          rw [HR.out, show startY y = some s from findI_some (y.size.toNat + 1) 0 s hs0 (by omega) hla hno]
          rfl
      · go_wp2_with fail
        go_ret2
        refine ⟨?_, hB⟩
        rw [HR.out, show startY y = none from findI_none (y.size.toNat + 1) 0 fun x h1 h2 => hno x h1 (by omega)]
        rfl
end Go.Proofs.Ytpolipcicfjkiaa
/- Walks of Check, ask, areStretches, isStretch, isPoint, odds of the program. -/
namespace Go.Proofs.Ytpolipcicfjkiaa
open Go.RowKit

set_option maxHeartbeats 1000000 in
theorem check_any (v : Value) (d : DLine) (w : World) (hv : LineAt w v d) (hlen : d.odds.length ≤ 1000) :
    Calls PA.prog 80 #[v] w fun e w' => e = .returned (I (chk d)) ∧ Below w.heap.size w w' := by
  obtain ⟨pv, ov, rfl, hp, ho⟩ := hv
  obtain ⟨A, c, rfl, _, _, _⟩ := ho.open_
  obtain ⟨A', c', rfl, _, _, _⟩ := hp.open_
  have hb0 : ∀ x, Below w.heap.size w (w.alloc x) := fun x => (Below.refl _ _).alloc (Nat.le_refl _) _
  have HP := Lib.hid hp; clear hp
  have HO := Lib.hid ho; clear ho
  by_cases h1 : 7 < d.odds.length
  · go_enter PA.func80, Try.ntmps80
    go_wp2_with fail
    go_ret
    exact ⟨by simp [chk, valid]; omega, hb0 _⟩
  · cases h2 : d.odds.any badOdds
    · by_cases h3 : d.pts.length = d.odds.length + 1
      · have H3 := Lib.hid h3
        have h3' : ((d.pts.length : Int) != (d.odds.length : Int) + 1) = false := by simp; omega
        clear h3
        cases h4 : d.pts.any badPt
        · go_enter PA.func80, Try.ntmps80
          go_wp2_with (first | (go_at_call 89; refine (containsOdds_any _ _ _ (HO.out.below (hb0 _))).mono ?_; rintro e w1 ⟨rfl, hb1⟩; obtain ⟨hc1, hf1⟩ := bcell hb1) | (go_at_call 90; refine (containsPts_any _ _ _ (HP.out.below (bto (hb0 _) hb1))).mono ?_; rintro e w2 ⟨rfl, hb2⟩))
          go_ret
          exact ⟨by have := H3.out; simp [chk, valid, h2, h4, this]; omega, bto (hb0 _) (bto hb1 hb2)⟩
        · go_enter PA.func80, Try.ntmps80
          go_wp2_with (first | (go_at_call 89; refine (containsOdds_any _ _ _ (HO.out.below (hb0 _))).mono ?_; rintro e w1 ⟨rfl, hb1⟩; obtain ⟨hc1, hf1⟩ := bcell hb1) | (go_at_call 90; refine (containsPts_any _ _ _ (HP.out.below (bto (hb0 _) hb1))).mono ?_; rintro e w2 ⟨rfl, hb2⟩))
          go_ret
          exact ⟨by simp [chk, valid, h4], bto (hb0 _) (bto hb1 hb2)⟩
      · have h3' : ((d.pts.length : Int) != (d.odds.length : Int) + 1) = true := by simp; omega
        go_enter PA.func80, Try.ntmps80
        go_wp2_with (go_at_call 89; refine (containsOdds_any _ _ _ (HO.out.below (hb0 _))).mono ?_; rintro e w1 ⟨rfl, hb1⟩; obtain ⟨hc1, hf1⟩ := bcell hb1)
        go_ret
        exact ⟨by simp [chk, valid, h3], bto (hb0 _) hb1⟩
    · go_enter PA.func80, Try.ntmps80
      go_wp2_with (go_at_call 89; refine (containsOdds_any _ _ _ (HO.out.below (hb0 _))).mono ?_; rintro e w1 ⟨rfl, hb1⟩; obtain ⟨hc1, hf1⟩ := bcell hb1)
      go_ret
      exact ⟨by simp [chk, valid, h2], bto (hb0 _) hb1⟩

set_option maxHeartbeats 400000 in
theorem ask_any (v : Value) (d : DLine) (is : Bool) (w : World) (hv : LineAt w v d) (hlen : d.odds.length ≤ 1000) :
    Calls PA.prog 54 #[v, .bool is] w fun e w' => e = .returned (I (askE d is)) ∧ Below w.heap.size w w' := by
  have hv0 := hv
  obtain ⟨pv, ov, rfl, hp, ho⟩ := hv
  have hb0 : ∀ x, Below w.heap.size w (w.alloc x) := fun x => (Below.refl _ _).alloc (Nat.le_refl _) _
  have HV := Lib.hid hv0; clear hv0 hp ho
  cases h1 : valid d
  · have h2 : chk d = 60 := by simp [chk, h1]
    go_enter PA.func54, Try.ntmps54
    go_wp2_with (go_at_call 80; refine (check_any _ _ _ (HV.out.below (hb0 _)) hlen).mono ?_; rintro e w1 ⟨rfl, hb1⟩)
    go_ret
    exact ⟨by simp [askE, h1], bto (hb0 _) hb1⟩
  · have h2 : chk d = 0 := by simp [chk, h1]
    cases is
    · go_enter PA.func54, Try.ntmps54
      go_wp2_with (go_at_call 80; refine (check_any _ _ _ (HV.out.below (hb0 _)) hlen).mono ?_; rintro e w1 ⟨rfl, hb1⟩)
      go_ret
      exact ⟨by simp [askE, h1], bto (hb0 _) hb1⟩
    · go_enter PA.func54, Try.ntmps54
      go_wp2_with (go_at_call 80; refine (check_any _ _ _ (HV.out.below (hb0 _)) hlen).mono ?_; rintro e w1 ⟨rfl, hb1⟩)
      go_ret
      exact ⟨by simp [askE, h1], bto (hb0 _) hb1⟩

end Go.Proofs.Ytpolipcicfjkiaa
/- Walks of the two measures' part. -/
namespace Go.Proofs.Ytpolipcicfjkiaa
open Go.RowKit Go.Sort

theorem costAt_eq {d : DLine} {p : Nat} (h : p < d.pts.length) : costAt d p = d.pts[p].cost := by simp [costAt, List.getElem?_eq_getElem h]

end Go.Proofs.Ytpolipcicfjkiaa
/- Walk of reckon: the table of all stretches, for the measure at worst and for the sum. -/
namespace Go.Proofs.Ytpolipcicfjkiaa
open Go.RowKit Go.Sort

def TabAt (w : World) (T : Nat) (E : Nat → Nat → Int × Nat) : Prop := ∀ i j, i < 8 → j < 8 → w.cell? ⟨T, i * 16 + j * 2, none⟩ = some (I (E i j).1) ∧ w.cell? ⟨T, i * 16 + j * 2 + 1, none⟩ = some (I (E i j).2)
theorem TabAt.congr {w : World} {T : Nat} {E E' : Nat → Nat → Int × Nat} (h : TabAt w T E) (he : ∀ i j, i < 8 → j < 8 → E i j = E' i j) : TabAt w T E' :=
  fun i j hi hj => by rw [← he i j hi hj]; exact h i j hi hj
def RetTab (w : World) (E : Nat → Nat → Int × Nat) (e : Ending) (w' : World) : Prop := ∃ T, e = .returned (.pointer (some ⟨T, 0, none⟩)) ∧ TabAt w' T E ∧ Below w.heap.size w w'
def entN (part : Part) (n many frm : Nat) (cur : Int × Nat) (i j : Nat) : Int × Nat :=
  if ¬ (i < j ∧ j ≤ n) then (0, 0) else if j - i < many ∨ (j - i = many ∧ i < frm) then tab part (j - i) i else if j - i = many ∧ i = frm then cur else (0, 0)
def entF (part : Part) (n i j : Nat) : Int × Nat := if i < j ∧ j ≤ n then tab part (j - i) i else (0, 0)
/-- What holds between two steps of 'reckon'. -/
structure RS (w wr : World) (pv ov : Value) (E : Nat → Nat → Int × Nat) : Prop where
  below : Below w.heap.size w wr
  c0 : wr.cell? ⟨w.heap.size, 0, none⟩ = some pv
  c1 : wr.cell? ⟨w.heap.size, 1, none⟩ = some ov
  tab : TabAt wr (w.heap.size + 1) E
  fr : ∀ o, wr.frozen? ⟨w.heap.size + 1, o, none⟩ = false
theorem RS.size {w wr : World} {pv ov : Value} {E : Nat → Nat → Int × Nat} (h : RS w wr pv ov E) : w.heap.size + 1 < wr.heap.size :=
  World.block_lt_of_cell? wr _ (h.tab 0 0 (by omega) (by omega)).1
theorem RS.ext {w wr wr' : World} {pv ov : Value} {E : Nat → Nat → Int × Nat} (h : RS w wr pv ov E) (hb : Below wr.heap.size wr wr') : RS w wr' pv ov E := by
  have hs := h.size
  obtain ⟨b1, b2⟩ := bcell hb
  exact ⟨bto h.below hb, by rw [b1 _ _ (by omega)]; exact h.c0, by rw [b1 _ _ (by omega)]; exact h.c1,
    fun i j hi hj => by rw [b1 _ _ (by omega), b1 _ _ (by omega)]; exact h.tab i j hi hj, fun o => by rw [b2 _ _ (by omega)]; exact h.fr o⟩
theorem RS.congr {w wr : World} {pv ov : Value} {E E' : Nat → Nat → Int × Nat} (h : RS w wr pv ov E) (he : ∀ i j, i < 8 → j < 8 → E i j = E' i j) : RS w wr pv ov E' :=
  ⟨h.below, h.c0, h.c1, h.tab.congr he, h.fr⟩

theorem RS.store {w wr : World} {pv ov : Value} {E : Nat → Nat → Int × Nat} (h : RS w wr pv ov E) (i j : Nat) (hi : i < 8) (hj : j < 8) (x : Int) (y : Nat) :
    RS w ((wr.setCell ⟨w.heap.size + 1, i * 16 + j * 2, none⟩ (I x)).setCell ⟨w.heap.size + 1, i * 16 + j * 2 + 1, none⟩ (I y)) pv ov (fun a b => if a = i ∧ b = j then (x, y) else E a b) := by
  have hs := h.size
  refine ⟨(h.below.setCell (p := ⟨w.heap.size + 1, _, none⟩) (by simp) _).setCell (p := ⟨w.heap.size + 1, _, none⟩) (by simp) _, ?_, ?_, ?_, ?_⟩
  · rw [World.cell?_setCell_other _ _ _ _ (by simp), World.cell?_setCell_other _ _ _ _ (by simp)]; exact h.c0
  · rw [World.cell?_setCell_other _ _ _ _ (by simp), World.cell?_setCell_other _ _ _ _ (by simp)]; exact h.c1
  · intro a b ha hb
    obtain ⟨q1, q2⟩ := h.tab a b ha hb
    by_cases hab : a = i ∧ b = j
    · obtain ⟨rfl, rfl⟩ := hab
      dsimp only
      rw [if_pos ⟨rfl, rfl⟩]
      refine ⟨?_, ?_⟩
      · rw [World.cell?_setCell_other _ _ _ _ (by simp)]
        exact World.cell?_setCell_same _ _ _ q1
      · refine World.cell?_setCell_same _ _ _ (u := I (E a b).2) ?_
        rw [World.cell?_setCell_other _ _ _ _ (by simp)]
        exact q2
    · dsimp only
      rw [if_neg hab]
      have hne : a * 16 + b * 2 ≠ i * 16 + j * 2 := by omega
      refine ⟨?_, ?_⟩
      · rw [World.cell?_setCell_other _ _ _ _ (by simp only [ne_eq, Addr.mk.injEq, true_and, and_true]; omega), World.cell?_setCell_other _ _ _ _ (by simp only [ne_eq, Addr.mk.injEq, true_and, and_true]; omega)]; exact q1
      · rw [World.cell?_setCell_other _ _ _ _ (by simp only [ne_eq, Addr.mk.injEq, true_and, and_true]; omega), World.cell?_setCell_other _ _ _ _ (by simp only [ne_eq, Addr.mk.injEq, true_and, and_true]; omega)]; exact q2
  · intro o
    rw [World.frozen?_setCell, World.frozen?_setCell]; exact h.fr o

/-- A new point's worth in the entry: the table's next state. -/
theorem entN_cur {part : Part} {n many frm : Nat} {cur : Int × Nat} {x : Int} {y : Nat} (h : frm + many ≤ n) (hm : 1 ≤ many) :
    ∀ a b, (if a = frm ∧ b = frm + many then (x, (y : Nat)) else entN part n many frm cur a b) = entN part n many frm (x, y) a b := by
  intro a b
  by_cases h0 : a = frm ∧ b = frm + many
  · obtain ⟨rfl, rfl⟩ := h0
    rw [if_pos ⟨rfl, rfl⟩]
    unfold entN
    rw [if_neg (by omega), if_neg (by omega), if_pos (by omega)]
  · rw [if_neg h0]
    unfold entN
    split
    · rfl
    · split
      · rfl
      · rw [if_neg (by omega), if_neg (by omega)]
theorem entN_next {part : Part} {n many frm : Nat} :
    ∀ a b, entN part n many frm (tab part many frm) a b = entN part n many (frm + 1) (0, 0) a b := by
  intro a b
  unfold entN
  split
  · rfl
  · rename_i h1
    split
    · rename_i h2
      rw [if_pos (by omega)]
    · rename_i h2
      split
      · rename_i h3
        rw [if_pos (by omega), h3.1, h3.2]
      · rename_i h3
        rw [if_neg (by omega)]
        split
        · rename_i h4
          rfl
        · rfl
theorem entN_row {part : Part} {n many frm : Nat} (h : n < frm + many) : ∀ a b, entN part n many frm (0, 0) a b = entN part n (many + 1) 0 (0, 0) a b := by
  intro a b
  unfold entN
  split
  · rfl
  · rename_i h1
    by_cases h2 : b - a < many ∨ (b - a = many ∧ a < frm)
    · rw [if_pos h2, if_pos (by omega)]
    · rw [if_neg h2, if_neg (by omega), if_neg (by omega)]
      split <;> rfl
theorem entN_end {part : Part} {n many : Nat} (h : n < many) : ∀ a b, entN part n many 0 (0, 0) a b = entF part n a b := by
  intro a b
  unfold entN entF
  by_cases h1 : a < b ∧ b ≤ n
  · rw [if_neg (by simpa using h1), if_pos (by omega), if_pos h1]
  · rw [if_pos h1, if_neg h1]
theorem entN_start {part : Part} {n : Nat} : ∀ a b, (0, 0) = entN part n 2 0 (0, 0) a b := by
  intro a b
  unfold entN
  split
  · rfl
  · rename_i h1
    split
    · rename_i h2
      have : b - a = 1 := by omega
      rw [this]; rfl
    · split <;> rfl

end Go.Proofs.Ytpolipcicfjkiaa
/- Walk of reckon: the table of all stretches, for the measure at worst. -/
namespace Go.Proofs.Ytpolipcicfjkiaa
open Go.RowKit Go.Sort

end Go.Proofs.Ytpolipcicfjkiaa
/- Walk of reckon: the table of all stretches, for the sum. -/
namespace Go.Proofs.Ytpolipcicfjkiaa
open Go.RowKit Go.Sort

end Go.Proofs.Ytpolipcicfjkiaa
/- Walks of Worst and Next. -/
namespace Go.Proofs.Ytpolipcicfjkiaa
open Go.RowKit Go.Sort

/-- What Worst and Next return. -/
def worstR (d : DLine) (f t : Int) : Int × Int := if askE d (someOf d f t) = 0 then (worstN d f.toNat t.toNat, 0) else (0, askE d (someOf d f t))
def nextR (d : DLine) (f t : Int) : Int × Int := if askE d (someOf d f t) = 0 then (if t = f + 1 then (0, 3) else (nextN d f.toNat t.toNat, 0)) else (0, askE d (someOf d f t))
theorem askE_ok {d : DLine} {is : Bool} (h : askE d is = 0) : valid d = true ∧ is = true := by
  unfold askE at h
  cases hv : valid d <;> cases is <;> simp [hv] at h ⊢
theorem someOf_spec {d : DLine} {f t : Int} (h : someOf d f t = true) : 0 ≤ f ∧ f < t ∧ t ≤ d.odds.length := by
  unfold someOf at h
  simpa [and_assoc] using h
theorem entF_eq (part : Part) (n i j : Nat) (h : i < j) (h' : j ≤ n) : entF part n i j = tab part (j - i) i := by
  unfold entF; rw [if_pos ⟨h, h'⟩]

end Go.Proofs.Ytpolipcicfjkiaa
/- Walks of isStretch, isPoint, Path, Paid. -/
namespace Go.Proofs.Ytpolipcicfjkiaa
open Go.RowKit Go.Sort

set_option maxHeartbeats 400000 in
theorem isPt_any (v : Value) (d : DLine) (n : Int) (w : World) (hv : LineAt w v d) (hlen : d.pts.length ≤ 1000) :
    Calls PA.prog 39 #[v, I n] w fun e w' => e = .returned (.bool (isPt d n)) ∧ Below w.heap.size w w' := by
  obtain ⟨pv, ov, rfl, hp, ho⟩ := hv
  obtain ⟨A, c, rfl, _, _, _⟩ := hp.open_
  clear hp ho
  go_enter PA.func39, Try.ntmps39
  go_wp2_with (go_at_call 57; refine (within_any _ _ _ _).mono ?_; rintro e w' ⟨rfl, rfl⟩)
  go_ret
  exact ⟨rfl, (Below.refl _ _).alloc (Nat.le_refl _) _⟩

theorem nextN_bd {d : DLine} {f t : Nat} (h : f + 1 < t) : f < nextN d f t ∧ nextN d f t < t := by
  unfold nextN
  rw [tab_eq]
  obtain ⟨h1, h2, _⟩ := (argmin_pt (tabG (worstP d) (t - f) f) f (t - f - 1)).2 (by omega)
  omega

theorem pathL_fuel (d : DLine) (s : Int) : ∀ k k' f t, t - f ≤ k → t - f ≤ k' → pathL d s k f t = pathL d s k' f t
  | 0, 0, _, _, _, _ => rfl
  | 0, k' + 1, f, t, h, _ => by unfold pathL; rw [if_neg (by omega)]
  | k + 1, 0, f, t, _, h => by unfold pathL; rw [if_neg (by omega)]
  | k + 1, k' + 1, f, t, h, h' => by
    unfold pathL
    by_cases h1 : f + 1 < t
    · have hb := nextN_bd (d := d) h1
      rw [if_pos h1, if_pos h1, pathL_fuel d s k k' f (nextN d f t) (by omega) (by omega), pathL_fuel d s k k' (nextN d f t) t (by omega) (by omega)]
    · rw [if_neg h1, if_neg h1]
theorem pathL_step (d : DLine) (s : Int) (f t : Nat) (h : f + 1 < t) : pathL d s (t - f) f t = (nextN d f t : Int) :: (if s < nextN d f t then pathL d s (nextN d f t - f) f (nextN d f t) else pathL d s (t - nextN d f t) (nextN d f t) t) := by
  have hb := nextN_bd (d := d) h
  obtain ⟨k, hk⟩ : ∃ k, t - f = k + 1 := ⟨t - f - 1, by omega⟩
  rw [hk, pathL, if_pos h, pathL_fuel d s k (nextN d f t - f) f _ (by omega) (by omega), pathL_fuel d s k (t - nextN d f t) _ t (by omega) (by omega)]

/-- Two results: a slice of integers, and an error. -/
def RetInts (w : World) (xs : List Int) (err : Int) (e : Ending) (w' : World) : Prop := ∃ v, e = .returned (.tuple #[v, I err]) ∧ Ints w' v xs ∧ Below w.heap.size w w'
/-- What Path returns. -/
def pathR (d : DLine) (s : Int) : List Int × Int := if askE d (isSt d s) = 0 then (pathL d s d.odds.length 0 d.odds.length, 0) else ([], askE d (isSt d s))

end Go.Proofs.Ytpolipcicfjkiaa

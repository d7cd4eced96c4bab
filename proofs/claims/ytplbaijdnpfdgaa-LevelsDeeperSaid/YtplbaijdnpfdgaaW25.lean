/- Walks: Holds's function value, IndexFunc, ContainsFunc; the reference's Holds; ends of the laws. -/
import Derived.Test.YtplbaijdnpfdgaaW24
namespace Go.Proofs.Ytplbaijdnpfdgaa
open Go.RowKit Go.Sort

set_option maxRecDepth 20000 in
set_option maxHeartbeats 1000000 in
theorem holds1_any (n : Int) (w : World) :
    Calls Try.prog 97 #[I n] w fun e w' => e = .returned (.bool (!trOwn n)) ∧ w = w' := by
  go_enter Try.func97, Try.ntmps97
  go_wp2_with fail
  refine (within_any _ _ _ _).mono ?_
  rintro e w' ⟨rfl, rfl⟩
  rw [show inR n 0 99 = trOwn n from rfl]
  cases hx : trOwn n
  · have HX := Lib.hid hx
    clear hx
    go_wp2_with fail
    go_ret
    exact ⟨by rw [HX.out]; rfl, rfl⟩
  · have HX := Lib.hid hx
    clear hx
    go_wp2_with fail
    go_ret
    exact ⟨by rw [HX.out]; rfl, rfl⟩

def RetIdxF (xs : List Int) (w : World) (e : Ending) (w' : World) : Prop := ∃ r : Int, e = .returned (I r) ∧ (0 ≤ r ↔ xs.all trOwn = false) ∧ Below w.heap.size w w'
set_option maxRecDepth 20000 in
set_option maxHeartbeats 1000000 in
theorem indexF_any (v : Value) (xs : List Int) (w : World) (hr : Ints w v xs) :
    Calls Try.prog 106 #[v, .func (.func 97) #[] #[]] w fun e w' => RetIdxF xs w e w' := by
  obtain ⟨A, c, rfl, hnc, hcm, hc⟩ := hr.open_
  have HC := Lib.hid hc; clear hc hr
  go_enter Try.func106, Try.ntmps106
  go_wp2_with fail
  go_loopw [8] (fun i wr => ∃ k : Nat, k ≤ xs.length ∧ i = I k ∧ Hid ((xs.take k).all trOwn = true) ∧ Hid (Below w.heap.size w wr)) (fun i _ => xs.length - (intOf i).toNat)
  case atStart => exact ⟨0, by omega, rfl, Lib.hid rfl, Lib.hid (Below.refl _ _)⟩
  case round =>
    obtain ⟨k, hk, rfl, hn, hw⟩ := hrel
    by_cases hlt : k < xs.length
    · obtain ⟨b, o, rfl, hbl, hcell⟩ := HC.out (by omega)
      have x0 := keep_cell hw.out (hcell k hlt)
      clear hcell
      have hsn := all_snoc trOwn xs k hlt
      have hno := all_not trOwn xs k hlt
      obtain ⟨x, hx⟩ : ∃ x, xs[k] = x := ⟨_, rfl⟩
      rw [hx] at x0 hsn hno
      have HS := Lib.hid hsn
      have HN := Lib.hid hno
      clear hx hsn hno
      go_wp2_with fail
      refine (holds1_any x _).mono ?_
      rintro e w' ⟨rfl, rfl⟩
      clear x0
      cases hx : trOwn x
      · have HE := Lib.hid (HN.out hx)
        clear hx
        go_wp2_with fail
        go_ret
        exact ⟨k, rfl, ⟨fun _ => HE.out, fun _ => by omega⟩, hw.out⟩
      · have HE := Lib.hid hx
        clear hx
        go_wp2_with fail
        go_roundw
        case rel => exact ⟨k + 1, by omega, by go_num, Lib.hid (by rw [HS.out, hn.out, HE.out]; rfl), hw⟩
        case measure => simp [intOf]; omega
    · have HE := Lib.hid (show xs.all trOwn = true by have := hn.out; rwa [List.take_of_length_le (by omega)] at this)
      go_wp2_with fail
      go_ret
      exact ⟨-1, rfl, ⟨fun h => by omega, fun h => by rw [HE.out] at h; cases h⟩, hw.out⟩

set_option maxRecDepth 20000 in
set_option maxHeartbeats 1000000 in
theorem containsF_any (v : Value) (xs : List Int) (w : World) (hr : Ints w v xs) :
    Calls Try.prog 96 #[v, .func (.func 97) #[] #[]] w fun e w' => e = .returned (.bool (!xs.all trOwn)) ∧ Below w.heap.size w w' := by
  go_enter Try.func96, Try.ntmps96
  go_wp2_with fail
  refine (indexF_any v xs w hr).mono ?_
  rintro e w1 ⟨r, rfl, hr, hb⟩
  cases hd : xs.all trOwn
  · have h0 : 0 ≤ r := hr.2 hd
    have HB := Lib.hid hb
    have HD := Lib.hid hd
    clear hr hb hd
    go_wp2_with fail
    go_ret
    exact ⟨by rw [HD.out]; rfl, HB.out⟩
  · have h0 : ¬ 0 ≤ r := fun h => by have := hr.1 h; rw [hd] at this; cases this
    have HB := Lib.hid hb
    have HD := Lib.hid hd
    have h1 : decide (0 ≤ r) = false := by simpa using h0
    clear hr hb hd h0
    go_wp2_with fail
    go_ret
    exact ⟨by rw [HD.out]; rfl, HB.out⟩

def holdsP (t : Twn) (l : List Int) : Bool × Int := if valid t then (isTrB t l, 0) else (false, 10)
set_option maxRecDepth 20000 in
set_option maxHeartbeats 2000000 in
theorem rHolds_any (v lv : Value) (t : Twn) (l : List Int) (w : World) (hv : TwnAt w v t) (hl : Ints w lv l) (hlen : l.length ≤ 1000) :
    Calls Try.prog 62 #[v, lv] w fun e w' => e = .returned (.tuple #[.bool (holdsP t l).1, I (holdsP t l).2]) ∧ Below w.heap.size w w' := by
  have HLL := Lib.hid hl
  clear hl
  obtain ⟨sv, pv, rfl, hs, hp⟩ := hv
  have HSN := Lib.hid hs
  have HSP := Lib.hid hp
  obtain ⟨A1, c1, rfl, -, -, -⟩ := id hs.open_
  obtain ⟨A2, c2, rfl, -, -, -⟩ := id hp.open_
  clear hs hp
  have S := Lib.hid (show St w (w.alloc (.cells #[I t.wells, .slice A1 t.snd.length c1, .slice A2 t.slp.length c2] 25)) (w.heap.size + 1) [.box w.heap.size [I t.wells, .slice A1 t.snd.length c1, .slice A2 t.slp.length c2]] from (St.init w).alloc [I t.wells, .slice A1 t.snd.length c1, .slice A2 t.slp.length c2] 25)
  have q0 := S.out.get 0 0 rfl rfl
  have q1 := S.out.get 0 1 rfl rfl
  have q2 := S.out.get 0 2 rfl rfl
  cases hv : valid t
  · have HC := Lib.hid (show chk t = 10 by simp [chk, hv])
    have HE := Lib.hid (show holdsP t l = (false, 10) by simp [holdsP, hv])
    clear hv
    go_enter Try.func62, Try.ntmps62
    go_wp2_with fail
    clear q0 q1 q2
    refine (rCheck_any _ t _ ⟨_, _, rfl, HSN.out.below S.out.bel, HSP.out.below S.out.bel⟩).mono ?_
    rintro e w1 ⟨rfl, hb⟩
    rw [HC.out]
    have S := Lib.hid (S.out.call hb)
    clear hb
    have q0 := S.out.get 0 0 rfl rfl
    have q1 := S.out.get 0 1 rfl rfl
    have q2 := S.out.get 0 2 rfl rfl
    go_wp2_with fail
    go_ret2
    exact ⟨by rw [HE.out]; rfl, S.out.bel⟩
  · have HC := Lib.hid (show chk t = 0 by simp [chk, hv])
    have HE := Lib.hid (show holdsP t l = (isTrB t l, 0) by simp [holdsP, hv])
    have HV := Lib.hid (valid_iff'.1 hv)
    clear hv
    go_enter Try.func62, Try.ntmps62
    go_wp2_with fail
    clear q0 q1 q2
    refine (rCheck_any _ t _ ⟨_, _, rfl, HSN.out.below S.out.bel, HSP.out.below S.out.bel⟩).mono ?_
    rintro e w1 ⟨rfl, hb⟩
    rw [HC.out]
    have S := Lib.hid (S.out.call hb)
    clear hb
    have q0 := S.out.get 0 0 rfl rfl
    have q1 := S.out.get 0 1 rfl rfl
    have q2 := S.out.get 0 2 rfl rfl
    go_wp2_with fail
    clear q0 q1 q2
    refine (isTruth_any _ _ t l _ ⟨_, _, rfl, HSN.out.below S.out.bel, HSP.out.below S.out.bel⟩ (Ints.below HLL.out S.out.bel) HV.out.1 hlen (by have := HV.out.2; omega) (by have := HV.out.2; omega)).mono ?_
    rintro e w2 ⟨rfl, hb⟩
    have S := Lib.hid (S.out.call hb)
    clear hb
    obtain ⟨b, hb⟩ : ∃ b, isTrB t l = b := ⟨_, rfl⟩
    rw [hb] at HE ⊢
    clear hb
    go_wp2_with fail
    go_ret2
    exact ⟨by rw [HE.out]; rfl, S.out.bel⟩

def lowL (t : Twn) : List Int := (List.range t.wells.toNat).map fun w => (lvl (closeM (baseM t)) w).low
def highL (t : Twn) : List Int := (List.range t.wells.toNat).map fun w => (lvl (closeM (baseM t)) w).high
theorem lowL_get {t : Twn} {w : Nat} (hw : (w : Int) < t.wells) : (lowL t).getD w 0 = (lvl (closeM (baseM t)) w).low := by
  have : w < t.wells.toNat := by omega
  simp [lowL, List.getD_eq_getElem?_getD, List.getElem?_map, List.getElem?_range this]
theorem highL_get {t : Twn} {w : Nat} (hw : (w : Int) < t.wells) : (highL t).getD w 0 = (lvl (closeM (baseM t)) w).high := by
  have : w < t.wells.toNat := by omega
  simp [highL, List.getD_eq_getElem?_getD, List.getElem?_map, List.getElem?_range this]
theorem lowL_len (t : Twn) : (lowL t).length = t.wells.toNat := by simp [lowL]
theorem highL_len (t : Twn) : (highL t).length = t.wells.toNat := by simp [highL]
/-- What there is, if there is a truth. -/
theorem open_exact {t : Twn} (h : openE t true = 0) : Vl t ∧ Tight t (closeM (baseM t)) ∧ ∃ l, Exact t l ∧ ∀ w : Nat, (w : Int) < t.wells → lvl (closeM (baseM t)) w = spAt l w := by
  obtain ⟨hv, -, hd⟩ := openE_zero h
  obtain ⟨-, ht⟩ := says_closed hv (baseM_says hv) hd
  obtain ⟨x, hx, -⟩ := ht.one 6 6 (.inr rfl) (.inr rfl)
  rcases spansR_cases hv with ⟨l, -, he⟩ | ⟨-, hn⟩
  · exact ⟨hv, ht, l, he, fun w hw => lvl_exact hv ht he hw⟩
  · exact absurd ⟨x, hx⟩ hn
theorem ends_true {t : Twn} (h : openE t true = 0) : isTrB t (lowL t) = true ∧ isTrB t (highL t) = true := by
  obtain ⟨hv, -, l, he, hl⟩ := open_exact h
  have h0 := hv.w0
  refine ⟨isTrB_iff.2 ⟨by rw [lowL_len]; omega, he.low.congr hv fun w hw => ?_⟩, isTrB_iff.2 ⟨by rw [highL_len]; omega, he.high.congr hv fun w hw => ?_⟩⟩
  · rw [lowL_get hw, hl w hw]
  · rw [highL_get hw, hl w hw]
theorem endsP_zero {t : Twn} (h : openE t true = 0) : endsP t Sp.low = (lowL t, 0) ∧ endsP t Sp.high = (highL t, 0) := by
  constructor <;> (unfold endsP; rw [if_pos h]; rfl)
theorem endsP_three {t : Twn} (h : openE t true = 3) (g : Sp → Int) : endsP t g = ([], 3) := by
  unfold endsP; rw [if_neg (by omega), h]
def RetEnds (t : Twn) (w : World) (e : Ending) (w' : World) : Prop := ∃ v1 v2, e = .returned (.tuple #[v1, v2, .bool true, .bool true]) ∧ Ints w' v1 (lowL t) ∧ Ints w' v2 (highL t) ∧ Below w.heap.size w w'

set_option maxRecDepth 20000 in
set_option maxHeartbeats 4000000 in
theorem ends_yes (v : Value) (t : Twn) (w : World) (hv : TwnAt w v t) (ho : openE t true = 0) (hvv : valid t = true) :
    Calls Try.prog 32 #[v] w fun e w' => RetEnds t w e w' := by
  obtain ⟨sv, pv, rfl, hs, hp⟩ := hv
  have HSN := Lib.hid hs
  have HSP := Lib.hid hp
  obtain ⟨A1, c1, rfl, -, -, -⟩ := id hs.open_
  obtain ⟨A2, c2, rfl, -, -, -⟩ := id hp.open_
  clear hs hp
  have S := Lib.hid (show St w (w.alloc (.cells #[I t.wells, .slice A1 t.snd.length c1, .slice A2 t.slp.length c2] 25)) (w.heap.size + 1) [.box w.heap.size [I t.wells, .slice A1 t.snd.length c1, .slice A2 t.slp.length c2]] from (St.init w).alloc [I t.wells, .slice A1 t.snd.length c1, .slice A2 t.slp.length c2] 25)
  have q0 := S.out.get 0 0 rfl rfl
  have q1 := S.out.get 0 1 rfl rfl
  have q2 := S.out.get 0 2 rfl rfl
  have HO := Lib.hid ho
  have HV := Lib.hid (valid_iff'.1 hvv)
  clear hvv
  have HT1 := Lib.hid (ends_true ho).1
  have HT2 := Lib.hid (ends_true ho).2
  clear ho
  go_enter Try.func32, Try.ntmps32
  go_wp2_with fail
  clear q0 q1 q2
  refine (lowest_any _ t _ ⟨_, _, rfl, HSN.out.below S.out.bel, HSP.out.below S.out.bel⟩).mono ?_
  rintro e w1 ⟨v1, rfl, hl, hb⟩
  rw [(endsP_zero HO.out).1] at hl ⊢
  obtain ⟨B1, d1, rfl, -, -, -⟩ := id hl.open_
  have HL1 := Lib.hid hl
  have S := Lib.hid (S.out.call hb)
  clear hl hb
  have q0 := S.out.get 0 0 rfl rfl
  have q1 := S.out.get 0 1 rfl rfl
  have q2 := S.out.get 0 2 rfl rfl
  go_wp2_with fail
  clear q0 q1 q2
  refine (highest_any _ t _ ⟨_, _, rfl, HSN.out.below S.out.bel, HSP.out.below S.out.bel⟩).mono ?_
  rintro e w2 ⟨v2, rfl, hl, hb⟩
  rw [(endsP_zero HO.out).2] at hl ⊢
  obtain ⟨B2, d2, rfl, -, -, -⟩ := id hl.open_
  have HL2 := Lib.hid hl
  have HL1 := Lib.hid (Ints.below HL1.out hb)
  have S := Lib.hid (S.out.call hb)
  clear hl hb
  have q0 := S.out.get 0 0 rfl rfl
  have q1 := S.out.get 0 1 rfl rfl
  have q2 := S.out.get 0 2 rfl rfl
  go_wp2_with fail
  refine (isKnown_any 0 _).mono ?_
  rintro e w3 ⟨rfl, rfl⟩
  rw [show isKnownB 0 = true from rfl]
  go_wp2_with fail
  clear q0 q1 q2
  refine (isTruth_any _ _ t (lowL t) _ ⟨_, _, rfl, HSN.out.below S.out.bel, HSP.out.below S.out.bel⟩ HL1.out HV.out.1 (by rw [lowL_len]; have := HV.out.1.w6; omega) (by have := HV.out.2; omega) (by have := HV.out.2; omega)).mono ?_
  rintro e w4 ⟨rfl, hb⟩
  rw [HT1.out]
  have HL1 := Lib.hid (Ints.below HL1.out hb)
  have HL2 := Lib.hid (Ints.below HL2.out hb)
  have S := Lib.hid (S.out.call hb)
  clear hb
  have q0 := S.out.get 0 0 rfl rfl
  have q1 := S.out.get 0 1 rfl rfl
  have q2 := S.out.get 0 2 rfl rfl
  go_wp2_with fail
  clear q0 q1 q2
  refine (isTruth_any _ _ t (highL t) _ ⟨_, _, rfl, HSN.out.below S.out.bel, HSP.out.below S.out.bel⟩ HL2.out HV.out.1 (by rw [highL_len]; have := HV.out.1.w6; omega) (by have := HV.out.2; omega) (by have := HV.out.2; omega)).mono ?_
  rintro e w5 ⟨rfl, hb⟩
  rw [HT2.out]
  have HL1 := Lib.hid (Ints.below HL1.out hb)
  have HL2 := Lib.hid (Ints.below HL2.out hb)
  have S := Lib.hid (S.out.call hb)
  clear hb
  have q0 := S.out.get 0 0 rfl rfl
  have q1 := S.out.get 0 1 rfl rfl
  have q2 := S.out.get 0 2 rfl rfl
  go_wp2_with fail
  refine bodyPost_ret (v := .tuple #[.slice B1 (lowL t).length d1, .slice B2 (highL t).length d2, .bool true, .bool true]) (by simp [results, Try.results32, go_sem]) rfl ⟨_, _, rfl, HL1.out, HL2.out, S.out.bel⟩

set_option maxRecDepth 20000 in
set_option maxHeartbeats 4000000 in
theorem ends_no (v : Value) (t : Twn) (w : World) (hv : TwnAt w v t) (ho : openE t true = 3) :
    Calls Try.prog 32 #[v] w fun e w' => e = .returned (.tuple #[.slice none 0 0, .slice none 0 0, .bool false, .bool true]) ∧ Below w.heap.size w w' := by
  obtain ⟨sv, pv, rfl, hs, hp⟩ := hv
  have HSN := Lib.hid hs
  have HSP := Lib.hid hp
  obtain ⟨A1, c1, rfl, -, -, -⟩ := id hs.open_
  obtain ⟨A2, c2, rfl, -, -, -⟩ := id hp.open_
  clear hs hp
  have S := Lib.hid (show St w (w.alloc (.cells #[I t.wells, .slice A1 t.snd.length c1, .slice A2 t.slp.length c2] 25)) (w.heap.size + 1) [.box w.heap.size [I t.wells, .slice A1 t.snd.length c1, .slice A2 t.slp.length c2]] from (St.init w).alloc [I t.wells, .slice A1 t.snd.length c1, .slice A2 t.slp.length c2] 25)
  have q0 := S.out.get 0 0 rfl rfl
  have q1 := S.out.get 0 1 rfl rfl
  have q2 := S.out.get 0 2 rfl rfl
  have HO := Lib.hid ho
  clear ho
  go_enter Try.func32, Try.ntmps32
  go_wp2_with fail
  clear q0 q1 q2
  refine (lowest_any _ t _ ⟨_, _, rfl, HSN.out.below S.out.bel, HSP.out.below S.out.bel⟩).mono ?_
  rintro e w1 ⟨v1, rfl, hl, hb⟩
  rw [(endsP_three HO.out)] at hl ⊢
  obtain ⟨B1, d1, rfl, -, -, -⟩ := id hl.open_
  have HL1 := Lib.hid hl
  have S := Lib.hid (S.out.call hb)
  clear hl hb
  have q0 := S.out.get 0 0 rfl rfl
  have q1 := S.out.get 0 1 rfl rfl
  have q2 := S.out.get 0 2 rfl rfl
  go_wp2_with fail
  clear q0 q1 q2
  refine (highest_any _ t _ ⟨_, _, rfl, HSN.out.below S.out.bel, HSP.out.below S.out.bel⟩).mono ?_
  rintro e w2 ⟨v2, rfl, hl, hb⟩
  rw [(endsP_three HO.out)] at hl ⊢
  obtain ⟨B2, d2, rfl, -, -, -⟩ := id hl.open_
  have HL2 := Lib.hid hl
  have HL1 := Lib.hid (Ints.below HL1.out hb)
  have S := Lib.hid (S.out.call hb)
  clear hl hb
  have q0 := S.out.get 0 0 rfl rfl
  have q1 := S.out.get 0 1 rfl rfl
  have q2 := S.out.get 0 2 rfl rfl
  go_wp2_with fail
  refine (isKnown_any 3 _).mono ?_
  rintro e w3 ⟨rfl, rfl⟩
  rw [show isKnownB 3 = true from rfl]
  go_wp2_with fail
  refine bodyPost_ret (v := .tuple #[.slice none 0 0, .slice none 0 0, .bool false, .bool true]) (by simp [results, Try.results32, go_sem]) rfl ⟨rfl, S.out.bel⟩

end Go.Proofs.Ytplbaijdnpfdgaa

/- Walks: slices.Index, Contains, Clone at []int; the function value of Clash. -/
import Derived.Test.YtplbaijdnpfdgaaW13
namespace Go.Proofs.Ytplbaijdnpfdgaa
open Go.RowKit Go.Sort

/-- A place of a number in a list, or -1. -/
def RetIdx (n : Int) (xs : List Int) (w : World) (e : Ending) (w' : World) : Prop := ∃ r : Int, e = .returned (I r) ∧ (0 ≤ r ↔ n ∈ xs) ∧ Below w.heap.size w w'

set_option maxRecDepth 20000 in
set_option maxHeartbeats 1000000 in
theorem index_any (v : Value) (xs : List Int) (n : Int) (w : World) (hr : Ints w v xs) :
    Calls Try.prog 102 #[v, I n] w fun e w' => RetIdx n xs w e w' := by
  obtain ⟨A, c, rfl, hnc, hcm, hc⟩ := hr.open_
  have HC := Lib.hid hc; clear hc hr
  go_enter Try.func102, Try.ntmps102
  go_wp2_with fail
  go_loopw [8] (fun i wr => ∃ k : Nat, k ≤ xs.length ∧ i = I k ∧ Hid (n ∉ xs.take k) ∧ Hid (Below w.heap.size w wr)) (fun i _ => xs.length - (intOf i).toNat)
  case atStart => exact ⟨0, by omega, rfl, Lib.hid (by simp), Lib.hid (Below.refl _ _)⟩
  case round =>
    obtain ⟨k, hk, rfl, hn, hw⟩ := hrel
    by_cases hlt : k < xs.length
    · obtain ⟨b, o, rfl, hbl, hcell⟩ := HC.out (by omega)
      have x0 := keep_cell hw.out (hcell k hlt)
      clear hcell
      have hmem := List.getElem_mem hlt
      have htk : xs.take (k + 1) = xs.take k ++ [xs[k]] := List.take_succ_eq_append_getElem hlt
      obtain ⟨x, hx⟩ : ∃ x, xs[k] = x := ⟨_, rfl⟩
      rw [hx] at x0 hmem htk
      have HM := Lib.hid hmem
      have HT := Lib.hid htk
      clear hx hmem htk
      cases he : n == x
      · have HNE := Lib.hid (show n ≠ x by simpa using he)
        go_wp2_with fail
        go_roundw
        case rel => exact ⟨k + 1, by omega, by go_num, Lib.hid (by rw [HT.out, List.mem_append]; have := hn.out; have := HNE.out; simp_all), hw⟩
        case measure => simp [intOf]; omega
      · have HE := Lib.hid (show n ∈ xs by have e := eq_of_beq he; rw [e]; exact HM.out)
        go_wp2_with fail
        go_ret
        exact ⟨k, rfl, ⟨fun _ => HE.out, fun _ => by omega⟩, hw.out⟩
    · have HE := Lib.hid (show n ∉ xs by have := hn.out; rwa [List.take_of_length_le (by omega)] at this)
      go_wp2_with fail
      go_ret
      exact ⟨-1, rfl, ⟨fun h => by omega, fun h => absurd h HE.out⟩, hw.out⟩

set_option maxRecDepth 20000 in
set_option maxHeartbeats 1000000 in
theorem contains_any (v : Value) (xs : List Int) (n : Int) (w : World) (hr : Ints w v xs) :
    Calls Try.prog 73 #[v, I n] w fun e w' => e = .returned (.bool (decide (n ∈ xs))) ∧ Below w.heap.size w w' := by
  obtain ⟨A, c, hv, -, -, -⟩ := id hr.open_
  have HR := Lib.hid hr
  clear hr
  subst hv
  go_enter Try.func73, Try.ntmps73
  go_wp2_with fail
  refine (index_any _ xs n w HR.out).mono ?_
  rintro e w1 ⟨r, rfl, hr, hb⟩
  cases hd : decide (n ∈ xs)
  · have h0 : ¬ 0 ≤ r := fun h => by have := hr.1 h; simp_all
    have HB := Lib.hid hb
    have HD := Lib.hid hd
    have h1 : decide (0 ≤ r) = false := by simpa using h0
    clear hr hb hd h0
    go_wp2_with fail
    go_ret
    exact ⟨by rw [HD.out]; rfl, HB.out⟩
  · have h0 : 0 ≤ r := hr.2 (by simpa using hd)
    have HB := Lib.hid hb
    have HD := Lib.hid hd
    clear hr hb hd
    go_wp2_with fail
    go_ret
    exact ⟨by rw [HD.out]; rfl, HB.out⟩

set_option maxRecDepth 20000 in
set_option maxHeartbeats 1000000 in
theorem cloneI_any (v : Value) (ps : List Int) (w : World) (hv : Ints w v ps) (hlen : ps.length ≤ 1000) :
    Calls Try.prog 74 #[v] w fun e w' => ∃ v', e = .returned v' ∧ w'.ownsRow w.heap.size 3 1 v' ps.length (ps.map I) ∧ Below w.heap.size w w' := by
  obtain ⟨i0, hi, hz0, hz1, hz2⟩ := info_parts Try.info3
  have h02 : 0 < 1 := by omega
  have h63 : 0 + ps.length ≤ maxLen := by simp only [maxLen]; omega
  have hby : (0 + ps.length) * 8 ≤ 140737488355328 := by omega
  have HV := Lib.hid (show Reads w 1 v ps.length (ps.map I) from hv)
  have hm0 : (0 : Nat) ≤ maxLen := by omega
  have hown := World.ownsRow_made (e := 3) (size := 1) w #[] 0 (Nat.le_refl w.heap.size) hm0 rfl
  have hb0 : Below w.heap.size w (w.alloc (.cells #[] 3)) := (Below.refl _ _).alloc (Nat.le_refl _) _
  have hs0 := hb0.size
  obtain ⟨_, A, c, rfl, hmc, hc, hcell⟩ := hv
  rcases A with _ | ad
  · have hp : ps = [] := by
      rcases Nat.eq_zero_or_pos ps.length with h0 | h0
      · exact List.eq_nil_of_length_eq_zero h0
      · obtain ⟨b, o, h, _⟩ := hcell h0
        cases h
    subst hp
    clear hcell
    have hq := fun w => run_eql_slice_nil (P := Try.prog) w 29 3 none 0 c Try.underlying29
    go_enter Try.func74, Try.ntmps74
    go_wp2_with fail
    go_ret
    exact ⟨_, rfl, World.ownsRow_nil _ _ _ _, Below.refl _ _⟩
  · clear hcell
    have hq := fun w => run_eql_slice_nil (P := Try.prog) w 29 3 (some ad) ps.length c Try.underlying29
    go_enter Try.func74, Try.ntmps74
    go_wp2_with (at_builtin; refine wpList_append_src _ rfl _ _ 29 rfl w.heap.size 3 i0 (.int .i64 0) 1 8 Try.underlying29 hi hz0 hz1 hz2 rfl h02 _ _ _ rfl hown _ _ _ rfl (Reads.below HV.out hb0) (ints_one _) h63 hby hs0 ?_; intro v' w4 hown' hgrow _)
    go_ret
    rw [Nat.zero_add, List.nil_append] at hown'
    exact ⟨_, rfl, hown', hb0.grown hgrow hs0 (fun q hq => (hown.lt q hq).1)⟩

def hasW (l : List Nat) (w : Nat) : Bool := decide (w ∈ l)
/-- Numbers of words, as a list of integers. -/
def ofN (l : List Nat) : List Int := l.map fun (x : Nat) => (x : Int)
theorem mem_ofN {l : List Nat} {n : Nat} : (n : Int) ∈ ofN l ↔ n ∈ l := by
  unfold ofN
  rw [List.mem_map]
  exact ⟨fun ⟨a, h, e⟩ => (show a = n by omega) ▸ h, fun h => ⟨n, h, rfl⟩⟩
theorem has_tells (w : World) (bx : Nat) (v : Value) (l : List Nat) (h0 : w.cell? ⟨bx, 0, none⟩ = some v) (hl : Ints w v (ofN l)) : TellsHas w bx (hasW l) := by
  intro W m hm hb
  have hc := keep_cell hb h0
  obtain ⟨A, c, rfl, -, -, -⟩ := id hl.open_
  have HL := Lib.hid (hl.below hb)
  clear hl h0 hb
  go_enter Try.func72, Try.ntmps72
  go_wp2_with fail
  refine (contains_any _ (ofN l) m W HL.out).mono ?_
  rintro e w1 ⟨rfl, hb⟩
  have HB := Lib.hid hb
  clear hb hc
  go_wp2_with fail
  go_ret
  exact ⟨by rw [show hasW l m = decide ((m : Int) ∈ ofN l) by simp [hasW, mem_ofN]]; rfl, HB.out⟩

end Go.Proofs.Ytplbaijdnpfdgaa

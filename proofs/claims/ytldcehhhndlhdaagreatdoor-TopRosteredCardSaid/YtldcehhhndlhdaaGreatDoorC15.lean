/- Walks: the program's small words of buckets; cmp.Compare, cmp.Or. -/
import Derived.Test.YtldcehhhndlhdaaGreatDoorC14
namespace Go.Proofs.YtldcehhhndlhdaaGreatDoor
open Go.RowKit Go.Sort Go.Shelf

def cmpI (a b : Int) : Int := if a < b then -1 else if b < a then 1 else 0
def orL : List Int → Int
  | [] => 0
  | x :: l => if x = 0 then orL l else x
theorem orL_drop {l : List Int} : ∀ {k : Nat}, k ≤ l.length → (∀ i (h : i < l.length), i < k → l[i] = 0) → orL l = orL (l.drop k)
  | 0, _, _ => by simp
  | k + 1, hk, h0 => by
    rw [orL_drop (k := k) (by omega) (fun i h hi => h0 i h (by omega)), List.drop_eq_getElem_cons (show k < l.length by omega)]
    show (if l[k] = 0 then orL (l.drop (k + 1)) else l[k]) = _
    rw [if_pos (h0 k (by omega) (by omega))]

set_option maxRecDepth 20000 in
set_option maxHeartbeats 400000 in
theorem kWithin_any (n lo hi : Int) (w : World) :
    Calls Tryz.prog 39 #[I n, I lo, I hi] w fun e w' => e = .returned (.bool (inR n lo hi)) ∧ w = w' := by
  go_enter Tryz.func39, Tryz.ntmps39
  by_cases h1 : lo ≤ n
  · by_cases h2 : n ≤ hi
    · go_wp2_with fail
      go_ret
      exact ⟨by simp [inR, h1, h2], rfl⟩
    · go_wp2_with fail
      go_ret
      exact ⟨by simp [inR]; omega, rfl⟩
  · go_wp2_with fail
    go_ret
    exact ⟨by simp [inR]; omega, rfl⟩

set_option maxRecDepth 20000 in
set_option maxHeartbeats 400000 in
theorem kIsHouse_any (n : Int) (A1 A2 A3 : Option Addr) (m1 c1 m2 c2 m3 c3 : Nat) (w : World) (hm : m1 ≤ 1000) :
    Calls Tryz.prog 62 #[.agg #[.slice A1 m1 c1, .slice A2 m2 c2, .slice A3 m3 c3], I n] w fun e w' => e = .returned (.bool (inR n 0 ((m1 : Int) - 1))) ∧ Below w.heap.size w w' := by
  go_enter Tryz.func62, Tryz.ntmps62
  go_wp2_with fail
  refine (kWithin_any _ _ _ _).mono ?_
  rintro e w1 ⟨rfl, rfl⟩
  go_wp2_with fail
  go_ret
  exact ⟨rfl, (Below.refl _ _).alloc (Nat.le_refl _) _⟩

set_option maxRecDepth 20000 in
set_option maxHeartbeats 400000 in
theorem kIsWell_any (n : Int) (A1 A2 A3 : Option Addr) (m1 c1 m2 c2 m3 c3 : Nat) (w : World) (hm : m2 ≤ 1000) :
    Calls Tryz.prog 63 #[.agg #[.slice A1 m1 c1, .slice A2 m2 c2, .slice A3 m3 c3], I n] w fun e w' => e = .returned (.bool (inR n 0 ((m2 : Int) - 1))) ∧ Below w.heap.size w w' := by
  go_enter Tryz.func63, Tryz.ntmps63
  go_wp2_with fail
  refine (kWithin_any _ _ _ _).mono ?_
  rintro e w1 ⟨rfl, rfl⟩
  go_wp2_with fail
  go_ret
  exact ⟨rfl, (Below.refl _ _).alloc (Nat.le_refl _) _⟩

set_option maxRecDepth 20000 in
set_option maxHeartbeats 400000 in
theorem isNaN_any (n : Int) (w : World) :
    Calls Tryz.prog 81 #[I n] w fun e w' => e = .returned (.bool false) ∧ w = w' := by
  go_enter Tryz.func81, Tryz.ntmps81
  go_wp2_with fail
  go_ret
  exact ⟨rfl, rfl⟩

set_option maxRecDepth 20000 in
set_option maxHeartbeats 800000 in
theorem compare_any (a b : Int) (w : World) :
    Calls Tryz.prog 68 #[I a, I b] w fun e w' => e = .returned (I (cmpI a b)) ∧ w = w' := by
  go_enter Tryz.func68, Tryz.ntmps68
  go_wp2_with fail
  refine (isNaN_any _ _).mono ?_
  rintro e w1 ⟨rfl, hb⟩
  subst hb
  go_wp2_with fail
  refine (isNaN_any _ _).mono ?_
  rintro e w1 ⟨rfl, hb⟩
  subst hb
  by_cases h1 : a < b
  · go_wp2_with fail
    go_ret
    exact ⟨by simp [cmpI, h1], rfl⟩
  · by_cases h2 : b < a
    · go_wp2_with fail
      go_ret
      exact ⟨by simp [cmpI]; split <;> first | omega | (split <;> omega), rfl⟩
    · go_wp2_with fail
      go_ret
      exact ⟨by simp [cmpI]; split <;> first | omega | (split <;> omega), rfl⟩

set_option maxRecDepth 20000 in
set_option maxHeartbeats 800000 in
theorem or_any (v : Value) (xs : List Int) (w : World) (hr : Ints w v xs) :
    Calls Tryz.prog 34 #[v] w fun e w' => e = .returned (I (orL xs)) ∧ Below w.heap.size w w' := by
  obtain ⟨A, c, rfl, hnc, hcm, hc⟩ := hr.open_
  have HC := Lib.hid hc
  clear hc hr
  go_enter Tryz.func34, Tryz.ntmps34
  go_wp2_with fail
  go_loopw [8] (fun i wr => ∃ k : Nat, k ≤ xs.length ∧ i = I k ∧ Hid (∀ i (h : i < xs.length), i < k → xs[i] = 0) ∧ Hid (Below w.heap.size w wr)) (fun i _ => xs.length - (intOf i).toNat)
  case atStart => exact ⟨0, by omega, rfl, Lib.hid (fun i h hi => absurd hi (by omega)), Lib.hid (Below.refl _ _)⟩
  case round =>
    obtain ⟨k, hk, rfl, hz, hw⟩ := hrel
    by_cases hlt : k < xs.length
    · obtain ⟨b, o, rfl, hbl, hcell⟩ := HC.out (by omega)
      have x0 := keep_cell hw.out (hcell k hlt)
      clear hcell
      have hki : (k : Int) < (xs.length : Int) := by omega
      obtain ⟨x, hx⟩ : ∃ x, xs[k] = x := ⟨_, rfl⟩
      rw [hx] at x0
      have HX := Lib.hid hx
      clear hx
      by_cases h0 : x = 0
      · subst h0
        have HZ := Lib.hid (show ∀ i (h : i < xs.length), i < k + 1 → xs[i] = 0 from fun i h hi => by
          by_cases e : i = k
          · subst e; exact HX.out
          · exact hz.out i h (by omega))
        go_wp2_with fail
        go_roundw
        case rel => exact ⟨k + 1, by omega, by go_num, HZ, hw⟩
        case measure => first | (simp [intOf]; done) | (simp [intOf]; omega)
      · have HE := Lib.hid (show orL xs = x by
          rw [orL_drop (k := k) (by omega) hz.out, List.drop_eq_getElem_cons hlt]
          show (if xs[k] = 0 then orL (xs.drop (k + 1)) else xs[k]) = _
          rw [HX.out, if_neg h0])
        have h0b : (x != 0) = true := by simpa using h0
        go_wp2_with fail
        go_ret
        exact ⟨by rw [HE.out]; rfl, hw.out⟩
    · have HE := Lib.hid (show orL xs = 0 by
        rw [orL_drop (k := xs.length) (Nat.le_refl _) (fun i h _ => hz.out i h (by omega)), List.drop_length]
        rfl)
      have hki : ¬ (k : Int) < (xs.length : Int) := by omega
      go_wp2_with fail
      go_ret
      exact ⟨by rw [HE.out]; rfl, hw.out⟩

end Go.Proofs.YtldcehhhndlhdaaGreatDoor
/- Walks: slices.ContainsFunc over numbers of a town of buckets; order. -/
namespace Go.Proofs.YtldcehhhndlhdaaGreatDoor
open Go.RowKit Go.Sort Go.Shelf

def badN (m x : Int) : Bool := !inR x 0 m
def RetIx (w : World) (e : Ending) (w' : World) : Prop := ∃ k : Nat, e = .returned (I k) ∧ Below w.heap.size w w'

set_option maxRecDepth 20000 in
set_option maxHeartbeats 400000 in
theorem kBad1_any (n : Int) (w : World) :
    Calls Tryz.prog 60 #[I n] w fun e w' => e = .returned (.bool (badN 9 n)) ∧ w = w' := by
  go_enter Tryz.func60, Tryz.ntmps60
  go_wp2_with fail
  refine (kWithin_any _ _ _ _).mono ?_
  rintro e w1 ⟨rfl, rfl⟩
  go_wp2_with fail
  go_ret
  exact ⟨rfl, rfl⟩

set_option maxRecDepth 20000 in
set_option maxHeartbeats 1000000 in
theorem kIndex1_no (v : Value) (xs : List Int) (w : World) (hr : Ints w v xs) (hn : xs.any (badN 9) = false) :
    Calls Tryz.prog 74 #[v, .func (.func 60) #[] #[]] w fun e w' => e = .returned (I (-1)) ∧ Below w.heap.size w w' := by
  obtain ⟨A, c, rfl, hnc, hcm, hc⟩ := hr.open_
  have HC := Lib.hid hc
  have HN := Lib.hid hn
  clear hc hn hr
  go_enter Tryz.func74, Tryz.ntmps74
  go_wp2_with fail
  go_loopw [8] (fun i wr => ∃ k : Nat, k ≤ xs.length ∧ i = I k ∧ Hid (Below w.heap.size w wr)) (fun i _ => xs.length - (intOf i).toNat)
  case atStart => exact ⟨0, by omega, rfl, Lib.hid (Below.refl _ _)⟩
  case round =>
    obtain ⟨k, hk, rfl, hbw⟩ := hrel
    by_cases hlt : k < xs.length
    · obtain ⟨b, o, rfl, hbl, hcell⟩ := HC.out (by omega)
      have hcell := keep_cell hbw.out (hcell k hlt)
      have hb : badN 9 xs[k] = false := by
        have := HN.out
        simp only [List.any_eq_false] at this
        simpa using this _ (List.getElem_mem hlt)
      go_wp2_with (go_at_call 60; refine (kBad1_any _ _).mono ?_; rintro e w' ⟨rfl, rfl⟩)
      go_roundw
      case rel => exact ⟨k + 1, by omega, by go_num, hbw⟩
      case measure => first | (simp [intOf]; done) | (simp [intOf]; omega)
    · go_wp2_with fail
      go_ret
      exact ⟨rfl, hbw.out⟩

set_option maxRecDepth 20000 in
set_option maxHeartbeats 1000000 in
theorem kIndex1_yes (v : Value) (xs : List Int) (w : World) (hr : Ints w v xs) (hn : xs.any (badN 9) = true) :
    Calls Tryz.prog 74 #[v, .func (.func 60) #[] #[]] w fun e w' => RetIx w e w' := by
  obtain ⟨A, c, rfl, hnc, hcm, hc⟩ := hr.open_
  have HC := Lib.hid hc
  have HN := Lib.hid hn
  clear hc hn hr
  go_enter Tryz.func74, Tryz.ntmps74
  go_wp2_with fail
  go_loopw [8] (fun i wr => ∃ k : Nat, k ≤ xs.length ∧ i = I k ∧ (xs.drop k).any (badN 9) = true ∧ Hid (Below w.heap.size w wr)) (fun i _ => xs.length - (intOf i).toNat)
  case atStart => exact ⟨0, by omega, rfl, HN.out, Lib.hid (Below.refl _ _)⟩
  case round =>
    obtain ⟨k, hk, rfl, hd, hbw⟩ := hrel
    have hlt : k < xs.length := by
      apply Classical.byContradiction
      intro hge
      rw [List.drop_eq_nil_of_le (by omega)] at hd
      simp at hd
    rw [List.drop_eq_getElem_cons hlt, List.any_cons] at hd
    obtain ⟨b, o, rfl, hbl, hcell⟩ := HC.out (by omega)
    have hcell := keep_cell hbw.out (hcell k hlt)
    have HD := Lib.hid hd; clear hd
    cases hb : badN 9 xs[k]
    · go_wp2_with (go_at_call 60; refine (kBad1_any _ _).mono ?_; rintro e w' ⟨rfl, rfl⟩)
      go_roundw
      case rel => exact ⟨k + 1, by omega, by go_num, by have := HD.out; simpa [hb] using this, hbw⟩
      case measure => first | (simp [intOf]; done) | (simp [intOf]; omega)
    · go_wp2_with (go_at_call 60; refine (kBad1_any _ _).mono ?_; rintro e w' ⟨rfl, rfl⟩)
      go_ret
      exact ⟨k, rfl, hbw.out⟩

set_option maxRecDepth 20000 in
set_option maxHeartbeats 800000 in
theorem kContains1_any (v : Value) (xs : List Int) (w : World) (hr : Ints w v xs) :
    Calls Tryz.prog 37 #[v, .func (.func 60) #[] #[]] w fun e w' => e = .returned (.bool (xs.any (badN 9))) ∧ Below w.heap.size w w' := by
  cases hb : xs.any (badN 9)
  · go_enter Tryz.func37, Tryz.ntmps37
    go_wp2_with (go_at_call 74; refine (kIndex1_no _ _ _ hr hb).mono ?_; rintro e w' ⟨rfl, hw⟩)
    go_ret
    exact ⟨rfl, hw⟩
  · go_enter Tryz.func37, Tryz.ntmps37
    go_wp2_with (go_at_call 74; refine (kIndex1_yes _ _ _ hr hb).mono ?_; rintro e w' ⟨k, rfl, hw⟩)
    go_ret
    exact ⟨by simp, hw⟩

set_option maxRecDepth 20000 in
set_option maxHeartbeats 400000 in
theorem kBad2_any (n : Int) (w : World) :
    Calls Tryz.prog 61 #[I n] w fun e w' => e = .returned (.bool (badN 20 n)) ∧ w = w' := by
  go_enter Tryz.func61, Tryz.ntmps61
  go_wp2_with fail
  refine (kWithin_any _ _ _ _).mono ?_
  rintro e w1 ⟨rfl, rfl⟩
  go_wp2_with fail
  go_ret
  exact ⟨rfl, rfl⟩

set_option maxRecDepth 20000 in
set_option maxHeartbeats 1000000 in
theorem kIndex2_no (v : Value) (xs : List Int) (w : World) (hr : Ints w v xs) (hn : xs.any (badN 20) = false) :
    Calls Tryz.prog 74 #[v, .func (.func 61) #[] #[]] w fun e w' => e = .returned (I (-1)) ∧ Below w.heap.size w w' := by
  obtain ⟨A, c, rfl, hnc, hcm, hc⟩ := hr.open_
  have HC := Lib.hid hc
  have HN := Lib.hid hn
  clear hc hn hr
  go_enter Tryz.func74, Tryz.ntmps74
  go_wp2_with fail
  go_loopw [8] (fun i wr => ∃ k : Nat, k ≤ xs.length ∧ i = I k ∧ Hid (Below w.heap.size w wr)) (fun i _ => xs.length - (intOf i).toNat)
  case atStart => exact ⟨0, by omega, rfl, Lib.hid (Below.refl _ _)⟩
  case round =>
    obtain ⟨k, hk, rfl, hbw⟩ := hrel
    by_cases hlt : k < xs.length
    · obtain ⟨b, o, rfl, hbl, hcell⟩ := HC.out (by omega)
      have hcell := keep_cell hbw.out (hcell k hlt)
      have hb : badN 20 xs[k] = false := by
        have := HN.out
        simp only [List.any_eq_false] at this
        simpa using this _ (List.getElem_mem hlt)
      go_wp2_with (go_at_call 61; refine (kBad2_any _ _).mono ?_; rintro e w' ⟨rfl, rfl⟩)
      go_roundw
      case rel => exact ⟨k + 1, by omega, by go_num, hbw⟩
      case measure => first | (simp [intOf]; done) | (simp [intOf]; omega)
    · go_wp2_with fail
      go_ret
      exact ⟨rfl, hbw.out⟩

set_option maxRecDepth 20000 in
set_option maxHeartbeats 1000000 in
theorem kIndex2_yes (v : Value) (xs : List Int) (w : World) (hr : Ints w v xs) (hn : xs.any (badN 20) = true) :
    Calls Tryz.prog 74 #[v, .func (.func 61) #[] #[]] w fun e w' => RetIx w e w' := by
  obtain ⟨A, c, rfl, hnc, hcm, hc⟩ := hr.open_
  have HC := Lib.hid hc
  have HN := Lib.hid hn
  clear hc hn hr
  go_enter Tryz.func74, Tryz.ntmps74
  go_wp2_with fail
  go_loopw [8] (fun i wr => ∃ k : Nat, k ≤ xs.length ∧ i = I k ∧ (xs.drop k).any (badN 20) = true ∧ Hid (Below w.heap.size w wr)) (fun i _ => xs.length - (intOf i).toNat)
  case atStart => exact ⟨0, by omega, rfl, HN.out, Lib.hid (Below.refl _ _)⟩
  case round =>
    obtain ⟨k, hk, rfl, hd, hbw⟩ := hrel
    have hlt : k < xs.length := by
      apply Classical.byContradiction
      intro hge
      rw [List.drop_eq_nil_of_le (by omega)] at hd
      simp at hd
    rw [List.drop_eq_getElem_cons hlt, List.any_cons] at hd
    obtain ⟨b, o, rfl, hbl, hcell⟩ := HC.out (by omega)
    have hcell := keep_cell hbw.out (hcell k hlt)
    have HD := Lib.hid hd; clear hd
    cases hb : badN 20 xs[k]
    · go_wp2_with (go_at_call 61; refine (kBad2_any _ _).mono ?_; rintro e w' ⟨rfl, rfl⟩)
      go_roundw
      case rel => exact ⟨k + 1, by omega, by go_num, by have := HD.out; simpa [hb] using this, hbw⟩
      case measure => first | (simp [intOf]; done) | (simp [intOf]; omega)
    · go_wp2_with (go_at_call 61; refine (kBad2_any _ _).mono ?_; rintro e w' ⟨rfl, rfl⟩)
      go_ret
      exact ⟨k, rfl, hbw.out⟩

set_option maxRecDepth 20000 in
set_option maxHeartbeats 800000 in
theorem kContains2_any (v : Value) (xs : List Int) (w : World) (hr : Ints w v xs) :
    Calls Tryz.prog 37 #[v, .func (.func 61) #[] #[]] w fun e w' => e = .returned (.bool (xs.any (badN 20))) ∧ Below w.heap.size w w' := by
  cases hb : xs.any (badN 20)
  · go_enter Tryz.func37, Tryz.ntmps37
    go_wp2_with (go_at_call 74; refine (kIndex2_no _ _ _ hr hb).mono ?_; rintro e w' ⟨rfl, hw⟩)
    go_ret
    exact ⟨rfl, hw⟩
  · go_enter Tryz.func37, Tryz.ntmps37
    go_wp2_with (go_at_call 74; refine (kIndex2_yes _ _ _ hr hb).mono ?_; rintro e w' ⟨k, rfl, hw⟩)
    go_ret
    exact ⟨by simp, hw⟩

set_option maxRecDepth 20000 in
set_option maxHeartbeats 2000000 in
theorem order_any (a b c d : Int) (w : World) :
    Calls Tryz.prog 64 #[.agg #[I a, I b], .agg #[I c, I d]] w fun e w' => e = .returned (I (orL [cmpI a c, cmpI b d])) ∧ Below w.heap.size w w' := by
  have S := Lib.hid (((St.init w).alloc [I a, I b] 47).alloc [I c, I d] 47)
  go_enter Tryz.func64, Tryz.ntmps64
  go_wp2_with fail
  refine wp_region_seg [([0, 1, 2, 3, 5, 6, 7, 8], 4), ([], 9), ([], 10), ([], 11)] [12] [] 13 (by kernel_rfl) (by kernel_rfl) ?_
  intro KQ hKQ w8 hb
  have S := Lib.hid (S.out.call hb)
  clear hb
  have x0 := cell_regrown (S.out.get 1 0 rfl rfl)
  have x1 := cell_regrown (S.out.get 1 1 rfl rfl)
  have y0 := cell_regrown (S.out.get 0 0 rfl rfl)
  have y1 := cell_regrown (S.out.get 0 1 rfl rfl)
  refine seg_next ?_
  simp only [opsAt, List.filterMap_cons, List.filterMap_nil, List.getElem?_toArray, List.getElem?_cons_succ, List.getElem?_cons_zero]
  repeat (first | go_big_quiet_step (fail) | quiet_step (fail))
  refine wpQuiet_nil ?_
  intro K hK
  refine loud_op rfl rfl ?_
  go_simp
  refine (compare_any a c _).mono ?_
  rintro e w9 ⟨rfl, hb⟩
  subst hb
  refine hK _ _ (Below.refl _ _) ?_
  clear hK K x0 x1 y0 y1
  refine seg_next ?_
  simp only [opsAt, List.filterMap_nil]
  refine wpQuiet_nil ?_
  intro K hK
  refine loud_op rfl rfl ?_
  go_simp
  refine (compare_any b d _).mono ?_
  rintro e w9 ⟨rfl, hb⟩
  subst hb
  refine hK _ _ (Below.refl _ _) ?_
  clear hK K
  refine seg_next ?_
  simp only [opsAt, List.filterMap_nil]
  refine wpQuiet_nil ?_
  intro K hK
  refine loud_op rfl rfl ?_
  go_simp
  refine hK _ _ ((Below.refl _ _).alloc (Nat.le_refl _) _) ?_
  have S := Lib.hid (S.out.alloc [I (cmpI a c), I (cmpI b d)] 3)
  clear hK K
  refine seg_next ?_
  simp only [opsAt, List.filterMap_nil]
  refine wpQuiet_nil ?_
  intro K hK
  refine loud_op rfl rfl ?_
  go_simp
  refine (or_any _ [cmpI a c, cmpI b d] _ (S.out.boxReads 0 rfl rfl (by simp))).mono ?_
  rintro e w9 ⟨rfl, hb⟩
  have S := Lib.hid (S.out.call hb)
  refine hK _ _ hb ?_
  clear hK K hb
  refine seg_last ?_
  simp only [opsAt, List.filterMap_cons, List.filterMap_nil, List.getElem?_toArray, List.getElem?_cons_succ, List.getElem?_cons_zero]
  repeat (first | go_big_quiet_step (fail) | quiet_step (fail))
  refine wpQuiet_nil ?_
  go_wp2_with fail
  go_ret
  exact ⟨rfl, S.out.bel⟩

end Go.Proofs.YtldcehhhndlhdaaGreatDoor

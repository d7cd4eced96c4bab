/- Walks of the reference: In, All, But, Words. -/
import Derived.Test.YtplbaijdnpfdgaaV3
namespace Go.Proofs.Ytplbaijdnpfdgaa
open Go.RowKit Go.Sort

set_option maxRecDepth 20000 in
set_option maxHeartbeats 1000000 in
theorem in_any (v : Value) (xs : List Int) (n : Int) (w : World) (hr : Ints w v xs) :
    Calls Try.prog 43 #[v, I n] w fun e w' => e = .returned (.bool (decide (n ∈ xs))) ∧ Below w.heap.size w w' := by
  obtain ⟨A, c, rfl, hnc, hcm, hc⟩ := hr.open_
  have HC := Lib.hid hc; clear hc hr
  go_enter Try.func43, Try.ntmps43
  go_wp2_with fail
  go_loopw [5] (fun i wr => ∃ k : Nat, k ≤ xs.length ∧ i = I k ∧ Hid (n ∉ xs.take k) ∧ Hid (Below w.heap.size w wr)) (fun i _ => xs.length - (intOf i).toNat)
  case atStart => exact ⟨0, by omega, rfl, Lib.hid (by simp), Lib.hid (Below.refl _ _)⟩
  case round =>
    obtain ⟨k, hk, rfl, hn, hw⟩ := hrel
    by_cases hlt : k < xs.length
    · obtain ⟨b, o, rfl, hbl, hcell⟩ := HC.out (by omega)
      have x0 := keep_cell hw.out (hcell k hlt)
      clear hcell
      have hmem := List.getElem_mem hlt
      have htk : xs.take (k + 1) = xs.take k ++ [xs[k]] := List.take_succ_eq_append_getElem hlt
      obtain ⟨x, hx⟩ : ∃ x, xs[k] = x := ⟨_, rfl⟩
      rw [hx] at x0 hmem htk
      have HM := Lib.hid hmem
      have HT := Lib.hid htk
      clear hx hmem htk
      cases he : x == n
      · have HNE := Lib.hid (show x ≠ n by simpa using he)
        go_wp2_with fail
        go_roundw
        case rel => exact ⟨k + 1, by omega, by go_num, Lib.hid (by rw [HT.out, List.mem_append]; exact fun hm => hm.elim hn.out (fun e => HNE.out (List.mem_singleton.1 e).symm)), hw⟩
        case measure => simp [intOf]; omega
      · have HE := Lib.hid (show n ∈ xs by have e := eq_of_beq he; rw [← e]; exact HM.out)
        go_wp2_with fail
        go_ret
        exact ⟨by rw [decide_eq_true HE.out]; rfl, hw.out⟩
    · have HE := Lib.hid (show n ∉ xs by have := hn.out; rwa [List.take_of_length_le (by omega)] at this)
      go_wp2_with fail
      go_ret
      exact ⟨by rw [decide_eq_false HE.out]; rfl, hw.out⟩

def RetRow (l : List Int) (w : World) (e : Ending) (w' : World) : Prop := ∃ v, e = .returned v ∧ w'.ownsRow w.heap.size 3 1 v l.length (l.map I) ∧ Below w.heap.size w w'
def allN (t : Twn) : List Nat := List.range (t.snd.length + t.slp.length)
theorem ofN_range_succ (k : Nat) : ofN (List.range (k + 1)) = ofN (List.range k) ++ [(k : Int)] := by rw [List.range_succ]; simp [ofN]

set_option maxRecDepth 20000 in
set_option maxHeartbeats 4000000 in
theorem all_any (v : Value) (t : Twn) (w : World) (hv : TwnAt w v t) (hl1 : t.snd.length ≤ 1000) (hl2 : t.slp.length ≤ 1000) :
    Calls Try.prog 65 #[v] w fun e w' => RetRow (ofN (allN t)) w e w' := by
  obtain ⟨i0, hi, hz0, hz1, hz2⟩ := info_parts Try.info3
  obtain ⟨sv, pv, rfl, hs, hp⟩ := hv
  have HSN := Lib.hid hs
  have HSP := Lib.hid hp
  obtain ⟨A1, c1, rfl, -, -, -⟩ := id hs.open_
  obtain ⟨A2, c2, rfl, -, -, -⟩ := id hp.open_
  clear hs hp
  have S := Lib.hid (show St w (w.alloc (.cells #[I t.wells, .slice A1 t.snd.length c1, .slice A2 t.slp.length c2] 25)) (w.heap.size + 1) [.box w.heap.size [I t.wells, .slice A1 t.snd.length c1, .slice A2 t.slp.length c2]] from (St.init w).alloc [I t.wells, .slice A1 t.snd.length c1, .slice A2 t.slp.length c2] 25)
  obtain ⟨M, hM⟩ : ∃ M, t.snd.length + t.slp.length = M := ⟨_, rfl⟩
  have HM := Lib.hid hM
  have hm1 : M ≤ 2000 := by omega
  clear hM
  go_enter Try.func65, Try.ntmps65
  go_wp2_with fail
  go_loopw [3, 4] (fun u i wr => ∃ (k : Nat) (v : Value), k ≤ M ∧ u = v ∧ i = I k ∧ Hid (St w wr wr.heap.size [.own 3 1 v k ((ofN (List.range k)).map I), .box w.heap.size [I t.wells, .slice A1 t.snd.length c1, .slice A2 t.slp.length c2]])) (fun _ i _ => M - (intOf i).toNat)
  case atStart => exact ⟨0, _, by omega, rfl, rfl, Lib.hid (S.out.nil 3 1).fix⟩
  case round =>
    clear S
    obtain ⟨k, v, hk, rfl, rfl, S⟩ := hrel
    obtain ⟨A, c, rfl⟩ := own_shape (S.out.own 0 rfl)
    have q0 := S.out.get 1 0 rfl rfl
    have q1 := S.out.get 1 1 rfl rfl
    have q2 := S.out.get 1 2 rfl rfl
    by_cases hlt : k < M
    · have hlt' : (k : Int) < (M : Int) := by omega
      go_wp2_with fail
      refine (many_any _ t _ ⟨_, _, rfl, HSN.out.below S.out.bel, HSP.out.below S.out.bel⟩ hl1 hl2).mono ?_
      rintro e w1 ⟨rfl, hb⟩
      rw [HM.out]
      have S := Lib.hid (S.out.call hb)
      clear hb q0 q1 q2
      have h02 : 0 < 1 := by decide
      have h63 : k + 1 ≤ maxLen := by simp only [maxLen]; omega
      have hby : (k + 1) * 8 ≤ 140737488355328 := by omega
      have T := Lib.hid (S.out.alloc [I (k : Int)] 3)
      go_wp2_with (at_builtin; refine wpList_append_St T.out 1 rfl _ _ 29 rfl 3 i0 (.int .i64 0) 1 8 Try.underlying29 hi hz0 hz1 hz2 rfl h02 rfl rfl _ 1 [I (k : Int)] rfl (reads_box1 (T.out.get 0 0 rfl rfl)) (ints_one [(k : Int)]) h63 hby ?_; intro v5 w5 hS5; have S := Lib.hid hS5; clear hS5)
      have S := Lib.hid (show St w _ _ [.own 3 1 v5 (k + 1) ((ofN (List.range (k + 1))).map I), .box w.heap.size [I t.wells, .slice A1 t.snd.length c1, .slice A2 t.slp.length c2]] from (by have h := S.out.tail; rw [ofN_range_succ, List.map_append]; exact h))
      go_roundw
      case rel => exact ⟨k + 1, _, by omega, rfl, by go_num, Lib.hid S.out.fix⟩
      case measure => first | (simp [intOf]; done) | (simp [intOf]; omega)
    · have hlt' : ¬ (k : Int) < (M : Int) := by omega
      have hkM : k = M := by omega
      have HKM := Lib.hid hkM
      clear hkM
      go_wp2_with fail
      refine (many_any _ t _ ⟨_, _, rfl, HSN.out.below S.out.bel, HSP.out.below S.out.bel⟩ hl1 hl2).mono ?_
      rintro e w1 ⟨rfl, hb⟩
      rw [HM.out]
      have S := Lib.hid (S.out.call hb)
      clear hb q0 q1 q2
      go_wp2_with fail
      go_ret
      refine ⟨_, rfl, ?_, S.out.bel⟩
      have h := S.out.own 0 rfl
      have e1 : (ofN (allN t)).length = k := by simp [ofN, allN, HM.out, HKM.out]
      have e2 : allN t = List.range k := by rw [allN, HM.out, HKM.out]
      rw [e1, e2]
      exact h

theorem ints_prefix {w : World} {b o c k : Nat} {xs : List Int} (_ : xs.length ≤ 1000) (hk : k ≤ xs.length) (hc : xs.length ≤ c) (hm : c ≤ 9223372036854775807) (h : ∀ (j : Nat) (hj : j < xs.length), w.cell? ⟨b, o + j, none⟩ = some (I xs[j])) : Ints w (.slice (some ⟨b, o, none⟩) k c) (xs.take k) := by
  have hl : (xs.take k).length = k := by rw [List.length_take]; omega
  unfold Ints
  rw [hl]
  refine ⟨by simp; omega, _, _, rfl, by omega, hm, fun _ => ⟨b, o, rfl, fun j u hu => ?_⟩⟩
  rw [List.getElem?_map] at hu
  cases hj : (xs.take k)[j]? with
  | none => rw [hj] at hu; simp at hu
  | some z =>
    rw [hj] at hu
    simp only [Option.map_some, Option.some.injEq] at hu
    subst hu
    obtain ⟨h1, h2⟩ := List.getElem?_eq_some_iff.1 hj
    rw [List.getElem_take] at h2
    rw [← h2]
    exact h j (by rw [hl] at h1; omega)
theorem ints_suffix {w : World} {b o c k : Nat} {xs : List Int} (hk : k ≤ xs.length) (hc : xs.length ≤ c) (hm : c ≤ 9223372036854775807) (h : ∀ (j : Nat) (hj : j < xs.length), w.cell? ⟨b, o + j, none⟩ = some (I xs[j])) (A : Option Addr) (hA : k < xs.length → A = some ⟨b, o + k, none⟩) : Ints w (.slice A (xs.length - k) (c - k)) (xs.drop k) := by
  have hl : (xs.drop k).length = xs.length - k := List.length_drop
  unfold Ints
  rw [hl]
  refine ⟨by simp, _, _, rfl, by omega, by omega, fun hp => ⟨b, o + k, hA (by omega), fun j u hu => ?_⟩⟩
  rw [List.getElem?_map] at hu
  cases hj : (xs.drop k)[j]? with
  | none => rw [hj] at hu; simp at hu
  | some z =>
    rw [hj] at hu
    simp only [Option.map_some, Option.some.injEq] at hu
    subst hu
    obtain ⟨h1, h2⟩ := List.getElem?_eq_some_iff.1 hj
    rw [List.getElem_drop] at h2
    rw [← h2, Nat.add_assoc]
    exact h (k + j) (by rw [hl] at h1; omega)

def butL (l : List Int) (k : Nat) : List Int := l.take k ++ l.drop (k + 1)
set_option maxRecDepth 20000 in
set_option maxHeartbeats 4000000 in
theorem but_any (v : Value) (xs : List Int) (k : Nat) (w : World) (hr : Ints w v xs) (hk : k < xs.length) (hlen : xs.length ≤ 1000) :
    Calls Try.prog 41 #[v, I (k : Int)] w fun e w' => RetRow (butL xs k) w e w' := by
  obtain ⟨i0, hi, hz0, hz1, hz2⟩ := info_parts Try.info3
  obtain ⟨A, c, rfl, hnc, hcm, hc⟩ := hr.open_
  obtain ⟨b, o, rfl, hbl, hcell⟩ := hc (by omega)
  have HC := Lib.hid hcell
  clear hc hcell hr
  obtain ⟨k1, hk1⟩ : ∃ k1, k + 1 = k1 := ⟨_, rfl⟩
  have hkw : IntKind.i64.wrap ((k : Int) + 1) = (k1 : Int) := by rw [IntWalk.i64_in _ (by omega)]; omega
  have hk1l : k1 ≤ xs.length := by omega
  have HK1 := Lib.hid hk1
  clear hk1
  have s1 : (0 : Int) ≤ (k : Int) := by omega
  have s2 : (k : Int) ≤ (c : Int) := by omega
  have s3 : (k1 : Int) ≤ (xs.length : Int) := by omega
  have s4 : (0 : Int) ≤ (k1 : Int) := by omega
  have S := Lib.hid (St.init w)
  go_enter Try.func41, Try.ntmps41
  go_wp2_with fail
  refine wp_region_treeB (.node [1, 2, 3, 5, 6, 7, 8] [0] (fun _ => .node [] [4] (fun _ => .node [] [9] (fun _ => .last [10] [])))) 11 (by kernel_rfl) (by kernel_rfl) ?_
  intro KQ hKQ w1 hb
  have S := Lib.hid (S.out.call hb)
  clear hb
  have HB := Lib.hid (Below.refl w1.heap.size w1)
  refine treeB_node ?_
  simp only [opsAt, List.filterMap_cons, List.filterMap_nil, List.getElem?_toArray, List.getElem?_cons_succ, List.getElem?_cons_zero]
  repeat (first | go_big_quiet_step (fail) | quiet_step (fail))
  refine wpQuiet_nil ?_
  refine all_one ?_
  intro K hK
  refine loud_op rfl rfl ?_
  go_simp
  obtain ⟨A4, hA4⟩ : ∃ x, (if c = k1 then some (⟨b, o, none⟩ : Addr) else some ⟨b, o + k1, none⟩) = x := ⟨_, rfl⟩
  rw [hA4]
  have HA4 := Lib.hid hA4
  clear hA4
  have hb := (Below.refl w1.heap.size w1).alloc (Nat.le_refl _) (.cells #[] 3)
  have hg := heap_alloc_new w1 (.cells #[] 3)
  obtain ⟨w2, hwd⟩ : ∃ x, w1.alloc (.cells #[] 3) = x := ⟨_, rfl⟩
  rw [hwd] at hb hg ⊢
  clear hwd
  have HB := Lib.hid (bto HB.out hb)
  have G0 := Lib.hid hg
  refine hK _ _ HB.out ?_
  clear hK K hb hg
  refine treeB_node ?_
  simp only [opsAt, List.filterMap_nil]
  refine wpQuiet_nil ?_
  refine all_one ?_
  intro K hK
  refine loud_op rfl rfl ?_
  have hrd := Ints.below (ints_prefix hlen (by omega : k ≤ xs.length) hnc hcm HC.out) (bto S.out.bel HB.out)
  have htl : (xs.take k).length = k := by rw [List.length_take]; omega
  unfold Ints at hrd
  rw [htl] at hrd
  refine wp_append_fresh _ (.tmp 5) (.tmp 8) 29 rfl w1.heap.size 3 i0 (.int .i64 0) 1 8 Try.underlying29 hi hz0 hz1 hz2 rfl (by omega) w1.heap.size rfl G0.out (Nat.le_refl _) _ k ((xs.take k).map I) rfl hrd (ints_one _) (by simp only [maxLen]; omega) (by omega) HB.out.size ?_
  intro v1 w3 hown hb
  have HB := Lib.hid (bto HB.out hb)
  have O1 := Lib.hid hown
  refine hK _ _ HB.out ?_
  clear hK K hb hown hrd htl G0
  refine treeB_node ?_
  simp only [opsAt, List.filterMap_nil]
  refine wpQuiet_nil ?_
  refine all_one ?_
  intro K hK
  refine loud_op rfl rfl ?_
  obtain ⟨Av1, cv1, rfl⟩ := own_shape O1.out
  have T := ((St.init w1).take HB.out O1.out)
  have hrd := Ints.below (ints_suffix (c := c) (k := k1) hk1l hnc hcm HC.out A4 (fun hlt => by rw [← HA4.out, if_neg (by omega)])) (bto S.out.bel HB.out)
  have hdl : (xs.drop k1).length = xs.length - k1 := by rw [List.length_drop]
  unfold Ints at hrd
  rw [hdl] at hrd
  refine wp_append_src _ (.tmp 9) (.tmp 13) 29 rfl w1.heap.size 3 i0 (.int .i64 0) 1 8 Try.underlying29 hi hz0 hz1 hz2 rfl (by omega) _ k ((xs.take k).map I) rfl O1.out _ (xs.length - k1) ((xs.drop k1).map I) rfl hrd (ints_one _) (by simp only [maxLen]; omega) (by omega) HB.out.size ?_
  intro v2 w4 hown hg hv
  have eL : k + (xs.length - k1) = (butL xs k).length := by simp [butL]; have := HK1.out; omega
  have eC : (xs.take k).map I ++ (xs.drop k1).map I = (butL xs k).map I := by rw [butL, HK1.out, List.map_append]
  rw [eL, eC] at hown
  have T2 := T.grown 0 rfl hown hg hv
  have HB := Lib.hid T2.bel
  have O2 := Lib.hid hown
  obtain ⟨Av2, cv2, rfl⟩ := own_shape hown
  refine hK _ _ HB.out ?_
  clear hK K T T2 hg hv hown hrd eL eC hdl
  refine treeB_last ?_
  simp only [opsAt, List.filterMap_cons, List.filterMap_nil, List.getElem?_toArray, List.getElem?_cons_succ, List.getElem?_cons_zero]
  repeat (first | go_big_quiet_step (fail) | quiet_step (fail))
  refine wpQuiet_nil ?_
  go_wp2_with fail
  go_ret
  exact ⟨_, rfl, own_base' O2.out S.out.bel.size, bto S.out.bel HB.out⟩

/-- A town with some of its words alone. -/
def addW (t o : Twn) (n : Nat) : Twn := if n < t.snd.length then addS o (t.snd.getD n default) else addP o (t.slp.getD (n - t.snd.length) default)
def wordsT (t : Twn) (ws : List Nat) : Twn := ws.foldl (addW t) ⟨t.wells, [], []⟩
theorem wordsT_succ {t : Twn} {ws : List Nat} {k : Nat} (h : k < ws.length) : wordsT t (ws.take (k + 1)) = addW t (wordsT t (ws.take k)) ws[k] := by
  rw [wordsT, List.take_succ_eq_append_getElem h, List.foldl_append]
  rfl
theorem wordsT_wells (t : Twn) (ws : List Nat) : (wordsT t ws).wells = t.wells := by
  have : ∀ (l : List Nat) (o : Twn), (l.foldl (addW t) o).wells = o.wells := by
    intro l
    induction l with
    | nil => intro o; rfl
    | cons a l ih => intro o; rw [List.foldl_cons, ih]; unfold addW; split <;> rfl
  exact this ws _
theorem wordsT_len (t : Twn) (ws : List Nat) : (wordsT t ws).snd.length ≤ ws.length ∧ (wordsT t ws).slp.length ≤ ws.length := by
  have : ∀ (l : List Nat) (o : Twn), (l.foldl (addW t) o).snd.length ≤ o.snd.length + l.length ∧ (l.foldl (addW t) o).slp.length ≤ o.slp.length + l.length := by
    intro l
    induction l with
    | nil => intro o; simp
    | cons a l ih =>
      intro o
      have := ih (addW t o a)
      rw [List.foldl_cons]
      have h2 : (addW t o a).snd.length ≤ o.snd.length + 1 ∧ (addW t o a).slp.length ≤ o.slp.length + 1 := by unfold addW; split <;> simp [addS, addP]
      simp only [List.length_cons]
      omega
  have := this ws ⟨t.wells, [], []⟩
  simpa [wordsT] using this

theorem St.rot3 {w0 w : World} {n : Nat} {x y z : Item} {K : List Item} (h : St w0 w n (x :: y :: z :: K)) : St w0 w n (z :: x :: y :: K) := by
  refine h.perm ?_
  exact (List.Perm.cons x (List.Perm.swap z y K)).trans (List.Perm.swap z x _)

set_option maxRecDepth 20000 in
set_option maxHeartbeats 8000000 in
theorem words_any' (v lv : Value) (t : Twn) (ws : List Nat) (w : World) (hv : TwnAt w v t) (hl : Ints w lv (ofN ws)) (hlen : ws.length ≤ 1000) (hws : ∀ n ∈ ws, n < t.snd.length + t.slp.length) (hl1 : t.snd.length ≤ 1000) (hl2 : t.slp.length ≤ 1000) :
    Calls Try.prog 40 #[v, lv] w fun e w' => ∃ v', e = .returned v' ∧ OwnTwn w' w.heap.size v' (wordsT t ws) ∧ Below w.heap.size w w' := by
  obtain ⟨a0, hi, hz0, hz1, hz2⟩ := info_parts (P := Try.prog) (e := 57) (z := .agg #[.int .i64 0, .int .i64 0, .int .i64 0]) (size := 3) (bytes := 24) (by kernel_rfl)
  obtain ⟨j0, ki, kz0, kz1, kz2⟩ := info_parts (P := Try.prog) (e := 47) (z := .agg #[.int .i64 0, .int .i64 0, .int .i64 0, .int .i64 0]) (size := 4) (bytes := 32) (by kernel_rfl)
  obtain ⟨sv, pv, rfl, hs, hp⟩ := hv
  obtain ⟨A1, c1, rfl, hsl1, hsl2, hc1⟩ := hs.open_
  obtain ⟨A2, c2, rfl, hpl1, hpl2, hc2⟩ := hp.open_
  have HSN := Lib.hid hs
  have HSP := Lib.hid hp
  have HC1 := Lib.hid hc1
  have HC2 := Lib.hid hc2
  clear hc1 hc2 hs hp
  have HLL := Lib.hid hl
  obtain ⟨A3, c3, rfl, -, -, hc3⟩ := hl.open_
  have HC3 := Lib.hid hc3
  clear hl hc3
  have S := Lib.hid (show St w ((w.alloc (.cells #[I t.wells, .slice A1 t.snd.length c1, .slice A2 t.slp.length c2] 25)).alloc (.cells #[I 0, .slice none 0 0, .slice none 0 0] 25)) (w.heap.size + 1 + 1) [.box (w.heap.size + 1) [I 0, .slice none 0 0, .slice none 0 0], .box w.heap.size [I t.wells, .slice A1 t.snd.length c1, .slice A2 t.slp.length c2]] from ((St.init w).alloc [I t.wells, .slice A1 t.snd.length c1, .slice A2 t.slp.length c2] 25).alloc [I 0, .slice none 0 0, .slice none 0 0] 25)
  have q0 := S.out.get 1 0 rfl rfl
  have q1 := S.out.get 1 1 rfl rfl
  have q2 := S.out.get 1 2 rfl rfl
  go_enter Try.func40, Try.ntmps40
  go_wp2_with fail
  clear q0 q1 q2
  have S := Lib.hid (S.out.alloc [I t.wells, .slice none 0 0, .slice none 0 0] 25)
  go_loopw [6] (fun i wr => ∃ (k : Nat) (sv pv : Value), k ≤ ws.length ∧ i = I k ∧ Hid (St w wr wr.heap.size [.box (w.heap.size + 1 + 1) [I t.wells, sv, pv], .own 57 3 sv (wordsT t (ws.take k)).snd.length (sndCells (wordsT t (ws.take k)).snd), .own 47 4 pv (wordsT t (ws.take k)).slp.length (slpCells (wordsT t (ws.take k)).slp), .box (w.heap.size + 1) [I 0, .slice none 0 0, .slice none 0 0], .box w.heap.size [I t.wells, .slice A1 t.snd.length c1, .slice A2 t.slp.length c2]])) (fun i _ => ws.length - (intOf i).toNat)
  case atStart => exact ⟨0, _, _, by omega, rfl, Lib.hid (show St w _ _ [.box (w.heap.size + 1 + 1) [I t.wells, (.slice none 0 0), (.slice none 0 0)], .own 57 3 (.slice none 0 0) (wordsT t (ws.take 0)).snd.length (sndCells (wordsT t (ws.take 0)).snd), .own 47 4 (.slice none 0 0) (wordsT t (ws.take 0)).slp.length (slpCells (wordsT t (ws.take 0)).slp), .box (w.heap.size + 1) [I 0, .slice none 0 0, .slice none 0 0], .box w.heap.size [I t.wells, .slice A1 t.snd.length c1, .slice A2 t.slp.length c2]] from (by
      have h := ((S.out.nil 47 4).nil 57 3).fix
      have h2 := h.rot3
      exact h2))⟩
  case round =>
    clear S
    obtain ⟨k, sv, pv, hk, rfl, S⟩ := hrel
    obtain ⟨As, cs, rfl⟩ := own_shape (S.out.own 1 rfl)
    obtain ⟨Ap, cp, rfl⟩ := own_shape (S.out.own 2 rfl)
    have q0 := S.out.get 4 0 rfl rfl
    have q1 := S.out.get 4 1 rfl rfl
    have q2 := S.out.get 4 2 rfl rfl
    by_cases hlt : k < ws.length
    · obtain ⟨b3, o3, rfl, hb3, hcell3⟩ := HC3.out (by rw [ofN_len]; omega)
      have y0 := keep_cell S.out.bel (hcell3 k (by rw [ofN_len]; exact hlt))
      have hwb := hws ws[k] (List.getElem_mem hlt)
      have HSC := Lib.hid (wordsT_succ (t := t) hlt)
      have hofn : (ofN ws).length = ws.length := ofN_len ws
      rw [show (ofN ws)[k]'(by rw [ofN_len]; exact hlt) = ((ws[k] : Nat) : Int) by simp [ofN]] at y0
      obtain ⟨wk, hwk⟩ : ∃ x, ws[k] = x := ⟨_, rfl⟩
      rw [hwk] at y0 hwb HSC
      have hki : (k : Int) < ((ofN ws).length : Int) := by rw [hofn]; omega
      clear hcell3 hwk hofn
      by_cases hws : wk < t.snd.length
      · have hwi : (wk : Int) < (t.snd.length : Int) := by omega
        go_wp2_with fail
        clear q0 q1 q2 y0
        refine wp_region_treeB (.node [0, 1, 2, 3, 4, 5, 6] [7] (fun _ => .last [] [8, 9, 10])) 8 (by kernel_rfl) (by kernel_rfl) ?_
        intro KQ hKQ w2 hbr
        have HBR := Lib.hid hbr
        clear hbr
        obtain ⟨b1, o1, rfl, hb1, hcell1⟩ := HC1.out (by omega)
        obtain ⟨x0, x1, x2⟩ := hcell1 wk hws
        have x0 := cell_regrown (keep_cell (bto S.out.bel HBR.out) x0)
        have x1 := cell_regrown (keep_cell (bto S.out.bel HBR.out) x1)
        have x2 := cell_regrown (keep_cell (bto S.out.bel HBR.out) x2)
        clear hcell1
        have hnx : (wordsT t (ws.take (k + 1))) = addS (wordsT t (ws.take k)) (t.snd[wk]'hws) := by
          rw [HSC.out, addW]
          rw [if_pos hws]
          rw [List.getD_eq_getElem?_getD, List.getElem?_eq_getElem]
          rfl
        obtain ⟨⟨sw, sl, sh⟩, hs⟩ : ∃ s, t.snd[wk] = s := ⟨_, rfl⟩
        rw [hs] at x0 x1 x2 hnx
        have HNX := Lib.hid hnx
        clear hs hnx 
        dsimp only at x0 x1 x2
        have S := Lib.hid (S.out.call HBR.out)
        have k0 := cell_regrown (S.out.get 0 1 rfl rfl)
        have k1 := cell_regrown (S.out.get 4 1 rfl rfl)
        have k2 := cell_regrown (S.out.get 4 2 rfl rfl)
        refine treeB_node ?_
        simp only [opsAt, List.filterMap_cons, List.filterMap_nil, List.getElem?_toArray, List.getElem?_cons_succ, List.getElem?_cons_zero]
        repeat (first | go_big_quiet_step (fail) | quiet_step (fail))
        refine wpQuiet_nil ?_
        refine all_one ?_
        intro K hK
        refine loud_op rfl rfl ?_
        go_simp
        have hb := (Below.refl w2.heap.size w2).alloc (Nat.le_refl _) (.cells #[I sw, I sl, I sh] 57)
        have S := Lib.hid (S.out.alloc [I sw, I sl, I sh] 57)
        refine hK _ _ hb ?_
        clear hK K hb k0 k1 k2 x0 x1 x2
        refine treeB_last ?_
        simp only [opsAt, List.filterMap_cons, List.filterMap_nil, List.getElem?_toArray, List.getElem?_cons_succ, List.getElem?_cons_zero]
        refine wpQuiet_nil ?_
        obtain ⟨ql, hql⟩ : ∃ x, (wordsT t (ws.take k)).snd.length = x := ⟨_, rfl⟩
        have hqb : ql ≤ 1000 := by have := wordsT_len t (ws.take k); rw [List.length_take] at this; omega
        have h63 : ql + 1 ≤ maxLen := by simp only [maxLen]; omega
        have hby : (ql + 1) * 24 ≤ 140737488355328 := by omega
        have h02 : 0 < 3 := by decide
        have HQL := Lib.hid hql
        rw [hql] at S ⊢
        clear hql hqb
        refine wpList_append_St S.out 2 rfl _ _ 22 rfl 57 a0 (.agg #[.int .i64 0, .int .i64 0, .int .i64 0]) 3 24 Try.underlying22 hi hz0 hz1 hz2 rfl h02 rfl rfl _ 1 [I sw, I sl, I sh] rfl (S.out.boxReads 0 rfl rfl (by omega)) (snds_one [⟨sw, sl, sh⟩]) h63 hby ?_
        intro v5 w5 hS5
        obtain ⟨A5, c5, rfl⟩ := own_shape (hS5.own 2 rfl)
        have S := Lib.hid hS5
        clear hS5
        have u0 := S.out.get 1 1 rfl rfl
        have u1 := S.out.free 1 1 rfl
        go_wp2_with fail
        have S := Lib.hid ((S.out.set 1 1 (.slice A5 (ql + 1) c5) rfl).tail)
        have e1 : ql + 1 = (wordsT t (ws.take (k + 1))).snd.length := by rw [HNX.out]; simp [addS, HQL.out]
        have e2 : sndCells (wordsT t (ws.take k)).snd ++ [I sw, I sl, I sh] = sndCells (wordsT t (ws.take (k + 1))).snd := by rw [HNX.out]; simp [addS, sndCells]
        have e3 : (wordsT t (ws.take (k + 1))).slp = (wordsT t (ws.take k)).slp := by rw [HNX.out]; rfl
        rw [e2] at S
        have S := Lib.hid (show St w _ _ [.box (w.heap.size + 1 + 1) [I t.wells, (.slice A5 (ql + 1) c5), (.slice Ap (wordsT t (ws.take (k + 1))).slp.length cp)], .own 57 3 (.slice A5 (ql + 1) c5) (wordsT t (ws.take (k + 1))).snd.length (sndCells (wordsT t (ws.take (k + 1))).snd), .own 47 4 (.slice Ap (wordsT t (ws.take (k + 1))).slp.length cp) (wordsT t (ws.take (k + 1))).slp.length (slpCells (wordsT t (ws.take (k + 1))).slp), .box (w.heap.size + 1) [I 0, .slice none 0 0, .slice none 0 0], .box w.heap.size _] from (by have h := S.out; rw [e3, ← e1]; exact h))
        clear u0 u1 e1 e2
        go_roundw
        case rel => exact ⟨k + 1, (.slice A5 (ql + 1) c5), (.slice Ap (wordsT t (ws.take (k + 1))).slp.length cp), by omega, by go_num, Lib.hid S.out.fix⟩
        case measure => first | (simp [intOf]; done) | (simp [intOf]; omega)
      · have hwi : ¬ (wk : Int) < (t.snd.length : Int) := by omega
        go_wp2_with fail
        clear q0 q1 q2 y0
        refine wp_region_treeB (.node [0, 1, 2, 3, 4, 5, 6, 7, 8, 9, 10] [11] (fun _ => .last [] [12, 13, 14])) 12 (by kernel_rfl) (by kernel_rfl) ?_
        intro KQ hKQ w2 hbr
        have HBR := Lib.hid hbr
        clear hbr
        obtain ⟨m, hm⟩ : ∃ m, wk - t.snd.length = m := ⟨_, rfl⟩
        have hml : m < t.slp.length := by omega
        have i1 : IntKind.i64.wrap ((wk : Int) - (t.snd.length : Int)) = (m : Int) := by rw [IntWalk.i64_in _ (by omega)]; omega
        have hmi : (m : Int) < (t.slp.length : Int) := by omega
        obtain ⟨b1, o1, rfl, hb1, hcell1⟩ := HC2.out (by omega)
        obtain ⟨x0, x1, x2, x3⟩ := hcell1 m hml
        have x0 := cell_regrown (keep_cell (bto S.out.bel HBR.out) x0)
        have x1 := cell_regrown (keep_cell (bto S.out.bel HBR.out) x1)
        have x2 := cell_regrown (keep_cell (bto S.out.bel HBR.out) x2)
        have x3 := cell_regrown (keep_cell (bto S.out.bel HBR.out) x3)
        clear hcell1
        have hnx : (wordsT t (ws.take (k + 1))) = addP (wordsT t (ws.take k)) (t.slp[m]'hml) := by
          rw [HSC.out, addW]
          rw [if_neg hws, hm]
          rw [List.getD_eq_getElem?_getD, List.getElem?_eq_getElem]
          rfl
        obtain ⟨⟨sa, sb, sl, sh⟩, hs⟩ : ∃ s, t.slp[m] = s := ⟨_, rfl⟩
        rw [hs] at x0 x1 x2 x3 hnx
        have HNX := Lib.hid hnx
        clear hs hnx hm
        dsimp only at x0 x1 x2 x3
        have S := Lib.hid (S.out.call HBR.out)
        have k0 := cell_regrown (S.out.get 0 2 rfl rfl)
        have k1 := cell_regrown (S.out.get 4 1 rfl rfl)
        have k2 := cell_regrown (S.out.get 4 2 rfl rfl)
        refine treeB_node ?_
        simp only [opsAt, List.filterMap_cons, List.filterMap_nil, List.getElem?_toArray, List.getElem?_cons_succ, List.getElem?_cons_zero]
        repeat (first | go_big_quiet_step (fail) | quiet_step (fail))
        refine wpQuiet_nil ?_
        refine all_one ?_
        intro K hK
        refine loud_op rfl rfl ?_
        go_simp
        have hb := (Below.refl w2.heap.size w2).alloc (Nat.le_refl _) (.cells #[I sa, I sb, I sl, I sh] 47)
        have S := Lib.hid (S.out.alloc [I sa, I sb, I sl, I sh] 47)
        refine hK _ _ hb ?_
        clear hK K hb k0 k1 k2 x0 x1 x2 x3
        refine treeB_last ?_
        simp only [opsAt, List.filterMap_cons, List.filterMap_nil, List.getElem?_toArray, List.getElem?_cons_succ, List.getElem?_cons_zero]
        refine wpQuiet_nil ?_
        obtain ⟨ql, hql⟩ : ∃ x, (wordsT t (ws.take k)).slp.length = x := ⟨_, rfl⟩
        have hqb : ql ≤ 1000 := by have := wordsT_len t (ws.take k); rw [List.length_take] at this; omega
        have h63 : ql + 1 ≤ maxLen := by simp only [maxLen]; omega
        have hby : (ql + 1) * 32 ≤ 140737488355328 := by omega
        have h02 : 0 < 4 := by decide
        have HQL := Lib.hid hql
        rw [hql] at S ⊢
        clear hql hqb
        refine wpList_append_St S.out 3 rfl _ _ 23 rfl 47 j0 (.agg #[.int .i64 0, .int .i64 0, .int .i64 0, .int .i64 0]) 4 32 Try.underlying23 ki kz0 kz1 kz2 rfl h02 rfl rfl _ 1 [I sa, I sb, I sl, I sh] rfl (S.out.boxReads 0 rfl rfl (by omega)) (slps_one [⟨sa, sb, sl, sh⟩]) h63 hby ?_
        intro v5 w5 hS5
        obtain ⟨A5, c5, rfl⟩ := own_shape (hS5.own 3 rfl)
        have S := Lib.hid hS5
        clear hS5
        have u0 := S.out.get 1 2 rfl rfl
        have u1 := S.out.free 1 2 rfl
        go_wp2_with fail
        have S := Lib.hid ((S.out.set 1 2 (.slice A5 (ql + 1) c5) rfl).tail)
        have e1 : ql + 1 = (wordsT t (ws.take (k + 1))).slp.length := by rw [HNX.out]; simp [addP, HQL.out]
        have e2 : slpCells (wordsT t (ws.take k)).slp ++ [I sa, I sb, I sl, I sh] = slpCells (wordsT t (ws.take (k + 1))).slp := by rw [HNX.out]; simp [addP, slpCells]
        have e3 : (wordsT t (ws.take (k + 1))).snd = (wordsT t (ws.take k)).snd := by rw [HNX.out]; rfl
        rw [e2] at S
        have S := Lib.hid (show St w _ _ [.box (w.heap.size + 1 + 1) [I t.wells, (.slice As (wordsT t (ws.take (k + 1))).snd.length cs), (.slice A5 (ql + 1) c5)], .own 57 3 (.slice As (wordsT t (ws.take (k + 1))).snd.length cs) (wordsT t (ws.take (k + 1))).snd.length (sndCells (wordsT t (ws.take (k + 1))).snd), .own 47 4 (.slice A5 (ql + 1) c5) (wordsT t (ws.take (k + 1))).slp.length (slpCells (wordsT t (ws.take (k + 1))).slp), .box (w.heap.size + 1) [I 0, .slice none 0 0, .slice none 0 0], .box w.heap.size _] from (by have h := S.out; rw [e3, ← e1]; exact h))
        clear u0 u1 e1 e2
        go_roundw
        case rel => exact ⟨k + 1, (.slice As (wordsT t (ws.take (k + 1))).snd.length cs), (.slice A5 (ql + 1) c5), by omega, by go_num, Lib.hid S.out.fix⟩
        case measure => first | (simp [intOf]; done) | (simp [intOf]; omega)
    · have hki : ¬ (k : Int) < ((ofN ws).length : Int) := by rw [ofN_len]; omega
      have HKE := Lib.hid (show ws.take k = ws from List.take_of_length_le (by omega))
      have x0 := S.out.get 0 0 rfl rfl
      have x1 := S.out.get 0 1 rfl rfl
      have x2 := S.out.get 0 2 rfl rfl
      have u5 := S.out.get 3 0 rfl rfl
      have u6 := S.out.get 3 1 rfl rfl
      have u7 := S.out.get 3 2 rfl rfl
      have u8 := S.out.free 3 0 rfl
      have u9 := S.out.free 3 1 rfl
      have ua := S.out.free 3 2 rfl
      have S3 := Lib.hid (((S.out.set 3 0 (I t.wells) rfl).set 3 1 (.slice As (wordsT t (ws.take k)).snd.length cs) rfl).set 3 2 (.slice Ap (wordsT t (ws.take k)).slp.length cp) rfl)
      have r0 := S3.out.get 3 0 rfl rfl
      have r1 := S3.out.get 3 1 rfl rfl
      have r2 := S3.out.get 3 2 rfl rfl
      go_wp2_with fail
      refine bodyPost_ret (v := .agg #[I t.wells, .slice As (wordsT t (ws.take k)).snd.length cs, .slice Ap (wordsT t (ws.take k)).slp.length cp]) (by simp [results, Try.results40, go_sem, r0, r1, r2]) rfl ⟨_, rfl, ?_, S3.out.bel⟩
      have hfin : OwnTwn _ w.heap.size _ (wordsT t (ws.take k)) := ⟨_, _, by rw [wordsT_wells], S3.out.own 1 rfl, S3.out.own 2 rfl⟩
      rw [HKE.out] at hfin
      rw [HKE.out]
      exact hfin

end Go.Proofs.Ytplbaijdnpfdgaa
/- Some of the words of a town. No function here. -/
namespace Go.Proofs.Ytplbaijdnpfdgaa
open Go.RowKit Go.Sort

def Asc (l : List Nat) : Prop := l.Pairwise (· < ·)
theorem asc_eq : ∀ (l m : List Nat), Asc l → Asc m → (∀ x, x ∈ l ↔ x ∈ m) → l = m
  | [], [], _, _, _ => rfl
  | [], b :: m, _, _, h => by have := (h b).2 (by simp); simp at this
  | a :: l, [], _, _, h => by have := (h a).1 (by simp); simp at this
  | a :: l, b :: m, hl, hm, h => by
    obtain ⟨hl1, hl2⟩ := List.pairwise_cons.1 hl
    obtain ⟨hm1, hm2⟩ := List.pairwise_cons.1 hm
    have hab : a = b := by
      rcases List.mem_cons.1 ((h a).1 (by simp)) with e | e
      · exact e
      · rcases List.mem_cons.1 ((h b).2 (by simp)) with e' | e'
        · exact e'.symm
        · have := hm1 a e
          have := hl1 b e'
          omega
    subst hab
    congr 1
    refine asc_eq l m hl2 hm2 fun x => ⟨fun hx => ?_, fun hx => ?_⟩
    · rcases List.mem_cons.1 ((h x).1 (List.mem_cons_of_mem _ hx)) with e | e
      · have := hl1 x hx; omega
      · exact e
    · rcases List.mem_cons.1 ((h x).2 (List.mem_cons_of_mem _ hx)) with e | e
      · have := hm1 x hx; omega
      · exact e
theorem asc_range (M : Nat) : Asc (List.range M) := List.pairwise_lt_range
theorem asc_filter {ws : List Nat} {M : Nat} (h : Asc ws) (hb : ∀ n ∈ ws, n < M) : ws = (List.range M).filter (hasW ws) := by
  refine asc_eq _ _ h ((asc_range M).filter _) fun x => ?_
  simp only [List.mem_filter, List.mem_range, hasW, decide_eq_true_eq]
  exact ⟨fun hx => ⟨hb x hx, hx⟩, fun hx => hx.2⟩
theorem wordsT_filter (t : Twn) (p : Nat → Bool) : ∀ K, K ≤ t.snd.length + t.slp.length → wordsT t ((List.range K).filter p) = ⟨t.wells, subL p 0 (t.snd.take K), subL p t.snd.length (t.slp.take (K - t.snd.length))⟩
  | 0, _ => by simp [wordsT, subL]
  | K + 1, h => by
    have ih := wordsT_filter t p K (by omega)
    rw [List.range_succ, List.filter_append]
    by_cases hp : p K = true
    · have e : List.filter p [K] = [K] := by simp [hp]
      rw [e, wordsT, List.foldl_append]
      show addW t (wordsT t ((List.range K).filter p)) K = _
      rw [ih]
      by_cases hs : K < t.snd.length
      · rw [addW, if_pos hs, subL_snoc p t.snd 0 K hs, Nat.zero_add, if_pos hp, show K + 1 - t.snd.length = K - t.snd.length by omega]
        simp [addS, List.getElem?_eq_getElem hs]
      · have hk : K - t.snd.length < t.slp.length := by omega
        rw [addW, if_neg hs, List.take_of_length_le (show t.snd.length ≤ K by omega), List.take_of_length_le (show t.snd.length ≤ K + 1 by omega), show K + 1 - t.snd.length = (K - t.snd.length) + 1 by omega, subL_snoc p t.slp t.snd.length _ hk, show t.snd.length + (K - t.snd.length) = K by omega, if_pos hp]
        simp [addP, List.getElem?_eq_getElem hk]
    · have e : List.filter p [K] = [] := by simp [hp]
      rw [e, List.append_nil, ih]
      by_cases hs : K < t.snd.length
      · rw [subL_snoc p t.snd 0 K hs, Nat.zero_add, if_neg hp, List.append_nil, show K + 1 - t.snd.length = K - t.snd.length by omega]
      · have hk : K - t.snd.length < t.slp.length := by omega
        rw [List.take_of_length_le (show t.snd.length ≤ K by omega), List.take_of_length_le (show t.snd.length ≤ K + 1 by omega), show K + 1 - t.snd.length = (K - t.snd.length) + 1 by omega, subL_snoc p t.slp t.snd.length _ hk, show t.snd.length + (K - t.snd.length) = K by omega, if_neg hp, List.append_nil]
theorem wordsT_sub (t : Twn) (p : Nat → Bool) : wordsT t ((List.range (t.snd.length + t.slp.length)).filter p) = sub t p := by
  rw [wordsT_filter t p _ (Nat.le_refl _), sub, List.take_of_length_le (by omega), List.take_of_length_le (by omega)]
/-- Some words, in their order. -/
theorem words_asc {t : Twn} {ws : List Nat} (h : Asc ws) (hb : ∀ n ∈ ws, n < t.snd.length + t.slp.length) : wordsT t ws = sub t (hasW ws) := by
  rw [← wordsT_sub, ← asc_filter h hb]
theorem butL_map (ws : List Nat) (k : Nat) : butL (ofN ws) k = ofN (ws.eraseIdx k) := by
  rw [butL, ofN, ofN, List.eraseIdx_eq_take_drop_succ, List.map_append, List.map_take, List.map_drop]
theorem erase_asc {ws : List Nat} (h : Asc ws) (k : Nat) : Asc (ws.eraseIdx k) := h.sublist (List.eraseIdx_sublist _ _)
theorem erase_range {M k : Nat} : (List.range M).eraseIdx k = (List.range M).filter (butW k) := by
  refine asc_eq _ _ (erase_asc (asc_range M) k) ((asc_range M).filter _) fun x => ?_
  rw [List.mem_eraseIdx_iff_getElem]
  simp only [List.mem_filter, List.mem_range, butW, bne_iff_ne, ne_eq]
  constructor
  · rintro ⟨j, hj, hne, rfl⟩
    simp at hj ⊢
    omega
  · rintro ⟨h1, h2⟩
    exact ⟨x, by simpa using h1, h2, by simp⟩
theorem words_but (t : Twn) (k : Nat) : wordsT t ((allN t).eraseIdx k) = sub t (butW k) := by
  rw [allN, erase_range, wordsT_sub]
theorem Vl.valid' {t : Twn} (h : Vl t) (h1 : t.snd.length ≤ 8) (h2 : t.slp.length ≤ 8) : valid t = true := valid_iff'.2 ⟨h, h1, h2⟩
theorem sub_len (t : Twn) (is : Nat → Bool) : (sub t is).snd.length ≤ t.snd.length ∧ (sub t is).slp.length ≤ t.slp.length := ⟨(subL_sublist _ _ _).length_le, (subL_sublist _ _ _).length_le⟩
theorem sub_valid {t : Twn} (h : valid t = true) (is : Nat → Bool) : valid (sub t is) = true := by
  obtain ⟨h1, h2, h3⟩ := valid_iff'.1 h
  have := sub_len t is
  exact (h1.sub is).valid' (by omega) (by omega)
theorem sub_one {t : Twn} (h : openE t true = 0) (is : Nat → Bool) : openE (sub t is) true = 0 := by
  obtain ⟨x, hx⟩ := has_truth h
  exact open_of_truth (sub_valid (openE_zero' h).1 is) hx.sub
theorem Sp.ext' {a b : Sp} (h1 : a.low = b.low) (h2 : a.high = b.high) : a = b := by
  cases a; cases b; simp_all
theorem same_lows {t o : Twn} (hw : o.wells = t.wells) : sameL (closeM (baseM t)) (closeM (baseM o)) (List.range t.wells.toNat) = (decide (lowL t = lowL o) && decide (highL t = highL o)) := by
  rw [Bool.eq_iff_iff, Bool.and_eq_true, decide_eq_true_eq, decide_eq_true_eq]
  unfold sameL lowL highL
  rw [hw, List.all_eq_true]
  constructor
  · intro h
    constructor
    · refine List.map_congr_left fun x hx => ?_
      rw [eq_of_beq (h x hx)]
    · refine List.map_congr_left fun x hx => ?_
      rw [eq_of_beq (h x hx)]
  · rintro ⟨h1, h2⟩ x hx
    have a := List.map_inj_left.1 h1 x hx
    have b := List.map_inj_left.1 h2 x hx
    rw [beq_iff_eq]
    exact Sp.ext' a b
theorem mem_idle {t : Twn} {M k : Nat} (hk : k < M) : ((k : Nat) : Int) ∈ idleTo t M ↔ sameL (closeM (baseM t)) (closeM (baseM (sub t (butW k)))) (List.range t.wells.toNat) = true := by
  unfold idleTo
  rw [List.mem_map]
  constructor
  · rintro ⟨a, ha, e⟩
    obtain rfl : a = k := by omega
    exact (List.mem_filter.1 ha).2
  · intro h
    exact ⟨k, List.mem_filter.2 ⟨List.mem_range.2 hk, h⟩, rfl⟩
end Go.Proofs.Ytplbaijdnpfdgaa

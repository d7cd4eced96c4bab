/- Walks: left. -/
import Derived.Test.YtldcehhhndlhdaaGreatDoorC19
import Derived.Test.YtldcehhhndlhdaaGreatDoorC12
import Derived.Test.YtldcehhhndlhdaaGreatDoorC16
import Derived.Test.YtldcehhhndlhdaaGreatDoorC8
import Derived.Test.YtldcehhhndlhdaaGreatDoorC3
namespace Go.Proofs.YtldcehhhndlhdaaGreatDoor
open Go.RowKit Go.Sort Go.Shelf

theorem sumR_bd {f : Nat → Int} : ∀ {k : Nat}, (∀ i, i < k → 0 ≤ f i ∧ f i ≤ 9) → 0 ≤ Bk.sumR k f ∧ Bk.sumR k f ≤ 9 * k
  | 0, _ => ⟨Int.le_refl _, Int.le_refl _⟩
  | k + 1, h => by
    have h1 := sumR_bd (k := k) (fun i hi => h i (by omega))
    have h2 := h k (by omega)
    show 0 ≤ Bk.sumR k f + f k ∧ Bk.sumR k f + f k ≤ _
    omega
theorem leftTo_bd {t : BTown} (hv : bVal t = true) (h12 : t.ys.length ≤ 12) {d : Nat → Int} (hd : ∀ i, i < t.ys.length → 0 ≤ d i ∧ d i ≤ 9) {k : Nat} (hk : k ≤ t.ys.length) :
    (∀ h, h < t.hs.length → -108 ≤ (leftTo t d k).1.getD h 0 ∧ (leftTo t d k).1.getD h 0 ≤ 20) ∧ ∀ w, w < t.ws.length → -108 ≤ (leftTo t d k).2.getD w 0 ∧ (leftTo t d k).2.getD w 0 ≤ 20 := by
  obtain ⟨-, -, h3, h4⟩ := leftTo_spec t d k
  obtain ⟨-, -, b1, b2, -⟩ := bVal_spec hv
  have key : ∀ (p : Nat → Prop) [DecidablePred p], 0 ≤ Bk.sumR k (fun i => if p i then d i else 0) ∧ Bk.sumR k (fun i => if p i then d i else 0) ≤ 9 * k := fun p _ => sumR_bd fun i hi => by
    have := hd i (by omega)
    split <;> omega
  refine ⟨fun h hh => ?_, fun w hw => ?_⟩
  · have e1 := b1 _ (List.getElem_mem hh)
    have e2 := key (fun i => t.bt.hh i = h)
    rw [h3 h hh, List.getD_eq_getElem?_getD, List.getElem?_eq_getElem hh, Option.getD_some]
    omega
  · have e1 := b2 _ (List.getElem_mem hw)
    have e2 := key (fun i => t.bt.ww i = w)
    rw [h4 w hw, List.getD_eq_getElem?_getD, List.getElem?_eq_getElem hw, Option.getD_some]
    omega
theorem rowGet {l : List Int} {i : Nat} (h : i < l.length) : l[i]? = some (l.getD i 0) := by
  rw [List.getD_eq_getElem?_getD, List.getElem?_eq_getElem h, Option.getD_some]
theorem leftTo_at {t : BTown} {k a c : Nat} (hk : k < t.ys.length) (e : t.ys[k] = ⟨(a : Int), (c : Int)⟩) (d : Nat → Int) :
    leftTo t d (k + 1) = ((leftTo t d k).1.set a ((leftTo t d k).1.getD a 0 - d k), (leftTo t d k).2.set c ((leftTo t d k).2.getD c 0 - d k)) := by
  have e1 : t.bt.hh k = a := by show (spAt t.ys k).low.toNat = a; rw [spAt_len _ _ hk, e]; simp
  have e2 : t.bt.ww k = c := by show (spAt t.ys k).high.toNat = c; rw [spAt_len _ _ hk, e]; simp
  show ((leftTo t d k).1.set (t.bt.hh k) _, (leftTo t d k).2.set (t.bt.ww k) _) = _
  rw [e1, e2]
/-- A slice of the call's own that has an element. -/
theorem own_some {w : World} {B e size n : Nat} {A : Option Addr} {c : Nat} {xs : List Value} (h : w.ownsRow B e size (.slice A n c) n xs) (hn : 0 < n) : ∃ g, A = some ⟨g, 0, none⟩ := by
  obtain ⟨g, cap, e, -, -⟩ := own_shape_pos h hn
  injection e with e1 e2 e3
  exact ⟨g, e1⟩

set_option maxRecDepth 20000 in
set_option maxHeartbeats 4000000 in
theorem left_any (v dv : Value) (t : BTown) (d : Nat → Int) (w : World) (hv : BAt w v t) (hval : bVal t = true) (h12 : t.ys.length ≤ 12) (hd : ∀ i, i < t.ys.length → 0 ≤ d i ∧ d i ≤ 9) (hdv : Ints w dv (Bk.rowF t.ys.length d)) :
    Calls Tryz.prog 40 #[v, dv] w fun e w' => ∃ v1 v2, e = .returned (.tuple #[v1, v2]) ∧ St w w' w'.heap.size [.own 3 1 v1 t.hs.length ((leftTo t d t.ys.length).1.map I), .own 3 1 v2 t.ws.length ((leftTo t d t.ys.length).2.map I)] := by
  obtain ⟨hv0, wv, yv, rfl, hh, hw, hy⟩ := hv
  obtain ⟨A1, c1, rfl, -, -, -⟩ := id hh.open_
  obtain ⟨A2, c2, rfl, -, -, -⟩ := id hw.open_
  obtain ⟨A3, c3, rfl, -, -, hc3⟩ := id hy.open_
  obtain ⟨A4, c4, rfl, -, -, hc4⟩ := id hdv.open_
  rw [Bk.rowF_len]
  have HH := Lib.hid hh
  have HW := Lib.hid hw
  have HC3 := Lib.hid hc3
  have HC4 := Lib.hid hc4
  have HBD := Lib.hid (fun k (hk : k ≤ t.ys.length) => leftTo_bd hval h12 hd hk)
  have HV := Lib.hid hval
  have HD := Lib.hid hd
  obtain ⟨g1, g2, -, -, -⟩ := bVal_spec hval
  have S := Lib.hid ((St.init w).alloc [.slice A1 t.hs.length c1, .slice A2 t.ws.length c2, .slice A3 t.ys.length c3] 32)
  clear hh hw hy hdv hc3 hc4 hval hd
  go_enter Tryz.func40, Tryz.ntmps40
  go_wp2_with fail
  refine wp_region_seg [([0, 1, 3, 4], 2), ([], 5)] [6, 7] [] 8 (by kernel_rfl) (by kernel_rfl) ?_
  intro KQ hKQ w1 hb
  have S := Lib.hid (S.out.call hb)
  clear hb
  have z0 := cell_regrown (S.out.get 0 0 rfl rfl)
  have z1 := cell_regrown (S.out.get 0 1 rfl rfl)
  refine seg_next ?_
  simp only [opsAt, List.filterMap_cons, List.filterMap_nil, List.getElem?_toArray, List.getElem?_cons_succ, List.getElem?_cons_zero]
  repeat (first | go_big_quiet_step (fail) | quiet_step (fail))
  refine wpQuiet_nil ?_
  intro K hK
  refine loud_op rfl rfl ?_
  go_simp
  refine (cloneI_any _ t.hs _ (HH.out.below S.out.bel) (by omega)).mono ?_
  rintro e w2 ⟨v1, rfl, hown, hb⟩
  have S := Lib.hid (S.out.take hb hown)
  obtain ⟨B1, k1, rfl⟩ := own_shape hown
  refine hK _ _ hb ?_
  clear hK K hb hown z0 z1
  refine seg_next ?_
  simp only [opsAt, List.filterMap_nil]
  refine wpQuiet_nil ?_
  intro K hK
  refine loud_op rfl rfl ?_
  go_simp
  refine (cloneI_any _ t.ws _ (HW.out.below S.out.bel) (by omega)).mono ?_
  rintro e w3 ⟨v2, rfl, hown, hb⟩
  have S := Lib.hid (S.out.take hb hown)
  obtain ⟨B2, k2, rfl⟩ := own_shape hown
  refine hK _ _ hb ?_
  clear hK K hb hown
  refine seg_last ?_
  simp only [opsAt, List.filterMap_cons, List.filterMap_nil, List.getElem?_toArray, List.getElem?_cons_succ, List.getElem?_cons_zero]
  repeat (first | go_big_quiet_step (fail) | quiet_step (fail))
  refine wpQuiet_nil ?_
  go_simp
  refine hKQ _ _ ?_
  clear hKQ KQ
  have S := Lib.hid (show St w w3 w3.heap.size [.own 3 1 (.slice B2 t.ws.length k2) t.ws.length ((leftTo t d 0).2.map I), .own 3 1 (.slice B1 t.hs.length k1) t.hs.length ((leftTo t d 0).1.map I), .box w.heap.size [.slice A1 t.hs.length c1, .slice A2 t.ws.length c2, .slice A3 t.ys.length c3]] from S.out)
  go_wp2_with fail
  go_loopw [16] (fun i wr => ∃ k : Nat, k ≤ t.ys.length ∧ i = I k ∧ Hid (St w wr wr.heap.size [.own 3 1 (.slice B2 t.ws.length k2) t.ws.length ((leftTo t d k).2.map I), .own 3 1 (.slice B1 t.hs.length k1) t.hs.length ((leftTo t d k).1.map I), .box w.heap.size [.slice A1 t.hs.length c1, .slice A2 t.ws.length c2, .slice A3 t.ys.length c3]])) (fun i _ => t.ys.length - (intOf i).toNat)
  case atStart => exact ⟨0, by omega, rfl, S⟩
  case round =>
    clear S
    obtain ⟨k, hk, rfl, S⟩ := hrel
    by_cases hlt : k < t.ys.length
    · have hki : (k : Int) < (t.ys.length : Int) := by omega
      obtain ⟨a, c, hac, ha, hc⟩ := okY_nat HV.out hlt
      have HS := Lib.hid (leftTo_at hlt hac d)
      have hsp := leftTo_spec t d k
      obtain ⟨q1, q2, -, -⟩ := hsp
      obtain ⟨r1, r2⟩ := HBD.out k hk
      have r1 := r1 a ha
      have r2 := r2 c hc
      obtain ⟨b3, o3, hA3, -, hcell3⟩ := HC3.out (by omega)
      subst hA3
      obtain ⟨b4, o4, hA4, -, hcell4⟩ := HC4.out (by rw [Bk.rowF_len]; omega)
      subst hA4
      obtain ⟨x0, x1⟩ := hcell3 k hlt
      rw [hac] at x0 x1
      have x0 := keep_cell S.out.bel x0
      have X1 := Lib.hid x1
      clear x1
      have x2 := keep_cell S.out.bel (hcell4 k (by rw [Bk.rowF_len]; exact hlt))
      rw [show (Bk.rowF t.ys.length d)[k]'(by rw [Bk.rowF_len]; exact hlt) = d k by simp [Bk.rowF]] at x2
      have hdk := HD.out k hlt
      obtain ⟨g, hg1⟩ := own_some (S.out.own 1 rfl) (by omega)
      subst hg1
      obtain ⟨g', hg2⟩ := own_some (S.out.own 0 rfl) (by omega)
      subst hg2
      have y1 := own_cell (S.out.own 1 rfl) a _ (rowGet (by omega))
      have z1 := (S.out.own 1 rfl).frozenAt a
      obtain ⟨la, hla⟩ : ∃ x, (leftTo t d k).1.getD a 0 = x := ⟨_, rfl⟩
      obtain ⟨lc, hlc⟩ : ∃ x, (leftTo t d k).2.getD c 0 = x := ⟨_, rfl⟩
      rw [hla] at y1 HS r1
      rw [hlc] at HS r2
      obtain ⟨dk, hdk'⟩ : ∃ x, d k = x := ⟨_, rfl⟩
      rw [hdk'] at x2 HS hdk
      have p0 := S.out.get 2 2 rfl rfl
      have hne : g ≠ g' := fun e => S.out.apart' 1 0 rfl rfl (by decide) (b := g') rfl (by rw [← e]; rfl)
      have S2 := Lib.hid (S.out.put 1 a (I (la - dk)) rfl)
      dsimp only [List.set_cons_zero, List.set_cons_succ] at S2
      have x1 := keep_cell S2.out.bel X1.out
      have p1 := S2.out.get 2 2 rfl rfl
      have y2 := own_cell (S2.out.own 0 rfl) c _ (rowGet (show c < (leftTo t d k).2.length by omega))
      rw [hlc] at y2
      have z2 := (S2.out.own 0 rfl).frozenAt c
      have S3 := Lib.hid (S2.out.put 0 c (I (lc - dk)) rfl)
      dsimp only [List.set_cons_zero, List.set_cons_succ] at S3
      rw [← List.map_set, ← List.map_set] at S3
      have S3 := Lib.hid (show St w ((wr.setCell ⟨g, a, none⟩ (I (la - dk))).setCell ⟨g', c, none⟩ (I (lc - dk))) wr.heap.size [.own 3 1 (.slice (some ⟨g', 0, none⟩) t.ws.length k2) t.ws.length ((leftTo t d (k + 1)).2.map I), .own 3 1 (.slice (some ⟨g, 0, none⟩) t.hs.length k1) t.hs.length ((leftTo t d (k + 1)).1.map I), .box w.heap.size [.slice A1 t.hs.length c1, .slice A2 t.ws.length c2, .slice (some ⟨b3, o3, none⟩) t.ys.length c3]] by rw [HS.out]; exact S3.out)
      have hai : (a : Int) < (t.hs.length : Int) := by omega
      have hci : (c : Int) < (t.ws.length : Int) := by omega
      clear S S2 HS hcell3 hcell4 hla hlc hac hdk' q1 q2
      go_wp2_with fail
      go_roundw
      case rel => exact ⟨k + 1, by omega, by go_num, Lib.hid S3.out.fix⟩
      case measure => first | (simp [intOf]; done) | (simp [intOf]; omega)
    · obtain rfl : k = t.ys.length := by omega
      go_wp2_with fail
      refine bodyPost_ret (v := .tuple #[.slice B1 t.hs.length k1, .slice B2 t.ws.length k2]) (by simp [results, go_sem]) rfl ?_
      exact ⟨_, _, rfl, (S.out.less (List.Sublist.cons_cons _ (List.Sublist.cons_cons _ (List.nil_sublist _)))).perm (List.Perm.swap _ _ _)⟩

end Go.Proofs.YtldcehhhndlhdaaGreatDoor
/- Walks: whether a group of houses is short. -/
namespace Go.Proofs.YtldcehhhndlhdaaGreatDoor
open Go.RowKit Go.Sort Go.Shelf

/-- Whether a house is in a group. -/
def bitB (g h : Nat) : Bool := g / 2 ^ h % 2 == 1
def mayB (g : Nat) (x : Int) (y : Sp) : Bool := decide (y.high = x) && bitB g y.low.toNat
theorem bit_small : ∀ g : Fin 64, ∀ h : Fin 6, (bits BinOp.and IntKind.u64 ((g.val : Int) / 2 ^ h.val) 1 == 1) = bitB g.val h.val := by decide +kernel
def RetIy (w : World) (e : Ending) (w' : World) : Prop := ∃ k : Nat, e = .returned (I k) ∧ Below w.heap.size w w'

set_option maxRecDepth 20000 in
set_option maxHeartbeats 1000000 in
theorem may_any (a : Nat) (b x : Int) (g bw bg : Nat) (w : World) (ha : a < 6) (hg : g < 64) (h1 : w.cell? ⟨bw, 0, none⟩ = some (I x)) (h2 : w.cell? ⟨bg, 0, none⟩ = some (.int .u64 g)) :
    Calls Tryz.prog 66 #[.agg #[I a, I b], .pointer (some ⟨bw, 0, none⟩), .pointer (some ⟨bg, 0, none⟩)] w fun e w' => e = .returned (.bool (decide (b = x) && bitB g a)) ∧ Below w.heap.size w w' := by
  have hbt := bit_small ⟨g, hg⟩ ⟨a, ha⟩
  dsimp only at hbt
  obtain ⟨q, hq⟩ : ∃ q, bitB g a = q := ⟨_, rfl⟩
  rw [hq] at hbt ⊢
  clear hq
  have hai : (0 : Int) ≤ (a : Int) := by omega
  have ha64 : (a : Int) < 64 := by omega
  have hx1 := keep_cell ((Below.refl w.heap.size w).alloc (Nat.le_refl _) (.cells #[I a, I b] 47)) h1
  have hx2 := keep_cell ((Below.refl w.heap.size w).alloc (Nat.le_refl _) (.cells #[I a, I b] 47)) h2
  have hbl := (Below.refl w.heap.size w).alloc (Nat.le_refl _) (.cells #[I a, I b] 47)
  by_cases hbx : b = x
  · subst hbx
    go_enter Tryz.func66, Tryz.ntmps66
    go_wp2_with fail
    go_ret
    exact ⟨by simp, hbl⟩
  · have hbq : (b == x) = false := by simpa using hbx
    go_enter Tryz.func66, Tryz.ntmps66
    go_wp2_with fail
    go_ret
    exact ⟨by simp [hbx], hbl⟩

set_option maxRecDepth 20000 in
set_option maxHeartbeats 1000000 in
theorem mayIx_no (v : Value) (ys : List Sp) (x : Int) (g bw bg : Nat) (w : World) (hr : Sps w v ys) (hy : ∀ y ∈ ys, 0 ≤ y.low ∧ y.low ≤ 5) (hg : g < 64) (h1 : w.cell? ⟨bw, 0, none⟩ = some (I x)) (h2 : w.cell? ⟨bg, 0, none⟩ = some (.int .u64 g)) (hn : ys.any (mayB g x) = false) :
    Calls Tryz.prog 80 #[v, .func (.func 66) #[] #[.pointer (some ⟨bw, 0, none⟩), .pointer (some ⟨bg, 0, none⟩)]] w fun e w' => e = .returned (I (-1)) ∧ Below w.heap.size w w' := by
  obtain ⟨A, c, rfl, hnc, hcm, hc⟩ := hr.open_
  have HC := Lib.hid hc
  have HN := Lib.hid hn
  have HY := Lib.hid hy
  have H1 := Lib.hid h1
  have H2 := Lib.hid h2
  clear hc hn hr hy h1 h2
  go_enter Tryz.func80, Tryz.ntmps80
  go_wp2_with fail
  go_loopw [8] (fun i wr => ∃ k : Nat, k ≤ ys.length ∧ i = I k ∧ Hid (Below w.heap.size w wr)) (fun i _ => ys.length - (intOf i).toNat)
  case atStart => exact ⟨0, by omega, rfl, Lib.hid (Below.refl _ _)⟩
  case round =>
    obtain ⟨k, hk, rfl, hbw⟩ := hrel
    by_cases hlt : k < ys.length
    · have hki : (k : Int) < (ys.length : Int) := by omega
      obtain ⟨b, o, rfl, hbl, hcell⟩ := HC.out (by omega)
      have x0 := keep_cell hbw.out (hcell k hlt).1
      have x1 := keep_cell hbw.out (hcell k hlt).2
      obtain ⟨lo, hi⟩ := HY.out _ (List.getElem_mem hlt)
      obtain ⟨a, ha⟩ := Int.eq_ofNat_of_zero_le lo
      obtain ⟨z, hz⟩ : ∃ z, ys[k].high = z := ⟨_, rfl⟩
      rw [ha] at x0 hi
      rw [hz] at x1
      have ha6 : a < 6 := by omega
      have hb : (decide (z = x) && bitB g a) = false := by
        have := (by simpa using (List.any_eq_false.1 HN.out) _ (List.getElem_mem hlt) : mayB g x ys[k] = false)
        unfold mayB at this
        rw [ha, hz, Int.toNat_natCast] at this
        exact this
      clear hcell hbl lo hi ha hz
      have HBX := Lib.hid hb
      clear hb
      go_wp2_with fail
      refine (may_any a z x g bw bg _ ha6 hg (keep_cell hbw.out H1.out) (keep_cell hbw.out H2.out)).mono ?_
      rintro e w1 ⟨rfl, hb⟩
      rw [HBX.out]
      have hbw := Lib.hid (bto hbw.out hb)
      clear hb x0 x1
      go_wp2_with fail
      go_roundw
      case rel => exact ⟨k + 1, by omega, by go_num, hbw⟩
      case measure => first | (simp [intOf]; done) | (simp [intOf]; omega)
    · go_wp2_with fail
      go_ret
      exact ⟨rfl, hbw.out⟩

set_option maxRecDepth 20000 in
set_option maxHeartbeats 1000000 in
theorem mayIx_yes (v : Value) (ys : List Sp) (x : Int) (g bw bg : Nat) (w : World) (hr : Sps w v ys) (hy : ∀ y ∈ ys, 0 ≤ y.low ∧ y.low ≤ 5) (hg : g < 64) (h1 : w.cell? ⟨bw, 0, none⟩ = some (I x)) (h2 : w.cell? ⟨bg, 0, none⟩ = some (.int .u64 g)) (hn : ys.any (mayB g x) = true) :
    Calls Tryz.prog 80 #[v, .func (.func 66) #[] #[.pointer (some ⟨bw, 0, none⟩), .pointer (some ⟨bg, 0, none⟩)]] w fun e w' => RetIy w e w' := by
  obtain ⟨A, c, rfl, hnc, hcm, hc⟩ := hr.open_
  have HC := Lib.hid hc
  have HN := Lib.hid hn
  have HY := Lib.hid hy
  have H1 := Lib.hid h1
  have H2 := Lib.hid h2
  clear hc hn hr hy h1 h2
  go_enter Tryz.func80, Tryz.ntmps80
  go_wp2_with fail
  go_loopw [8] (fun i wr => ∃ k : Nat, k ≤ ys.length ∧ i = I k ∧ (ys.drop k).any (mayB g x) = true ∧ Hid (Below w.heap.size w wr)) (fun i _ => ys.length - (intOf i).toNat)
  case atStart => exact ⟨0, by omega, rfl, HN.out, Lib.hid (Below.refl _ _)⟩
  case round =>
    obtain ⟨k, hk, rfl, hd, hbw⟩ := hrel
    have hlt : k < ys.length := by
      apply Classical.byContradiction
      intro hge
      rw [List.drop_eq_nil_of_le (by omega)] at hd
      simp at hd
    rw [List.drop_eq_getElem_cons hlt, List.any_cons] at hd
    have HD := Lib.hid hd
    clear hd
    cases hm : mayB g x ys[k]
    · have hki : (k : Int) < (ys.length : Int) := by omega
      obtain ⟨b, o, rfl, hbl, hcell⟩ := HC.out (by omega)
      have x0 := keep_cell hbw.out (hcell k hlt).1
      have x1 := keep_cell hbw.out (hcell k hlt).2
      obtain ⟨lo, hi⟩ := HY.out _ (List.getElem_mem hlt)
      obtain ⟨a, ha⟩ := Int.eq_ofNat_of_zero_le lo
      obtain ⟨z, hz⟩ : ∃ z, ys[k].high = z := ⟨_, rfl⟩
      rw [ha] at x0 hi
      rw [hz] at x1
      have ha6 : a < 6 := by omega
      have hb : (decide (z = x) && bitB g a) = false := by
        have := hm
        unfold mayB at this
        rw [ha, hz, Int.toNat_natCast] at this
        exact this
      clear hcell hbl lo hi ha hz
      have HM := Lib.hid hm
      clear hm
      have HBX := Lib.hid hb
      clear hb
      go_wp2_with fail
      refine (may_any a z x g bw bg _ ha6 hg (keep_cell hbw.out H1.out) (keep_cell hbw.out H2.out)).mono ?_
      rintro e w1 ⟨rfl, hb⟩
      rw [HBX.out]
      have hbw := Lib.hid (bto hbw.out hb)
      clear hb x0 x1
      go_wp2_with fail
      go_roundw
      case rel => exact ⟨k + 1, by omega, by go_num, by have := HD.out; rw [HM.out] at this; simpa using this, hbw⟩
      case measure => first | (simp [intOf]; done) | (simp [intOf]; omega)
    · have hki : (k : Int) < (ys.length : Int) := by omega
      obtain ⟨b, o, rfl, hbl, hcell⟩ := HC.out (by omega)
      have x0 := keep_cell hbw.out (hcell k hlt).1
      have x1 := keep_cell hbw.out (hcell k hlt).2
      obtain ⟨lo, hi⟩ := HY.out _ (List.getElem_mem hlt)
      obtain ⟨a, ha⟩ := Int.eq_ofNat_of_zero_le lo
      obtain ⟨z, hz⟩ : ∃ z, ys[k].high = z := ⟨_, rfl⟩
      rw [ha] at x0 hi
      rw [hz] at x1
      have ha6 : a < 6 := by omega
      have hb : (decide (z = x) && bitB g a) = true := by
        have := hm
        unfold mayB at this
        rw [ha, hz, Int.toNat_natCast] at this
        exact this
      clear hcell hbl lo hi ha hz hm
      have HBX := Lib.hid hb
      clear hb
      go_wp2_with fail
      refine (may_any a z x g bw bg _ ha6 hg (keep_cell hbw.out H1.out) (keep_cell hbw.out H2.out)).mono ?_
      rintro e w1 ⟨rfl, hb⟩
      rw [HBX.out]
      have hbw := Lib.hid (bto hbw.out hb)
      clear hb x0 x1
      go_wp2_with fail
      go_ret
      exact ⟨k, rfl, hbw.out⟩

set_option maxRecDepth 20000 in
set_option maxHeartbeats 800000 in
theorem mayC_any (v : Value) (ys : List Sp) (x : Int) (g bw bg : Nat) (w : World) (hr : Sps w v ys) (hy : ∀ y ∈ ys, 0 ≤ y.low ∧ y.low ≤ 5) (hg : g < 64) (h1 : w.cell? ⟨bw, 0, none⟩ = some (I x)) (h2 : w.cell? ⟨bg, 0, none⟩ = some (.int .u64 g)) :
    Calls Tryz.prog 67 #[v, .func (.func 66) #[] #[.pointer (some ⟨bw, 0, none⟩), .pointer (some ⟨bg, 0, none⟩)]] w fun e w' => e = .returned (.bool (ys.any (mayB g x))) ∧ Below w.heap.size w w' := by
  cases hb : ys.any (mayB g x)
  · go_enter Tryz.func67, Tryz.ntmps67
    go_wp2_with fail
    refine (mayIx_no _ _ _ _ _ _ _ hr hy hg h1 h2 hb).mono ?_
    rintro e w' ⟨rfl, hw⟩
    clear hr hy h1 h2 hb
    go_wp2_with fail
    go_ret
    exact ⟨rfl, hw⟩
  · go_enter Tryz.func67, Tryz.ntmps67
    go_wp2_with fail
    refine (mayIx_yes _ _ _ _ _ _ _ hr hy hg h1 h2 hb).mono ?_
    rintro e w' ⟨k, rfl, hw⟩
    clear hr hy h1 h2 hb
    go_wp2_with fail
    go_ret
    exact ⟨by simp, hw⟩
end Go.Proofs.YtldcehhhndlhdaaGreatDoor
/- Walks: whether a group of houses is short of buckets. -/
namespace Go.Proofs.YtldcehhhndlhdaaGreatDoor
open Go.RowKit Go.Sort Go.Shelf

theorem bit_lt {g n i : Nat} (h : g < 2 ^ n) (hb : bitB g i = true) : i < n := by
  refine Classical.byContradiction fun hn => ?_
  have h1 : g < 2 ^ i := Nat.lt_of_lt_of_le h (Nat.pow_le_pow_right (by omega) (by omega))
  unfold bitB at hb
  rw [Nat.div_eq_of_lt h1] at hb
  simp at hb
theorem mem_listN {g : Nat} {x : Int} (h : x ∈ listN g) : ∃ i : Nat, x = (i : Int) ∧ i < 6 ∧ bitB g i = true := by
  unfold listN at h
  obtain ⟨i, hi, rfl⟩ := List.mem_map.1 h
  obtain ⟨h1, h2⟩ := List.mem_filter.1 hi
  exact ⟨i, rfl, List.mem_range.1 h1, h2⟩
def wantL (t : BTown) (g k : Nat) : Int := (((listN g).take k).map fun h => t.hs.getD h.toNat 0).sum
theorem wantL_zero (t : BTown) (g : Nat) : wantL t g 0 = 0 := rfl
theorem wantL_succ {t : BTown} {g k : Nat} (h : k < (listN g).length) : wantL t g (k + 1) = wantL t g k + t.hs.getD ((listN g)[k]).toNat 0 := by
  unfold wantL
  rw [List.take_add_one, List.getElem?_eq_getElem h, Option.toList_some, List.map_append, List.sum_append]
  simp
def haveL (t : BTown) (g k : Nat) : Int := Bk.sumR k fun x => if t.ys.any (mayB g (x : Int)) = true then t.ws.getD x 0 else 0
theorem haveL_zero (t : BTown) (g : Nat) : haveL t g 0 = 0 := rfl
theorem haveL_yes {t : BTown} {g k : Nat} (h : t.ys.any (mayB g (k : Int)) = true) : haveL t g (k + 1) = haveL t g k + t.ws.getD k 0 := by
  show haveL t g k + (if _ then _ else _) = _
  rw [if_pos h]
theorem haveL_no {t : BTown} {g k : Nat} (h : t.ys.any (mayB g (k : Int)) = false) : haveL t g (k + 1) = haveL t g k := by
  show haveL t g k + (if _ then _ else _) = _
  rw [if_neg (by rw [h]; simp)]
  omega
def shortB (t : BTown) (g : Nat) : Bool := decide (0 < wantL t g (listN g).length - haveL t g t.ws.length)
theorem want_bd {t : BTown} (hv : bVal t = true) {g : Nat} : ∀ k, k ≤ (listN g).length → 0 ≤ wantL t g k ∧ wantL t g k ≤ 9 * k
  | 0, _ => by rw [wantL_zero]; omega
  | k + 1, h => by
    rw [wantL_succ (by omega)]
    have := want_bd hv (g := g) k (by omega)
    have h2 : 0 ≤ t.hs.getD ((listN g)[k]).toNat 0 ∧ t.hs.getD ((listN g)[k]).toNat 0 ≤ 9 := by
      rw [List.getD_eq_getElem?_getD]
      cases e : t.hs[((listN g)[k]).toNat]? with
      | none => simp
      | some y => exact (bVal_spec hv).2.2.1 y (List.mem_of_getElem? e)
    omega
theorem have_bd {t : BTown} (hv : bVal t = true) {g : Nat} : ∀ k, k ≤ t.ws.length → 0 ≤ haveL t g k ∧ haveL t g k ≤ 20 * k
  | 0, _ => by rw [haveL_zero]; omega
  | k + 1, h => by
    have := have_bd hv (g := g) k (by omega)
    have h2 : 0 ≤ t.ws.getD k 0 ∧ t.ws.getD k 0 ≤ 20 := by
      rw [List.getD_eq_getElem?_getD, List.getElem?_eq_getElem (show k < t.ws.length by omega), Option.getD_some]
      exact (bVal_spec hv).2.2.2.1 _ (List.getElem_mem _)
    cases e : t.ys.any (mayB g (k : Int)) with
    | true => rw [haveL_yes e]; omega
    | false => rw [haveL_no e]; omega
theorem listN_len {g : Nat} (h : g < 64) : (listN g).length ≤ 6 := list_len ⟨g, h⟩
theorem ys_bd {t : BTown} (hv : bVal t = true) : ∀ y ∈ t.ys, 0 ≤ y.low ∧ y.low ≤ 5 := fun y hy => by
  obtain ⟨k, hk, rfl⟩ := List.getElem_of_mem hy
  obtain ⟨a, c, e, ha, -⟩ := okY_nat hv hk
  have := (bVal_spec hv).1
  rw [e]
  dsimp only
  omega

set_option maxRecDepth 100000 in
set_option maxHeartbeats 8000000 in
theorem gshort_any (v : Value) (t : BTown) (g : Nat) (w : World) (hv : BAt w v t) (hval : bVal t = true) (hgn : g < 2 ^ t.hs.length) (hT : TzAt w) (_h12 : t.ys.length ≤ 12) :
    Calls Tryz.prog 33 #[.int .u64 g, v] w fun e w' => e = .returned (.bool (shortB t g)) ∧ Below w.heap.size w w' := by
  obtain ⟨hv0, wv, yv, rfl, hh, hw, hy⟩ := hv
  obtain ⟨A1, c1, rfl, -, -, hch⟩ := hh.open_
  obtain ⟨A2, c2, rfl, -, -, hcw⟩ := hw.open_
  obtain ⟨A3, c3, rfl, -, -, -⟩ := id hy.open_
  have hh6 := (bVal_spec hval).1
  have hw5 := (bVal_spec hval).2.1
  have hg64 : g < 64 := Nat.lt_of_lt_of_le hgn (Nat.pow_le_pow_right (by omega) (show t.hs.length ≤ 6 from hh6))
  have hl6 := listN_len hg64
  have HCH := Lib.hid hch
  have HCW := Lib.hid hcw
  have HY := Lib.hid hy
  have HV := Lib.hid hval
  have HT := Lib.hid hT
  have HG := Lib.hid hgn
  have HG64 := Lib.hid hg64
  have S := Lib.hid (((St.init w).alloc [.int .u64 g] 67).alloc [.slice A1 t.hs.length c1, .slice A2 t.ws.length c2, .slice A3 t.ys.length c3] 32)
  clear hh hw hy hch hcw hval hT hgn hg64
  go_enter Tryz.func33, Tryz.ntmps33
  have q0 := S.out.get 1 0 rfl rfl
  go_wp2_with fail
  refine (glist_any g _ HG64.out (HT.out.below S.out.bel)).mono ?_
  rintro e w1 ⟨lv, rfl, ho, hb⟩
  obtain ⟨AL, cL, rfl⟩ := own_shape ho
  replace S := Lib.hid (S.out.take hb ho)
  clear hb ho q0
  go_wp2_with fail
  go_loopw [5, 14] (fun u i wr => ∃ k : Nat, k ≤ (listN g).length ∧ i = I k ∧ u = I (wantL t g k) ∧ Hid (St w wr wr.heap.size [.own 3 1 (.slice AL (listN g).length cL) (listN g).length ((listN g).map I), .box (w.heap.size + 1) [.slice A1 t.hs.length c1, .slice A2 t.ws.length c2, .slice A3 t.ys.length c3], .box w.heap.size [.int .u64 g]])) (fun _ i _ => (listN g).length - (intOf i).toNat)
  case atStart => exact ⟨0, by omega, rfl, rfl, S⟩
  case round =>
    clear S
    obtain ⟨k, hk, rfl, rfl, S⟩ := hrel
    have hbd := want_bd HV.out (g := g) k hk
    by_cases hlt : k < (listN g).length
    · have hki : (k : Int) < ((listN g).length : Int) := by omega
      obtain ⟨i, hi, hi6, hib⟩ := mem_listN (List.getElem_mem hlt)
      have hin : i < t.hs.length := bit_lt HG.out hib
      obtain ⟨b, o, rfl, hbl, hcell⟩ := HCH.out (by omega)
      have x0 := keep_cell S.out.bel (hcell i hin)
      obtain ⟨gL, hgL⟩ := own_some (S.out.own 0 rfl) (by omega)
      subst hgL
      have y0 := own_cell (S.out.own 0 rfl) k (i : Int) (by rw [List.getElem?_eq_getElem hlt, hi])
      have q1 := S.out.get 1 0 rfl rfl
      have hii : (i : Int) < (t.hs.length : Int) := by omega
      have HE := Lib.hid (show wantL t g (k + 1) = wantL t g k + t.hs[i] by
        rw [wantL_succ hlt, hi, Int.toNat_natCast, List.getD_eq_getElem?_getD, List.getElem?_eq_getElem hin, Option.getD_some])
      have hx := (bVal_spec HV.out).2.2.1 _ (List.getElem_mem hin)
      obtain ⟨z, hz⟩ : ∃ z, t.hs[i] = z := ⟨_, rfl⟩
      obtain ⟨s, hs⟩ : ∃ s, wantL t g k = s := ⟨_, rfl⟩
      rw [hz] at x0 hx HE
      rw [hs] at HE hbd ⊢
      clear hi hib hcell hbl hz hs
      have u1 : IntKind.i64.wrap (s + z) = s + z := IntWalk.i64_in _ (by omega)
      go_wp2_with fail
      go_roundw
      case rel => exact ⟨k + 1, by omega, by go_num, by rw [HE.out], S⟩
      case measure => first | (simp [intOf]; done) | (simp [intOf]; omega)
    · obtain rfl : k = (listN g).length := by omega
      obtain ⟨s, hs⟩ : ∃ s, wantL t g (listN g).length = s := ⟨_, rfl⟩
      rw [hs] at hbd ⊢
      have HS := Lib.hid hs
      clear hs hlt
      have q1 := S.out.get 1 1 rfl rfl
      go_wp2_with fail
      clear q1
      obtain ⟨wo, rfl⟩ : ∃ wo : World, wo = wr := ⟨_, rfl⟩
      go_loopw [5, 29] (fun u i wr => ∃ k : Nat, k ≤ t.ws.length ∧ i = I k ∧ u = I (s - haveL t g k) ∧ Hid (St w wr wr.heap.size [.own 3 1 (.slice AL (listN g).length cL) (listN g).length ((listN g).map I), .box (w.heap.size + 1) [.slice A1 t.hs.length c1, .slice A2 t.ws.length c2, .slice A3 t.ys.length c3], .box w.heap.size [.int .u64 g]])) (fun _ i _ => t.ws.length - (intOf i).toNat)
      case atStart => exact ⟨0, by omega, rfl, by rw [haveL_zero, Int.sub_zero], S⟩
      case round =>
        clear S
        obtain ⟨k, hk, rfl, rfl, S⟩ := hrel
        have hbd2 := have_bd HV.out (g := g) k hk
        by_cases hlt : k < t.ws.length
        · have hki : (k : Int) < (t.ws.length : Int) := by omega
          obtain ⟨b, o, rfl, hbl, hcell⟩ := HCW.out (by omega)
          have x0 := keep_cell S.out.bel (hcell k hlt)
          have q1 := S.out.get 1 1 rfl rfl
          have q2 := S.out.get 1 2 rfl rfl
          have hx := (bVal_spec HV.out).2.2.2.1 _ (List.getElem_mem hlt)
          have HE := Lib.hid (show t.ws.getD k 0 = t.ws[k] by rw [List.getD_eq_getElem?_getD, List.getElem?_eq_getElem hlt, Option.getD_some])
          obtain ⟨z, hz⟩ : ∃ z, t.ws[k] = z := ⟨_, rfl⟩
          obtain ⟨m, hm⟩ : ∃ m, haveL t g k = m := ⟨_, rfl⟩
          rw [hz] at x0 hx HE
          rw [hm] at hbd2 ⊢
          have HM := Lib.hid hm
          clear hcell hbl hz hm
          have T := Lib.hid (S.out.alloc [I (k : Nat)] 3)
          have q3 := T.out.get 2 2 rfl rfl
          go_wp2_with fail
          refine (mayC_any _ t.ys (k : Int) g _ _ _ (HY.out.below T.out.bel) (ys_bd HV.out) HG64.out (T.out.get 0 0 rfl rfl) (T.out.get 3 0 rfl rfl)).mono ?_
          rintro e w3 ⟨rfl, hb⟩
          replace T := Lib.hid (T.out.call hb)
          clear hb x0 q1 q2 q3
          have u1 : IntKind.i64.wrap (s - m - z) = s - m - z := IntWalk.i64_in _ (by omega)
          cases hany : t.ys.any (mayB g (k : Int))
          · have HE2 := Lib.hid (haveL_no hany)
            clear hany
            go_wp2_with fail
            go_roundw
            case rel => exact ⟨k + 1, by omega, by go_num, by rw [HE2.out, HM.out], Lib.hid T.out.tail⟩
            case measure => first | (simp [intOf]; done) | (simp [intOf]; omega)
          · have HE2 := Lib.hid (haveL_yes hany)
            clear hany
            go_wp2_with fail
            go_roundw
            case rel => exact ⟨k + 1, by omega, by go_num, by rw [HE2.out, HM.out, HE.out, Int.sub_sub], Lib.hid T.out.tail⟩
            case measure => first | (simp [intOf]; done) | (simp [intOf]; omega)
        · obtain rfl : k = t.ws.length := by omega
          obtain ⟨m, hm⟩ : ∃ m, haveL t g t.ws.length = m := ⟨_, rfl⟩
          rw [hm] at hbd2 ⊢
          have HR := Lib.hid (show shortB t g = decide (m < s) by unfold shortB; rw [HS.out, hm]; exact decide_eq_decide.2 (by omega))
          clear hm hlt
          go_wp2_with fail
          go_ret
          exact ⟨by rw [HR.out]; rfl, S.out.bel⟩
end Go.Proofs.YtldcehhhndlhdaaGreatDoor
/- Walks: Short: the fewest houses that want more than there is for them. -/
namespace Go.Proofs.YtldcehhhndlhdaaGreatDoor
open Go.RowKit Go.Sort Go.Shelf

def betterB (l b : List Int) : Bool := decide (orL [(l.length : Int) - (b.length : Int), cmpLL l b] < 0)
/-- The best group of those with a smaller number. -/
def bestTo (t : BTown) : Nat → Option (List Int)
  | 0 => none
  | g + 1 => if shortB t g = true then (match bestTo t g with | none => some (listN g) | some b => if betterB (listN g) b = true then some (listN g) else some b) else bestTo t g
theorem bestTo_zero (t : BTown) : bestTo t 0 = none := rfl
theorem bestTo_no {t : BTown} {g : Nat} (h : shortB t g = false) : bestTo t (g + 1) = bestTo t g := by
  show (if _ then _ else _) = _
  rw [if_neg (by rw [h]; simp)]
theorem bestTo_first {t : BTown} {g : Nat} (h : shortB t g = true) (hb : bestTo t g = none) : bestTo t (g + 1) = some (listN g) := by
  show (if _ then _ else _) = _
  rw [if_pos h, hb]
theorem bestTo_yes {t : BTown} {g : Nat} {b : List Int} (h : shortB t g = true) (hb : bestTo t g = some b) (hx : betterB (listN g) b = true) : bestTo t (g + 1) = some (listN g) := by
  show (if _ then _ else _) = _
  rw [if_pos h, hb]
  show (if _ then _ else _) = _
  rw [if_pos hx]
theorem bestTo_keep {t : BTown} {g : Nat} {b : List Int} (h : shortB t g = true) (hb : bestTo t g = some b) (hx : betterB (listN g) b = false) : bestTo t (g + 1) = some b := by
  show (if _ then _ else _) = _
  rw [if_pos h, hb]
  show (if _ then _ else _) = _
  rw [if_neg (by rw [hx]; simp)]
theorem short_some {t : BTown} (hv : bVal t = true) {g : Nat} (h : shortB t g = true) : 0 < (listN g).length := by
  refine Nat.pos_of_ne_zero fun h0 => ?_
  unfold shortB at h
  rw [h0, wantL_zero] at h
  have := (have_bd hv (g := g) t.ws.length (Nat.le_refl _)).1
  have := of_decide_eq_true h
  omega
/-- What stands in the place of the best group. -/
def BestV (w : World) (o : Option (List Int)) (v : Value) : Prop :=
  match o with
  | none => v = .slice none 0 0
  | some b => b.length ≤ 6 ∧ ∃ B c, v = .slice (some ⟨B, 0, none⟩) b.length c ∧ Ints w v b
theorem BestV.below {w w' : World} {o : Option (List Int)} {v : Value} (h : BestV w o v) (hb : Below w.heap.size w w') : BestV w' o v := by
  cases o with
  | none => exact h
  | some b =>
    obtain ⟨hl, B, c, e, hi⟩ := h
    exact ⟨hl, B, c, e, hi.below hb⟩
def RetShort (o : Option (List Int)) (w : World) (e : Ending) (w' : World) : Prop := (∃ v, e = .returned (.tuple #[v, I (if o.isNone = true then 3 else 0)]) ∧ BestV w' o v) ∧ Below w.heap.size w w'

set_option maxRecDepth 100000 in
set_option maxHeartbeats 8000000 in
theorem short_any (v : Value) (t : BTown) (w : World) (hv : BAt w v t) (hval : bVal t = true) (h12 : t.ys.length ≤ 12) (hT : TzAt w) :
    Calls Tryz.prog 12 #[v] w fun e w' => RetShort (bestTo t (2 ^ t.hs.length)) w e w' := by
  have HB0 := Lib.hid hv
  obtain ⟨hv0, wv, yv, rfl, hh, hw, hy⟩ := hv
  obtain ⟨A1, c1, rfl, -, -, -⟩ := id hh.open_
  obtain ⟨A2, c2, rfl, -, -, -⟩ := id hw.open_
  obtain ⟨A3, c3, rfl, -, -, -⟩ := id hy.open_
  have hh6 := (bVal_spec hval).1
  have HV := Lib.hid hval
  have H12 := Lib.hid h12
  have HT := Lib.hid hT
  have HCK := Lib.hid (show bChk t = 0 by unfold bChk bValid; rw [hval]; simp [h12])
  have S := Lib.hid ((St.init w).alloc [.slice A1 t.hs.length c1, .slice A2 t.ws.length c2, .slice A3 t.ys.length c3] 32)
  clear hh hw hy hval hT h12
  go_enter Tryz.func12, Tryz.ntmps12
  have q0 := S.out.get 0 0 rfl rfl
  have q1 := S.out.get 0 1 rfl rfl
  have q2 := S.out.get 0 2 rfl rfl
  go_wp2_with fail
  refine (kCheck_any _ t _ (HB0.out.below S.out.bel)).mono ?_
  rintro e w1 ⟨rfl, hb⟩
  rw [HCK.out]
  replace S := Lib.hid (S.out.call hb)
  clear hb q0 q1 q2
  have hn6 : (t.hs.length : Int) ≤ 6 := by omega
  have hn0 : (0 : Int) ≤ (t.hs.length : Int) := by omega
  have q0 := S.out.get 0 0 rfl rfl
  go_wp2_with fail
  clear q0
  obtain ⟨M, hM⟩ : ∃ M : Nat, 2 ^ t.hs.length = M := ⟨_, rfl⟩
  have hM64 : M ≤ 64 := by rw [← hM]; exact Nat.pow_le_pow_right (by omega) hh6
  have u0 : IntKind.u64.wrap (2 ^ t.hs.length) = (M : Int) := by
    have e : ((2 : Int) ^ t.hs.length) = ((2 ^ t.hs.length : Nat) : Int) := by rw [Int.natCast_pow]; rfl
    rw [e, hM]
    exact IntWalk.u64_in _ (by omega)
  have HM := Lib.hid hM
  rw [u0]
  clear hM u0
  go_loopw [5, 17] (fun v i wr => ∃ k : Nat, k ≤ M ∧ i = .int .u64 (k : Nat) ∧ Hid (BestV wr (bestTo t k) v) ∧ Hid (St w wr wr.heap.size [.box w.heap.size [.slice A1 t.hs.length c1, .slice A2 t.ws.length c2, .slice A3 t.ys.length c3]])) (fun _ i _ => M - (intOf i).toNat)
  case atStart => exact ⟨0, by omega, rfl, Lib.hid (show BestV _ none _ from rfl), S⟩
  case round =>
    clear S
    obtain ⟨k, hk, rfl, HBV, S⟩ := hrel
    by_cases hlt : k < M
    · have hki : (k : Int) < (M : Int) := by omega
      have uk : IntKind.u64.wrap ((k : Int) + 1) = (k : Int) + 1 := IntWalk.u64_in _ (by omega)
      go_wp2_with fail
      refine (glist_any k _ (by omega) (HT.out.below S.out.bel)).mono ?_
      rintro e w2 ⟨lv, rfl, ho, hb⟩
      obtain ⟨AL, cL, rfl⟩ := own_shape ho
      replace HBV := Lib.hid (HBV.out.below hb)
      replace S := Lib.hid (S.out.take hb ho)
      clear hb ho
      have q0 := S.out.get 1 0 rfl rfl
      have q1 := S.out.get 1 1 rfl rfl
      have q2 := S.out.get 1 2 rfl rfl
      go_wp2_with fail
      refine (gshort_any _ t k _ (HB0.out.below S.out.bel) HV.out (by rw [HM.out]; exact hlt) (HT.out.below S.out.bel) H12.out).mono ?_
      rintro e w3 ⟨rfl, hb⟩
      replace HBV := Lib.hid (HBV.out.below hb)
      replace S := Lib.hid (S.out.call hb)
      clear hb q0 q1 q2
      cases hs : shortB t k
      · have HE := Lib.hid (bestTo_no hs)
        clear hs
        go_wp2_with fail
        go_roundw
        case rel => exact ⟨k + 1, by omega, by go_num, Lib.hid (by rw [HE.out]; exact HBV.out), Lib.hid S.out.tail⟩
        case measure => first | (simp [intOf]; done) | (simp [intOf]; omega)
      · have hl0 := short_some HV.out hs
        have hl6 := listN_len (show k < 64 by omega)
        obtain ⟨gL, hgL⟩ := own_some (S.out.own 0 rfl) hl0
        subst hgL
        have HS := Lib.hid hs
        clear hs
        cases hbt : bestTo t k with
        | none =>
          have HE := Lib.hid (bestTo_first HS.out hbt)
          rw [hbt] at HBV
          have hv := HBV.out
          unfold BestV at hv
          subst hv
          clear hbt HBV
          have hq := fun w => run_eql_slice_nil (P := Tryz.prog) w 22 3 none 0 0 Tryz.underlying22
          go_wp2_with fail
          go_roundw
          case rel => exact ⟨k + 1, by omega, by go_num, Lib.hid (by rw [HE.out]; exact ⟨hl6, gL, cL, rfl, S.out.ints 0 rfl⟩), Lib.hid S.out.tail⟩
          case measure => first | (simp [intOf]; done) | (simp [intOf]; omega)
        | some b =>
          rw [hbt] at HBV
          obtain ⟨hb6, B, cB, rfl, hbi⟩ := HBV.out
          have HBI := Lib.hid hbi
          have HBT := Lib.hid hbt
          clear hbt hbi HBV
          have hq := fun w => run_eql_slice_nil (P := Tryz.prog) w 22 3 (some ⟨B, 0, none⟩) b.length cB Tryz.underlying22
          have u1 : IntKind.i64.wrap (((listN k).length : Int) - (b.length : Int)) = ((listN k).length : Int) - (b.length : Int) := IntWalk.i64_in _ (by omega)
          go_wp2_with fail
          refine (compareL_any _ _ (listN k) b _ (S.out.ints 0 rfl) HBI.out (by omega) (by omega)).mono ?_
          rintro e w4 ⟨rfl, hb⟩
          replace HBI := Lib.hid (HBI.out.below hb)
          replace S := Lib.hid (S.out.call hb)
          clear hb
          obtain ⟨z, hz⟩ : ∃ z, cmpLL (listN k) b = z := ⟨_, rfl⟩
          have HZ := Lib.hid hz
          rw [hz]
          clear hz
          have T := Lib.hid (S.out.alloc [I (((listN k).length : Int) - (b.length : Int)), I z] 3)
          go_wp2_with fail
          refine (or_any _ [((listN k).length : Int) - (b.length : Int), z] _ (T.out.boxReads 0 rfl rfl (by simp))).mono ?_
          rintro e w5 ⟨rfl, hb⟩
          replace HBI := Lib.hid ((HBI.out.below ((Below.refl _ _).alloc (Nat.le_refl _) _)).below hb)
          replace S := Lib.hid (T.out.call hb)
          clear hb T
          obtain ⟨q, hq2⟩ : ∃ q, orL [((listN k).length : Int) - (b.length : Int), z] = q := ⟨_, rfl⟩
          have HQ := Lib.hid (show betterB (listN k) b = decide (q < 0) by unfold betterB; rw [HZ.out, hq2])
          rw [hq2]
          clear hq2
          by_cases hq0 : q < 0
          · have HE := Lib.hid (bestTo_yes HS.out HBT.out (by rw [HQ.out]; exact decide_eq_true hq0))
            go_wp2_with fail
            go_roundw
            case rel => exact ⟨k + 1, by omega, by go_num, Lib.hid (by rw [HE.out]; exact ⟨hl6, gL, cL, rfl, S.out.ints 1 rfl⟩), Lib.hid S.out.tail.tail⟩
            case measure => first | (simp [intOf]; done) | (simp [intOf]; omega)
          · have HE := Lib.hid (bestTo_keep HS.out HBT.out (by rw [HQ.out]; exact decide_eq_false hq0))
            have hq1 : 0 ≤ q := by omega
            clear hq0
            go_wp2_with fail
            go_roundw
            case rel => exact ⟨k + 1, by omega, by go_num, Lib.hid (by rw [HE.out]; exact ⟨hb6, B, cB, rfl, HBI.out⟩), Lib.hid S.out.tail.tail⟩
            case measure => first | (simp [intOf]; done) | (simp [intOf]; omega)
    · obtain rfl : k = M := by omega
      cases hbt : bestTo t k with
      | none =>
        rw [hbt] at HBV
        have hv := HBV.out
        unfold BestV at hv
        subst hv
        have HE := Lib.hid (show bestTo t (2 ^ t.hs.length) = none by rw [HM.out]; exact hbt)
        clear hbt HBV hlt
        have hq := fun w => run_eql_slice_nil (P := Tryz.prog) w 22 3 none 0 0 Tryz.underlying22
        go_wp2_with fail
        refine bodyPost_ret (v := .tuple #[.slice none 0 0, I 3]) (by simp [results, go_sem]) rfl ?_
        rw [HE.out]
        exact ⟨⟨_, rfl, rfl⟩, S.out.bel⟩
      | some b =>
        rw [hbt] at HBV
        obtain ⟨hb6, B, cB, rfl, hbi⟩ := HBV.out
        have HBI := Lib.hid hbi
        have HE := Lib.hid (show bestTo t (2 ^ t.hs.length) = some b by rw [HM.out]; exact hbt)
        clear hbt hbi HBV hlt
        have hq := fun w => run_eql_slice_nil (P := Tryz.prog) w 22 3 (some ⟨B, 0, none⟩) b.length cB Tryz.underlying22
        go_wp2_with fail
        refine bodyPost_ret (v := .tuple #[.slice (some ⟨B, 0, none⟩) b.length cB, I 0]) (by simp [results, go_sem]) rfl ?_
        rw [HE.out]
        exact ⟨⟨_, rfl, hb6, B, cB, rfl, HBI.out⟩, S.out.bel⟩
end Go.Proofs.YtldcehhhndlhdaaGreatDoor
/- Readings of streets and rosters in memory. Plain; no conditions. -/
namespace Go.Proofs.YtldcehhhndlhdaaGreatDoor.Hr
open Go.RowKit

def Str.cells (s : Str) : List Value := [I s.has, I s.frm, I s.to, I s.cost]
def strCells (ss : List Str) : List Value := ss.flatMap Str.cells
theorem strCells_length (ss : List Str) : (strCells ss).length = ss.length * 4 := by
  induction ss with
  | nil => rfl
  | cons p ps ih => simp [strCells, Str.cells] at ih ⊢; omega
theorem strCells_at : ∀ (ss : List Str) (i : Nat) (h : i < ss.length), (strCells ss)[i * 4]? = some (I ss[i].has) ∧ (strCells ss)[i * 4 + 1]? = some (I ss[i].frm) ∧ (strCells ss)[i * 4 + 2]? = some (I ss[i].to) ∧ (strCells ss)[i * 4 + 3]? = some (I ss[i].cost)
  | [], i, h => absurd h (by simp)
  | s :: ss, 0, _ => ⟨rfl, rfl, rfl, rfl⟩
  | s :: ss, i + 1, h => by
    have := strCells_at ss i (by simpa using h)
    have e : strCells (s :: ss) = I s.has :: I s.frm :: I s.to :: I s.cost :: strCells ss := rfl
    rw [e, show (i + 1) * 4 = i * 4 + 4 from by omega]
    simpa using this

def Strs (w : World) (v : Value) (ss : List Str) : Prop := Reads w 4 v ss.length (strCells ss)
theorem Strs.below {w w' : World} {v : Value} {ss : List Str} (h : Strs w v ss) (hb : Below w.heap.size w w') : Strs w' v ss := Reads.below h hb
theorem Strs.open_ {w : World} {v : Value} {ss : List Str} (h : Strs w v ss) :
    ∃ A c, v = .slice A ss.length c ∧ ss.length ≤ c ∧ c ≤ 9223372036854775807 ∧ (0 < ss.length → ∃ b o, A = some ⟨b, o, none⟩ ∧ b < w.heap.size ∧
      ∀ j (hj : j < ss.length), w.cell? ⟨b, o + j * 4, none⟩ = some (I ss[j].has) ∧ w.cell? ⟨b, o + j * 4 + 1, none⟩ = some (I ss[j].frm) ∧ w.cell? ⟨b, o + j * 4 + 2, none⟩ = some (I ss[j].to) ∧ w.cell? ⟨b, o + j * 4 + 3, none⟩ = some (I ss[j].cost)) := by
  obtain ⟨h1, A, c, h2, h3, h4, h5⟩ := h
  refine ⟨A, c, h2, h3, h4, fun hn => ?_⟩
  obtain ⟨b, o, h6, h7⟩ := h5 hn
  have hc : ∀ j (hj : j < ss.length), w.cell? ⟨b, o + j * 4, none⟩ = some (I ss[j].has) ∧ w.cell? ⟨b, o + j * 4 + 1, none⟩ = some (I ss[j].frm) ∧ w.cell? ⟨b, o + j * 4 + 2, none⟩ = some (I ss[j].to) ∧ w.cell? ⟨b, o + j * 4 + 3, none⟩ = some (I ss[j].cost) := fun j hj => by
    obtain ⟨e1, e2, e3, e4⟩ := strCells_at ss j hj
    exact ⟨h7 _ _ e1, by have := h7 _ _ e2; simpa [Nat.add_assoc] using this, by have := h7 _ _ e3; simpa [Nat.add_assoc] using this, by have := h7 _ _ e4; simpa [Nat.add_assoc] using this⟩
  exact ⟨b, o, h6, World.block_lt_of_cell? w _ (hc 0 hn).1, hc⟩

def RosAt (w : World) (v : Value) (r : Ros) : Prop := ∃ rv sv, v = .agg #[rv, sv] ∧ Ints w rv r.room ∧ Strs w sv r.strs
theorem RosAt.below {w w' : World} {v : Value} {r : Ros} (h : RosAt w v r) (hb : Below w.heap.size w w') : RosAt w' v r := by
  obtain ⟨rv, sv, h1, h2, h3⟩ := h
  exact ⟨rv, sv, h1, h2.below hb, h3.below hb⟩
/-- A street's value. -/
abbrev Str.val (s : Str) : Value := .agg #[I s.has, I s.frm, I s.to, I s.cost]
end Go.Proofs.YtldcehhhndlhdaaGreatDoor.Hr

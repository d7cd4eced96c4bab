/- Walk of the reference's One. -/
import Derived.Test.YtldcehhhndlhdaaC14
import Derived.Test.YtldcehhhndlhdaaC15
import Derived.Test.YtldcehhhndlhdaaC2
import Derived.Deep.LoopGhost
import Derived.Test.YtldcehhhndlhdaaC13
import Derived.Test.YtldcehhhndlhdaaC12
import Derived.Test.YtldcehhhndlhdaaC8
namespace Go.Proofs.Ytldcehhhndlhdaa
open Go.RowKit Go.Sort

theorem Box2.grown {w w' : World} {B : Nat} {u0 u1 : Value} {row : Option Nat} (h : Box2 w B u0 u1) (hg : w.grownBy w' row) (hr : row ≠ some B) : Box2 w' B u0 u1 := by
  have e := hg.block B h.lt (fun e => hr e.symm)
  exact ⟨by rw [World.cell?_of_block e]; exact h.c0, by rw [World.cell?_of_block e]; exact h.c1, by rw [World.frozen?_of_block e]; exact h.f0, by rw [World.frozen?_of_block e]; exact h.f1⟩
def hiA (d : DLine) (k : Nat) : List Int := (List.range k).map fun i => hiPre d.pts (i + 1)
theorem hiA_len (d : DLine) (k : Nat) : (hiA d k).length = k := by simp [hiA]
theorem hiA_succ (d : DLine) (k : Nat) : hiA d (k + 1) = hiA d k ++ [hiPre d.pts (k + 1)] := by simp [hiA, List.range_succ]
theorem hiA_get (d : DLine) (k i : Nat) (h : i < k) : (hiA d k)[i]? = some (hiPre d.pts (i + 1)) := by simp [hiA, h]
set_option maxRecDepth 20000 in
set_option maxHeartbeats 2000000 in
theorem one_any (v : Value) (d : DLine) (w : World) (hv : LineAt w v d) (hvd : valid d = true) :
    Calls Try.prog 15 #[v] w fun e w' => e = .returned (.bool (oneB d)) ∧ Below w.heap.size w w' := by
  obtain ⟨i0, hi, hz0, hz1, hz2⟩ := info_parts Try.info3
  have HV := Lib.hid hv
  obtain ⟨pv, ov, rfl, hp, ho⟩ := hv
  obtain ⟨A, c, rfl, hac, hcm, ha⟩ := hp.open_
  have hn7 := (valid_spec hvd).1
  have hpn := (valid_spec hvd).2.1
  have hn : d.pts.length ≤ 8 := by omega
  have HVD := Lib.hid hvd
  have hb0 : ∀ x, Below w.heap.size w (w.alloc x) := fun x => (Below.refl _ _).alloc (Nat.le_refl _) _
  have HA := Lib.hid ha
  have B0 := Box2.new w (.slice A d.pts.length c) ov 25
  have HB0 := Lib.hid B0
  have HBW := Lib.hid (hb0 (.cells #[.slice A d.pts.length c, ov] 25))
  clear hp ho ha hpn hvd hn7
  obtain ⟨x0, x1, x2, x3⟩ := B0
  go_enter Try.func15, Try.ntmps15
  go_wp2_with fail
  go_loopw [3, 4] (fun out i wr => ∃ (k : Nat) (Ao : Option Addr) (co : Nat), k ≤ d.pts.length ∧ i = I k ∧ out = .slice Ao k co ∧ wr.ownsRow (w.heap.size + 1) 3 1 (.slice Ao k co) k ((hiA d k).map I) ∧ Hid (Box2 wr w.heap.size (.slice A d.pts.length c) ov) ∧ Hid (Below w.heap.size w wr)) (fun _ i _ => d.pts.length - (intOf i).toNat)
  case atStart => exact ⟨0, none, 0, by omega, rfl, rfl, World.ownsRow_nil _ _ _ _, HB0, HBW⟩
  case round =>
    clear x0 x1 x2 x3 HB0 HBW
    obtain ⟨k, Ao, co, hk, rfl, rfl, hown, HB, HW⟩ := hrel
    have hsz := HB.out.lt
    obtain ⟨x0, x1, x2, x3⟩ := id HB.out
    by_cases hlt : k < d.pts.length
    · obtain ⟨b, o, rfl, hbl, hcell⟩ := HA.out (by omega)
      have y1 := keep_cell HW.out (hcell k hlt).2.1
      have hbr := World.block_lt_of_cell? wr _ y1
      have HS := Lib.hid (hiPre_succ d.pts k hlt)
      have HBD := Lib.hid (hiPre_bd HVD.out k)
      have HPT := Lib.hid ((valid_spec HVD.out).2.2.1 _ (List.getElem_mem hlt))
      have HGR := Lib.hid (hiA_succ d k)
      by_cases hk0 : 0 < k
      · obtain ⟨g, cap, hsl, hg1, hg2⟩ := own_shape_pos hown hk0
        obtain ⟨rfl, -, rfl⟩ := slice_inj hsl
        have z0 := own_cell hown (k - 1) _ (hiA_get d k (k - 1) (by omega))
        rw [show k - 1 + 1 = k by omega] at z0
        have i0' : IntKind.i64.wrap ((k : Int) - 1) = ((k - 1 : Nat) : Int) := by rw [IntWalk.i64_in _ (by omega)]; omega
        have i1 : ((k : Int) - 1).toNat = k - 1 := by omega
        clear hcell
        by_cases hm : d.pts[k].hi ≤ hiPre d.pts k
        · have HE := Lib.hid (show hiPre d.pts (k + 1) = d.pts[k].hi by rw [HS.out]; omega)
          go_wp2_with (at_builtin; refine wpList_append_own _ rfl _ _ 23 rfl (w.heap.size + 1) 3 i0 (.int .i64 0) 1 8 Try.underlying23 hi hz0 hz1 hz2 rfl (by decide) _ _ _ rfl (hown.alloc _) ⟨wr.heap.size, 0, none⟩ 1 1 [I d.pts[k].hi] rfl rfl (cell_one_new _ _ _) (by simp [Value.oneCell']) (by simp only [maxLen]; omega) (by omega) (by simp; omega) ?_; intro v' w4 hown' hgrow _; obtain ⟨A1, c1, rfl⟩ := own_shape hown')
          go_roundw
          case rel => exact ⟨k + 1, _, _, by omega, by go_num, rfl, by rw [HGR.out, HE.out]; simpa using hown', Lib.hid ((HB.out.old _).grown hgrow (by
            intro e; have := (hown.lt _ e).1; omega)), Lib.hid ((HW.out.alloc HW.out.size _).grown hgrow (by have := HW.out.size; simp; omega) (fun k hk => by have := (hown.lt k hk).1; omega))⟩
          case measure => simp [intOf]; omega
        · have HE := Lib.hid (show hiPre d.pts (k + 1) = hiPre d.pts k by rw [HS.out]; omega)
          go_wp2_with (at_builtin; refine wpList_append_own _ rfl _ _ 23 rfl (w.heap.size + 1) 3 i0 (.int .i64 0) 1 8 Try.underlying23 hi hz0 hz1 hz2 rfl (by decide) _ _ _ rfl (hown.alloc _) ⟨wr.heap.size, 0, none⟩ 1 1 [I (hiPre d.pts k)] rfl rfl (cell_one_new _ _ _) (by simp [Value.oneCell']) (by simp only [maxLen]; omega) (by omega) (by simp; omega) ?_; intro v' w4 hown' hgrow _; obtain ⟨A1, c1, rfl⟩ := own_shape hown')
          go_roundw
          case rel => exact ⟨k + 1, _, _, by omega, by go_num, rfl, by rw [HGR.out, HE.out]; simpa using hown', Lib.hid ((HB.out.old _).grown hgrow (by
            intro e; have := (hown.lt _ e).1; omega)), Lib.hid ((HW.out.alloc HW.out.size _).grown hgrow (by have := HW.out.size; simp; omega) (fun k hk => by have := (hown.lt k hk).1; omega))⟩
          case measure => simp [intOf]; omega
      · have hk00 : k = 0 := by omega
        have HE := Lib.hid (show hiPre d.pts (k + 1) = d.pts[k].hi by
          have h1 := HPT.out
          have e : hiPre d.pts k = 99 := by rw [hk00]; rfl
          rw [HS.out, e]; omega)
        clear hcell hk00
        go_wp2_with (at_builtin; refine wpList_append_own _ rfl _ _ 23 rfl (w.heap.size + 1) 3 i0 (.int .i64 0) 1 8 Try.underlying23 hi hz0 hz1 hz2 rfl (by decide) _ _ _ rfl (hown.alloc _) ⟨wr.heap.size, 0, none⟩ 1 1 [I d.pts[k].hi] rfl rfl (cell_one_new _ _ _) (by simp [Value.oneCell']) (by simp only [maxLen]; omega) (by omega) (by simp; omega) ?_; intro v' w4 hown' hgrow _; obtain ⟨A1, c1, rfl⟩ := own_shape hown')
        go_roundw
        case rel => exact ⟨k + 1, _, _, by omega, by go_num, rfl, by rw [HGR.out, HE.out]; simpa using hown', Lib.hid ((HB.out.old _).grown hgrow (by
            intro e; have := (hown.lt _ e).1; omega)), Lib.hid ((HW.out.alloc HW.out.size _).grown hgrow (by have := HW.out.size; simp; omega) (fun k hk => by have := (hown.lt k hk).1; omega))⟩
        case measure => simp [intOf]; omega
    · obtain rfl : k = d.pts.length := by omega
      have HI := Lib.hid (show Ints wr (.slice Ao d.pts.length co) (hiL d) by
        have h := Ints.of_own hown
        exact h)
      clear hown
      go_wp2_with (go_at_call 9; refine (isTruth_any _ _ d (hiL d) _ (HV.out.below HW.out) HI.out (by omega) (by simp [hiL]; omega)).mono ?_; rintro e w' ⟨rfl, hb⟩)
      go_ret
      exact ⟨rfl, bto HW.out hb⟩
end Go.Proofs.Ytldcehhhndlhdaa
/- Walks of the reference's Set and can. -/
namespace Go.Proofs.Ytldcehhhndlhdaa
open Go.RowKit Go.Sort

theorem ptCells_setFlow : ∀ (ps : List Pt) (i : Nat) (lo hi : Int), i < ps.length → ((ptCells ps).set (i * 3) (I lo)).set (i * 3 + 1) (I hi) = ptCells (ps.modify i fun x => { x with lo := lo, hi := hi })
  | [], i, _, _, h => absurd h (by simp)
  | p :: ps, 0, lo, hi, _ => by simp [ptCells, Pt.cells]
  | p :: ps, i + 1, lo, hi, h => by
    have ih := ptCells_setFlow ps i lo hi (by simpa using h)
    have e : ptCells (p :: ps) = I p.lo :: I p.hi :: I p.cost :: ptCells ps := rfl
    rw [e, show (i + 1) * 3 + 1 = (i * 3 + 1) + 3 from by omega, show (i + 1) * 3 = i * 3 + 3 from by omega]
    simp only [List.set_cons_succ, List.modify_succ_cons]
    rw [ih]
    rfl
theorem OwnAt.flow {w : World} {base g cap : Nat} {ov : Value} {d : DLine} (h : OwnAt w base g cap ov d) (p : Nat) (lo hi : Int) (hp : p < d.pts.length) :
    OwnAt ((w.setCell ⟨g, p * 3, none⟩ (I lo)).setCell ⟨g, p * 3 + 1, none⟩ (I hi)) base g cap ov (setFlow d p lo hi) := by
  have a1 := (h.pts.stored (p * 3) (I lo)).1
  have a2 := (a1.stored (p * 3 + 1) (I hi)).1
  rw [ptCells_setFlow _ _ _ _ hp] at a2
  have n1 := own_ne h.pts h.odds (by decide) (g := g) rfl
  refine ⟨by simpa [setFlow] using a2, ?_⟩
  exact own_setOther (own_setOther h.odds _ _ n1) _ _ n1

end Go.Proofs.Ytldcehhhndlhdaa
/- Walk of the reference's flowOf. -/
namespace Go.Proofs.Ytldcehhhndlhdaa
open Go.RowKit Go.Sort

theorem Box2.set1 {w : World} {B : Nat} {u0 u1 : Value} (h : Box2 w B u0 u1) (u : Value) : Box2 (w.setCell ⟨B, 1, none⟩ u) B u0 u :=
  ⟨by rw [World.cell?_setCell_other _ _ _ _ (by simp)]; exact h.c0, World.cell?_setCell_same _ _ _ h.c1, by simpa [go_sem] using h.f0, by simpa [go_sem] using h.f1⟩

end Go.Proofs.Ytldcehhhndlhdaa
/- Walks of the reference's worst, OddsOf, ask, Worst. -/
namespace Go.Proofs.Ytldcehhhndlhdaa
open Go.RowKit Go.Sort

theorem argmin_succ (g : Nat → Int) (f k : Nat) : argmin g f (k + 1) = if (argmin g f k).2 = 0 ∨ g (f + k + 1) < (argmin g f k).1 then (g (f + k + 1), f + k + 1) else argmin g f k := rfl
theorem tabG_worst (d : DLine) (f t p : Nat) (h1 : f < p) (h2 : p < t) : tabG (worstP d) (t - f) f p = costAt d p + max (worstN d f p) (worstN d p t) := by
  unfold tabG worstN worstP
  rw [show f + (t - f) - p = t - p by omega]
theorem worstN_eq (d : DLine) (f t : Nat) : worstN d f t = (argmin (tabG (worstP d) (t - f) f) f (t - f - 1)).1 := by
  unfold worstN
  rw [tab_eq]

end Go.Proofs.Ytldcehhhndlhdaa
/- Walks of the reference's known, Flow, lossOf. -/
namespace Go.Proofs.Ytldcehhhndlhdaa
open Go.RowKit Go.Sort

theorem flowsR_ask {d : DLine} {is : Bool} (h : askE d is ≠ 0) : flowsR d is = ([], askE d is) := by unfold flowsR; rw [if_neg h]
theorem flowsR_none {d : DLine} {is : Bool} (h : askE d is = 0) (hc : oneB d = false) : flowsR d is = ([], 3) := by
  unfold flowsR
  rw [oneB_clash (askE_ok h).1] at hc
  rw [if_pos h, if_pos (by cases hx : clashO d <;> simp [hx] at hc ⊢)]
theorem flowsR_one {d : DLine} {is : Bool} (h : askE d is = 0) (hc : oneB d = true) : flowsR d is = (flowsL d, 0) := by
  unfold flowsR
  rw [oneB_clash (askE_ok h).1] at hc
  rw [if_pos h, if_neg (by cases hx : clashO d <;> simp [hx] at hc ⊢)]
theorem flowsR_calm {d : DLine} {is : Bool} (h : (flowsR d is).2 = 0) : calm d.pts := (clash_none d).1 (flowsR_bd h).2.2.2

def lossP (d : DLine) (f t : Nat) : Int × Int := if f = t then (0, 0) else (max 0 (loSuf d.pts f - hiPre d.pts (t + 1)), hiPre d.pts (f + 1) - loSuf d.pts t)
theorem lostF_lossP (d : DLine) (f t : Nat) (hf : f < d.pts.length) (ht : t < d.pts.length) : lostF (flowsL d) f t = lossP d f t := by
  unfold lostF lossP
  have e : ∀ i, i < d.pts.length → (flowsL d).getD i (0, 0) = flowAt d i := fun i hi => by simp [flowsL, List.getD, hi]
  rw [e f hf, e t ht]; rfl
/-- What a round of 'lossOf' adds. -/
theorem loss_round {d : DLine} (hv : valid d = true) (hc : calm d.pts) (f t : Nat) (hft : f ≤ t) (ht : t < d.pts.length) (n : Int) (h0 : loSuf d.pts f ≤ n) (h1 : n ≤ hiPre d.pts (f + 1)) :
    ∃ a b M X : Int, flowAt (setFlow d f n n) t = (a, b) ∧ (0 ≤ a ∧ a ≤ 99 ∧ 0 ≤ b ∧ b ≤ 99) ∧ M ≤ n - b ∧ (n = loSuf d.pts f → M = n - b) ∧ X = n - a ∧ M = (if f = t then 0 else max 0 (loSuf d.pts f - hiPre d.pts (t + 1))) ∧ X = (if f = t then 0 else n - loSuf d.pts t) := by
  have b1 := loSuf_bd hv (d.pts.length - f) f (by omega)
  have b2 := hiPre_bd hv (f + 1)
  have b3 := loSuf_bd hv (d.pts.length - t) t (by omega)
  have b4 := hiPre_bd hv (t + 1)
  by_cases e : f = t
  · subst e
    refine ⟨n, n, 0, 0, flow_self hv hc f ht n h0 h1, by omega, by omega, by omega, by omega, by rw [if_pos rfl], by rw [if_pos rfl]⟩
  · refine ⟨loSuf d.pts t, min n (hiPre d.pts (t + 1)), _, _, flow_setFlow f t (by omega) ht n h0 h1, by omega, ?_, ?_, ?_, rfl, rfl⟩
    · rw [if_neg e]; omega
    · intro h; rw [if_neg e]; omega
    · rw [if_neg e]
end Go.Proofs.Ytldcehhhndlhdaa
/- Walk of the reference's lossOf. -/
namespace Go.Proofs.Ytldcehhhndlhdaa
open Go.RowKit Go.Sort

end Go.Proofs.Ytldcehhhndlhdaa
/- Walks of Lossy and Clash. -/
namespace Go.Proofs.Ytldcehhhndlhdaa
open Go.RowKit Go.Sort

def lossyOf (s : (Int × Int) × Int) : Int × Int := if s.2 = 0 then (if 0 < s.1.1 then (1, 0) else if s.1.2 = 0 then (2, 0) else (3, 0)) else (0, s.2)
def lossyR (d : DLine) (p : Int) : Int × Int := lossyOf (lossR d p)
end Go.Proofs.Ytldcehhhndlhdaa
/- Walks of the reference's Loss, Lossy, Whole. -/
namespace Go.Proofs.Ytldcehhhndlhdaa
open Go.RowKit Go.Sort

end Go.Proofs.Ytldcehhhndlhdaa
/- Walks of inside and In. -/
namespace Go.Proofs.Ytldcehhhndlhdaa
open Go.RowKit Go.Sort

def insideB (a b : Int × Int) : Bool := decide (b.1 ≤ a.1) && decide (a.1 ≤ a.2) && decide (a.2 ≤ b.2)
end Go.Proofs.Ytldcehhhndlhdaa
/- One more gauging, and each truth: plain laws over what the functions return. -/
namespace Go.Proofs.Ytldcehhhndlhdaa

theorem askE_yes {d : DLine} (h : valid d = true) : askE d true = 0 := by simp [askE, h]
theorem flowsR_calm' {d : DLine} (h : valid d = true) (hc : calm d.pts) : flowsR d true = (flowsL d, 0) := flowsR_one (askE_yes h) ((oneB_iff h).2 hc)
theorem flowsR_wild {d : DLine} (h : valid d = true) (hc : ¬ calm d.pts) : flowsR d true = ([], 3) := flowsR_none (askE_yes h) (by cases hx : oneB d; rfl; exact absurd ((oneB_iff h).1 hx) hc)
theorem flowR_ok {d : DLine} (h : valid d = true) (hc : calm d.pts) (q : Nat) (hq : q < d.pts.length) : flowR d q = (flowAt d q, 0) := by
  have hi : isPt d q = true := by simp [isPt, inR]; omega
  unfold flowR
  rw [hi, flowsR_calm' h hc]
  simp
theorem lossR_ok {d : DLine} (h : valid d = true) (hc : calm d.pts) (s : Nat) (hs : s < d.odds.length) : lossR d s = (lossP d s (s + 1), 0) := by
  have hi : isSt d s = true := by simp [isSt, inR]; omega
  have hpn := (valid_spec h).2.1
  unfold lossR
  rw [hi, flowsR_calm' h hc]
  simp only [if_true, Int.toNat_natCast]
  rw [lostF_lossP d s (s + 1) (by omega) (by omega)]
theorem wholeR_ok {d : DLine} (h : valid d = true) (hc : calm d.pts) : wholeR d = (lossP d 0 d.odds.length, 0) := by
  have hpn := (valid_spec h).2.1
  unfold wholeR
  rw [flowsR_calm' h hc]
  simp only [if_true]
  rw [lostF_lossP d 0 d.odds.length (by omega) (by omega)]
theorem wholeR_none {d : DLine} (h : valid d = true) (hc : ¬ calm d.pts) : wholeR d = ((0, 0), 3) := by
  unfold wholeR
  rw [flowsR_wild h hc]
  simp
theorem loSuf_down {d : DLine} (f t : Nat) (hft : f ≤ t) (ht : t < d.pts.length) : loSuf d.pts t ≤ loSuf d.pts f := by
  rw [loSuf_le _ _ (by omega)]
  have := (loSuf_le d.pts f (by omega) (loSuf d.pts f)).1 (Int.le_refl _)
  exact ⟨this.1, fun i h1 h2 => this.2 i (by omega) h2⟩
theorem hiPre_mono {d : DLine} (f t : Nat) (hft : f ≤ t) (ht : t ≤ d.pts.length) : hiPre d.pts t ≤ hiPre d.pts f := by
  rw [hiPre_all _ _ (by omega)]
  have := (hiPre_all d.pts t (by omega) (hiPre d.pts t)).1 (Int.le_refl _)
  exact ⟨this.1, fun i h1 => this.2 i (by omega)⟩
/-- A narrower line: what it leaves. -/
structure Narrow (d D : DLine) : Prop where
  vd : valid d = true
  vD : valid D = true
  lp : D.pts.length = d.pts.length
  lo : D.odds.length = d.odds.length
  cd : calm d.pts
  cD : calm D.pts
  low : ∀ i, i < d.pts.length → loSuf d.pts i ≤ loSuf D.pts i
  high : ∀ i, i ≤ d.pts.length → hiPre D.pts i ≤ hiPre d.pts i
theorem narrow_of {d : DLine} (hv : valid d = true) (p : Nat) (hp : p < d.pts.length) (lo hi : Int) (hin : insideB (lo, hi) ((d.pts[p]).lo, (d.pts[p]).hi) = true) (h1 : oneB (setFlow d p lo hi) = true) : Narrow d (setFlow d p lo hi) := by
  simp only [insideB, Bool.and_eq_true, decide_eq_true_eq] at hin
  obtain ⟨⟨i1, i2⟩, i3⟩ := hin
  obtain ⟨p1, p2, p3⟩ := valid_pt hv p hp
  have hg : d.pts.getD p default = d.pts[p] := by simp [List.getD, List.getElem?_eq_getElem hp]
  rw [hg] at p1 p2 p3
  have hV := setFlow_valid hv p lo hi (by omega) i2 (by omega)
  have hC := (oneB_iff hV).1 h1
  have hl := (setFlow_len d p lo hi).1
  have key : ∀ i, i < d.pts.length → (d.pts.getD i default).lo ≤ ((setFlow d p lo hi).pts.getD i default).lo ∧ ((setFlow d p lo hi).pts.getD i default).hi ≤ (d.pts.getD i default).hi := by
    intro i _
    rw [(setFlow_get d p lo hi i hp).1, (setFlow_get d p lo hi i hp).2]
    by_cases e : i = p
    · subst e; rw [if_pos rfl, if_pos rfl, hg]; exact ⟨i1, i3⟩
    · rw [if_neg e, if_neg e]; exact ⟨Int.le_refl _, Int.le_refl _⟩
  refine ⟨hv, hV, hl, by rw [(setFlow_len d p lo hi).2], fun b hb a ha => ?_, hC, fun i hi' => ?_, fun i hi' => ?_⟩
  · have h1 := hC b (by rw [hl]; exact hb) a ha
    have h2 := (key b hb).1
    have h3 := (key a (by omega)).2
    omega
  · rw [loSuf_le _ _ (by omega)]
    have := (loSuf_le (setFlow d p lo hi).pts i (by rw [hl]; omega) (loSuf (setFlow d p lo hi).pts i)).1 (Int.le_refl _)
    refine ⟨this.1, fun j h1 h2 => ?_⟩
    have h3 := this.2 j h1 (by rw [hl]; exact h2)
    have h4 := (key j h2).1
    omega
  · rw [hiPre_all _ _ hi']
    have := (hiPre_all (setFlow d p lo hi).pts i (by rw [hl]; omega) (hiPre (setFlow d p lo hi).pts i)).1 (Int.le_refl _)
    refine ⟨this.1, fun j h1 => ?_⟩
    have h3 := this.2 j h1
    have h4 := (key j (by omega)).2
    omega
theorem inside_iff (a b : Int × Int) : insideB a b = true ↔ b.1 ≤ a.1 ∧ a.1 ≤ a.2 ∧ a.2 ≤ b.2 := by
  unfold insideB
  simp [and_assoc]
theorem Narrow.flow {d D : DLine} (h : Narrow d D) (q : Nat) (hq : q < d.pts.length) : insideB (flowAt D q) (flowAt d q) = true := by
  rw [inside_iff]
  exact ⟨h.low q hq, calm_flow h.vD h.cD q (by rw [h.lp]; exact hq), h.high (q + 1) (by omega)⟩
theorem loss_facts {d : DLine} (hv : valid d = true) (hc : calm d.pts) (f t : Nat) (hft : f ≤ t) (ht : t < d.pts.length) : 0 ≤ (lossP d f t).1 ∧ (lossP d f t).1 ≤ (lossP d f t).2 := by
  have h1 := calm_flow hv hc f (by omega)
  have h2 := calm_flow hv hc t ht
  have h3 := loSuf_down f t hft ht
  have h4 := hiPre_mono (d := d) (f + 1) (t + 1) (by omega) (by omega)
  unfold lossP
  split
  · exact ⟨Int.le_refl _, Int.le_refl _⟩
  · exact ⟨by simp only; omega, by simp only; omega⟩
theorem Narrow.loss {d D : DLine} (h : Narrow d D) (f t : Nat) (hft : f ≤ t) (ht : t < d.pts.length) : insideB (lossP D f t) (lossP d f t) = true := by
  rw [inside_iff]
  have h0 := (loss_facts h.vD h.cD f t hft (by rw [h.lp]; exact ht)).2
  refine ⟨?_, h0, ?_⟩
  · have a1 := h.low f (by omega)
    have a2 := h.high (t + 1) (by omega)
    unfold lossP
    split
    · exact Int.le_refl _
    · simp only; omega
  · have a1 := h.low t ht
    have a2 := h.high (f + 1) (by omega)
    unfold lossP
    split
    · exact Int.le_refl _
    · simp only; omega
theorem lossyR_ok {d : DLine} (h : valid d = true) (hc : calm d.pts) (s : Nat) (hs : s < d.odds.length) : lossyR d s = ((if 0 < (lossP d s (s + 1)).1 then 1 else if (lossP d s (s + 1)).2 = 0 then 2 else 3), 0) := by
  unfold lossyR lossyOf
  rw [lossR_ok h hc s hs]
  simp only [if_true]
  split
  · rfl
  · split <;> rfl
theorem Narrow.lossy {d D : DLine} (h : Narrow d D) (s : Nat) (hs : s < d.odds.length) : (lossyR d s).1 = 3 ∨ (lossyR D s).1 = (lossyR d s).1 := by
  have hpn := (valid_spec h.vd).2.1
  have h1 := (inside_iff _ _).1 (h.loss s (s + 1) (by omega) (by omega))
  have h2 := loss_facts h.vd h.cd s (s + 1) (by omega) (by omega)
  have h3 := loss_facts h.vD h.cD s (s + 1) (by omega) (by rw [h.lp]; omega)
  rw [lossyR_ok h.vd h.cd s hs, lossyR_ok h.vD h.cD s (by rw [h.lo]; exact hs)]
  simp only
  by_cases c1 : 0 < (lossP d s (s + 1)).1
  · right; rw [if_pos c1, if_pos (by omega)]
  · rw [if_neg c1]
    by_cases c2 : (lossP d s (s + 1)).2 = 0
    · right; rw [if_pos c2, if_neg (by omega), if_pos (by omega)]
    · left; rw [if_neg c2]
end Go.Proofs.Ytldcehhhndlhdaa
/- Walks: last, gated. -/
namespace Go.Proofs.Ytldcehhhndlhdaa
open Go.RowKit Go.Sort Go.Shelf

set_option maxRecDepth 20000 in
set_option maxHeartbeats 2000000 in
theorem last_any (v vb : Value) (d : DLine) (b : MBox) (lo hi : Nat) (w : World) (hv : LineAt w v d) (hb : MBoxAt w vb b) (hvd : valid d = true) (hok : MOk b) (hfl : flowR d d.odds.length = (((lo : Int), (hi : Int)), 0)) (hlh : lo ≤ hi) (hf : hi ≤ 40) :
    Calls Try.prog 11 #[v, vb] w fun e w' => ∃ v', e = .returned (.tuple #[v', .bool true]) ∧ w'.ownsRow w.heap.size 29 2 v' b.sh.length (prC (betM b lo hi b.sh.length)) ∧ Below w.heap.size w w' := by
  obtain ⟨pv, ov, rfl, hp, ho⟩ := hv
  obtain ⟨sv, mv, rfl, hs, hm⟩ := hb
  obtain ⟨A1, c1, rfl, -, -, -⟩ := id hp.open_
  obtain ⟨A2, c2, rfl, -, -, -⟩ := id ho.open_
  obtain ⟨A3, c3, rfl, -, -, -⟩ := id hs.open_
  obtain ⟨A4, c4, rfl, -, -, -⟩ := id hm.open_
  have HP := Lib.hid hp
  have HO := Lib.hid ho
  have HS := Lib.hid hs
  have HM := Lib.hid hm
  have HOK := Lib.hid hok
  have HF := Lib.hid hfl
  have HVD := Lib.hid hvd
  have S := Lib.hid (show St w ((w.alloc (.cells #[.slice A1 d.pts.length c1, .slice A2 d.odds.length c2] 25)).alloc (.cells #[.slice A3 b.sh.length c3, .slice A4 b.mo.length c4] 27)) (w.heap.size + 1 + 1) [.box (w.heap.size + 1) [.slice A3 b.sh.length c3, .slice A4 b.mo.length c4], .box w.heap.size [.slice A1 d.pts.length c1, .slice A2 d.odds.length c2]] from ((St.init w).alloc [.slice A1 d.pts.length c1, .slice A2 d.odds.length c2] 25).alloc [.slice A3 b.sh.length c3, .slice A4 b.mo.length c4] 27)
  clear hp ho hs hm hok hfl hvd
  have q0 := S.out.get 1 0 rfl rfl
  have q1 := S.out.get 1 1 rfl rfl
  go_enter Try.func11, Try.ntmps11
  go_wp2_with fail
  refine (flow_any _ d _ _ ⟨_, _, rfl, HP.out.below S.out.bel, HO.out.below S.out.bel⟩ (by have := (valid_spec HVD.out).1; omega) (by have := valid_spec HVD.out; omega)).mono ?_
  rintro e w1 ⟨rfl, hb⟩
  rw [HF.out]
  have S := Lib.hid ((S.out.call hb).alloc [I (lo : Nat), I (hi : Nat)] 29)
  clear hb q0 q1
  have hle : ¬ (hi : Int) < (lo : Int) := by omega
  have p0 := S.out.get 0 0 rfl rfl
  have p1 := S.out.get 0 1 rfl rfl
  have m0 := S.out.get 1 0 rfl rfl
  have m1 := S.out.get 1 1 rfl rfl
  go_wp2_with fail
  refine (rIsFlow7_any (lo : Int) _).mono ?_
  rintro e w2 ⟨rfl, rfl⟩
  rw [show inM (lo : Int) 0 40 = true by simp [inM]; omega]
  go_wp2_with fail
  refine (rIsFlow7_any (hi : Int) _).mono ?_
  rintro e w3 ⟨rfl, rfl⟩
  rw [show inM (hi : Int) 0 40 = true by simp [inM]; omega]
  go_wp2_with fail
  refine (between_any _ b lo hi _ ⟨_, _, rfl, HS.out.below S.out.bel, HM.out.below S.out.bel⟩ HOK.out hlh hf).mono ?_
  rintro e w4 ⟨v', rfl, hown, hb⟩
  obtain ⟨A5, c5, rfl⟩ := own_shape hown
  have S := Lib.hid (S.out.take hb hown)
  clear hb hown p0 p1 m0 m1
  have m0 := cell_regrown (S.out.get 2 0 rfl rfl)
  have m0 := S.out.get 2 0 rfl rfl
  go_wp2_with fail
  have m0 := cell_regrown m0
  refine wp_region_ext (by kernel_rfl) (by kernel_rfl) ?_
  repeat (first | go_big_quiet_step (fail) | quiet_step (fail))
  refine wpQuiet_nil ?_
  intro wq hbq
  have S := Lib.hid (S.out.call hbq)
  clear hbq m0
  go_wp2_with fail
  go_ret2
  exact ⟨_, rfl, S.out.own 0 rfl, S.out.bel⟩

theorem ex10_whole : wholeR exD = ((8, 13), 0) := by decide
theorem exM_ok : MOk ⟨[5, 3, 1], [9, 9, 9]⟩ := mValid_iff.1 (by decide)
theorem exM_out : outM ⟨[5, 3, 1], [9, 9, 9]⟩ 6 = [3, 2, 1] := by decide
set_option maxRecDepth 20000 in
set_option maxHeartbeats 2000000 in
theorem gated_any (w : World) :
    Calls Try.prog 10 #[] w fun e w' => e = .returned (.bool true) ∧ Below w.heap.size w w' := by
  have S := Lib.hid (St.init w)
  go_enter Try.func10, Try.ntmps10
  go_wp2_with fail
  refine (example7_any _).mono ?_
  rintro e w1 ⟨v1, v2, rfl, ⟨s1, m1, rfl, hs1, hm1⟩, ⟨s2, m2, rfl, hs2, hm2⟩, hb⟩
  obtain ⟨A1, c1, rfl, -, -, -⟩ := id hs1.open_
  obtain ⟨A2, c2, rfl, -, -, -⟩ := id hm1.open_
  obtain ⟨A3, c3, rfl, -, -, -⟩ := id hs2.open_
  obtain ⟨A4, c4, rfl, -, -, -⟩ := id hm2.open_
  have HS := Lib.hid hs1
  have HM := Lib.hid hm1
  have SB := Lib.hid (S.out.call hb)
  have S := Lib.hid (((St.init w1).alloc [.slice A1 3 c1, .slice A2 3 c2] 27).alloc [.slice A3 3 c3, .slice A4 3 c4] 27)
  clear hb hs1 hm1 hs2 hm2
  go_wp2_with fail
  refine (example_any _).mono ?_
  rintro e w2 ⟨v, rfl, ⟨pv, ov, rfl, hp, ho⟩, hb⟩
  obtain ⟨A5, c5, rfl, -, -, -⟩ := id ho.open_
  obtain ⟨A6, c6, rfl, -, -, -⟩ := id hp.open_
  have HP := Lib.hid hp
  have HO := Lib.hid ho
  have S := Lib.hid (S.out.call hb)
  clear hb hp ho
  go_wp2_with fail
  refine (whole_any _ exD _ ⟨_, _, rfl, HP.out, HO.out⟩ (by decide) (by decide)).mono ?_
  rintro e w3 ⟨rfl, hb⟩
  rw [ex10_whole]
  have S := Lib.hid ((S.out.call hb).alloc [I 8, I 13] 29)
  clear hb
  have q0 := S.out.get 2 0 rfl rfl
  have q1 := S.out.get 2 1 rfl rfl
  go_wp2_with fail
  refine (mGauges_any _ ⟨[5, 3, 1], [9, 9, 9]⟩ 6 _ ⟨_, _, rfl, HS.out.below S.out.bel, HM.out.below S.out.bel⟩ exM_ok (by decide)).mono ?_
  rintro e w4 ⟨v', rfl, hown, hb⟩
  rw [exM_out] at hown
  obtain ⟨A7, c7, rfl⟩ := own_shape hown
  have S := Lib.hid (S.out.take hb hown)
  clear hb hown q0 q1
  have T := Lib.hid (S.out.alloc [I 3, I 2, I 1] 3)
  have q0 := S.out.get 1 0 rfl rfl
  have q1 := S.out.get 1 1 rfl rfl
  go_wp2_with fail
  refine (same_any _ _ [3, 2, 1] [3, 2, 1] _ (T.out.ints 1 rfl) (T.out.boxReads 0 rfl rfl (by simp)) (by simp) (by simp)).mono ?_
  rintro e w5 ⟨rfl, hb⟩
  have S := Lib.hid (T.out.call hb)
  clear hb q0 q1
  rw [decide_eq_true (rfl : [(3 : Int), 2, 1] = [3, 2, 1])]
  go_wp2_with fail
  go_ret
  exact ⟨rfl, bto SB.out.bel S.out.bel⟩

end Go.Proofs.Ytldcehhhndlhdaa
/- Walk of Clash. -/
namespace Go.Proofs.Ytldcehhhndlhdaa
open Go.RowKit Go.Sort

def clashR (d : DLine) : (Int × Int) × Int := if valid d = true then (match clashO d with | none => ((0, 0), 3) | some (a, b) => (((a : Int), (b : Int)), 0)) else ((0, 0), 60)
end Go.Proofs.Ytldcehhhndlhdaa
/- Each truth: plain laws over what the functions return. -/
namespace Go.Proofs.Ytldcehhhndlhdaa
theorem clashR_calm {d : DLine} (h : valid d = true) (hc : calm d.pts) : clashR d = ((0, 0), 3) := by
  unfold clashR
  rw [if_pos h, (clash_none d).2 hc]
theorem clashR_wild {d : DLine} (h : valid d = true) (hc : ¬ calm d.pts) : ∃ a b : Nat, clashR d = (((a : Int), (b : Int)), 0) ∧ a < b ∧ b < d.pts.length ∧ (d.pts.getD a default).hi < (d.pts.getD b default).lo := by
  cases hx : clashO d with
  | none => exact absurd ((clash_none d).1 hx) hc
  | some x =>
    obtain ⟨a, b⟩ := x
    obtain ⟨h1, h2, h3⟩ := clash_some d a b hx
    refine ⟨a, b, ?_, h1, h2, h3⟩
    unfold clashR
    rw [if_pos h, hx]
theorem getD_pt {d : DLine} (i : Nat) (hi : i < d.pts.length) : d.pts.getD i default = d.pts[i] := by simp [List.getD, List.getElem?_eq_getElem hi]
theorem getD_int {l : List Int} (i : Nat) (hi : i < l.length) : l.getD i 0 = l[i] := by simp [List.getD, List.getElem?_eq_getElem hi]
/-- A flow lies within the point's own bounds. -/
theorem flow_own {d : DLine} (h : valid d = true) (hc : calm d.pts) (i : Nat) (hi : i < d.pts.length) : insideB (flowAt d i) (d.pts[i].lo, d.pts[i].hi) = true := by
  rw [inside_iff]
  have h1 := calm_flow h hc i hi
  have h2 := ((loSuf_le d.pts i (by omega) (loSuf d.pts i)).1 (Int.le_refl _)).2 i (Nat.le_refl _) hi
  have h3 := ((hiPre_all d.pts (i + 1) (by omega) (hiPre d.pts (i + 1))).1 (Int.le_refl _)).2 i (by omega)
  rw [getD_pt i hi] at h2 h3
  exact ⟨h2, h1, h3⟩
theorem flow_truth {d : DLine} (h : valid d = true) {l : List Int} (ht : truthB d l = true) (i : Nat) (hi : i < d.pts.length) (hl : i < l.length) : (flowAt d i).1 ≤ l[i] ∧ l[i] ≤ (flowAt d i).2 := by
  have := truth_in h ht i hi
  rw [getD_int i hl] at this
  exact this
theorem flow_down {d : DLine} (i : Nat) (hi : i + 1 < d.pts.length) : (flowAt d (i + 1)).1 ≤ (flowAt d i).1 ∧ (flowAt d (i + 1)).2 ≤ (flowAt d i).2 :=
  ⟨loSuf_down i (i + 1) (by omega) hi, hiPre_mono (i + 1) (i + 2) (by omega) (by omega)⟩
theorem loss_truth {d : DLine} (h : valid d = true) {l : List Int} (ht : truthB d l = true) (f t : Nat) (hft : f ≤ t) (hi : t < d.pts.length) (hlf : f < l.length) (hlt : t < l.length) : (lossP d f t).1 ≤ l[f] - l[t] ∧ l[f] - l[t] ≤ (lossP d f t).2 := by
  have h1 := truth_in h ht f (by omega)
  have h2 := truth_in h ht t hi
  have h3 := truth_down ht t f hft hi
  rw [getD_int f hlf] at h1 h3
  rw [getD_int t hlt] at h2 h3
  unfold lossP
  split
  · rename_i e; subst e; simp
  · constructor
    · simp only; omega
    · simp only; omega
theorem truth_len {d : DLine} {l : List Int} (ht : truthB d l = true) : l.length = d.pts.length := ((truth_spec d l).1 ht).1
theorem wild_no {d : DLine} (hc : ¬ calm d.pts) (l : List Int) : truthB d l = false := by
  cases hx : truthB d l
  · rfl
  · exact absurd (truth_calm hx) hc
end Go.Proofs.Ytldcehhhndlhdaa

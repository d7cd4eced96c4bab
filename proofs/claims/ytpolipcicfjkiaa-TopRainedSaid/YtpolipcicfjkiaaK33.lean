/- Stores of whole points and of odds into a line of the call's own; the line backwards, step by step. -/
import Derived.Test.YtpolipcicfjkiaaK32
import Derived.Test.YtpolipcicfjkiaaK26
namespace Go.Proofs.Ytpolipcicfjkiaa
open Go.RowKit Go.Sort

theorem slice_inj {A B : Option Addr} {n m c e : Nat} (h : Value.slice A n c = .slice B m e) : A = B ∧ n = m ∧ c = e := by
  injection h with h1 h2 h3
  exact ⟨h1, h2, h3⟩
def setPt (d : DLine) (k : Nat) (p : Pt) : DLine := { d with pts := d.pts.set k p }
def setOdd (d : DLine) (k : Nat) (z : Int) : DLine := { d with odds := d.odds.set k z }
theorem ptCells_setPt : ∀ (ps : List Pt) (i : Nat) (p : Pt), i < ps.length → (((ptCells ps).set (i * 3) (I p.lo)).set (i * 3 + 1) (I p.hi)).set (i * 3 + 2) (I p.cost) = ptCells (ps.set i p)
  | [], i, _, h => absurd h (by simp)
  | q :: ps, 0, p, _ => by simp [ptCells, Pt.cells]
  | q :: ps, i + 1, p, h => by
    have ih := ptCells_setPt ps i p (by simpa using h)
    have e : ptCells (q :: ps) = I q.lo :: I q.hi :: I q.cost :: ptCells ps := rfl
    rw [e, show (i + 1) * 3 + 2 = (i * 3 + 2) + 3 from by omega, show (i + 1) * 3 + 1 = (i * 3 + 1) + 3 from by omega, show (i + 1) * 3 = i * 3 + 3 from by omega]
    simp only [List.set_cons_succ]
    rw [ih]
    rfl
theorem OwnAt.pt {w : World} {base g cap : Nat} {ov : Value} {d : DLine} (h : OwnAt w base g cap ov d) (k : Nat) (p : Pt) (hk : k < d.pts.length) :
    OwnAt (((w.setCell ⟨g, k * 3, none⟩ (I p.lo)).setCell ⟨g, k * 3 + 1, none⟩ (I p.hi)).setCell ⟨g, k * 3 + 2, none⟩ (I p.cost)) base g cap ov (setPt d k p) := by
  have a1 := (h.pts.stored (k * 3) (I p.lo)).1
  have a2 := (a1.stored (k * 3 + 1) (I p.hi)).1
  have a3 := (a2.stored (k * 3 + 2) (I p.cost)).1
  rw [ptCells_setPt _ _ _ hk] at a3
  have n1 := own_ne h.pts h.odds (by decide) (g := g) rfl
  refine ⟨by simpa [setPt] using a3, ?_⟩
  exact own_setOther (own_setOther (own_setOther h.odds _ _ n1) _ _ n1) _ _ n1
theorem OwnAt.odd {w : World} {base g cap go co : Nat} {d : DLine} (h : OwnAt w base g cap (.slice (some ⟨go, 0, none⟩) d.odds.length co) d) (k : Nat) (z : Int) :
    OwnAt (w.setCell ⟨go, k, none⟩ (I z)) base g cap (.slice (some ⟨go, 0, none⟩) d.odds.length co) (setOdd d k z) := by
  have a1 := (h.odds.stored k (I z)).1
  refine ⟨own_setOther h.pts _ _ (own_ne h.odds h.pts (by decide) rfl), ?_⟩
  have e : (d.odds.map I).set k (I z) = (setOdd d k z).odds.map I := by simp [setOdd, List.map_set]
  rw [e] at a1
  simpa [setOdd] using a1
theorem OwnAt.ptAt {w : World} {base g cap : Nat} {ov : Value} {d : DLine} (h : OwnAt w base g cap ov d) (p : Nat) (hp : p < d.pts.length) : ∃ u0 u1 u2, w.cell? ⟨g, p * 3, none⟩ = some u0 ∧ w.cell? ⟨g, p * 3 + 1, none⟩ = some u1 ∧ w.cell? ⟨g, p * 3 + 2, none⟩ = some u2 ∧ w.frozen? ⟨g, p * 3, none⟩ = false ∧ w.frozen? ⟨g, p * 3 + 1, none⟩ = false ∧ w.frozen? ⟨g, p * 3 + 2, none⟩ = false := by
  refine ⟨I d.pts[p].lo, I d.pts[p].hi, I d.pts[p].cost, ?_, ?_, ?_, h.pts.frozenAt _, h.pts.frozenAt _, h.pts.frozenAt _⟩
  · rw [h.pts.cellAt (p * 3) (by omega)]; exact (ptCells_at _ _ hp).1
  · rw [h.pts.cellAt (p * 3 + 1) (by omega)]; exact (ptCells_at _ _ hp).2.1
  · rw [h.pts.cellAt (p * 3 + 2) (by omega)]; exact (ptCells_at _ _ hp).2.2
theorem OwnAt.oddAt {w : World} {base g cap go n co : Nat} {d : DLine} (h : OwnAt w base g cap (.slice (some ⟨go, 0, none⟩) n co) d) (k : Nat) (hk : k < d.odds.length) : (∃ u, w.cell? ⟨go, k, none⟩ = some u) ∧ w.frozen? ⟨go, k, none⟩ = false := by
  obtain ⟨q, hq⟩ : ∃ q, n = q := ⟨_, rfl⟩
  have ho := h.odds
  obtain ⟨rfl⟩ : n = d.odds.length := by
    rcases ho.2 with ⟨e, _⟩ | ⟨_, _, _, e, _⟩
    · simp at e
    · simp at e; exact e.2.1
  refine ⟨⟨I d.odds[k], ?_⟩, ho.frozenAt _⟩
  rw [ho.cellAt k (by simpa using hk)]
  simp [List.getElem?_eq_getElem hk]

def backP (d : DLine) : Nat → DLine
  | 0 => d
  | k + 1 => setPt (backP d k) k (d.pts.getD (d.odds.length - k) default)
def backO (d : DLine) : Nat → DLine
  | 0 => backP d (d.odds.length + 1)
  | k + 1 => setOdd (backO d k) k (d.odds.getD (d.odds.length - 1 - k) 0)
theorem backP_len (d : DLine) : ∀ k, (backP d k).pts.length = d.pts.length ∧ (backP d k).odds = d.odds
  | 0 => ⟨rfl, rfl⟩
  | k + 1 => by
    obtain ⟨h1, h2⟩ := backP_len d k
    exact ⟨by simp [backP, setPt, h1], h2⟩
theorem backO_len (d : DLine) : ∀ k, (backO d k).pts = (backP d (d.odds.length + 1)).pts ∧ (backO d k).odds.length = d.odds.length
  | 0 => ⟨rfl, by rw [show backO d 0 = backP d (d.odds.length + 1) from rfl, (backP_len d _).2]⟩
  | k + 1 => by
    obtain ⟨h1, h2⟩ := backO_len d k
    exact ⟨h1, by simp [backO, setOdd, h2]⟩
theorem backP_get {d : DLine} (hn : d.pts.length = d.odds.length + 1) (i : Nat) (hi : i < d.pts.length) : ∀ k, k ≤ d.pts.length → (backP d k).pts[i]? = if i < k then d.pts[d.pts.length - 1 - i]? else d.pts[i]?
  | 0, _ => by rw [if_neg (by omega)]; rfl
  | k + 1, hk => by
    have ih := backP_get hn i hi k (by omega)
    have hl := (backP_len d k).1
    show ((backP d k).pts.set k _)[i]? = _
    by_cases h : k = i
    · subst h
      rw [List.getElem?_set_self (by omega), if_pos (by omega), show d.pts.length - 1 - k = d.odds.length - k by omega, List.getElem?_eq_getElem (show d.odds.length - k < d.pts.length by omega)]
      simp [List.getD, List.getElem?_eq_getElem (show d.odds.length - k < d.pts.length by omega)]
    · rw [List.getElem?_set_ne h, ih]
      by_cases h' : i < k
      · rw [if_pos h', if_pos (by omega)]
      · rw [if_neg h', if_neg (by omega)]
theorem backO_get (d : DLine) (i : Nat) (hi : i < d.odds.length) : ∀ k, k ≤ d.odds.length → (backO d k).odds[i]? = if i < k then d.odds[d.odds.length - 1 - i]? else d.odds[i]?
  | 0, _ => by rw [if_neg (by omega), show backO d 0 = backP d (d.odds.length + 1) from rfl, (backP_len d _).2]
  | k + 1, hk => by
    have ih := backO_get d i hi k (by omega)
    have hl := (backO_len d k).2
    show ((backO d k).odds.set k _)[i]? = _
    by_cases h : k = i
    · subst h
      rw [List.getElem?_set_self (by omega), if_pos (by omega), List.getElem?_eq_getElem (show d.odds.length - 1 - k < d.odds.length by omega)]
      simp [List.getD, List.getElem?_eq_getElem (show d.odds.length - 1 - k < d.odds.length by omega)]
    · rw [List.getElem?_set_ne h, ih]
      by_cases h' : i < k
      · rw [if_pos h', if_pos (by omega)]
      · rw [if_neg h', if_neg (by omega)]
theorem back_mirror {d : DLine} (hn : d.pts.length = d.odds.length + 1) : Mirror d (backO d d.odds.length) := by
  refine ⟨by rw [(backO_len d _).1, (backP_len d _).1], (backO_len d _).2, fun i hi => ?_, fun i hi => ?_⟩
  · rw [(backO_len d _).1, backP_get hn i hi _ (by omega), if_pos (by omega)]
  · rw [backO_get d i hi _ (Nat.le_refl _), if_pos hi]

/-- Worst, Average and Free of the line backwards. -/
theorem mirror_some {d D : DLine} (h : Mirror d D) (hv : valid d = true) (f t : Nat) (hf : f < t) (ht : t ≤ d.odds.length) :
    worstR D (d.odds.length - t : Nat) (d.odds.length - f : Nat) = worstR d f t ∧ avgR D (d.odds.length - t : Nat) (d.odds.length - f : Nat) = avgR d f t := by
  have hV := h.valid hv
  refine ⟨?_, ?_⟩
  · rw [worstR_ok hV _ _ (by omega) (by rw [h.lo]; omega), worstR_ok hv _ _ hf ht, h.worst hv f t (by omega) ht]
  · have s1 : someOf d f t = true := by simp [someOf]; omega
    have s2 : someOf D (d.odds.length - t : Nat) (d.odds.length - f : Nat) = true := by simp [someOf, h.lo]; omega
    have a1 : askE d true = 0 := by simp [askE, hv]
    have a2 : askE D true = 0 := by simp [askE, hV]
    unfold avgR
    rw [s1, s2, if_pos a1, if_pos a2]
    simp only [Int.toNat_natCast]
    rw [h.avg hv f t (by omega) ht, h.oddsOf f t (by omega) ht]
theorem mirror_free {d D : DLine} (h : Mirror d D) (hv : valid d = true) (p : Nat) (hp : p ≤ d.odds.length) : freeR D (d.odds.length - p : Nat) = freeR d p := by
  have hV := h.valid hv
  have hn := (valid_spec hv).2.1
  have i1 : isPt d p = true := by simp [isPt, inR]; omega
  have i2 : isPt D (d.odds.length - p : Nat) = true := by simp [isPt, inR, h.lp]; omega
  have a1 : askE d true = 0 := by simp [askE, hv]
  have a2 : askE D true = 0 := by simp [askE, hV]
  unfold freeR
  rw [i1, i2, if_pos a1, if_pos a2, h.lo]
  by_cases hz : d.odds.length = 0
  · rw [if_pos hz, if_pos hz]
  · rw [if_neg hz, if_neg hz]
    simp only [Int.toNat_natCast]
    have e1 := h.worst hv 0 d.odds.length (by omega) (Nat.le_refl _)
    rw [Nat.sub_self, Nat.sub_zero] at e1
    have e2 : worstN (setCost D (d.odds.length - p) 0) 0 d.odds.length = worstN (setCost d p 0) 0 d.odds.length := by
      rw [worst_wt, worst_wt]
      have := mirror_wt (c := costAt (setCost d p 0)) (c' := costAt (setCost D (d.odds.length - p) 0)) (n := d.odds.length) (fun q hq => by
        rw [costAt_setCost _ _ _ _ (by rw [h.lp]; omega), costAt_setCost _ _ _ _ (by omega), h.cost hv q hq]
        by_cases e : q = p
        · subst e; rw [if_pos rfl, if_pos rfl]
        · rw [if_neg e, if_neg (by omega)]) 0 d.odds.length (by omega) (Nat.le_refl _)
      rw [Nat.sub_self] at this
      exact this
    rw [e1, e2]
end Go.Proofs.Ytpolipcicfjkiaa
/- Walk of the reference's One. -/
namespace Go.Proofs.Ytpolipcicfjkiaa
open Go.RowKit Go.Sort

theorem Box2.grown {w w' : World} {B : Nat} {u0 u1 : Value} {row : Option Nat} (h : Box2 w B u0 u1) (hg : w.grownBy w' row) (hr : row ≠ some B) : Box2 w' B u0 u1 := by
  have e := hg.block B h.lt (fun e => hr e.symm)
  exact ⟨by rw [World.cell?_of_block e]; exact h.c0, by rw [World.cell?_of_block e]; exact h.c1, by rw [World.frozen?_of_block e]; exact h.f0, by rw [World.frozen?_of_block e]; exact h.f1⟩
def hiA (d : DLine) (k : Nat) : List Int := (List.range k).map fun i => hiPre d.pts (i + 1)
theorem hiA_len (d : DLine) (k : Nat) : (hiA d k).length = k := by simp [hiA]
theorem hiA_succ (d : DLine) (k : Nat) : hiA d (k + 1) = hiA d k ++ [hiPre d.pts (k + 1)] := by simp [hiA, List.range_succ]
theorem hiA_get (d : DLine) (k i : Nat) (h : i < k) : (hiA d k)[i]? = some (hiPre d.pts (i + 1)) := by simp [hiA, h]
set_option maxRecDepth 20000 in
set_option maxHeartbeats 2000000 in
theorem one_any (v : Value) (d : DLine) (w : World) (hv : LineAt w v d) (hvd : valid d = true) :
    Calls PA.prog 6 #[v] w fun e w' => e = .returned (.bool (oneB d)) ∧ Below w.heap.size w w' := by
  obtain ⟨i0, hi, hz0, hz1, hz2⟩ := info_parts Try.info3
  have HV := Lib.hid hv
  obtain ⟨pv, ov, rfl, hp, ho⟩ := hv
  obtain ⟨A, c, rfl, hac, hcm, ha⟩ := hp.open_
  have hn7 := (valid_spec hvd).1
  have hpn := (valid_spec hvd).2.1
  have hn : d.pts.length ≤ 8 := by omega
  have HVD := Lib.hid hvd
  have hb0 : ∀ x, Below w.heap.size w (w.alloc x) := fun x => (Below.refl _ _).alloc (Nat.le_refl _) _
  have HA := Lib.hid ha
  have B0 := Box2.new w (.slice A d.pts.length c) ov 28
  have HB0 := Lib.hid B0
  have HBW := Lib.hid (hb0 (.cells #[.slice A d.pts.length c, ov] 28))
  clear hp ho ha hpn hvd hn7
  obtain ⟨x0, x1, x2, x3⟩ := B0
  go_enter PA.func6, Try.ntmps6
  go_wp2_with fail
  go_loopw [3, 4] (fun out i wr => ∃ (k : Nat) (Ao : Option Addr) (co : Nat), k ≤ d.pts.length ∧ i = I k ∧ out = .slice Ao k co ∧ wr.ownsRow (w.heap.size + 1) 3 1 (.slice Ao k co) k ((hiA d k).map I) ∧ Hid (Box2 wr w.heap.size (.slice A d.pts.length c) ov) ∧ Hid (Below w.heap.size w wr)) (fun _ i _ => d.pts.length - (intOf i).toNat)
  case atStart => exact ⟨0, none, 0, by omega, rfl, rfl, World.ownsRow_nil _ _ _ _, HB0, HBW⟩
  case round =>
    clear x0 x1 x2 x3 HB0 HBW
    obtain ⟨k, Ao, co, hk, rfl, rfl, hown, HB, HW⟩ := hrel
    have hsz := HB.out.lt
    obtain ⟨x0, x1, x2, x3⟩ := id HB.out
    by_cases hlt : k < d.pts.length
    · obtain ⟨b, o, rfl, hbl, hcell⟩ := HA.out (by omega)
      have y1 := keep_cell HW.out (hcell k hlt).2.1
      have hbr := World.block_lt_of_cell? wr _ y1
      have HS := Lib.hid (hiPre_succ d.pts k hlt)
      have HBD := Lib.hid (hiPre_bd HVD.out k)
      have HPT := Lib.hid ((valid_spec HVD.out).2.2.1 _ (List.getElem_mem hlt))
      have HGR := Lib.hid (hiA_succ d k)
      by_cases hk0 : 0 < k
      · obtain ⟨g, cap, hsl, hg1, hg2⟩ := own_shape_pos hown hk0
        obtain ⟨rfl, -, rfl⟩ := slice_inj hsl
        have z0 := own_cell hown (k - 1) _ (hiA_get d k (k - 1) (by omega))
        rw [show k - 1 + 1 = k by omega] at z0
        have i0' : IntKind.i64.wrap ((k : Int) - 1) = ((k - 1 : Nat) : Int) := by rw [IntWalk.i64_in _ (by omega)]; omega
        have i1 : ((k : Int) - 1).toNat = k - 1 := by omega
        clear hcell
        by_cases hm : d.pts[k].hi ≤ hiPre d.pts k
        · have HE := Lib.hid (show hiPre d.pts (k + 1) = d.pts[k].hi by rw [HS.out]; omega)
          go_wp2_with (at_builtin; refine wpList_append_own _ rfl _ _ 26 rfl (w.heap.size + 1) 3 i0 (.int .i64 0) 1 8 Try.underlying26 hi hz0 hz1 hz2 rfl (by decide) _ _ _ rfl (hown.alloc _) ⟨wr.heap.size, 0, none⟩ 1 1 [I d.pts[k].hi] rfl rfl (cell_one_new _ _ _) (by simp [Value.oneCell']) (by simp only [maxLen]; omega) (by omega) (by simp; omega) ?_; intro v' w4 hown' hgrow _; obtain ⟨A1, c1, rfl⟩ := own_shape hown')
          go_roundw
          case rel => exact ⟨k + 1, _, _, by omega, by go_num, rfl, by rw [HGR.out, HE.out]; simpa using hown', Lib.hid ((HB.out.old _).grown hgrow (by
            intro e; have := (hown.lt _ e).1; omega)), Lib.hid ((HW.out.alloc HW.out.size _).grown hgrow (by have := HW.out.size; simp; omega) (fun k hk => by have := (hown.lt k hk).1; omega))⟩
          case measure => simp [intOf]; omega
        · have HE := Lib.hid (show hiPre d.pts (k + 1) = hiPre d.pts k by rw [HS.out]; omega)
          go_wp2_with (at_builtin; refine wpList_append_own _ rfl _ _ 26 rfl (w.heap.size + 1) 3 i0 (.int .i64 0) 1 8 Try.underlying26 hi hz0 hz1 hz2 rfl (by decide) _ _ _ rfl (hown.alloc _) ⟨wr.heap.size, 0, none⟩ 1 1 [I (hiPre d.pts k)] rfl rfl (cell_one_new _ _ _) (by simp [Value.oneCell']) (by simp only [maxLen]; omega) (by omega) (by simp; omega) ?_; intro v' w4 hown' hgrow _; obtain ⟨A1, c1, rfl⟩ := own_shape hown')
          go_roundw
          case rel => exact ⟨k + 1, _, _, by omega, by go_num, rfl, by rw [HGR.out, HE.out]; simpa using hown', Lib.hid ((HB.out.old _).grown hgrow (by
            intro e; have := (hown.lt _ e).1; omega)), Lib.hid ((HW.out.alloc HW.out.size _).grown hgrow (by have := HW.out.size; simp; omega) (fun k hk => by have := (hown.lt k hk).1; omega))⟩
          case measure => simp [intOf]; omega
      · have hk00 : k = 0 := by omega
        have HE := Lib.hid (show hiPre d.pts (k + 1) = d.pts[k].hi by
          have h1 := HPT.out
          have e : hiPre d.pts k = 99 := by rw [hk00]; rfl
          rw [HS.out, e]; omega)
        clear hcell hk00
        go_wp2_with (at_builtin; refine wpList_append_own _ rfl _ _ 26 rfl (w.heap.size + 1) 3 i0 (.int .i64 0) 1 8 Try.underlying26 hi hz0 hz1 hz2 rfl (by decide) _ _ _ rfl (hown.alloc _) ⟨wr.heap.size, 0, none⟩ 1 1 [I d.pts[k].hi] rfl rfl (cell_one_new _ _ _) (by simp [Value.oneCell']) (by simp only [maxLen]; omega) (by omega) (by simp; omega) ?_; intro v' w4 hown' hgrow _; obtain ⟨A1, c1, rfl⟩ := own_shape hown')
        go_roundw
        case rel => exact ⟨k + 1, _, _, by omega, by go_num, rfl, by rw [HGR.out, HE.out]; simpa using hown', Lib.hid ((HB.out.old _).grown hgrow (by
            intro e; have := (hown.lt _ e).1; omega)), Lib.hid ((HW.out.alloc HW.out.size _).grown hgrow (by have := HW.out.size; simp; omega) (fun k hk => by have := (hown.lt k hk).1; omega))⟩
        case measure => simp [intOf]; omega
    · obtain rfl : k = d.pts.length := by omega
      have HI := Lib.hid (show Ints wr (.slice Ao d.pts.length co) (hiL d) by
        have h := Ints.of_own hown
        exact h)
      clear hown
      go_wp2_with (go_at_call 21; refine (isTruth_any _ _ d (hiL d) _ (HV.out.below HW.out) HI.out (by omega) (by simp [hiL]; omega)).mono ?_; rintro e w' ⟨rfl, hb⟩)
      go_ret
      exact ⟨rfl, bto HW.out hb⟩
end Go.Proofs.Ytpolipcicfjkiaa
/- wanting, with the ration's closure. Conditions: none. -/
namespace Go.Proofs.Ytpolipcicfjkiaa
open Go.RowKit Go.Sort
open Go.Proofs.Ytpolipcicfjkiaa.Cy (BelowH)

theorem res3 {w : World} {g : Nat} {u0 u1 u2 : Value} (h0 : w.cell? ⟨g, 0, none⟩ = some u0) (h1 : w.cell? ⟨g, 1, none⟩ = some u1) (h2 : w.cell? ⟨g, 2, none⟩ = some u2) :
    (∀ v1 v2 v3, (((w.setCell ⟨g, 0, none⟩ v1).setCell ⟨g, 1, none⟩ v2).setCell ⟨g, 2, none⟩ v3).cell? ⟨g, 0, none⟩ = some v1) ∧
    (∀ v1 v2 v3, (((w.setCell ⟨g, 0, none⟩ v1).setCell ⟨g, 1, none⟩ v2).setCell ⟨g, 2, none⟩ v3).cell? ⟨g, 1, none⟩ = some v2) ∧
    ∀ v1 v2 v3, (((w.setCell ⟨g, 0, none⟩ v1).setCell ⟨g, 1, none⟩ v2).setCell ⟨g, 2, none⟩ v3).cell? ⟨g, 2, none⟩ = some v3 := by
  refine ⟨fun v1 v2 v3 => ?_, fun v1 v2 v3 => ?_, fun v1 v2 v3 => ?_⟩
  · rw [World.cell?_setCell_other _ _ _ _ (by simp), World.cell?_setCell_other _ _ _ _ (by simp)]
    exact World.cell?_setCell_same _ _ _ h0
  · rw [World.cell?_setCell_other _ _ _ _ (by simp)]
    exact World.cell?_setCell_same _ _ _ (by rw [World.cell?_setCell_other _ _ _ _ (by simp)]; exact h1)
  · exact World.cell?_setCell_same _ _ _ (by rw [World.cell?_setCell_other _ _ _ _ (by simp), World.cell?_setCell_other _ _ _ _ (by simp)]; exact h2)

set_option maxRecDepth 20000 in
set_option maxHeartbeats 4000000 in
theorem wanting_any (v : Value) (y : CY) (m : Int) (bx : Nat) (w : World) (hv : YAt w v y) (hl : y.days.length ≤ 366) (hm : w.cell? ⟨bx, 0, none⟩ = some (I m)) :
    Calls PA.prog 33 #[v, .func (.func 34) #[] #[.pointer (some ⟨bx, 0, none⟩)]] w fun e w' => ∃ v', e = .returned v' ∧ YAt w' v' { y with days := ratD m y.days } ∧ Below w.heap.size w w' := by
  obtain ⟨pv, rfl, hp⟩ := hv
  have hbx := World.block_lt_of_cell? w _ hm
  have hb0 : ∀ x x', Below w.heap.size w ((w.alloc x).alloc x') := fun x x' => ((Below.refl _ _).alloc (Nat.le_refl _) _).alloc (by simp) _
  have HP := Lib.hid hp; clear hp
  have b0 : ∀ x x', ((w.alloc x).alloc x').heap[w.heap.size]? = some x := fun x x' => (Cy.hb_old (Cy.hb_new w x) x').blk
  have b1 : ∀ x x', ((w.alloc x).alloc x').heap[w.heap.size + 1]? = some x' := fun x x' => by have := (Cy.hb_new (w.alloc x) x').blk; simpa using this
  have hs0 : ∀ x x', ((w.alloc x).alloc x').heap.size = w.heap.size + 2 := fun x x' => by simp
  have HL := Lib.hid hl; clear hl
  go_enter PA.func33, Try.ntmps33
  go_wp2_with (go_at_call 53; refine (cloneCd_any _ _ _ (Reads.below HP.out (hb0 _ _)) (by have := HL.out; omega)).mono ?_; rintro e w2 ⟨pv', rfl, hown, hb2⟩; obtain ⟨A, c, rfl⟩ := own_shape hown; have hB0 := (hb2.block _ (by rw [hs0]; omega)).trans (b0 _ _); have hB1 := (hb2.block _ (by rw [hs0]; omega)).trans (b1 _ _); have k2 := Cy.thaw_blk (i := 2) hB0; have k3 := Cy.cell_blk (i := 2) hB0 rfl; clear b0 b1)
  have hbw := bto (hb0 _ _) hb2
  rw [hs0] at hown
  have hl2 : w.heap.size + 1 < w2.heap.size := (Array.getElem?_eq_some_iff.1 hB1).1
  have hOwn := own_setCell hown ⟨w.heap.size, 2, none⟩ (.slice A y.days.length c) (by show w.heap.size < w.heap.size + 2; omega)
  have hBs := Cy.set_blk (i := 2) (v := .slice A y.days.length c) hB0
  have hBt := (Cy.setCell_ne w2 ⟨w.heap.size, 2, none⟩ (.slice A y.days.length c) (by show w.heap.size + 1 ≠ w.heap.size; omega)).trans hB1
  have hbW := hbw.setCell (p := ⟨w.heap.size, 2, none⟩) (by simp) (.slice A y.days.length c)
  have hmw : (w2.setCell ⟨w.heap.size, 2, none⟩ (.slice A y.days.length c)).cell? ⟨bx, 0, none⟩ = some (I m) := (hbW.cell (p := ⟨bx, 0, none⟩) hbx).trans hm
  clear hb2 k2 k3 hB0 hB1 hown hl2 hbw hb0 hs0
  have HOwn := Lib.hid hOwn
  have HBs := Lib.hid hBs
  have HBt := Lib.hid hBt
  have HbW := Lib.hid hbW
  have HM := Lib.hid hmw
  clear hOwn hBs hBt hbW hmw hm
  generalize w2.setCell ⟨w.heap.size, 2, none⟩ (.slice A y.days.length c) = w3 at *
  go_loopw [13] (fun i wr => ∃ k : Nat, k ≤ y.days.length ∧ i = I k ∧ Hid (wr.ownsRow (w.heap.size + 2) 59 3 (.slice A y.days.length c) y.days.length (ptCells (ratTo m y.days k))) ∧ Hid (wr.heap[w.heap.size]? = some (.cells #[I y.size, I y.start, .slice A y.days.length c] 24)) ∧ Hid (wr.heap[w.heap.size + 1]? = some (.cells #[.int .i64 0, .int .i64 0, .slice none 0 0] 24)) ∧ Hid (wr.cell? ⟨bx, 0, none⟩ = some (I m)) ∧ Hid (Below w.heap.size w wr)) (fun i _ => y.days.length - (intOf i).toNat)
  case atStart => exact ⟨0, by omega, rfl, HOwn, HBs, HBt, HM, HbW⟩
  case round =>
    clear HOwn HBs HBt HbW HM
    obtain ⟨k, hk, rfl, HOwn, HBs, HBt, HM, HbW⟩ := hrel
    have c0 := Cy.cell_blk (i := 0) HBs.out rfl
    have c1 := Cy.cell_blk (i := 1) HBs.out rfl
    have c2 := Cy.cell_blk (i := 2) HBs.out rfl
    by_cases hlt : k < y.days.length
    · have hk7 : k < 1000 := by have := HL.out; omega
      have hki : (k : Int) < (y.days.length : Int) := by omega
      have hget : (ratTo m y.days k)[k]? = some y.days[k] := by rw [ratTo_get, List.getElem?_eq_getElem hlt]; simp
      obtain ⟨g, cap, hAe, hg1, hg2⟩ := own_shape_pos HOwn.out (by omega)
      obtain ⟨rfl, -, rfl⟩ := slice_inj hAe
      clear hAe
      have HG := Lib.hid hget; clear hget
      clear c0 c1 c2
      go_wp2_with fail
      refine wp_region_segK [([0, 1, 2, 3, 4, 5, 6, 7, 8, 9, 10], 11)] [] [12, 13, 14] 12 (by kernel_rfl) (by kernel_rfl) ?_
      intro KQ hKQ wn hb
      have hOn := own_below HOwn.out hb
      obtain ⟨q0, q1⟩ := ownCd_cell (ratTo_len _ _ _) hOn k _ HG.out
      have j0 := cell_regrown (keep_cell hb (Cy.cell_blk (i := 2) HBs.out rfl))
      have j2 := cell_regrown q0
      have HON := Lib.hid hOn; clear hOn
      refine seg_next ?_
      simp only [opsAt, List.filterMap_cons, List.filterMap_nil, List.getElem?_toArray, List.getElem?_cons_succ, List.getElem?_cons_zero]
      repeat (first | go_big_quiet_step (fail) | quiet_step (fail))
      refine wpQuiet_nil ?_
      intro KK hKK
      refine loud_op rfl rfl ?_
      go_simp
      refine (least_any _ _ m bx _ (keep_cell hb HM.out)).mono ?_
      rintro e w6 ⟨rfl, rfl⟩
      refine hKK _ _ (Below.refl _ _) ?_
      clear hKK KK j0 j2
      refine seg_last ?_
      simp only [opsAt, List.filterMap_cons, List.filterMap_nil, List.getElem?_toArray, List.getElem?_cons_succ, List.getElem?_cons_zero]
      refine wpQuiet_nil ?_
      go_wp2_with fail
      go_roundw
      case rel =>
        have hO2 := ownCd_set (ratTo_len _ _ _) HON.out k (min y.days[k].cost m) (by rw [ratTo_len]; exact hlt)
        have he : ((ratTo m y.days k).modify k fun x => { x with cost := min y.days[k].cost m }) = ratTo m y.days (k + 1) := by
          apply List.ext_getElem?
          intro i
          rw [ratTo, List.getElem?_modify, List.getElem?_modify]
          by_cases e : k = i
          · subst e; rw [HG.out]; simp
          · simp [e]
        rw [he] at hO2
        refine ⟨k + 1, by omega, by go_num, Lib.hid hO2, Lib.hid ?_, Lib.hid ?_, Lib.hid ?_, Lib.hid ((bto HbW.out hb).setCell (p := ⟨g, k * 3 + 2, none⟩) (by show w.heap.size ≤ g; omega) _)⟩
        · exact (Cy.setCell_ne _ _ _ (by show w.heap.size ≠ g; omega)).trans ((hb.block _ (Array.getElem?_eq_some_iff.1 HBs.out).1).trans HBs.out)
        · exact (Cy.setCell_ne _ _ _ (by show w.heap.size + 1 ≠ g; omega)).trans ((hb.block _ (Array.getElem?_eq_some_iff.1 HBt.out).1).trans HBt.out)
        · exact (World.cell?_setCell_other _ _ _ _ (by simp)).trans (keep_cell hb HM.out)
      case measure => first | (simp [intOf]; done) | (simp [intOf]; omega)
    · obtain rfl : k = y.days.length := by omega
      have d0 := Cy.cell_blk (i := 0) HBt.out rfl
      have d1 := Cy.cell_blk (i := 1) HBt.out rfl
      have d2 := Cy.cell_blk (i := 2) HBt.out rfl
      have e0 := Cy.thaw_blk (i := 0) HBt.out
      have e1 := Cy.thaw_blk (i := 1) HBt.out
      have e2 := Cy.thaw_blk (i := 2) HBt.out
      go_wp2_with fail
      obtain ⟨r0, r1, r2⟩ := res3 d0 d1 d2
      refine bodyPost_ret (v := .agg #[I y.size, I y.start, .slice A y.days.length c]) (by simp [results, Try.results33, go_sem, r0, r1, r2]) rfl ⟨_, rfl, ⟨_, rfl, ?_⟩, ?_⟩
      · have h := HOwn.out
        rw [ratTo_all] at h
        have h2 := Reads.of_own (own_setCell (own_setCell (own_setCell h ⟨w.heap.size + 1, 0, none⟩ (I y.size) (by show w.heap.size + 1 < w.heap.size + 2; omega)) ⟨w.heap.size + 1, 1, none⟩ (I y.start) (by show w.heap.size + 1 < w.heap.size + 2; omega)) ⟨w.heap.size + 1, 2, none⟩ (.slice A y.days.length c) (by show w.heap.size + 1 < w.heap.size + 2; omega))
        have hlen : (ratD m y.days).length = y.days.length := by simp [ratD]
        show Reads _ 3 _ (ratD m y.days).length _
        rw [hlen]
        exact h2
      · exact ((HbW.out.setCell (p := ⟨w.heap.size + 1, 0, none⟩) (by simp) _).setCell (p := ⟨w.heap.size + 1, 1, none⟩) (by simp) _).setCell (p := ⟨w.heap.size + 1, 2, none⟩) (by simp) _
end Go.Proofs.Ytpolipcicfjkiaa
/- A day's step in numbers; wants of nought are met. Conditions: none. -/
namespace Go.Proofs.Ytpolipcicfjkiaa
open Go.RowKit Go.Sort
open Go.Proofs.Ytpolipcicfjkiaa.Cy (BelowH stepD runD lastsB)

theorem wrap_in (x : Int) (h : -1000000 ≤ x ∧ x ≤ 1000000) : IntKind.i64.wrap x = x := IntWalk.i64_in _ (by omega)
theorem stepD_in {cap lv r q : Int} (h1 : 0 ≤ lv) (h2 : lv ≤ cap) (h3 : cap ≤ 60) (h4 : 0 ≤ r) (h5 : r ≤ 20) (h6 : 0 ≤ q) (h7 : q ≤ 20) :
    stepD cap lv r q = (max 0 (min (lv + r) cap - q), max 0 (q - min (lv + r) cap), max 0 (lv + r - cap)) := by
  have e1 : IntKind.i64.wrap (lv + r) = lv + r := wrap_in _ (by omega)
  have e2 : IntKind.i64.wrap (lv + r - cap) = lv + r - cap := wrap_in _ (by omega)
  simp only [stepD, e1, e2]
  by_cases hc : lv + r - cap > 0
  · rw [if_pos hc]
    have e3 : IntKind.i64.wrap (lv + r - (lv + r - cap)) = cap := by rw [wrap_in _ (by omega)]; omega
    rw [e3]
    by_cases hq : cap < q
    · rw [if_pos hq, wrap_in _ (by omega), wrap_in _ (by omega)]
      ext <;> simp <;> omega
    · rw [if_neg hq, wrap_in _ (by omega), wrap_in _ (by omega)]
      ext <;> simp <;> omega
  · rw [if_neg hc]
    have e3 : IntKind.i64.wrap (lv + r - 0) = lv + r := by rw [wrap_in _ (by omega)]; omega
    rw [e3]
    by_cases hq : lv + r < q
    · rw [if_pos hq, wrap_in _ (by omega), wrap_in _ (by omega)]
      ext <;> simp <;> omega
    · rw [if_neg hq, wrap_in _ (by omega), wrap_in _ (by omega)]
      ext <;> simp <;> omega

/-- A day in range. -/
def DayIn (d : Int × Int) : Prop := 0 ≤ d.1 ∧ d.1 ≤ 20 ∧ 0 ≤ d.2 ∧ d.2 ≤ 20
theorem runD_cons {cap lv : Int} {d : Int × Int} {ds : List (Int × Int)} (h1 : 0 ≤ lv) (h2 : lv ≤ cap) (h3 : cap ≤ 60) (h : DayIn d) :
    runD cap lv (d :: ds) = (max 0 (min (lv + d.1) cap - d.2), max 0 (d.2 - min (lv + d.1) cap), max 0 (lv + d.1 - cap)) :: runD cap (max 0 (min (lv + d.1) cap - d.2)) ds := by
  rw [runD, stepD_in h1 h2 h3 h.1 h.2.1 h.2.2.1 h.2.2.2]
def met (l : List (Int × Int × Int)) : Bool := l.all fun d => !decide (0 < d.2.1)
theorem met_zero {cap : Int} (h3 : cap ≤ 60) : ∀ (ds : List (Int × Int)) (lv : Int), 0 ≤ lv → lv ≤ cap → (∀ d ∈ ds, DayIn d) → (∀ d ∈ ds, d.2 = 0) → met (runD cap lv ds) = true
  | [], _, _, _, _, _ => rfl
  | d :: ds, lv, h1, h2, h, h0 => by
    have hd := h d (by simp)
    have hz := h0 d (by simp)
    have := hd.1
    rw [runD_cons h1 h2 h3 hd]
    show (_ && met _) = true
    rw [met_zero h3 ds _ (by omega) (by omega) (fun x hx => h x (by simp [hx])) (fun x hx => h0 x (by simp [hx]))]
    simp
    omega
theorem badCd_no {p : Pt} (h : badCd p = false) : 0 ≤ p.lo ∧ p.lo ≤ p.hi ∧ p.hi ≤ 20 ∧ 0 ≤ p.cost ∧ p.cost ≤ 20 := by
  simp [badCd, inR] at h
  omega
theorem yValid_spec {y : CY} (h : yValid y = true) : 0 ≤ y.size ∧ y.size ≤ 60 ∧ 0 ≤ y.start ∧ y.start ≤ y.size ∧ y.days.length ≤ 8 ∧ ∀ p ∈ y.days, 0 ≤ p.lo ∧ p.lo ≤ p.hi ∧ p.hi ≤ 20 ∧ 0 ≤ p.cost ∧ p.cost ≤ 20 := by
  unfold yValid at h
  simp only [Bool.and_eq_true, inR, decide_eq_true_eq, Bool.not_eq_true', List.any_eq_false] at h
  obtain ⟨⟨⟨⟨h1, h2⟩, h3, h4⟩, h5⟩, h6⟩ := h
  exact ⟨h1, h2, h3, h4, h5, fun p hp => badCd_no (by simpa using h6 p hp)⟩
theorem lasts_zero {y : CY} (h : yValid y = true) : lastsY { y with days := ratD 0 y.days } = true := by
  obtain ⟨h1, h2, h3, h4, h5, h6⟩ := yValid_spec h
  show met (runD y.size (if y.size < y.start then y.size else y.start) _) = true
  rw [if_neg (by omega)]
  have key : ∀ d ∈ lowD { y with days := ratD 0 y.days }, DayIn d ∧ d.2 = 0 := by
    intro d hd
    simp only [lowD, ratD, List.map_map, List.mem_map, Function.comp] at hd
    obtain ⟨p, hp, rfl⟩ := hd
    have := h6 p hp
    exact ⟨⟨by show 0 ≤ p.lo; omega, by show p.lo ≤ 20; omega, by show 0 ≤ min p.cost 0; omega, by show min p.cost 0 ≤ 20; omega⟩, by show min p.cost 0 = 0; omega⟩
  exact met_zero h2 _ _ h3 h4 (fun d hd => (key d hd).1) (fun d hd => (key d hd).2)

def rationY (y : CY) : Int := match findI (fun s => lastsY { y with days := ratD (20 - s) y.days }) 21 0 with | some s => 20 - s | none => 0
def rationR (y : CY) : Value := if yValid y then .tuple #[I (rationY y), I 0] else .tuple #[I 0, I 100]
theorem rationY_eq {y : CY} {n : Int} (h0 : 0 ≤ n) (h1 : n ≤ 20) (h2 : lastsY { y with days := ratD n y.days } = true) (h3 : ∀ x, n < x → x ≤ 20 → lastsY { y with days := ratD x y.days } = false) : rationY y = n := by
  unfold rationY
  rw [findI_some 21 0 (20 - n) (by omega) (by omega) (by rw [show (20 : Int) - (20 - n) = n by omega]; exact h2) (fun x hx hx' => h3 (20 - x) (by omega) (by omega))]
  show 20 - (20 - n) = n
  omega
def natMu (b : Nat) (w : World) : Nat := match w.cell? ⟨b, 0, none⟩ with | some (.int _ s) => s.toNat | _ => 0
end Go.Proofs.Ytpolipcicfjkiaa
/- Ration. Conditions: none. -/
namespace Go.Proofs.Ytpolipcicfjkiaa
open Go.RowKit Go.Sort
open Go.Proofs.Ytpolipcicfjkiaa.Cy (BelowH)

set_option maxHeartbeats 4000000 in
theorem yRation_any (v : Value) (y : CY) (w : World) (hv : YAt w v y) (hl : y.days.length ≤ 366) :
    Calls PA.prog 16 #[v] w fun e w' => e = .returned (rationR y) ∧ BelowH w.heap.size w w' := by
  have hv0 := hv
  obtain ⟨pv, rfl, hp⟩ := hv
  have hb0 : ∀ x, Below w.heap.size w (w.alloc x) := fun x => (Below.refl _ _).alloc (Nat.le_refl _) _
  have HV := Lib.hid hv0; clear hv0
  have HP := Lib.hid hp; clear hp
  cases h1 : yValid y
  · have h2 : yChk y = 100 := by simp [yChk, h1]
    go_enter PA.func16, Try.ntmps16
    go_wp2_with (go_at_call 27; refine (yCheck_any _ _ _ (HV.out.below (hb0 _))).mono ?_; rintro e w1 ⟨rfl, hb1⟩)
    go_ret2
    exact ⟨by simp [rationR, h1], Cy.BelowH.of (bto (hb0 _) hb1)⟩
  · have h2 : yChk y = 0 := by simp [yChk, h1]
    have hR : rationR y = .tuple #[I (rationY y), I 0] := by simp [rationR, h1]
    have HR := Lib.hid hR; clear hR
    have HZ := Lib.hid (lasts_zero h1)
    go_enter PA.func16, Try.ntmps16
    go_wp2_with (go_at_call 27; refine (yCheck_any _ _ _ (HV.out.below (hb0 _))).mono ?_; rintro e w1 ⟨rfl, hb1⟩; obtain ⟨hc1, hf1⟩ := bcell hb1)
    have hbx : w1.heap[w.heap.size]? = some (.cells #[I y.size, I y.start, pv] 24) := by
      rw [hb1.block _ (by simp)]
      exact (Cy.hb_new w _).blk
    have hB1 : BelowH w.heap.size w w1 := Cy.BelowH.of (bto (hb0 _) hb1)
    have hlt1 := (Array.getElem?_eq_some_iff.1 hbx).1
    go_loopw [] (fun wr => ∃ n : Int, 0 ≤ n ∧ n ≤ 20 ∧ wr.heap[w.heap.size]? = some (.cells #[I y.size, I y.start, pv] 24) ∧ wr.heap[w1.heap.size]? = some (.cells #[I n] 3) ∧ BelowH w.heap.size w wr ∧ ∀ x, n < x → x ≤ 20 → lastsY { y with days := ratD x y.days } = false) (fun wr => natMu w1.heap.size wr)
    case atStart =>
      refine ⟨20, by omega, by omega, ?_, ?_, ⟨?_, fun k hk => ?_⟩, fun x h1 h2 => by omega⟩
      · exact (Cy.hb_old ⟨hbx⟩ _).blk
      · exact (Cy.hb_new w1 _).blk
      · have := hB1.size; simp; omega
      · refine Eq.trans ?_ (hB1.block k hk)
        rw [heap_alloc_old w1 _ (by omega)]
    case round =>
      obtain ⟨n, hn0, hn1, hbx, hbn, hB, hno⟩ := hrel
      have hc0 := Cy.cell_blk (i := 0) hbx rfl
      have hc1 := Cy.cell_blk (i := 1) hbx rfl
      have hc2 := Cy.cell_blk (i := 2) hbx rfl
      have hcn := Cy.cell_blk (i := 0) hbn rfl
      have hz1 := Cy.thaw_blk (i := 0) hbn
      have hlt := (Array.getElem?_eq_some_iff.1 hbx).1
      have hltn := (Array.getElem?_eq_some_iff.1 hbn).1
      go_wp2_with (first | (go_at_call 33; refine (wanting_any _ y n w1.heap.size _ ⟨pv, rfl, Reads.belowH HP.out hB⟩ hl hcn).mono ?_; rintro e w2 ⟨v2, rfl, hy2, hb2⟩) | (go_at_call 32; refine (yLasts_any _ { y with days := ratD n y.days } _ hy2 (by simpa [ratD] using hl)).mono ?_; rintro e w3 ⟨rfl, hb3⟩; have hb3 := hto (Cy.BelowH.of hb2) hb3; have hbx2 := (hb3.block _ hlt).trans hbx; have hbn2 := (hb3.block _ hltn).trans hbn; have hd1 := Cy.cell_blk (i := 0) hbn2 rfl; have hy1 := Cy.thaw_blk (i := 0) hbn2; cases hla : lastsY { y with days := ratD n y.days }))
      · have hn : n ≠ 0 := by rintro rfl; rw [HZ.out] at hla; cases hla
        go_roundw
        case rel =>
          refine ⟨n - 1, by omega, by omega, ?_, Cy.set_blk hbn2, ⟨?_, fun k hk => ?_⟩, ?_⟩
          · rw [Cy.setCell_ne _ _ _ (by show w.heap.size ≠ w1.heap.size; omega)]; exact hbx2
          · have := (hto hB hb3).size; unfold World.setCell; simpa using this
          · rw [Cy.setCell_ne _ _ _ (by show k ≠ w1.heap.size; omega)]; exact (hto hB hb3).block k hk
          · intro x h1 h2
            by_cases e : x = n
            · rw [e]; exact hla
            · exact hno x (by omega) h2
        case measure =>
          have := Cy.cell_blk (i := 0) (Cy.set_blk (i := 0) (v := I (n - 1)) hbn2) rfl
          simp [natMu, this, hcn]
          omega
      · go_ret2
        refine ⟨?_, hto hB hb3⟩
        rw [HR.out, rationY_eq hn0 hn1 hla hno]
        rfl
end Go.Proofs.Ytpolipcicfjkiaa
/- The reference's Check and IsDay of a year. Conditions: none. -/
namespace Go.Proofs.Ytpolipcicfjkiaa
open Go.RowKit Go.Sort
open Go.Proofs.Ytpolipcicfjkiaa.Cy (BelowH)

set_option maxHeartbeats 400000 in
theorem r10within_any (n lo hi : Int) (w : World) : Calls PA.prog 26 #[I n, I lo, I hi] w fun e w' => e = .returned (.bool (inR n lo hi)) ∧ w' = w := by
  go_enter PA.func26, Try.ntmps26
  go_wp2_with (go_at_call 19; refine (rWithin_any _ _ _ _).mono ?_; rintro e w' ⟨rfl, rfl⟩)
  go_ret
  exact ⟨rfl, rfl⟩
set_option maxHeartbeats 400000 in
theorem r10IsDay_any (v : Value) (y : CY) (k : Int) (w : World) (hv : YAt w v y) (hl : y.days.length ≤ 1000) :
    Calls PA.prog 17 #[v, I k] w fun e w' => e = .returned (.bool (inR k 0 (y.days.length - 1))) ∧ Below w.heap.size w w' := by
  obtain ⟨pv, rfl, hp⟩ := hv
  obtain ⟨A', c', rfl, _, _, _⟩ := hp.open_
  have hb0 : ∀ x, Below w.heap.size w (w.alloc x) := fun x => (Below.refl _ _).alloc (Nat.le_refl _) _
  clear hp
  go_enter PA.func17, Try.ntmps17
  go_wp2_with (go_at_call 26; refine (r10within_any _ _ _ _).mono ?_; rintro e w' ⟨rfl, rfl⟩)
  go_ret
  exact ⟨rfl, hb0 _⟩

theorem badCd_ref (p : Pt) : badCd p = (!inR p.lo 0 20 || !inR p.hi p.lo 20 || !inR p.cost 0 20) := by
  rw [Bool.eq_iff_iff]
  simp [badCd, inR]
  omega
theorem yBad_at {y : CY} (k : Nat) (h : k < y.days.length) (hb : badCd y.days[k] = true) : yChk y = 100 := by
  have : y.days.any badCd = true := List.any_eq_true.2 ⟨_, List.getElem_mem h, hb⟩
  simp [yChk, yValid, this]
theorem yGood {y : CY} (h1 : inR y.size 0 60 = true) (h2 : inR y.start 0 y.size = true) (h3 : y.days.length ≤ 8) (h : ∀ j (h : j < y.days.length), badCd y.days[j] = false) : yChk y = 0 := by
  have : y.days.any badCd = false := List.any_eq_false.2 fun x hx => by
    obtain ⟨j, hj, rfl⟩ := List.mem_iff_getElem.1 hx
    simp [h j hj]
  simp [yChk, yValid, h1, h2, h3, this]

set_option maxRecDepth 20000 in
set_option maxHeartbeats 2000000 in
theorem r10Check_any (v : Value) (y : CY) (w : World) (hv : YAt w v y) (hl : y.days.length ≤ 1000) :
    Calls PA.prog 12 #[v] w fun e w' => e = .returned (I (yChk y)) ∧ Below w.heap.size w w' := by
  obtain ⟨pv, rfl, hp⟩ := hv
  obtain ⟨A', c', rfl, hac', hcm', ha'⟩ := hp.open_
  have hb0 : ∀ x, Below w.heap.size w (w.alloc x) := fun x => (Below.refl _ _).alloc (Nat.le_refl _) _
  have HA := Lib.hid ha'; clear ha' hp
  have HB0 := Lib.hid (Cy.hb_new w (.cells #[I y.size, I y.start, .slice A' y.days.length c'] 24)).blk
  cases h1 : inR y.size 0 60
  · go_enter PA.func12, Try.ntmps12
    go_wp2_with (go_at_call 26; refine (r10within_any _ _ _ _).mono ?_; rintro e w' ⟨rfl, rfl⟩)
    go_ret
    exact ⟨by simp [yChk, yValid, h1], hb0 _⟩
  · cases h2 : inR y.start 0 y.size
    · go_enter PA.func12, Try.ntmps12
      go_wp2_with (go_at_call 26; refine (r10within_any _ _ _ _).mono ?_; rintro e w' ⟨rfl, rfl⟩)
      go_ret
      exact ⟨by simp [yChk, yValid, h2], hb0 _⟩
    · by_cases h3 : 8 < y.days.length
      · go_enter PA.func12, Try.ntmps12
        go_wp2_with (go_at_call 26; refine (r10within_any _ _ _ _).mono ?_; rintro e w' ⟨rfl, rfl⟩)
        go_ret
        exact ⟨by simp [yChk, yValid]; omega, hb0 _⟩
      · have H12 := Lib.hid (And.intro h1 h2)
        go_enter PA.func12, Try.ntmps12
        go_wp2_with (go_at_call 26; refine (r10within_any _ _ _ _).mono ?_; rintro e w' ⟨rfl, rfl⟩)
        clear h1 h2
        obtain ⟨wo, hwo⟩ : ∃ wo : World, wo = w.alloc (.cells #[I y.size, I y.start, .slice A' y.days.length c'] 24) := ⟨_, rfl⟩
        go_loopw [3] (fun i wr => ∃ k : Nat, k ≤ y.days.length ∧ i = I k ∧ Hid (∀ j (h : j < y.days.length), j < k → badCd y.days[j] = false) ∧ Hid (Below wo.heap.size wo wr)) (fun i _ => y.days.length - (intOf i).toNat)
        case atStart => exact ⟨0, by omega, rfl, Lib.hid (fun _ _ h => absurd h (by omega)), Lib.hid (by rw [hwo]; exact Below.refl _ _)⟩
        case round =>
          obtain ⟨m, hm, rfl, hq, hbw⟩ := hrel
          have hbl := hbw.out.block w.heap.size (by rw [hwo]; simp)
          rw [hwo, HB0.out] at hbl
          have c0 := Cy.cell_blk (i := 0) hbl rfl
          have c1 := Cy.cell_blk (i := 1) hbl rfl
          have c2 := Cy.cell_blk (i := 2) hbl rfl
          have hbt : Below w.heap.size w wr := bto (hb0 _) (by rw [← hwo]; exact hbw.out)
          have HBT := Lib.hid hbt
          clear hbl
          by_cases hlt : m < y.days.length
          · obtain ⟨b, o, rfl, hbl, hcell⟩ := HA.out (by omega)
            obtain ⟨y0, y1, y2⟩ := hcell m hlt
            have z0 := keep_cell hbt y0
            have z1 := keep_cell hbt y1
            have z2 := keep_cell hbt y2
            have HBD := Lib.hid (badCd_ref y.days[m])
            clear hcell y0 y1 y2 hbt
            cases hb1 : inR y.days[m].lo 0 20
            · have HC := Lib.hid (yBad_at m hlt (by rw [HBD.out, hb1]; rfl))
              go_wp2_with (go_at_call 26; refine (r10within_any _ _ _ _).mono ?_; rintro e w' ⟨rfl, rfl⟩)
              go_ret
              exact ⟨by rw [HC.out]; rfl, HBT.out.alloc HBT.out.size _⟩
            · cases hb2 : inR y.days[m].hi y.days[m].lo 20
              · have HC := Lib.hid (yBad_at m hlt (by rw [HBD.out, hb1, hb2]; rfl))
                go_wp2_with (go_at_call 26; refine (r10within_any _ _ _ _).mono ?_; rintro e w' ⟨rfl, rfl⟩)
                go_ret
                exact ⟨by rw [HC.out]; rfl, HBT.out.alloc HBT.out.size _⟩
              · cases hb3 : inR y.days[m].cost 0 20
                · have HC := Lib.hid (yBad_at m hlt (by rw [HBD.out, hb1, hb2, hb3]; rfl))
                  go_wp2_with (go_at_call 26; refine (r10within_any _ _ _ _).mono ?_; rintro e w' ⟨rfl, rfl⟩)
                  go_ret
                  exact ⟨by rw [HC.out]; rfl, HBT.out.alloc HBT.out.size _⟩
                · have HB := Lib.hid (show badCd y.days[m] = false by rw [HBD.out, hb1, hb2, hb3]; rfl)
                  go_wp2_with (go_at_call 26; refine (r10within_any _ _ _ _).mono ?_; rintro e w' ⟨rfl, rfl⟩)
                  go_roundw
                  case rel => exact ⟨m + 1, by omega, by go_num, Lib.hid (fun j h hjk => by
                    by_cases e : j = m
                    · subst e; exact HB.out
                    · exact hq.out j h (by omega)), Lib.hid (hbw.out.alloc hbw.out.size _)⟩
                  case measure => first | (simp [intOf]; done) | (simp [intOf]; omega)
          · obtain rfl : m = y.days.length := by omega
            have HC := Lib.hid (yGood H12.out.1 H12.out.2 (by omega) (fun j h => hq.out j h h))
            go_wp2_with fail
            go_ret
            exact ⟨by rw [HC.out]; rfl, HBT.out⟩
end Go.Proofs.Ytpolipcicfjkiaa

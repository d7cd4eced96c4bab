/- One more gauging, and each truth: plain laws over what the functions return. -/
import Derived.Test.YtbddaemekgflmaaW41
import Derived.Test.YtbddaemekgflmaaW34
namespace Go.Proofs.Ytbddaemekgflmaa

theorem askE_yes {d : DLine} (h : valid d = true) : askE d true = 0 := by simp [askE, h]
theorem flowsR_calm' {d : DLine} (h : valid d = true) (hc : calm d.pts) : flowsR d true = (flowsL d, 0) := flowsR_one (askE_yes h) ((oneB_iff h).2 hc)
theorem flowsR_wild {d : DLine} (h : valid d = true) (hc : ¬ calm d.pts) : flowsR d true = ([], 3) := flowsR_none (askE_yes h) (by cases hx : oneB d; rfl; exact absurd ((oneB_iff h).1 hx) hc)
theorem flowR_ok {d : DLine} (h : valid d = true) (hc : calm d.pts) (q : Nat) (hq : q < d.pts.length) : flowR d q = (flowAt d q, 0) := by
  have hi : isPt d q = true := by simp [isPt, inR]; omega
  unfold flowR
  rw [hi, flowsR_calm' h hc]
  simp
theorem lossR_ok {d : DLine} (h : valid d = true) (hc : calm d.pts) (s : Nat) (hs : s < d.odds.length) : lossR d s = (lossP d s (s + 1), 0) := by
  have hi : isSt d s = true := by simp [isSt, inR]; omega
  have hpn := (valid_spec h).2.1
  unfold lossR
  rw [hi, flowsR_calm' h hc]
  simp only [if_true, Int.toNat_natCast]
  rw [lostF_lossP d s (s + 1) (by omega) (by omega)]
theorem wholeR_ok {d : DLine} (h : valid d = true) (hc : calm d.pts) : wholeR d = (lossP d 0 d.odds.length, 0) := by
  have hpn := (valid_spec h).2.1
  unfold wholeR
  rw [flowsR_calm' h hc]
  simp only [if_true]
  rw [lostF_lossP d 0 d.odds.length (by omega) (by omega)]
theorem wholeR_none {d : DLine} (h : valid d = true) (hc : ¬ calm d.pts) : wholeR d = ((0, 0), 3) := by
  unfold wholeR
  rw [flowsR_wild h hc]
  simp
theorem loSuf_down {d : DLine} (f t : Nat) (hft : f ≤ t) (ht : t < d.pts.length) : loSuf d.pts t ≤ loSuf d.pts f := by
  rw [loSuf_le _ _ (by omega)]
  have := (loSuf_le d.pts f (by omega) (loSuf d.pts f)).1 (Int.le_refl _)
  exact ⟨this.1, fun i h1 h2 => this.2 i (by omega) h2⟩
theorem hiPre_mono {d : DLine} (f t : Nat) (hft : f ≤ t) (ht : t ≤ d.pts.length) : hiPre d.pts t ≤ hiPre d.pts f := by
  rw [hiPre_all _ _ (by omega)]
  have := (hiPre_all d.pts t (by omega) (hiPre d.pts t)).1 (Int.le_refl _)
  exact ⟨this.1, fun i h1 => this.2 i (by omega)⟩
/-- A narrower line: what it leaves. -/
structure Narrow (d D : DLine) : Prop where
  vd : valid d = true
  vD : valid D = true
  lp : D.pts.length = d.pts.length
  lo : D.odds.length = d.odds.length
  cd : calm d.pts
  cD : calm D.pts
  low : ∀ i, i < d.pts.length → loSuf d.pts i ≤ loSuf D.pts i
  high : ∀ i, i ≤ d.pts.length → hiPre D.pts i ≤ hiPre d.pts i
theorem narrow_of {d : DLine} (hv : valid d = true) (p : Nat) (hp : p < d.pts.length) (lo hi : Int) (hin : insideB (lo, hi) ((d.pts[p]).lo, (d.pts[p]).hi) = true) (h1 : oneB (setFlow d p lo hi) = true) : Narrow d (setFlow d p lo hi) := by
  simp only [insideB, Bool.and_eq_true, decide_eq_true_eq] at hin
  obtain ⟨⟨i1, i2⟩, i3⟩ := hin
  obtain ⟨p1, p2, p3⟩ := valid_pt hv p hp
  have hg : d.pts.getD p default = d.pts[p] := by simp [List.getD, List.getElem?_eq_getElem hp]
  rw [hg] at p1 p2 p3
  have hV := setFlow_valid hv p lo hi (by omega) i2 (by omega)
  have hC := (oneB_iff hV).1 h1
  have hl := (setFlow_len d p lo hi).1
  have key : ∀ i, i < d.pts.length → (d.pts.getD i default).lo ≤ ((setFlow d p lo hi).pts.getD i default).lo ∧ ((setFlow d p lo hi).pts.getD i default).hi ≤ (d.pts.getD i default).hi := by
    intro i _
    rw [(setFlow_get d p lo hi i hp).1, (setFlow_get d p lo hi i hp).2]
    by_cases e : i = p
    · subst e; rw [if_pos rfl, if_pos rfl, hg]; exact ⟨i1, i3⟩
    · rw [if_neg e, if_neg e]; exact ⟨Int.le_refl _, Int.le_refl _⟩
  refine ⟨hv, hV, hl, by rw [(setFlow_len d p lo hi).2], fun b hb a ha => ?_, hC, fun i hi' => ?_, fun i hi' => ?_⟩
  · have h1 := hC b (by rw [hl]; exact hb) a ha
    have h2 := (key b hb).1
    have h3 := (key a (by omega)).2
    omega
  · rw [loSuf_le _ _ (by omega)]
    have := (loSuf_le (setFlow d p lo hi).pts i (by rw [hl]; omega) (loSuf (setFlow d p lo hi).pts i)).1 (Int.le_refl _)
    refine ⟨this.1, fun j h1 h2 => ?_⟩
    have h3 := this.2 j h1 (by rw [hl]; exact h2)
    have h4 := (key j h2).1
    omega
  · rw [hiPre_all _ _ hi']
    have := (hiPre_all (setFlow d p lo hi).pts i (by rw [hl]; omega) (hiPre (setFlow d p lo hi).pts i)).1 (Int.le_refl _)
    refine ⟨this.1, fun j h1 => ?_⟩
    have h3 := this.2 j h1
    have h4 := (key j (by omega)).2
    omega
theorem inside_iff (a b : Int × Int) : insideB a b = true ↔ b.1 ≤ a.1 ∧ a.1 ≤ a.2 ∧ a.2 ≤ b.2 := by
  unfold insideB
  simp [and_assoc]
theorem Narrow.flow {d D : DLine} (h : Narrow d D) (q : Nat) (hq : q < d.pts.length) : insideB (flowAt D q) (flowAt d q) = true := by
  rw [inside_iff]
  exact ⟨h.low q hq, calm_flow h.vD h.cD q (by rw [h.lp]; exact hq), h.high (q + 1) (by omega)⟩
theorem loss_facts {d : DLine} (hv : valid d = true) (hc : calm d.pts) (f t : Nat) (hft : f ≤ t) (ht : t < d.pts.length) : 0 ≤ (lossP d f t).1 ∧ (lossP d f t).1 ≤ (lossP d f t).2 := by
  have h1 := calm_flow hv hc f (by omega)
  have h2 := calm_flow hv hc t ht
  have h3 := loSuf_down f t hft ht
  have h4 := hiPre_mono (d := d) (f + 1) (t + 1) (by omega) (by omega)
  unfold lossP
  split
  · exact ⟨Int.le_refl _, Int.le_refl _⟩
  · exact ⟨by simp only; omega, by simp only; omega⟩
theorem Narrow.loss {d D : DLine} (h : Narrow d D) (f t : Nat) (hft : f ≤ t) (ht : t < d.pts.length) : insideB (lossP D f t) (lossP d f t) = true := by
  rw [inside_iff]
  have h0 := (loss_facts h.vD h.cD f t hft (by rw [h.lp]; exact ht)).2
  refine ⟨?_, h0, ?_⟩
  · have a1 := h.low f (by omega)
    have a2 := h.high (t + 1) (by omega)
    unfold lossP
    split
    · exact Int.le_refl _
    · simp only; omega
  · have a1 := h.low t ht
    have a2 := h.high (f + 1) (by omega)
    unfold lossP
    split
    · exact Int.le_refl _
    · simp only; omega
theorem lossyR_ok {d : DLine} (h : valid d = true) (hc : calm d.pts) (s : Nat) (hs : s < d.odds.length) : lossyR d s = ((if 0 < (lossP d s (s + 1)).1 then 1 else if (lossP d s (s + 1)).2 = 0 then 2 else 3), 0) := by
  unfold lossyR lossyOf
  rw [lossR_ok h hc s hs]
  simp only [if_true]
  split
  · rfl
  · split <;> rfl
theorem Narrow.lossy {d D : DLine} (h : Narrow d D) (s : Nat) (hs : s < d.odds.length) : (lossyR d s).1 = 3 ∨ (lossyR D s).1 = (lossyR d s).1 := by
  have hpn := (valid_spec h.vd).2.1
  have h1 := (inside_iff _ _).1 (h.loss s (s + 1) (by omega) (by omega))
  have h2 := loss_facts h.vd h.cd s (s + 1) (by omega) (by omega)
  have h3 := loss_facts h.vD h.cD s (s + 1) (by omega) (by rw [h.lp]; omega)
  rw [lossyR_ok h.vd h.cd s hs, lossyR_ok h.vD h.cD s (by rw [h.lo]; exact hs)]
  simp only
  by_cases c1 : 0 < (lossP d s (s + 1)).1
  · right; rw [if_pos c1, if_pos (by omega)]
  · rw [if_neg c1]
    by_cases c2 : (lossP d s (s + 1)).2 = 0
    · right; rw [if_pos c2, if_neg (by omega), if_pos (by omega)]
    · left; rw [if_neg c2]
end Go.Proofs.Ytbddaemekgflmaa

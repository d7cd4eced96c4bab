/- Other costs and odds: plain laws over what the functions return. -/
import Derived.Test.YtbddaemekgflmaaW22
import Derived.Test.YtbddaemekgflmaaW24
import Derived.Test.YtbddaemekgflmaaW26
import Derived.Test.YtbddaemekgflmaaPlain5
namespace Go.Proofs.Ytbddaemekgflmaa

theorem argmin_mul (g g' : Nat → Int) (f : Nat) (k : Int) (hk : 1 ≤ k) : ∀ n, (∀ p, f < p → p ≤ f + n → g' p = k * g p) → argmin g' f n = (k * (argmin g f n).1, (argmin g f n).2)
  | 0, _ => by simp [argmin]
  | n + 1, h => by
    have ih := argmin_mul g g' f k hk n (fun p h1 h2 => h p h1 (by omega))
    unfold argmin
    rw [ih, h (f + n + 1) (by omega) (by omega)]
    have e : k * g (f + n + 1) < k * (argmin g f n).1 ↔ g (f + n + 1) < (argmin g f n).1 := by
      constructor
      · intro h'; exact Int.lt_of_mul_lt_mul_left h' (by omega)
      · intro h'; exact Int.mul_lt_mul_of_pos_left h' (by omega)
    simp only [e]
    split <;> rfl
/-- A measure that is k times as great: so is the table. -/
theorem tab_mul {part part' : Part} (k : Int) (hk : 1 ≤ k) (h : ∀ f p t b a, part' f p t (k * b) (k * a) = k * part f p t b a) (m : Nat) : ∀ f, tab part' m f = (k * (tab part m f).1, (tab part m f).2) := by
  induction m using Nat.strongRecOn with
  | _ m ih =>
    intro f
    rw [tab_eq, tab_eq]
    refine argmin_mul (tabG part m f) (tabG part' m f) f k hk (m - 1) (fun p h1 h2 => ?_)
    unfold tabG
    by_cases h3 : p < f + m
    · rw [ih (p - f) (by omega), ih (f + m - p) (by omega)]
      exact h _ _ _ _ _
    · omega
theorem mul_max (k x y : Int) (hk : 0 ≤ k) : max (k * x) (k * y) = k * max x y := by
  by_cases h : x ≤ y
  · rw [Int.max_eq_right h, Int.max_eq_right (Int.mul_le_mul_of_nonneg_left h hk)]
  · have h2 := Int.mul_le_mul_of_nonneg_left (show y ≤ x by omega) hk
    rw [Int.max_eq_left (show y ≤ x by omega), Int.max_eq_left h2]

/-- A line of other costs and odds. -/
structure Times (d D : DLine) (a b : Int) : Prop where
  lp : D.pts.length = d.pts.length
  lo : D.odds.length = d.odds.length
  cost : ∀ q, costAt D q = a * costAt d q
  odds : ∀ f t, oddsOf D f t = b * oddsOf d f t
theorem Times.worst {d D : DLine} {a b : Int} (h : Times d D a b) (ha : 1 ≤ a) (f t : Nat) : worstN D f t = a * worstN d f t ∧ nextN D f t = nextN d f t := by
  have key := tab_mul (part := worstP d) (part' := worstP D) a ha (fun f p t x y => by
    unfold worstP
    rw [h.cost, mul_max a x y (by omega), Int.mul_add]) (t - f) f
  unfold worstN nextN
  rw [key]
  exact ⟨rfl, rfl⟩
theorem Times.avg {d D : DLine} {a b : Int} (h : Times d D a b) (ha : 1 ≤ a) (hb : 1 ≤ b) (f t : Nat) : avgN D f t = a * b * avgN d f t := by
  have hab : 1 ≤ a * b := by
    have := Int.mul_le_mul ha hb (by omega) (by omega)
    omega
  have key := tab_mul (part := sumP d) (part' := sumP D) (a * b) hab (fun f p t x y => by
    unfold sumP
    rw [h.cost, h.odds]
    rw [Int.mul_add, Int.mul_add]
    congr 2
    rw [Int.mul_assoc, Int.mul_assoc, ← Int.mul_assoc (costAt d p), Int.mul_comm (costAt d p) b, Int.mul_assoc b]) (t - f) f
  unfold avgN
  rw [key]
theorem avg_le_worst {d : DLine} (hx : ∀ x ∈ d.odds, 0 ≤ x ∧ x ≤ 9) (m : Nat) : ∀ f t, t - f = m → f ≤ t → t ≤ d.odds.length → avgN d f t ≤ worstN d f t * oddsOf d f t := by
  induction m using Nat.strongRecOn with
  | _ m ih =>
    intro f t hm hft ht
    by_cases h : f + 1 < t
    · -- the sum of the first parting at which the worst is
      obtain ⟨p, h1, h2, h3⟩ : ∃ p, f < p ∧ p < t ∧ worstN d f t = costAt d p + max (worstN d f p) (worstN d p t) := by
        rw [worst_wt]
        obtain ⟨q, q1, q2, q3⟩ := wt_at (costAt d) (t - f) f (by omega)
        refine ⟨q, q1, by omega, ?_⟩
        rw [q3, show f + (t - f) - q = t - q by omega]
        rfl
      have hA : avgN d f t ≤ costAt d p * oddsOf d f t + avgN d f p + avgN d p t := by
        have h4 : (tab (sumP d) (t - f) f).1 ≤ tabG (sumP d) (t - f) f p := by
          rw [tab_eq]
          exact argmin_le _ _ _ _ h1 (by omega)
        rw [tabG_sum d f t p h1 h2] at h4
        exact h4
      have i1 := ih (p - f) (by omega) f p rfl (by omega) (by omega)
      have i2 := ih (t - p) (by omega) p t rfl (by omega) ht
      have e : oddsOf d f t = oddsOf d f p + oddsOf d p t := by
        clear hA i1 i2 h3 ih hm h hft
        induction t with
        | zero => omega
        | succ t iht =>
          by_cases hpt : p = t
          · subst hpt
            rw [oddsOf_back d f p (by omega) (by omega), oddsOf_back d p p (Nat.le_refl _) (by omega), oddsOf_self]
            omega
          · rw [oddsOf_back d f t (by omega) (by omega), oddsOf_back d p t (by omega) (by omega), iht (by omega) (by omega)]
            omega
      have o1 := (oddsOf_bd d f p hx).1
      have o2 := (oddsOf_bd d p t hx).1
      have m1 : worstN d f p * oddsOf d f p ≤ max (worstN d f p) (worstN d p t) * oddsOf d f p := Int.mul_le_mul_of_nonneg_right (by omega) o1
      have m2 : worstN d p t * oddsOf d p t ≤ max (worstN d f p) (worstN d p t) * oddsOf d p t := Int.mul_le_mul_of_nonneg_right (by omega) o2
      rw [h3, Int.add_mul]
      have e2 : max (worstN d f p) (worstN d p t) * oddsOf d f t = max (worstN d f p) (worstN d p t) * oddsOf d f p + max (worstN d f p) (worstN d p t) * oddsOf d p t := by rw [e, Int.mul_add]
      omega
    · have e1 : avgN d f t = 0 := by
        unfold avgN
        rw [tab_eq, show t - f - 1 = 0 by omega]
        rfl
      have e2 : worstN d f t = 0 := by rw [worst_wt]; exact wt_small _ _ _ (by omega)
      rw [e1, e2]
      simp
/-- The same fraction. -/
theorem redR_mul (k N M : Nat) (hk : 0 < k) : redR ((k * N : Nat) : Int) ((k * M : Nat) : Int) = redR (N : Int) (M : Int) := by
  unfold redR
  simp only [Int.toNat_natCast]
  rw [Nat.gcd_mul_left]
  have e : ∀ x : Nat, ((k * x : Nat) : Int) / ((k * Nat.gcd N M : Nat) : Int) = (x : Int) / ((Nat.gcd N M : Nat) : Int) := fun x => by
    rw [← Int.natCast_ediv, ← Int.natCast_ediv, Nat.mul_div_mul_left _ _ hk]
  rw [e, e]
theorem redR_facts (N M : Nat) (hM : 0 < M) : ∃ n m g : Nat, redR (N : Int) (M : Int) = ((n : Int), (m : Int)) ∧ 0 < g ∧ N = g * n ∧ M = g * m := by
  have hg : 0 < Nat.gcd N M := Nat.gcd_pos_of_pos_right _ hM
  refine ⟨N / Nat.gcd N M, M / Nat.gcd N M, Nat.gcd N M, ?_, hg, ?_, ?_⟩
  · unfold redR
    simp only [Int.toNat_natCast, Int.natCast_ediv]
  · rw [Nat.mul_div_cancel' (Nat.gcd_dvd_left N M)]
  · rw [Nat.mul_div_cancel' (Nat.gcd_dvd_right N M)]

/-- The first k points cost a times as much; the first k stretches have b times the odds. -/
def mulP (d : DLine) (a : Int) : Nat → DLine
  | 0 => d
  | k + 1 => setCost (mulP d a k) k (costAt d k * a)
def mulO (d : DLine) (a b : Int) : Nat → DLine
  | 0 => mulP d a d.pts.length
  | k + 1 => setOdd (mulO d a b k) k (d.odds.getD k 0 * b)
theorem mulP_len (d : DLine) (a : Int) : ∀ k, (mulP d a k).pts.length = d.pts.length ∧ (mulP d a k).odds = d.odds
  | 0 => ⟨rfl, rfl⟩
  | k + 1 => by
    have ih := mulP_len d a k
    unfold mulP
    rw [(setCost_len _ _ _).1, (setCost_len _ _ _).2]
    exact ih
theorem mulP_cost (d : DLine) (a : Int) : ∀ k, k ≤ d.pts.length → ∀ q, costAt (mulP d a k) q = if q < k then costAt d q * a else costAt d q
  | 0, _, q => by rw [if_neg (by omega)]; rfl
  | k + 1, h, q => by
    have ih := mulP_cost d a k (by omega) q
    unfold mulP
    rw [costAt_setCost _ _ _ _ (by rw [(mulP_len d a k).1]; omega)]
    by_cases e : q = k
    · subst e; rw [if_pos rfl, if_pos (by omega)]
    · rw [if_neg e, ih]
      by_cases e2 : q < k
      · rw [if_pos e2, if_pos (by omega)]
      · rw [if_neg e2, if_neg (by omega)]
theorem mulO_len (d : DLine) (a b : Int) : ∀ k, (mulO d a b k).pts = (mulP d a d.pts.length).pts ∧ (mulO d a b k).odds.length = d.odds.length
  | 0 => ⟨rfl, by rw [show mulO d a b 0 = mulP d a d.pts.length from rfl, (mulP_len d a _).2]⟩
  | k + 1 => by
    have ih := mulO_len d a b k
    unfold mulO
    exact ⟨ih.1, by simpa [setOdd] using ih.2⟩
theorem mulO_get (d : DLine) (a b : Int) (i : Nat) (hi : i < d.odds.length) : ∀ k, k ≤ d.odds.length → (mulO d a b k).odds[i]? = some (if i < k then d.odds[i] * b else d.odds[i])
  | 0, _ => by
    rw [if_neg (by omega), show mulO d a b 0 = mulP d a d.pts.length from rfl, (mulP_len d a _).2, List.getElem?_eq_getElem hi]
  | k + 1, h => by
    have ih := mulO_get d a b i hi k (by omega)
    have hl := (mulO_len d a b k).2
    unfold mulO setOdd
    simp only [List.getElem?_set]
    by_cases e : k = i
    · subst e
      rw [if_pos rfl, if_pos (by rw [hl]; exact hi), if_pos (by omega)]
      simp [List.getD, List.getElem?_eq_getElem hi]
    · rw [if_neg e, ih]
      by_cases e2 : i < k
      · rw [if_pos e2, if_pos (by omega)]
      · rw [if_neg e2, if_neg (by omega)]
theorem sumI_mul (b : Int) : ∀ l : List Int, sumI (l.map (· * b)) = b * sumI l
  | [] => by simp [sumI]
  | x :: l => by simp only [List.map_cons, sumI, sumI_mul b l]; rw [Int.mul_add, Int.mul_comm x b]
theorem mul_times (d : DLine) (a b : Int) : Times d (mulO d a b d.odds.length) a b := by
  have ho : (mulO d a b d.odds.length).odds = d.odds.map (· * b) := by
    apply List.ext_getElem?
    intro i
    by_cases hi : i < d.odds.length
    · rw [mulO_get d a b i hi _ (Nat.le_refl _), if_pos hi]
      simp [List.getElem?_eq_getElem hi]
    · rw [List.getElem?_eq_none (by rw [(mulO_len d a b _).2]; omega), List.getElem?_eq_none (by simp; omega)]
  refine ⟨by rw [(mulO_len d a b _).1, (mulP_len d a _).1], (mulO_len d a b _).2, fun q => ?_, fun f t => ?_⟩
  · have e : costAt (mulO d a b d.odds.length) q = costAt (mulP d a d.pts.length) q := by unfold costAt; rw [(mulO_len d a b _).1]
    rw [e, mulP_cost d a _ (Nat.le_refl _)]
    split
    · exact Int.mul_comm _ _
    · rename_i h
      have : costAt d q = 0 := by unfold costAt; rw [List.getElem?_eq_none (by omega)]; rfl
      rw [this]; simp
  · unfold oddsOf
    rw [ho, ← List.map_drop, ← List.map_take, sumI_mul]
theorem avgR_ok {d : DLine} (h : valid d = true) (f t : Nat) (hf : f < t) (ht : t ≤ d.odds.length) : avgR d f t = (redR (avgN d f t) (oddsOf d f t), 0) := by
  have h1 : someOf d f t = true := by simp [someOf]; omega
  unfold avgR
  rw [h1, if_pos (by simp [askE, h])]
  simp only [Int.toNat_natCast]
theorem nextR_ok {d : DLine} (h : valid d = true) (f t : Nat) (hf : f < t) (ht : t ≤ d.odds.length) : nextR d f t = (if t = f + 1 then (0, 3) else ((nextN d f t : Int), 0)) := by
  have h1 : someOf d f t = true := by simp [someOf]; omega
  unfold nextR
  rw [h1, if_pos (by simp [askE, h])]
  simp only [Int.toNat_natCast]
  by_cases e : t = f + 1
  · rw [if_pos e, if_pos (by omega)]
  · rw [if_neg e, if_neg (by omega)]
theorem freeR_ok {d : DLine} (h : valid d = true) (x : Nat) (hx : x < d.pts.length) (hn : 0 < d.odds.length) : freeR d x = (worstN d 0 d.odds.length - worstN (setCost d x 0) 0 d.odds.length, 0) := by
  have h1 : isPt d x = true := by simp [isPt, inR]; omega
  unfold freeR
  rw [h1, if_pos (by simp [askE, h]), if_neg (by omega)]
  simp only [Int.toNat_natCast]
/-- What the law asks. -/
structure TimesSaid (d D : DLine) (f t x a : Nat) (W n m k : Int) : Prop where
  w : worstR d f t = (W, 0)
  av : avgR d f t = ((n, m), 0)
  fr : freeR d x = (k, 0)
  bw : 0 ≤ W ∧ W ≤ 140
  bn : 0 ≤ n ∧ n ≤ 10000
  bm : 1 ≤ m ∧ m ≤ 1000
  bk : 0 ≤ k ∧ k ≤ 1000
  le : n ≤ W * m
  bwm : 0 ≤ W * m ∧ W * m ≤ 140000
  w' : valid D = true → worstR D f t = (W * a, 0)
  av' : valid D = true → avgR D f t = (redR (n * a) m, 0)
  nx' : valid D = true → nextR D f t = nextR d f t
  fr' : valid D = true → freeR D x = (k * a, 0)
theorem times_said {d : DLine} (h : valid d = true) (f t x a b : Nat) (hf : f < t) (ht : t ≤ d.odds.length) (hx : x < d.pts.length) (ha : 1 ≤ a) (hb : 1 ≤ b) :
    ∃ (W : Int) (n m : Nat) (k : Int), TimesSaid d (mulO d a b d.odds.length) f t x a W n m k := by
  have hT := mul_times d a b
  have hv := valid_spec h
  have hox : ∀ z ∈ d.odds, 0 ≤ z ∧ z ≤ 9 := fun z hz => by have := hv.2.2.2 z hz; omega
  have ob := oddsOf_pos h hf ht
  have ab := avg_bd h f t ht (by omega)
  have wb := worst_bd h f t ht (by omega)
  have wb0 := worst_bd h 0 d.odds.length (Nat.le_refl _) (Nat.zero_le _)
  have hle := avg_le_worst hox (t - f) f t rfl (by omega) ht
  obtain ⟨N, hN⟩ := Int.eq_ofNat_of_zero_le ab.1
  obtain ⟨M, hM⟩ := Int.eq_ofNat_of_zero_le (show 0 ≤ oddsOf d f t by omega)
  obtain ⟨n, m, g, e1, e2, e3, e4⟩ := redR_facts N M (by omega)
  have hm : 1 ≤ m := by
    rcases Nat.eq_zero_or_pos m with h0 | h0
    · rw [h0, Nat.mul_zero] at e4; omega
    · exact h0
  have hmM : m ≤ M := by rw [e4]; exact Nat.le_mul_of_pos_left _ e2
  have hnN : n ≤ N := by rw [e3]; exact Nat.le_mul_of_pos_left _ e2
  have hnm : (n : Int) ≤ worstN d f t * m := by
    rw [hN, hM, e3, e4] at hle
    have : (g : Int) * (n : Int) ≤ (g : Int) * (worstN d f t * m) := by
      have e : (g : Int) * (worstN d f t * m) = worstN d f t * ((g * m : Nat) : Int) := by
        rw [Int.natCast_mul, ← Int.mul_assoc, Int.mul_comm (g : Int), Int.mul_assoc]
      rw [e, ← Int.natCast_mul]; exact hle
    exact Int.le_of_mul_le_mul_left this (by omega)
  have hmb : (m : Int) ≤ 1000 := by omega
  have hbw := mul_bd wb.1 wb.2 (show (0 : Int) ≤ m by omega) hmb
  have hs := setCost_valid h x 0 (by omega)
  have wb2 := worst_bd hs 0 d.odds.length (Nat.le_refl _) (Nat.zero_le _)
  have hfr := freeR_ok h x hx (by omega)
  refine ⟨worstN d f t, n, m, worstN d 0 d.odds.length - worstN (setCost d x 0) 0 d.odds.length, worstR_ok h f t hf ht, ?_, hfr, wb, by omega, by omega, ?_, hnm, by omega, ?_, ?_, ?_, ?_⟩
  · rw [avgR_ok h f t hf ht, hN, hM, e1]
  · have hmo : worstN (setCost d x 0) 0 d.odds.length ≤ worstN d 0 d.odds.length := by
      rw [worst_wt, worst_wt]
      refine wt_mono _ _ (fun q _ _ => ?_)
      rw [costAt_setCost d x q 0 hx]
      split
      · exact (costAt_bd h q).1
      · exact Int.le_refl _
    omega
  · intro hV
    rw [worstR_ok hV f t hf (by rw [hT.lo]; exact ht), (hT.worst (by omega) f t).1, Int.mul_comm]
  · intro hV
    rw [avgR_ok hV f t hf (by rw [hT.lo]; exact ht), hT.avg (by omega) (by omega), hT.odds, hN, hM, e3, e4]
    have q1 : (a : Int) * (b : Int) * ((g * n : Nat) : Int) = (((b * g) * (n * a) : Nat) : Int) := by
      simp only [Int.natCast_mul]
      rw [Int.mul_comm (a : Int) (b : Int), Int.mul_assoc (b : Int), Int.mul_assoc (b : Int), ← Int.mul_assoc (a : Int), Int.mul_comm (a : Int) (g : Int), Int.mul_assoc (g : Int), Int.mul_comm (a : Int) (n : Int)]
    have q2 : (b : Int) * ((g * m : Nat) : Int) = (((b * g) * m : Nat) : Int) := by
      simp only [Int.natCast_mul]
      rw [Int.mul_assoc]
    rw [q1, q2, redR_mul (b * g) (n * a) m (Nat.mul_pos (by omega) e2)]
    simp only [Int.natCast_mul]
  · intro hV
    rw [nextR_ok hV f t hf (by rw [hT.lo]; exact ht), nextR_ok h f t hf ht, (hT.worst (by omega) f t).2]
  · intro hV
    rw [freeR_ok hV x (by rw [hT.lp]; exact hx) (by rw [hT.lo]; omega), hT.lo, (hT.worst (by omega) 0 _).1]
    have hT2 : Times (setCost d x 0) (setCost (mulO d a b d.odds.length) x 0) a b := by
      refine ⟨by rw [(setCost_len _ _ _).1, (setCost_len _ _ _).1]; exact hT.lp, by rw [(setCost_len _ _ _).2, (setCost_len _ _ _).2]; exact hT.lo, fun q => ?_, fun f t => ?_⟩
      · rw [costAt_setCost d x q 0 hx, costAt_setCost _ x q 0 (by rw [hT.lp]; exact hx)]
        split
        · simp
        · exact hT.cost q
      · have := hT.odds f t
        unfold oddsOf at this ⊢
        rw [(setCost_len _ _ _).2, (setCost_len _ _ _).2]
        exact this
    rw [(hT2.worst (by omega) 0 _).1, ← Int.mul_sub, Int.mul_comm]
end Go.Proofs.Ytbddaemekgflmaa

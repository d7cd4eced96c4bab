/- The least cost at the worst: plain laws. No program here. -/
import Derived.Test.YtldcehhhndlhdaaC4
import Derived.Test.YtldcehhhndlhdaaC14
namespace Go.Proofs.Ytldcehhhndlhdaa
def wF (c : Nat → Int) : Part := fun _ p _ b a => c p + max b a
def wt (c : Nat → Int) (m f : Nat) : Int := (tab (wF c) m f).1
theorem worst_wt (d : DLine) (f t : Nat) : worstN d f t = wt (costAt d) (t - f) f := rfl
theorem wt_small (c : Nat → Int) (m f : Nat) (h : m < 2) : wt c m f = 0 := by
  unfold wt
  rw [tab_eq]
  have : m - 1 = 0 := by omega
  rw [this]; rfl
theorem wt_le (c : Nat → Int) (m f q : Nat) (h1 : f < q) (h2 : q < f + m) : wt c m f ≤ c q + max (wt c (q - f) f) (wt c (f + m - q) q) := by
  unfold wt
  rw [tab_eq]
  exact argmin_le (tabG (wF c) m f) f (m - 1) q h1 (by omega)
theorem wt_at (c : Nat → Int) (m f : Nat) (h : 2 ≤ m) : ∃ q, f < q ∧ q < f + m ∧ wt c m f = c q + max (wt c (q - f) f) (wt c (f + m - q) q) := by
  obtain ⟨h1, h2, h3⟩ := (argmin_pt (tabG (wF c) m f) f (m - 1)).2 (by omega)
  refine ⟨_, h1, by omega, ?_⟩
  show (tab (wF c) m f).1 = _
  rw [tab_eq, h3]
  rfl
/-- Dearer points: it is not less. -/
theorem wt_mono {c c' : Nat → Int} (m : Nat) : ∀ f, (∀ q, f < q → q < f + m → c q ≤ c' q) → wt c m f ≤ wt c' m f := by
  induction m using Nat.strongRecOn with
  | _ m ih =>
    intro f h
    rcases Nat.lt_or_ge m 2 with hm | hm
    · rw [wt_small c m f hm, wt_small c' m f hm]; exact Int.le_refl _
    · obtain ⟨q, h1, h2, h3⟩ := wt_at c' m f hm
      have a1 := wt_le c m f q h1 h2
      have a2 := ih (q - f) (by omega) f (fun r hr hr' => h r hr (by omega))
      have a3 := ih (f + m - q) (by omega) q (fun r hr hr' => h r (by omega) (by omega))
      have a4 := h q h1 h2
      omega
theorem wt_congr {c c' : Nat → Int} (m f : Nat) (h : ∀ q, f < q → q < f + m → c q = c' q) : wt c m f = wt c' m f :=
  Int.le_antisymm (wt_mono m f fun q h1 h2 => Int.le_of_eq (h q h1 h2)) (wt_mono m f fun q h1 h2 => Int.le_of_eq (h q h1 h2).symm)
/-- One point dearer by k: at most k more. -/
theorem wt_point {c c' : Nat → Int} {p : Nat} {k : Int} (hk : 0 ≤ k) (hp : c p ≤ c' p + k) (ho : ∀ q, q ≠ p → c q = c' q) (m : Nat) : ∀ f, wt c m f ≤ wt c' m f + k := by
  induction m using Nat.strongRecOn with
  | _ m ih =>
    intro f
    rcases Nat.lt_or_ge m 2 with hm | hm
    · rw [wt_small c m f hm, wt_small c' m f hm]; omega
    · obtain ⟨q, h1, h2, h3⟩ := wt_at c' m f hm
      have a1 := wt_le c m f q h1 h2
      by_cases hq : q = p
      · subst hq
        have a2 := wt_congr (c := c) (c' := c') (q - f) f (fun r hr hr' => ho r (by omega))
        have a3 := wt_congr (c := c) (c' := c') (f + m - q) q (fun r hr hr' => ho r (by omega))
        rw [a2, a3] at a1
        omega
      · have a2 := ih (q - f) (by omega) f
        have a3 := ih (f + m - q) (by omega) q
        have a4 := ho q hq
        omega
end Go.Proofs.Ytldcehhhndlhdaa
/- Boxes of any number of cells; a line whose points cost the same. -/
namespace Go.Proofs.Ytldcehhhndlhdaa
open Go.RowKit Go.Sort

/-- The cells of a block that is read. -/
def Cells (w : World) (B : Nat) (l : List Value) : Prop := ∀ i v, l[i]? = some v → w.cell? ⟨B, i, none⟩ = some v
theorem Cells.keep {w w' : World} {B : Nat} {l : List Value} (h : Cells w B l) (hb : Below w.heap.size w w') : Cells w' B l := fun i v hv => keep_cell hb (h i v hv)
theorem Cells.other {w : World} {B : Nat} {l : List Value} (h : Cells w B l) (q : Addr) (u : Value) (hq : q.block ≠ B) : Cells (w.setCell q u) B l := fun i v hv => by
  rw [World.cell?_setCell_other _ _ _ _ (fun e => hq (by rw [e]))]; exact h i v hv
theorem Cells.new (w : World) (l : List Value) (T : TypeId) : Cells (w.alloc (.cells l.toArray T)) w.heap.size l := fun i v hv => box_cell w _ _ i (by rw [List.getElem?_toArray]; exact hv)

theorem box_lt {w : World} {B : Nat} {u : Value} {l : List Value} (h : Cells w B (u :: l)) : B < w.heap.size := World.block_lt_of_cell? w _ (h 0 u rfl)
theorem costAt_setCost (d : DLine) (p q : Nat) (c : Int) (hp : p < d.pts.length) : costAt (setCost d p c) q = if q = p then c else costAt d q := by
  unfold costAt setCost
  by_cases h : q = p
  · subst h
    rw [if_pos rfl]
    simp [hp]
  · rw [if_neg h]
    simp [Ne.symm h]
/-- The first k points cost c. -/
def evenTo (d : DLine) (c : Int) : Nat → DLine
  | 0 => d
  | k + 1 => setCost (evenTo d c k) k c
theorem evenTo_len (d : DLine) (c : Int) : ∀ k, (evenTo d c k).pts.length = d.pts.length ∧ (evenTo d c k).odds = d.odds
  | 0 => ⟨rfl, rfl⟩
  | k + 1 => by
    obtain ⟨h1, h2⟩ := evenTo_len d c k
    obtain ⟨h3, h4⟩ := setCost_len (evenTo d c k) k c
    exact ⟨h3.trans h1, h4.trans h2⟩
theorem evenTo_valid {d : DLine} (h : valid d = true) (c : Int) (hc : 0 ≤ c ∧ c ≤ 20) : ∀ k, valid (evenTo d c k) = true
  | 0 => h
  | k + 1 => setCost_valid (evenTo_valid h c hc k) k c hc
theorem evenTo_cost (d : DLine) (c : Int) : ∀ k, k ≤ d.pts.length → ∀ q, costAt (evenTo d c k) q = if q < k then c else costAt d q
  | 0, _, q => by rw [if_neg (by omega)]; rfl
  | k + 1, h, q => by
    have ih := evenTo_cost d c k (by omega) q
    show costAt (setCost (evenTo d c k) k c) q = _
    rw [costAt_setCost _ _ _ _ (by rw [(evenTo_len d c k).1]; omega)]
    by_cases hq : q = k
    · rw [if_pos hq, if_pos (by omega)]
    · rw [if_neg hq, ih]
      by_cases h' : q < k
      · rw [if_pos h', if_pos (by omega)]
      · rw [if_neg h', if_neg (by omega)]
theorem wt_nonneg {c : Nat → Int} (hc : ∀ q, 0 ≤ c q) (m : Nat) : ∀ f, 0 ≤ wt c m f := by
  induction m using Nat.strongRecOn with
  | _ m ih =>
    intro f
    rcases Nat.lt_or_ge m 2 with hm | hm
    · rw [wt_small c m f hm]; exact Int.le_refl _
    · obtain ⟨q, h1, h2, h3⟩ := wt_at c m f hm
      have a1 := ih (q - f) (by omega) f
      have a2 := hc q
      omega
theorem even_up {c : Int} (hc : 0 ≤ c) : ∀ (j m f : Nat), m ≤ 2 ^ j → wt (fun _ => c) m f ≤ c * j
  | 0, m, f, h => by rw [wt_small _ m f (by simpa using Nat.lt_succ_of_le h)]; simp
  | j + 1, m, f, h => by
    have hcj : 0 ≤ c * (j : Int) := Int.mul_nonneg hc (by omega)
    have e : c * ((j + 1 : Nat) : Int) = c * (j : Int) + c := by rw [Int.natCast_add, Int.mul_add]; simp
    rw [e]
    rcases Nat.lt_or_ge m 2 with hm | hm
    · rw [wt_small _ m f hm]; omega
    · have h2 : 2 ^ (j + 1) = 2 ^ j + 2 ^ j := by rw [Nat.pow_succ]; omega
      have a1 := wt_le (fun _ => c) m f (f + m / 2) (by omega) (by omega)
      have a2 := even_up hc j (f + m / 2 - f) f (by omega)
      have a3 := even_up hc j (f + m - (f + m / 2)) (f + m / 2) (by omega)
      omega
theorem even_low {c : Int} (hc : 0 ≤ c) : ∀ (j m f : Nat), 2 ^ j < m → c * (j + 1 : Nat) ≤ wt (fun _ => c) m f
  | 0, m, f, h => by
    obtain ⟨q, h1, h2, h3⟩ := wt_at (fun _ => c) m f (by simp at h; omega)
    have a1 := wt_nonneg (c := fun _ => c) (fun _ => hc) (q - f) f
    simp
    omega
  | j + 1, m, f, h => by
    have e : c * ((j + 1 + 1 : Nat) : Int) = c * ((j + 1 : Nat) : Int) + c := by rw [Int.natCast_add (j + 1) 1, Int.mul_add]; simp
    rw [e]
    have h2 : 2 ^ (j + 1) = 2 ^ j + 2 ^ j := by rw [Nat.pow_succ]; omega
    have hp : 0 < 2 ^ j := Nat.two_pow_pos j
    obtain ⟨q, h1, h4, h3⟩ := wt_at (fun _ => c) m f (by omega)
    rcases Nat.lt_or_ge (2 ^ j) (q - f) with hq | hq
    · have := even_low hc j (q - f) f hq
      omega
    · have := even_low hc j (f + m - q) q (by omega)
      omega
/-- Where the doubling stands. -/
def Dbl (c a b : Int) (m : Nat) : Prop := (a = 1 ∧ b = 0) ∨ (a = 2 ∧ b = c ∧ 1 < m) ∨ (a = 4 ∧ b = 2 * c ∧ 2 < m) ∨ (a = 8 ∧ b = 3 * c ∧ 4 < m)
theorem even_plain {d : DLine} {c a b : Int} (hc : 0 ≤ c) (f t : Nat) (ht : t < d.pts.length + 1) (hft : f < t) (h : Dbl c a b (t - f)) (ha : ((t - f : Nat) : Int) ≤ a) : worstN (evenTo d c d.pts.length) f t = b := by
  rw [worst_wt]
  rw [wt_congr (c' := fun _ => c) (t - f) f (fun q h1 h2 => by rw [evenTo_cost d c _ (Nat.le_refl _), if_pos (by omega)])]
  rcases h with ⟨rfl, rfl⟩ | ⟨rfl, rfl, h1⟩ | ⟨rfl, rfl, h1⟩ | ⟨rfl, rfl, h1⟩
  · exact wt_small _ _ _ (by omega)
  · have u := even_up hc 1 (t - f) f (by omega)
    have l := even_low hc 0 (t - f) f (by omega)
    simp at u l
    omega
  · have u := even_up hc 2 (t - f) f (by omega)
    have l := even_low hc 1 (t - f) f (by omega)
    simp at u l
    omega
  · have u := even_up hc 3 (t - f) f (by omega)
    have l := even_low hc 2 (t - f) f (by omega)
    simp at u l
    omega
end Go.Proofs.Ytldcehhhndlhdaa
/- The line backwards: plain laws. No program here. -/
namespace Go.Proofs.Ytldcehhhndlhdaa
/-- A table that is turned around. -/
theorem tab_mirror {G G' : Part} {n : Nat} (h : ∀ f p t b a, f < p → p < t → t ≤ n → G' (n - t) (n - p) (n - f) b a = G f p t a b) (m : Nat) : ∀ f, f + m ≤ n → (tab G' m (n - (f + m))).1 = (tab G m f).1 := by
  induction m using Nat.strongRecOn with
  | _ m ih =>
    intro f hf
    rcases Nat.lt_or_ge m 2 with hm | hm
    · rw [tab_eq, tab_eq]
      have : m - 1 = 0 := by omega
      rw [this]; rfl
    · have key : ∀ q, f < q → q < f + m → tabG G' m (n - (f + m)) (n - q) = tabG G m f q := by
        intro q h1 h2
        have e1 := ih (f + m - q) (by omega) q (by omega)
        have e2 := ih (q - f) (by omega) f (by omega)
        unfold tabG
        rw [show n - q - (n - (f + m)) = f + m - q by omega, show n - (f + m) + m - (n - q) = q - f by omega]
        rw [show n - (q + (f + m - q)) = n - (f + m) by omega] at e1
        rw [show n - (f + (q - f)) = n - q by omega] at e2
        rw [e1, e2, show n - (f + m) + m = n - f by omega]
        exact h f q (f + m) _ _ h1 h2 hf
      have le1 : (tab G' m (n - (f + m))).1 ≤ (tab G m f).1 := by
        rw [tab_eq, tab_eq]
        obtain ⟨h1, h2, h3⟩ := (argmin_pt (tabG G m f) f (m - 1)).2 (by omega)
        rw [h3, ← key _ h1 (by omega)]
        exact argmin_le _ _ _ _ (by omega) (by omega)
      have le2 : (tab G m f).1 ≤ (tab G' m (n - (f + m))).1 := by
        rw [tab_eq, tab_eq]
        obtain ⟨h1, h2, h3⟩ := (argmin_pt (tabG G' m (n - (f + m))) (n - (f + m)) (m - 1)).2 (by omega)
        rw [h3]
        have e := key (n - (argmin (tabG G' m (n - (f + m))) (n - (f + m)) (m - 1)).2) (by omega) (by omega)
        rw [show n - (n - (argmin (tabG G' m (n - (f + m))) (n - (f + m)) (m - 1)).2) = (argmin (tabG G' m (n - (f + m))) (n - (f + m)) (m - 1)).2 by omega] at e
        rw [e]
        exact argmin_le _ _ _ _ (by omega) (by omega)
      exact Int.le_antisymm le1 le2

theorem oddsOf_self (d : DLine) (f : Nat) : oddsOf d f f = 0 := by simp [oddsOf, sumI]
theorem oddsOf_back (d : DLine) (f t : Nat) (h : f ≤ t) (ht : t < d.odds.length) : oddsOf d f (t + 1) = oddsOf d f t + d.odds[t] := by
  unfold oddsOf
  rw [show t + 1 - f = (t - f) + 1 by omega, List.take_succ_eq_append_getElem (by simp; omega), sumI_snoc]
  simp [show f + (t - f) = t by omega]
theorem oddsOf_front (d : DLine) (f t : Nat) (h : f < t) (ht : t ≤ d.odds.length) : oddsOf d f t = d.odds[f] + oddsOf d (f + 1) t := by
  unfold oddsOf
  rw [List.drop_eq_getElem_cons (by omega), show t - f = (t - (f + 1)) + 1 by omega, List.take_succ_cons]
  rfl
theorem oddsOf_mirror {d D : DLine} (hl : D.odds.length = d.odds.length) (h : ∀ i (hi : i < d.odds.length), D.odds[i]? = some (d.odds[d.odds.length - 1 - i]'(by omega))) :
    ∀ m f, f + m ≤ d.odds.length → oddsOf D (d.odds.length - (f + m)) (d.odds.length - f) = oddsOf d f (f + m)
  | 0, f, _ => by rw [Nat.add_zero, oddsOf_self, oddsOf_self]
  | m + 1, f, hf => by
    have ih := oddsOf_mirror hl h m f (by omega)
    show oddsOf D (d.odds.length - (f + m + 1)) (d.odds.length - f) = oddsOf d f (f + m + 1)
    rw [oddsOf_back d f (f + m) (by omega) (by omega), ← ih, oddsOf_front D (d.odds.length - (f + m + 1)) _ (by omega) (by omega)]
    have e := h (d.odds.length - (f + m + 1)) (by omega)
    rw [List.getElem?_eq_getElem (by omega)] at e
    have e := Option.some.inj e
    rw [e]
    simp only [show d.odds.length - 1 - (d.odds.length - (f + m + 1)) = f + m by omega, show d.odds.length - (f + m + 1) + 1 = d.odds.length - (f + m) by omega]
    omega

/-- D is d, turned around. -/
structure Mirror (d D : DLine) : Prop where
  lp : D.pts.length = d.pts.length
  lo : D.odds.length = d.odds.length
  pts : ∀ i, i < d.pts.length → D.pts[i]? = d.pts[d.pts.length - 1 - i]?
  odds : ∀ i, i < d.odds.length → D.odds[i]? = d.odds[d.odds.length - 1 - i]?
theorem Mirror.cost {d D : DLine} (h : Mirror d D) (hv : valid d = true) (q : Nat) (hq : q ≤ d.odds.length) : costAt D (d.odds.length - q) = costAt d q := by
  have h2 := (valid_spec hv).2.1
  unfold costAt
  rw [h.pts _ (by omega), show d.pts.length - 1 - (d.odds.length - q) = q by omega]
theorem Mirror.valid {d D : DLine} (h : Mirror d D) (hv : valid d = true) : valid D = true := by
  unfold Go.Proofs.Ytldcehhhndlhdaa.valid at hv ⊢
  simp only [Bool.and_eq_true, decide_eq_true_eq, Bool.not_eq_true', List.any_eq_false] at hv ⊢
  obtain ⟨⟨⟨h1, h2⟩, h3⟩, h4⟩ := hv
  refine ⟨⟨⟨by rw [h.lo]; exact h1, fun x hx => ?_⟩, by rw [h.lp, h.lo]; exact h3⟩, fun x hx => ?_⟩
  · obtain ⟨i, hi, rfl⟩ := List.mem_iff_getElem.1 hx
    have e := h.odds i (by rw [← h.lo]; exact hi)
    rw [List.getElem?_eq_getElem hi] at e
    exact h2 _ (List.mem_of_getElem? e.symm)
  · obtain ⟨i, hi, rfl⟩ := List.mem_iff_getElem.1 hx
    have e := h.pts i (by rw [← h.lp]; exact hi)
    rw [List.getElem?_eq_getElem hi] at e
    exact h4 _ (List.mem_of_getElem? e.symm)
theorem Mirror.oddsOf {d D : DLine} (h : Mirror d D) (f t : Nat) (hf : f ≤ t) (ht : t ≤ d.odds.length) : oddsOf D (d.odds.length - t) (d.odds.length - f) = oddsOf d f t := by
  have := oddsOf_mirror h.lo (fun i hi => by rw [h.odds i hi, List.getElem?_eq_getElem (by omega)]) (t - f) f (by omega)
  rw [show f + (t - f) = t by omega] at this
  exact this
theorem mirror_wt {c c' : Nat → Int} {n : Nat} (h : ∀ q, q ≤ n → c' (n - q) = c q) (f t : Nat) (hf : f ≤ t) (ht : t ≤ n) : wt c' (t - f) (n - t) = wt c (t - f) f := by
  have := tab_mirror (G := wF c) (G' := wF c') (n := n) (fun f p t b a h1 h2 h3 => by
    unfold wF
    rw [h p (by omega)]
    omega) (t - f) f (by omega)
  rw [show f + (t - f) = t by omega] at this
  exact this
theorem Mirror.worst {d D : DLine} (h : Mirror d D) (hv : Go.Proofs.Ytldcehhhndlhdaa.valid d = true) (f t : Nat) (hf : f ≤ t) (ht : t ≤ d.odds.length) : worstN D (d.odds.length - t) (d.odds.length - f) = worstN d f t := by
  rw [worst_wt, worst_wt, show d.odds.length - f - (d.odds.length - t) = t - f by omega]
  exact mirror_wt (fun q hq => h.cost hv q hq) f t hf ht
theorem Mirror.avg {d D : DLine} (h : Mirror d D) (hv : Go.Proofs.Ytldcehhhndlhdaa.valid d = true) (f t : Nat) (hf : f ≤ t) (ht : t ≤ d.odds.length) : avgN D (d.odds.length - t) (d.odds.length - f) = avgN d f t := by
  unfold avgN
  have := tab_mirror (G := sumP d) (G' := sumP D) (n := d.odds.length) (fun f p t b a h1 h2 h3 => by
    unfold sumP
    rw [h.cost hv p (by omega), h.oddsOf f t (by omega) h3]
    omega) (t - f) f (by omega)
  rw [show f + (t - f) = t by omega] at this
  rw [show d.odds.length - f - (d.odds.length - t) = t - f by omega]
  exact this
end Go.Proofs.Ytldcehhhndlhdaa
/- Stores of whole points and of odds into a line of the call's own; the line backwards, step by step. -/
namespace Go.Proofs.Ytldcehhhndlhdaa
open Go.RowKit Go.Sort

theorem slice_inj {A B : Option Addr} {n m c e : Nat} (h : Value.slice A n c = .slice B m e) : A = B ∧ n = m ∧ c = e := by
  injection h with h1 h2 h3
  exact ⟨h1, h2, h3⟩
def setPt (d : DLine) (k : Nat) (p : Pt) : DLine := { d with pts := d.pts.set k p }
def setOdd (d : DLine) (k : Nat) (z : Int) : DLine := { d with odds := d.odds.set k z }
theorem ptCells_setPt : ∀ (ps : List Pt) (i : Nat) (p : Pt), i < ps.length → (((ptCells ps).set (i * 3) (I p.lo)).set (i * 3 + 1) (I p.hi)).set (i * 3 + 2) (I p.cost) = ptCells (ps.set i p)
  | [], i, _, h => absurd h (by simp)
  | q :: ps, 0, p, _ => by simp [ptCells, Pt.cells]
  | q :: ps, i + 1, p, h => by
    have ih := ptCells_setPt ps i p (by simpa using h)
    have e : ptCells (q :: ps) = I q.lo :: I q.hi :: I q.cost :: ptCells ps := rfl
    rw [e, show (i + 1) * 3 + 2 = (i * 3 + 2) + 3 from by omega, show (i + 1) * 3 + 1 = (i * 3 + 1) + 3 from by omega, show (i + 1) * 3 = i * 3 + 3 from by omega]
    simp only [List.set_cons_succ]
    rw [ih]
    rfl
theorem OwnAt.pt {w : World} {base g cap : Nat} {ov : Value} {d : DLine} (h : OwnAt w base g cap ov d) (k : Nat) (p : Pt) (hk : k < d.pts.length) :
    OwnAt (((w.setCell ⟨g, k * 3, none⟩ (I p.lo)).setCell ⟨g, k * 3 + 1, none⟩ (I p.hi)).setCell ⟨g, k * 3 + 2, none⟩ (I p.cost)) base g cap ov (setPt d k p) := by
  have a1 := (h.pts.stored (k * 3) (I p.lo)).1
  have a2 := (a1.stored (k * 3 + 1) (I p.hi)).1
  have a3 := (a2.stored (k * 3 + 2) (I p.cost)).1
  rw [ptCells_setPt _ _ _ hk] at a3
  have n1 := own_ne h.pts h.odds (by decide) (g := g) rfl
  refine ⟨by simpa [setPt] using a3, ?_⟩
  exact own_setOther (own_setOther (own_setOther h.odds _ _ n1) _ _ n1) _ _ n1
theorem OwnAt.odd {w : World} {base g cap go co : Nat} {d : DLine} (h : OwnAt w base g cap (.slice (some ⟨go, 0, none⟩) d.odds.length co) d) (k : Nat) (z : Int) :
    OwnAt (w.setCell ⟨go, k, none⟩ (I z)) base g cap (.slice (some ⟨go, 0, none⟩) d.odds.length co) (setOdd d k z) := by
  have a1 := (h.odds.stored k (I z)).1
  refine ⟨own_setOther h.pts _ _ (own_ne h.odds h.pts (by decide) rfl), ?_⟩
  have e : (d.odds.map I).set k (I z) = (setOdd d k z).odds.map I := by simp [setOdd, List.map_set]
  rw [e] at a1
  simpa [setOdd] using a1
theorem OwnAt.ptAt {w : World} {base g cap : Nat} {ov : Value} {d : DLine} (h : OwnAt w base g cap ov d) (p : Nat) (hp : p < d.pts.length) : ∃ u0 u1 u2, w.cell? ⟨g, p * 3, none⟩ = some u0 ∧ w.cell? ⟨g, p * 3 + 1, none⟩ = some u1 ∧ w.cell? ⟨g, p * 3 + 2, none⟩ = some u2 ∧ w.frozen? ⟨g, p * 3, none⟩ = false ∧ w.frozen? ⟨g, p * 3 + 1, none⟩ = false ∧ w.frozen? ⟨g, p * 3 + 2, none⟩ = false := by
  refine ⟨I d.pts[p].lo, I d.pts[p].hi, I d.pts[p].cost, ?_, ?_, ?_, h.pts.frozenAt _, h.pts.frozenAt _, h.pts.frozenAt _⟩
  · rw [h.pts.cellAt (p * 3) (by omega)]; exact (ptCells_at _ _ hp).1
  · rw [h.pts.cellAt (p * 3 + 1) (by omega)]; exact (ptCells_at _ _ hp).2.1
  · rw [h.pts.cellAt (p * 3 + 2) (by omega)]; exact (ptCells_at _ _ hp).2.2
theorem OwnAt.oddAt {w : World} {base g cap go n co : Nat} {d : DLine} (h : OwnAt w base g cap (.slice (some ⟨go, 0, none⟩) n co) d) (k : Nat) (hk : k < d.odds.length) : (∃ u, w.cell? ⟨go, k, none⟩ = some u) ∧ w.frozen? ⟨go, k, none⟩ = false := by
  obtain ⟨q, hq⟩ : ∃ q, n = q := ⟨_, rfl⟩
  have ho := h.odds
  obtain ⟨rfl⟩ : n = d.odds.length := by
    rcases ho.2 with ⟨e, _⟩ | ⟨_, _, _, e, _⟩
    · simp at e
    · simp at e; exact e.2.1
  refine ⟨⟨I d.odds[k], ?_⟩, ho.frozenAt _⟩
  rw [ho.cellAt k (by simpa using hk)]
  simp [List.getElem?_eq_getElem hk]

def backP (d : DLine) : Nat → DLine
  | 0 => d
  | k + 1 => setPt (backP d k) k (d.pts.getD (d.odds.length - k) default)
def backO (d : DLine) : Nat → DLine
  | 0 => backP d (d.odds.length + 1)
  | k + 1 => setOdd (backO d k) k (d.odds.getD (d.odds.length - 1 - k) 0)
theorem backP_len (d : DLine) : ∀ k, (backP d k).pts.length = d.pts.length ∧ (backP d k).odds = d.odds
  | 0 => ⟨rfl, rfl⟩
  | k + 1 => by
    obtain ⟨h1, h2⟩ := backP_len d k
    exact ⟨by simp [backP, setPt, h1], h2⟩
theorem backO_len (d : DLine) : ∀ k, (backO d k).pts = (backP d (d.odds.length + 1)).pts ∧ (backO d k).odds.length = d.odds.length
  | 0 => ⟨rfl, by rw [show backO d 0 = backP d (d.odds.length + 1) from rfl, (backP_len d _).2]⟩
  | k + 1 => by
    obtain ⟨h1, h2⟩ := backO_len d k
    exact ⟨h1, by simp [backO, setOdd, h2]⟩
theorem backP_get {d : DLine} (hn : d.pts.length = d.odds.length + 1) (i : Nat) (hi : i < d.pts.length) : ∀ k, k ≤ d.pts.length → (backP d k).pts[i]? = if i < k then d.pts[d.pts.length - 1 - i]? else d.pts[i]?
  | 0, _ => by rw [if_neg (by omega)]; rfl
  | k + 1, hk => by
    have ih := backP_get hn i hi k (by omega)
    have hl := (backP_len d k).1
    show ((backP d k).pts.set k _)[i]? = _
    by_cases h : k = i
    · subst h
      rw [List.getElem?_set_self (by omega), if_pos (by omega), show d.pts.length - 1 - k = d.odds.length - k by omega, List.getElem?_eq_getElem (show d.odds.length - k < d.pts.length by omega)]
      simp [List.getD, List.getElem?_eq_getElem (show d.odds.length - k < d.pts.length by omega)]
    · rw [List.getElem?_set_ne h, ih]
      by_cases h' : i < k
      · rw [if_pos h', if_pos (by omega)]
      · rw [if_neg h', if_neg (by omega)]
theorem backO_get (d : DLine) (i : Nat) (hi : i < d.odds.length) : ∀ k, k ≤ d.odds.length → (backO d k).odds[i]? = if i < k then d.odds[d.odds.length - 1 - i]? else d.odds[i]?
  | 0, _ => by rw [if_neg (by omega), show backO d 0 = backP d (d.odds.length + 1) from rfl, (backP_len d _).2]
  | k + 1, hk => by
    have ih := backO_get d i hi k (by omega)
    have hl := (backO_len d k).2
    show ((backO d k).odds.set k _)[i]? = _
    by_cases h : k = i
    · subst h
      rw [List.getElem?_set_self (by omega), if_pos (by omega), List.getElem?_eq_getElem (show d.odds.length - 1 - k < d.odds.length by omega)]
      simp [List.getD, List.getElem?_eq_getElem (show d.odds.length - 1 - k < d.odds.length by omega)]
    · rw [List.getElem?_set_ne h, ih]
      by_cases h' : i < k
      · rw [if_pos h', if_pos (by omega)]
      · rw [if_neg h', if_neg (by omega)]
theorem back_mirror {d : DLine} (hn : d.pts.length = d.odds.length + 1) : Mirror d (backO d d.odds.length) := by
  refine ⟨by rw [(backO_len d _).1, (backP_len d _).1], (backO_len d _).2, fun i hi => ?_, fun i hi => ?_⟩
  · rw [(backO_len d _).1, backP_get hn i hi _ (by omega), if_pos (by omega)]
  · rw [backO_get d i hi _ (Nat.le_refl _), if_pos hi]

/-- Worst, Average and Free of the line backwards. -/
theorem mirror_some {d D : DLine} (h : Mirror d D) (hv : valid d = true) (f t : Nat) (hf : f < t) (ht : t ≤ d.odds.length) :
    worstR D (d.odds.length - t : Nat) (d.odds.length - f : Nat) = worstR d f t ∧ avgR D (d.odds.length - t : Nat) (d.odds.length - f : Nat) = avgR d f t := by
  have hV := h.valid hv
  refine ⟨?_, ?_⟩
  · rw [worstR_ok hV _ _ (by omega) (by rw [h.lo]; omega), worstR_ok hv _ _ hf ht, h.worst hv f t (by omega) ht]
  · have s1 : someOf d f t = true := by simp [someOf]; omega
    have s2 : someOf D (d.odds.length - t : Nat) (d.odds.length - f : Nat) = true := by simp [someOf, h.lo]; omega
    have a1 : askE d true = 0 := by simp [askE, hv]
    have a2 : askE D true = 0 := by simp [askE, hV]
    unfold avgR
    rw [s1, s2, if_pos a1, if_pos a2]
    simp only [Int.toNat_natCast]
    rw [h.avg hv f t (by omega) ht, h.oddsOf f t (by omega) ht]
theorem mirror_free {d D : DLine} (h : Mirror d D) (hv : valid d = true) (p : Nat) (hp : p ≤ d.odds.length) : freeR D (d.odds.length - p : Nat) = freeR d p := by
  have hV := h.valid hv
  have hn := (valid_spec hv).2.1
  have i1 : isPt d p = true := by simp [isPt, inR]; omega
  have i2 : isPt D (d.odds.length - p : Nat) = true := by simp [isPt, inR, h.lp]; omega
  have a1 : askE d true = 0 := by simp [askE, hv]
  have a2 : askE D true = 0 := by simp [askE, hV]
  unfold freeR
  rw [i1, i2, if_pos a1, if_pos a2, h.lo]
  by_cases hz : d.odds.length = 0
  · rw [if_pos hz, if_pos hz]
  · rw [if_neg hz, if_neg hz]
    simp only [Int.toNat_natCast]
    have e1 := h.worst hv 0 d.odds.length (by omega) (Nat.le_refl _)
    rw [Nat.sub_self, Nat.sub_zero] at e1
    have e2 : worstN (setCost D (d.odds.length - p) 0) 0 d.odds.length = worstN (setCost d p 0) 0 d.odds.length := by
      rw [worst_wt, worst_wt]
      have := mirror_wt (c := costAt (setCost d p 0)) (c' := costAt (setCost D (d.odds.length - p) 0)) (n := d.odds.length) (fun q hq => by
        rw [costAt_setCost _ _ _ _ (by rw [h.lp]; omega), costAt_setCost _ _ _ _ (by omega), h.cost hv q hq]
        by_cases e : q = p
        · subst e; rw [if_pos rfl, if_pos rfl]
        · rw [if_neg e, if_neg (by omega)]) 0 d.odds.length (by omega) (Nat.le_refl _)
      rw [Nat.sub_self] at this
      exact this
    rw [e1, e2]
end Go.Proofs.Ytldcehhhndlhdaa

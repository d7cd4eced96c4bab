/- Stores of whole points and of odds into a line of the call's own; the line backwards, step by step. -/
import Derived.Test.YtbddaemekgflmaaW21
import Derived.Test.YtbddaemekgflmaaPlain4
namespace Go.Proofs.Ytbddaemekgflmaa
open Go.RowKit Go.Sort

theorem slice_inj {A B : Option Addr} {n m c e : Nat} (h : Value.slice A n c = .slice B m e) : A = B ∧ n = m ∧ c = e := by
  injection h with h1 h2 h3
  exact ⟨h1, h2, h3⟩
def setPt (d : DLine) (k : Nat) (p : Pt) : DLine := { d with pts := d.pts.set k p }
def setOdd (d : DLine) (k : Nat) (z : Int) : DLine := { d with odds := d.odds.set k z }
theorem ptCells_setPt : ∀ (ps : List Pt) (i : Nat) (p : Pt), i < ps.length → (((ptCells ps).set (i * 3) (I p.lo)).set (i * 3 + 1) (I p.hi)).set (i * 3 + 2) (I p.cost) = ptCells (ps.set i p)
  | [], i, _, h => absurd h (by simp)
  | q :: ps, 0, p, _ => by simp [ptCells, Pt.cells]
  | q :: ps, i + 1, p, h => by
    have ih := ptCells_setPt ps i p (by simpa using h)
    have e : ptCells (q :: ps) = I q.lo :: I q.hi :: I q.cost :: ptCells ps := rfl
    rw [e, show (i + 1) * 3 + 2 = (i * 3 + 2) + 3 from by omega, show (i + 1) * 3 + 1 = (i * 3 + 1) + 3 from by omega, show (i + 1) * 3 = i * 3 + 3 from by omega]
    simp only [List.set_cons_succ]
    rw [ih]
    rfl
theorem OwnAt.pt {w : World} {base g cap : Nat} {ov : Value} {d : DLine} (h : OwnAt w base g cap ov d) (k : Nat) (p : Pt) (hk : k < d.pts.length) :
    OwnAt (((w.setCell ⟨g, k * 3, none⟩ (I p.lo)).setCell ⟨g, k * 3 + 1, none⟩ (I p.hi)).setCell ⟨g, k * 3 + 2, none⟩ (I p.cost)) base g cap ov (setPt d k p) := by
  have a1 := (h.pts.stored (k * 3) (I p.lo)).1
  have a2 := (a1.stored (k * 3 + 1) (I p.hi)).1
  have a3 := (a2.stored (k * 3 + 2) (I p.cost)).1
  rw [ptCells_setPt _ _ _ hk] at a3
  have n1 := own_ne h.pts h.odds (by decide) (g := g) rfl
  refine ⟨by simpa [setPt] using a3, ?_⟩
  exact own_setOther (own_setOther (own_setOther h.odds _ _ n1) _ _ n1) _ _ n1
theorem OwnAt.odd {w : World} {base g cap go co : Nat} {d : DLine} (h : OwnAt w base g cap (.slice (some ⟨go, 0, none⟩) d.odds.length co) d) (k : Nat) (z : Int) :
    OwnAt (w.setCell ⟨go, k, none⟩ (I z)) base g cap (.slice (some ⟨go, 0, none⟩) d.odds.length co) (setOdd d k z) := by
  have a1 := (h.odds.stored k (I z)).1
  refine ⟨own_setOther h.pts _ _ (own_ne h.odds h.pts (by decide) rfl), ?_⟩
  have e : (d.odds.map I).set k (I z) = (setOdd d k z).odds.map I := by simp [setOdd, List.map_set]
  rw [e] at a1
  simpa [setOdd] using a1
theorem OwnAt.ptAt {w : World} {base g cap : Nat} {ov : Value} {d : DLine} (h : OwnAt w base g cap ov d) (p : Nat) (hp : p < d.pts.length) : ∃ u0 u1 u2, w.cell? ⟨g, p * 3, none⟩ = some u0 ∧ w.cell? ⟨g, p * 3 + 1, none⟩ = some u1 ∧ w.cell? ⟨g, p * 3 + 2, none⟩ = some u2 ∧ w.frozen? ⟨g, p * 3, none⟩ = false ∧ w.frozen? ⟨g, p * 3 + 1, none⟩ = false ∧ w.frozen? ⟨g, p * 3 + 2, none⟩ = false := by
  refine ⟨I d.pts[p].lo, I d.pts[p].hi, I d.pts[p].cost, ?_, ?_, ?_, h.pts.frozenAt _, h.pts.frozenAt _, h.pts.frozenAt _⟩
  · rw [h.pts.cellAt (p * 3) (by omega)]; exact (ptCells_at _ _ hp).1
  · rw [h.pts.cellAt (p * 3 + 1) (by omega)]; exact (ptCells_at _ _ hp).2.1
  · rw [h.pts.cellAt (p * 3 + 2) (by omega)]; exact (ptCells_at _ _ hp).2.2
theorem OwnAt.oddAt {w : World} {base g cap go n co : Nat} {d : DLine} (h : OwnAt w base g cap (.slice (some ⟨go, 0, none⟩) n co) d) (k : Nat) (hk : k < d.odds.length) : (∃ u, w.cell? ⟨go, k, none⟩ = some u) ∧ w.frozen? ⟨go, k, none⟩ = false := by
  obtain ⟨q, hq⟩ : ∃ q, n = q := ⟨_, rfl⟩
  have ho := h.odds
  obtain ⟨rfl⟩ : n = d.odds.length := by
    rcases ho.2 with ⟨e, _⟩ | ⟨_, _, _, e, _⟩
    · simp at e
    · simp at e; exact e.2.1
  refine ⟨⟨I d.odds[k], ?_⟩, ho.frozenAt _⟩
  rw [ho.cellAt k (by simpa using hk)]
  simp [List.getElem?_eq_getElem hk]

def backP (d : DLine) : Nat → DLine
  | 0 => d
  | k + 1 => setPt (backP d k) k (d.pts.getD (d.odds.length - k) default)
def backO (d : DLine) : Nat → DLine
  | 0 => backP d (d.odds.length + 1)
  | k + 1 => setOdd (backO d k) k (d.odds.getD (d.odds.length - 1 - k) 0)
theorem backP_len (d : DLine) : ∀ k, (backP d k).pts.length = d.pts.length ∧ (backP d k).odds = d.odds
  | 0 => ⟨rfl, rfl⟩
  | k + 1 => by
    obtain ⟨h1, h2⟩ := backP_len d k
    exact ⟨by simp [backP, setPt, h1], h2⟩
theorem backO_len (d : DLine) : ∀ k, (backO d k).pts = (backP d (d.odds.length + 1)).pts ∧ (backO d k).odds.length = d.odds.length
  | 0 => ⟨rfl, by rw [show backO d 0 = backP d (d.odds.length + 1) from rfl, (backP_len d _).2]⟩
  | k + 1 => by
    obtain ⟨h1, h2⟩ := backO_len d k
    exact ⟨h1, by simp [backO, setOdd, h2]⟩
theorem backP_get {d : DLine} (hn : d.pts.length = d.odds.length + 1) (i : Nat) (hi : i < d.pts.length) : ∀ k, k ≤ d.pts.length → (backP d k).pts[i]? = if i < k then d.pts[d.pts.length - 1 - i]? else d.pts[i]?
  | 0, _ => by rw [if_neg (by omega)]; rfl
  | k + 1, hk => by
    have ih := backP_get hn i hi k (by omega)
    have hl := (backP_len d k).1
    show ((backP d k).pts.set k _)[i]? = _
    by_cases h : k = i
    · subst h
      rw [List.getElem?_set_self (by omega), if_pos (by omega), show d.pts.length - 1 - k = d.odds.length - k by omega, List.getElem?_eq_getElem (show d.odds.length - k < d.pts.length by omega)]
      simp [List.getD, List.getElem?_eq_getElem (show d.odds.length - k < d.pts.length by omega)]
    · rw [List.getElem?_set_ne h, ih]
      by_cases h' : i < k
      · rw [if_pos h', if_pos (by omega)]
      · rw [if_neg h', if_neg (by omega)]
theorem backO_get (d : DLine) (i : Nat) (hi : i < d.odds.length) : ∀ k, k ≤ d.odds.length → (backO d k).odds[i]? = if i < k then d.odds[d.odds.length - 1 - i]? else d.odds[i]?
  | 0, _ => by rw [if_neg (by omega), show backO d 0 = backP d (d.odds.length + 1) from rfl, (backP_len d _).2]
  | k + 1, hk => by
    have ih := backO_get d i hi k (by omega)
    have hl := (backO_len d k).2
    show ((backO d k).odds.set k _)[i]? = _
    by_cases h : k = i
    · subst h
      rw [List.getElem?_set_self (by omega), if_pos (by omega), List.getElem?_eq_getElem (show d.odds.length - 1 - k < d.odds.length by omega)]
      simp [List.getD, List.getElem?_eq_getElem (show d.odds.length - 1 - k < d.odds.length by omega)]
    · rw [List.getElem?_set_ne h, ih]
      by_cases h' : i < k
      · rw [if_pos h', if_pos (by omega)]
      · rw [if_neg h', if_neg (by omega)]
theorem back_mirror {d : DLine} (hn : d.pts.length = d.odds.length + 1) : Mirror d (backO d d.odds.length) := by
  refine ⟨by rw [(backO_len d _).1, (backP_len d _).1], (backO_len d _).2, fun i hi => ?_, fun i hi => ?_⟩
  · rw [(backO_len d _).1, backP_get hn i hi _ (by omega), if_pos (by omega)]
  · rw [backO_get d i hi _ (Nat.le_refl _), if_pos hi]

/-- Worst, Average and Free of the line backwards. -/
theorem mirror_some {d D : DLine} (h : Mirror d D) (hv : valid d = true) (f t : Nat) (hf : f < t) (ht : t ≤ d.odds.length) :
    worstR D (d.odds.length - t : Nat) (d.odds.length - f : Nat) = worstR d f t ∧ avgR D (d.odds.length - t : Nat) (d.odds.length - f : Nat) = avgR d f t := by
  have hV := h.valid hv
  refine ⟨?_, ?_⟩
  · rw [worstR_ok hV _ _ (by omega) (by rw [h.lo]; omega), worstR_ok hv _ _ hf ht, h.worst hv f t (by omega) ht]
  · have s1 : someOf d f t = true := by simp [someOf]; omega
    have s2 : someOf D (d.odds.length - t : Nat) (d.odds.length - f : Nat) = true := by simp [someOf, h.lo]; omega
    have a1 : askE d true = 0 := by simp [askE, hv]
    have a2 : askE D true = 0 := by simp [askE, hV]
    unfold avgR
    rw [s1, s2, if_pos a1, if_pos a2]
    simp only [Int.toNat_natCast]
    rw [h.avg hv f t (by omega) ht, h.oddsOf f t (by omega) ht]
theorem mirror_free {d D : DLine} (h : Mirror d D) (hv : valid d = true) (p : Nat) (hp : p ≤ d.odds.length) : freeR D (d.odds.length - p : Nat) = freeR d p := by
  have hV := h.valid hv
  have hn := (valid_spec hv).2.1
  have i1 : isPt d p = true := by simp [isPt, inR]; omega
  have i2 : isPt D (d.odds.length - p : Nat) = true := by simp [isPt, inR, h.lp]; omega
  have a1 : askE d true = 0 := by simp [askE, hv]
  have a2 : askE D true = 0 := by simp [askE, hV]
  unfold freeR
  rw [i1, i2, if_pos a1, if_pos a2, h.lo]
  by_cases hz : d.odds.length = 0
  · rw [if_pos hz, if_pos hz]
  · rw [if_neg hz, if_neg hz]
    simp only [Int.toNat_natCast]
    have e1 := h.worst hv 0 d.odds.length (by omega) (Nat.le_refl _)
    rw [Nat.sub_self, Nat.sub_zero] at e1
    have e2 : worstN (setCost D (d.odds.length - p) 0) 0 d.odds.length = worstN (setCost d p 0) 0 d.odds.length := by
      rw [worst_wt, worst_wt]
      have := mirror_wt (c := costAt (setCost d p 0)) (c' := costAt (setCost D (d.odds.length - p) 0)) (n := d.odds.length) (fun q hq => by
        rw [costAt_setCost _ _ _ _ (by rw [h.lp]; omega), costAt_setCost _ _ _ _ (by omega), h.cost hv q hq]
        by_cases e : q = p
        · subst e; rw [if_pos rfl, if_pos rfl]
        · rw [if_neg e, if_neg (by omega)]) 0 d.odds.length (by omega) (Nat.le_refl _)
      rw [Nat.sub_self] at this
      exact this
    rw [e1, e2]
end Go.Proofs.Ytbddaemekgflmaa

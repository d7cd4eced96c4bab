/- Boxes of any number of cells; a line whose points cost the same. -/
import Derived.Test.YtbddaemekgflmaaW20
import Derived.Test.YtbddaemekgflmaaPlain3
namespace Go.Proofs.Ytbddaemekgflmaa
open Go.RowKit Go.Sort

/-- The cells of a block that is read. -/
def Cells (w : World) (B : Nat) (l : List Value) : Prop := ∀ i v, l[i]? = some v → w.cell? ⟨B, i, none⟩ = some v
theorem Cells.keep {w w' : World} {B : Nat} {l : List Value} (h : Cells w B l) (hb : Below w.heap.size w w') : Cells w' B l := fun i v hv => keep_cell hb (h i v hv)
theorem Cells.other {w : World} {B : Nat} {l : List Value} (h : Cells w B l) (q : Addr) (u : Value) (hq : q.block ≠ B) : Cells (w.setCell q u) B l := fun i v hv => by
  rw [World.cell?_setCell_other _ _ _ _ (fun e => hq (by rw [e]))]; exact h i v hv
theorem Cells.new (w : World) (l : List Value) (T : TypeId) : Cells (w.alloc (.cells l.toArray T)) w.heap.size l := fun i v hv => box_cell w _ _ i (by rw [List.getElem?_toArray]; exact hv)

theorem box_lt {w : World} {B : Nat} {u : Value} {l : List Value} (h : Cells w B (u :: l)) : B < w.heap.size := World.block_lt_of_cell? w _ (h 0 u rfl)
theorem costAt_setCost (d : DLine) (p q : Nat) (c : Int) (hp : p < d.pts.length) : costAt (setCost d p c) q = if q = p then c else costAt d q := by
  unfold costAt setCost
  by_cases h : q = p
  · subst h
    rw [if_pos rfl]
    simp [hp]
  · rw [if_neg h]
    simp [Ne.symm h]
/-- The first k points cost c. -/
def evenTo (d : DLine) (c : Int) : Nat → DLine
  | 0 => d
  | k + 1 => setCost (evenTo d c k) k c
theorem evenTo_len (d : DLine) (c : Int) : ∀ k, (evenTo d c k).pts.length = d.pts.length ∧ (evenTo d c k).odds = d.odds
  | 0 => ⟨rfl, rfl⟩
  | k + 1 => by
    obtain ⟨h1, h2⟩ := evenTo_len d c k
    obtain ⟨h3, h4⟩ := setCost_len (evenTo d c k) k c
    exact ⟨h3.trans h1, h4.trans h2⟩
theorem evenTo_valid {d : DLine} (h : valid d = true) (c : Int) (hc : 0 ≤ c ∧ c ≤ 20) : ∀ k, valid (evenTo d c k) = true
  | 0 => h
  | k + 1 => setCost_valid (evenTo_valid h c hc k) k c hc
theorem evenTo_cost (d : DLine) (c : Int) : ∀ k, k ≤ d.pts.length → ∀ q, costAt (evenTo d c k) q = if q < k then c else costAt d q
  | 0, _, q => by rw [if_neg (by omega)]; rfl
  | k + 1, h, q => by
    have ih := evenTo_cost d c k (by omega) q
    show costAt (setCost (evenTo d c k) k c) q = _
    rw [costAt_setCost _ _ _ _ (by rw [(evenTo_len d c k).1]; omega)]
    by_cases hq : q = k
    · rw [if_pos hq, if_pos (by omega)]
    · rw [if_neg hq, ih]
      by_cases h' : q < k
      · rw [if_pos h', if_pos (by omega)]
      · rw [if_neg h', if_neg (by omega)]
theorem wt_nonneg {c : Nat → Int} (hc : ∀ q, 0 ≤ c q) (m : Nat) : ∀ f, 0 ≤ wt c m f := by
  induction m using Nat.strongRecOn with
  | _ m ih =>
    intro f
    rcases Nat.lt_or_ge m 2 with hm | hm
    · rw [wt_small c m f hm]; exact Int.le_refl _
    · obtain ⟨q, h1, h2, h3⟩ := wt_at c m f hm
      have a1 := ih (q - f) (by omega) f
      have a2 := hc q
      omega
theorem even_up {c : Int} (hc : 0 ≤ c) : ∀ (j m f : Nat), m ≤ 2 ^ j → wt (fun _ => c) m f ≤ c * j
  | 0, m, f, h => by rw [wt_small _ m f (by simpa using Nat.lt_succ_of_le h)]; simp
  | j + 1, m, f, h => by
    have hcj : 0 ≤ c * (j : Int) := Int.mul_nonneg hc (by omega)
    have e : c * ((j + 1 : Nat) : Int) = c * (j : Int) + c := by rw [Int.natCast_add, Int.mul_add]; simp
    rw [e]
    rcases Nat.lt_or_ge m 2 with hm | hm
    · rw [wt_small _ m f hm]; omega
    · have h2 : 2 ^ (j + 1) = 2 ^ j + 2 ^ j := by rw [Nat.pow_succ]; omega
      have a1 := wt_le (fun _ => c) m f (f + m / 2) (by omega) (by omega)
      have a2 := even_up hc j (f + m / 2 - f) f (by omega)
      have a3 := even_up hc j (f + m - (f + m / 2)) (f + m / 2) (by omega)
      omega
theorem even_low {c : Int} (hc : 0 ≤ c) : ∀ (j m f : Nat), 2 ^ j < m → c * (j + 1 : Nat) ≤ wt (fun _ => c) m f
  | 0, m, f, h => by
    obtain ⟨q, h1, h2, h3⟩ := wt_at (fun _ => c) m f (by simp at h; omega)
    have a1 := wt_nonneg (c := fun _ => c) (fun _ => hc) (q - f) f
    simp
    omega
  | j + 1, m, f, h => by
    have e : c * ((j + 1 + 1 : Nat) : Int) = c * ((j + 1 : Nat) : Int) + c := by rw [Int.natCast_add (j + 1) 1, Int.mul_add]; simp
    rw [e]
    have h2 : 2 ^ (j + 1) = 2 ^ j + 2 ^ j := by rw [Nat.pow_succ]; omega
    have hp : 0 < 2 ^ j := Nat.two_pow_pos j
    obtain ⟨q, h1, h4, h3⟩ := wt_at (fun _ => c) m f (by omega)
    rcases Nat.lt_or_ge (2 ^ j) (q - f) with hq | hq
    · have := even_low hc j (q - f) f hq
      omega
    · have := even_low hc j (f + m - q) q (by omega)
      omega
/-- Where the doubling stands. -/
def Dbl (c a b : Int) (m : Nat) : Prop := (a = 1 ∧ b = 0) ∨ (a = 2 ∧ b = c ∧ 1 < m) ∨ (a = 4 ∧ b = 2 * c ∧ 2 < m) ∨ (a = 8 ∧ b = 3 * c ∧ 4 < m)
theorem even_plain {d : DLine} {c a b : Int} (hc : 0 ≤ c) (f t : Nat) (ht : t < d.pts.length + 1) (hft : f < t) (h : Dbl c a b (t - f)) (ha : ((t - f : Nat) : Int) ≤ a) : worstN (evenTo d c d.pts.length) f t = b := by
  rw [worst_wt]
  rw [wt_congr (c' := fun _ => c) (t - f) f (fun q h1 h2 => by rw [evenTo_cost d c _ (Nat.le_refl _), if_pos (by omega)])]
  rcases h with ⟨rfl, rfl⟩ | ⟨rfl, rfl, h1⟩ | ⟨rfl, rfl, h1⟩ | ⟨rfl, rfl, h1⟩
  · exact wt_small _ _ _ (by omega)
  · have u := even_up hc 1 (t - f) f (by omega)
    have l := even_low hc 0 (t - f) f (by omega)
    simp at u l
    omega
  · have u := even_up hc 2 (t - f) f (by omega)
    have l := even_low hc 1 (t - f) f (by omega)
    simp at u l
    omega
  · have u := even_up hc 3 (t - f) f (by omega)
    have l := even_low hc 2 (t - f) f (by omega)
    simp at u l
    omega
end Go.Proofs.Ytbddaemekgflmaa

/- What a call owns while it runs: appends. No function here; no conditions. -/
import Derived.Test.YtldcehhhndlhdaaC3
namespace Go.Proofs.Ytldcehhhndlhdaa
open Go.RowKit Go.Sort
section
variable {w0 w w' : World} {n : Nat} {L : List Item}
/-- An append to a row of the call's own, whatever the source. -/
theorem wpList_append_St {P : Program} (S : St w0 w n L) (i : Nat) {ops : Array Oper} {rest : List Oper} {o : Oper} {a : Act} {Q : Exit → Act → World → Prop} (hgd : o.guard = none) (s x : Operand) (t : TypeId)
    (ho : o.op = .call { callee := .builtin .append, args := #[s, x], argTypes := #[t, t] })
    (e : TypeId) (inf : TypeInfo) (z : Value) (size bytes : Nat) (ht : P.underlying t = some (.slice e)) (hinf : P.info? e = some inf) (hz : inf.zero = some z)
    (hsize : inf.size = size) (hby : inf.bytes = bytes) (hzs : z.cells.size = size) (hsz : 0 < size)
    {v : Value} {len : Nat} {xs : List Value} (hi : L[i]? = some (.own e size v len xs)) (hs : a.eval s = v)
    (sv : Value) (m : Nat) (news : List Value) (hx : a.eval x = sv) (hr : Reads w size sv m news) (h1 : ∀ u ∈ news, u.oneCell' = true)
    (h63 : len + m ≤ maxLen) (hbytes : (len + m) * bytes ≤ 140737488355328)
    (h : ∀ v' w', St w0 w' w'.heap.size (L.set i (.own e size v' (len + m) (xs ++ news))) → wpList P ops Q rest (a.put o.dst v') w') : wpList P ops Q (o :: rest) a w :=
  wpList_append_src w hgd s x t ho w0.heap.size e inf z size bytes ht hinf hz hsize hby hzs hsz v len xs hs (S.own i hi) sv m news hx hr h1 h63 hbytes S.bel.size
    fun v' w' hown hg hv => h v' w' (S.grown i hi hown hg hv)
/-- One number in a box that was just made reads as a list of one. -/
theorem reads_box1 {w : World} {b : Nat} {u : Value} (h : w.cell? ⟨b, 0, none⟩ = some u) : Reads w 1 (.slice (some ⟨b, 0, none⟩) 1 1) 1 [u] :=
  ⟨rfl, _, _, rfl, Nat.le_refl _, by omega, fun _ => ⟨b, 0, rfl, fun j v hv => by
    cases j with
    | zero => simp at hv; subst hv; exact h
    | succ j => simp at hv⟩⟩
theorem grown_setRow {w : World} {g : Nat} (cs : Array Value) : w.grownBy (w.setRow g cs) (some g) := ⟨rfl, rfl, rfl, by simp [World.setRow], fun k _ hk => setRow_other w g k cs (fun e => hk (by rw [e]))⟩
/-- A whole box is read. -/
theorem wpList_load_St {P : Program} (S : St w0 w n L) (i : Nat) {ops : Array Oper} {rest : List Oper} {o : Oper} {a : Act} {Q : Exit → Act → World → Prop} (hgd : o.guard = none) (ty : TypeId) (x : Operand) (ho : o.op = .load ty x)
    {b : Nat} {cs : List Value} (hi : L[i]? = some (.box b cs)) (hx : a.eval x = .pointer (some ⟨b, 0, none⟩)) (d : TypeDesc) (hu : P.underlying ty = some d) (hd : (match d with | .struct _ | .array _ _ => true | _ => false) = true)
    (hsz : (P.info? ty).map (·.size) = some cs.length) (h : wpList P ops Q rest (a.put o.dst (.agg cs.toArray)) w) : wpList P ops Q (o :: rest) a w := by
  obtain ⟨T, hT⟩ := S.row? i hi
  exact wpList_load_row hgd ty x ho b hx T cs.toArray (0, 0) d hT hu hd (by simpa using hsz) h
/-- A whole box is written. -/
theorem wpList_store_St {P : Program} (S : St w0 w n L) (i : Nat) {ops : Array Oper} {rest : List Oper} {o : Oper} {a : Act} {Q : Exit → Act → World → Prop} (hgd : o.guard = none) (ty : TypeId) (x y : Operand) (ho : o.op = .store ty x y)
    {b : Nat} {cs : List Value} (hi : L[i]? = some (.box b cs)) (hx : a.eval x = .pointer (some ⟨b, 0, none⟩)) (cells : List Value) (hy : a.eval y = .agg cells.toArray)
    (hsz : (P.info? ty).map (·.size) = some cells.length) (hlen : cs.length = cells.length) (h1 : ∀ v ∈ cells, v.oneCell' = true)
    (h : ∀ w', St w0 w' w'.heap.size (L.set i (.box b cells)) → wpList P ops Q rest (a.put o.dst undef) w') : wpList P ops Q (o :: rest) a w := by
  obtain ⟨T, hT⟩ := S.row? i hi
  refine wpList_store_row hgd ty x y ho b cells.toArray hx hy T cs.toArray hT (by simpa using hsz) (by simpa using hlen) (by rw [Array.all_eq_true_iff_forall_mem]; intro v hv; exact h1 v (by simpa using hv)) (h _ ?_)
  exact S.turn i (.box b cells) hi (grown_setRow _) ⟨S.base i hi, T, setRow_heap _ _ _ _ _ _ hT⟩ (fun _ e => .inl e)
end
end Go.Proofs.Ytldcehhhndlhdaa
/- The plain words of layer 6: lines, what is valid, the table of all stretches. No program here. -/
namespace Go.Proofs.Ytldcehhhndlhdaa
/-- A point of a line. -/
structure Pt where
  lo : Int
  hi : Int
  cost : Int
  deriving DecidableEq, Inhabited
/-- A line: its points and its odds. -/
structure DLine where
  pts : List Pt
  odds : List Int
  deriving DecidableEq, Inhabited
/-! The plain words of the program. -/
def sumI : List Int → Int
  | [] => 0
  | x :: l => x + sumI l
theorem sumI_snoc : ∀ (l : List Int) (x : Int), sumI (l ++ [x]) = sumI l + x
  | [], x => by simp [sumI]
  | y :: l, x => by simp [sumI, sumI_snoc l x]; omega
theorem sumI_bd : ∀ (l : List Int), (∀ x ∈ l, 0 ≤ x ∧ x ≤ 9) → 0 ≤ sumI l ∧ sumI l ≤ 9 * l.length
  | [], _ => by simp [sumI]
  | x :: l, h => by
    have h1 := sumI_bd l (fun y hy => h y (by simp [hy]))
    have h2 := h x (by simp)
    simp [sumI]
    omega
def inR (n lo hi : Int) : Bool := decide (lo ≤ n) && decide (n ≤ hi)
def badOdds (n : Int) : Bool := !inR n 1 9
def badPt (p : Pt) : Bool := !inR p.hi 0 99 || !inR p.lo 0 p.hi || !inR p.cost 0 20
def valid (d : DLine) : Bool := decide (d.odds.length ≤ 7) && !d.odds.any badOdds && decide (d.pts.length = d.odds.length + 1) && !d.pts.any badPt
def someOf (d : DLine) (f t : Int) : Bool := decide (0 ≤ f) && decide (f < t) && decide (t ≤ d.odds.length)
def isSt (d : DLine) (n : Int) : Bool := inR n 0 (d.odds.length - 1)
def isPt (d : DLine) (n : Int) : Bool := inR n 0 (d.pts.length - 1)
def chk (d : DLine) : Int := if valid d then 0 else 60
def askE (d : DLine) (is : Bool) : Int := if valid d then (if is then 0 else 1) else 60

/-! The table of all stretches. -/
/-- Over the points p = f+1 .. f+k: the least 'g p', and the first p where it is. -/
def argmin (g : Nat → Int) (f : Nat) : Nat → Int × Nat
  | 0 => (0, 0)
  | k + 1 => if (argmin g f k).2 = 0 ∨ g (f + k + 1) < (argmin g f k).1 then (g (f + k + 1), f + k + 1) else argmin g f k
theorem argmin_congr {g g' : Nat → Int} {f : Nat} : ∀ k, (∀ p, f < p → p ≤ f + k → g p = g' p) → argmin g f k = argmin g' f k
  | 0, _ => rfl
  | k + 1, h => by
    have ih := argmin_congr (g := g) (g' := g') (f := f) k (fun p h1 h2 => h p h1 (by omega))
    unfold argmin
    rw [ih, h (f + k + 1) (by omega) (by omega)]
theorem argmin_pt (g : Nat → Int) (f : Nat) : ∀ k, ((argmin g f k).2 = 0 ↔ k = 0) ∧ (0 < k → f < (argmin g f k).2 ∧ (argmin g f k).2 ≤ f + k ∧ (argmin g f k).1 = g (argmin g f k).2)
  | 0 => ⟨by simp [argmin], fun h => absurd h (by omega)⟩
  | k + 1 => by
    obtain ⟨h1, h2⟩ := argmin_pt g f k
    unfold argmin
    split
    · exact ⟨by simp, fun _ => ⟨by simp; omega, by simp; omega, rfl⟩⟩
    · rename_i h
      have hk : k ≠ 0 := fun e => h (.inl (h1.2 e))
      obtain ⟨a, b, c⟩ := h2 (by omega)
      exact ⟨⟨fun e => absurd (h1.1 e) hk, fun e => by omega⟩, fun _ => ⟨a, by omega, c⟩⟩
theorem argmin_le (g : Nat → Int) (f : Nat) : ∀ k p, f < p → p ≤ f + k → (argmin g f k).1 ≤ g p
  | 0, p, h1, h2 => by omega
  | k + 1, p, h1, h2 => by
    have ih := argmin_le g f k p h1
    unfold argmin
    by_cases hp : p = f + k + 1
    · subst hp
      split
      · exact Int.le_refl _
      · rename_i h; omega
    · have ih := ih (by omega)
      split
      · rename_i h
        rcases h with h | h
        · have := (argmin_pt g f k).1.1 h; omega
        · simp only; omega
      · exact ih
theorem argmin_first (g : Nat → Int) (f : Nat) : ∀ k p, f < p → p < (argmin g f k).2 → (argmin g f k).1 < g p
  | 0, p, h1, h2 => by simp [argmin] at h2
  | k + 1, p, h1, h2 => by
    have ih := argmin_first g f k p h1
    unfold argmin at h2 ⊢
    split
    · rename_i h
      rw [if_pos h] at h2
      simp only at h2 ⊢
      rcases h with h | h
      · have := (argmin_pt g f k).1.1 h; omega
      · have := argmin_le g f k p h1 (by omega); omega
    · rename_i h
      rw [if_neg h] at h2
      exact ih h2

abbrev Part := Nat → Nat → Nat → Int → Int → Int
/-- The table: what the 'm' stretches from 'f' on are worth, and the first point at which they are parted so. -/
def tabF (part : Part) : Nat → Nat → Nat → Int × Nat
  | 0, _, _ => (0, 0)
  | n + 1, m, f => argmin (fun p => part f p (f + m) (tabF part n (p - f) f).1 (tabF part n (f + m - p) p).1) f (m - 1)
theorem tabF_eq (part : Part) (m : Nat) : ∀ n n' f, m ≤ n → m ≤ n' → tabF part n m f = tabF part n' m f := by
  induction m using Nat.strongRecOn with
  | _ m ih =>
    intro n n' f h h'
    rcases Nat.eq_zero_or_pos m with h0 | h0
    · subst h0
      cases n <;> cases n' <;> simp [tabF, argmin]
    · obtain ⟨k, rfl⟩ : ∃ k, n = k + 1 := ⟨n - 1, by omega⟩
      obtain ⟨k', rfl⟩ : ∃ k, n' = k + 1 := ⟨n' - 1, by omega⟩
      unfold tabF
      apply argmin_congr
      intro p h1 h2
      rw [ih (p - f) (by omega) k k' f (by omega) (by omega), ih (f + m - p) (by omega) k k' p (by omega) (by omega)]
def tab (part : Part) (m f : Nat) : Int × Nat := tabF part m m f
/-- The worth of parting the m stretches from f on at p. -/
def tabG (part : Part) (m f p : Nat) : Int := part f p (f + m) (tab part (p - f) f).1 (tab part (f + m - p) p).1
theorem tab_eq (part : Part) (m f : Nat) : tab part m f = argmin (tabG part m f) f (m - 1) := by
  cases m with
  | zero => rfl
  | succ m =>
    show argmin _ f (m + 1 - 1) = _
    apply argmin_congr
    intro p h1 h2
    unfold tabG tab
    rw [tabF_eq part (p - f) m (p - f) f (by omega) (by omega), tabF_eq part (f + (m + 1) - p) m (f + (m + 1) - p) p (by omega) (by omega)]
theorem tab_one (part : Part) (f : Nat) : tab part 1 f = (0, 0) := rfl

/-- A measure whose worth stays small: K for each parting. -/
def Small (part : Part) (n : Nat) (K : Int) : Prop := 0 ≤ K ∧ ∀ f p t b a, f < p → p < t → t ≤ n → 0 ≤ b → 0 ≤ a → 0 ≤ part f p t b a ∧ part f p t b a ≤ K + b + a
theorem tab_small {part : Part} {n : Nat} {K : Int} (h : Small part n K) (m : Nat) : ∀ f, f + m ≤ n → 0 ≤ (tab part m f).1 ∧ (tab part m f).1 ≤ K * (m - 1 : Nat) := by
  obtain ⟨hK, h⟩ := h
  induction m using Nat.strongRecOn with
  | _ m ih =>
    intro f hf
    rw [tab_eq]
    rcases Nat.lt_or_ge m 2 with hm | hm
    · have : m - 1 = 0 := by omega
      rw [this]; simp [argmin]
    · obtain ⟨h1, h2, h3⟩ := (argmin_pt (tabG part m f) f (m - 1)).2 (by omega)
      rw [h3]
      generalize (argmin (tabG part m f) f (m - 1)).2 = p at h1 h2
      have a1 := ih (p - f) (by omega) f (by omega)
      have a2 := ih (f + m - p) (by omega) p (by omega)
      have := h f p (f + m) (tab part (p - f) f).1 (tab part (f + m - p) p).1 h1 (by omega) hf a1.1 a2.1
      unfold tabG
      refine ⟨this.1, Int.le_trans this.2 ?_⟩
      have e : K * ((m - 1 : Nat) : Int) = K + K * ((p - f - 1 : Nat) : Int) + K * ((f + m - p - 1 : Nat) : Int) := by
        have : ((m - 1 : Nat) : Int) = 1 + ((p - f - 1 : Nat) : Int) + ((f + m - p - 1 : Nat) : Int) := by omega
        rw [this, Int.mul_add, Int.mul_add, Int.mul_one]
      rw [e]
      omega
theorem tabG_small {part : Part} {n : Nat} {K : Int} (h : Small part n K) (m f p : Nat) (h1 : f < p) (h2 : p < f + m) (h3 : f + m ≤ n) : 0 ≤ tabG part m f p ∧ tabG part m f p ≤ K * (m - 1 : Nat) := by
  have a1 := tab_small h (p - f) f (by omega)
  have a2 := tab_small h (f + m - p) p (by omega)
  have := h.2 f p (f + m) _ _ h1 h2 h3 a1.1 a2.1
  unfold tabG
  refine ⟨this.1, Int.le_trans this.2 ?_⟩
  have hK := h.1
  have e : K * ((m - 1 : Nat) : Int) = K + K * ((p - f - 1 : Nat) : Int) + K * ((f + m - p - 1 : Nat) : Int) := by
    have : ((m - 1 : Nat) : Int) = 1 + ((p - f - 1 : Nat) : Int) + ((f + m - p - 1 : Nat) : Int) := by omega
    rw [this, Int.mul_add, Int.mul_add, Int.mul_one]
  rw [e]
  omega

/-- The cost of a point, and the odds of some stretches together. -/
def costAt (d : DLine) (p : Nat) : Int := (d.pts[p]?.map Pt.cost).getD 0
def oddsOf (d : DLine) (f t : Nat) : Int := sumI ((d.odds.drop f).take (t - f))
def worstP (d : DLine) : Part := fun _ p _ b a => costAt d p + max b a
def sumP (d : DLine) : Part := fun f p t b a => costAt d p * oddsOf d f t + b + a
def worstN (d : DLine) (f t : Nat) : Int := (tab (worstP d) (t - f) f).1
def nextN (d : DLine) (f t : Nat) : Nat := (tab (worstP d) (t - f) f).2
def avgN (d : DLine) (f t : Nat) : Int := (tab (sumP d) (t - f) f).1

theorem valid_spec {d : DLine} (h : valid d = true) : d.odds.length ≤ 7 ∧ d.pts.length = d.odds.length + 1 ∧ (∀ x ∈ d.pts, (0 ≤ x.hi ∧ x.hi ≤ 99) ∧ (0 ≤ x.lo ∧ x.lo ≤ x.hi) ∧ 0 ≤ x.cost ∧ x.cost ≤ 20) ∧ ∀ x ∈ d.odds, 1 ≤ x ∧ x ≤ 9 := by
  unfold valid at h
  simp only [Bool.and_eq_true, decide_eq_true_eq, Bool.not_eq_true', List.any_eq_false] at h
  obtain ⟨⟨⟨h1, h2⟩, h3⟩, h4⟩ := h
  refine ⟨h1, h3, fun x hx => ?_, fun x hx => ?_⟩
  · have := h4 x hx
    simp [badPt, inR] at this
    omega
  · have := h2 x hx
    simp [badOdds, inR] at this
    omega
theorem costAt_bd {d : DLine} (h : valid d = true) (p : Nat) : 0 ≤ costAt d p ∧ costAt d p ≤ 20 := by
  unfold costAt
  cases hp : d.pts[p]? with
  | none => simp
  | some x =>
    have := ((valid_spec h).2.2.1 x (List.mem_of_getElem? hp)).2.2
    simpa using this
theorem oddsOf_bd (d : DLine) (f t : Nat) (hx : ∀ x ∈ d.odds, 0 ≤ x ∧ x ≤ 9) : 0 ≤ oddsOf d f t ∧ oddsOf d f t ≤ 9 * d.odds.length := by
  obtain ⟨h1, h2⟩ := sumI_bd ((d.odds.drop f).take (t - f)) (fun x hm => hx x (List.mem_of_mem_drop (List.mem_of_mem_take hm)))
  refine ⟨h1, Int.le_trans h2 ?_⟩
  simp
  omega
theorem mul_bd {x y A B : Int} (h1 : 0 ≤ x) (h2 : x ≤ A) (h3 : 0 ≤ y) (h4 : y ≤ B) : 0 ≤ x * y ∧ x * y ≤ A * B :=
  ⟨Int.mul_nonneg h1 h3, Int.le_trans (Int.mul_le_mul_of_nonneg_right h2 h3) (Int.mul_le_mul_of_nonneg_left h4 (by omega))⟩
theorem worst_small {d : DLine} (h : valid d = true) : Small (worstP d) d.odds.length 20 := by
  refine ⟨by omega, fun f p t b a _ _ _ hb ha => ?_⟩
  have := costAt_bd h p
  unfold worstP
  omega
theorem sum_small {d : DLine} (h : valid d = true) : Small (sumP d) d.odds.length 1260 := by
  refine ⟨by omega, fun f p t b a _ _ _ hb ha => ?_⟩
  have h1 := costAt_bd h p
  have h2 := oddsOf_bd d f t (fun x hx => by have := (valid_spec h).2.2.2 x hx; omega)
  have h3 := (valid_spec h).1
  have h4 := mul_bd h1.1 h1.2 h2.1 (show oddsOf d f t ≤ 63 by omega)
  unfold sumP
  omega

/-- The points that are gauged, from some stretches on, if the thief taps the stretch s. -/
def pathL (d : DLine) (s : Int) : Nat → Nat → Nat → List Int
  | 0, _, _ => []
  | k + 1, f, t => if f + 1 < t then (nextN d f t : Int) :: (if s < nextN d f t then pathL d s k f (nextN d f t) else pathL d s k (nextN d f t) t) else []
end Go.Proofs.Ytldcehhhndlhdaa
/- The box of mouths: what a gate hands out, in plain words. No program here. -/
namespace Go.Proofs.Ytldcehhhndlhdaa
/-- A box: the shares, and the most gauges of each quarter. -/
structure MBox where
  sh : List Int
  mo : List Int
  deriving DecidableEq, Inhabited
def mAt (l : List Int) (i : Int) : Int := l.getD i.toNat 0
/-- Who is next, as far as the loop over the quarters has come (below 0: nobody). -/
def nextTo (b : MBox) (has : List Int) : Nat → Int
  | 0 => -1
  | k + 1 =>
    if mAt b.sh k = 0 ∨ mAt b.mo k ≤ mAt has k then nextTo b has k
    else if nextTo b has k < 0 ∨ mAt b.sh (nextTo b has k) * (2 * mAt has k + 1) < mAt b.sh k * (2 * mAt has (nextTo b has k) + 1) then (k : Int) else nextTo b has k
theorem nextTo_bd (b : MBox) (has : List Int) : ∀ k, -1 ≤ nextTo b has k ∧ nextTo b has k < k
  | 0 => by simp [nextTo]
  | k + 1 => by
    have h := nextTo_bd b has k
    simp only [nextTo]
    split
    · omega
    · split <;> omega
theorem nextTo_free (b : MBox) (has : List Int) : ∀ k, 0 ≤ nextTo b has k → mAt has (nextTo b has k) < mAt b.mo (nextTo b has k)
  | 0 => by simp [nextTo]
  | k + 1 => by
    have h := nextTo_free b has k
    simp only [nextTo]
    split
    · exact h
    · rename_i hc
      split
      · intro _
        omega
      · exact h
def nextM (b : MBox) (has : List Int) : Int := nextTo b has b.sh.length
/-- One gauge more. -/
def stepM (b : MBox) (has : List Int) : List Int := if 0 ≤ nextM b has then has.set (nextM b has).toNat (mAt has (nextM b has) + 1) else has
/-- What each quarter has, behind so many gauges. -/
def hasM (b : MBox) (n : Nat) : Nat → List Int
  | 0 => List.replicate n 0
  | k + 1 => stepM b (hasM b n k)
theorem hasM_len (b : MBox) (n : Nat) : ∀ k, (hasM b n k).length = n
  | 0 => by simp [hasM]
  | k + 1 => by
    have h := hasM_len b n k
    simp only [hasM, stepM]
    split
    · rw [List.length_set, h]
    · exact h
theorem mAt_set (l : List Int) (i j : Nat) (x : Int) : mAt (l.set i x) (j : Int) = if i = j ∧ j < l.length then x else mAt l j := by
  unfold mAt
  rw [List.getD_eq_getElem?_getD, List.getD_eq_getElem?_getD, Int.toNat_natCast, List.getElem?_set]
  by_cases e : i = j
  · subst e
    by_cases h : i < l.length
    · rw [if_pos rfl, if_pos h, if_pos ⟨rfl, h⟩]; rfl
    · rw [if_pos rfl, if_neg h, if_neg (fun h' => h h'.2), List.getElem?_eq_none (by omega)]
  · rw [if_neg e, if_neg (fun h' => e h'.1)]
theorem stepM_le (b : MBox) (has : List Int) (j : Nat) : mAt has j ≤ mAt (stepM b has) j := by
  unfold stepM
  split
  · rename_i h
    obtain ⟨i, hi⟩ := Int.eq_ofNat_of_zero_le h
    rw [hi, Int.toNat_natCast, mAt_set]
    split
    · rename_i hc
      rw [← hc.1]
      omega
    · omega
  · omega
/-- More flow, and nobody has less. -/
theorem hasM_mono (b : MBox) (n : Nat) {f g : Nat} (h : f ≤ g) (j : Nat) : mAt (hasM b n f) j ≤ mAt (hasM b n g) j := by
  induction h with
  | refl => omega
  | step _ ih => exact Int.le_trans ih (stepM_le b _ j)
/-- What each quarter has is at least 0, and at most what it takes. -/
theorem hasM_bd (b : MBox) (n : Nat) (hm : ∀ j : Nat, 0 ≤ mAt b.mo j) : ∀ k (j : Nat), 0 ≤ mAt (hasM b n k) j ∧ mAt (hasM b n k) j ≤ mAt b.mo j
  | 0, j => by
    have : mAt (hasM b n 0) j = 0 := by
      unfold mAt hasM
      rw [List.getD_eq_getElem?_getD, Int.toNat_natCast, List.getElem?_replicate]
      split <;> rfl
    rw [this]
    exact ⟨by omega, hm j⟩
  | k + 1, j => by
    have h := hasM_bd b n hm k j
    simp only [hasM, stepM]
    split
    · rename_i hp
      have hf := nextTo_free b (hasM b n k) b.sh.length hp
      obtain ⟨i, hi⟩ := Int.eq_ofNat_of_zero_le hp
      have hi' : nextTo b (hasM b n k) b.sh.length = (i : Int) := hi
      rw [hi'] at hf
      rw [hi, Int.toNat_natCast, mAt_set]
      split
      · rename_i hc
        obtain ⟨e, -⟩ := hc
        subst e
        omega
      · exact h
    · exact h
/-- The gauges of each quarter. -/
def gaugesM (b : MBox) (flow : Nat) : List Int := (hasM b 5 flow).take b.sh.length
structure MOk (b : MBox) : Prop where
  sl : b.sh.length ≤ 5
  ml : b.mo.length = b.sh.length
  so : ∀ x ∈ b.sh, 0 ≤ x ∧ x ≤ 20
  mx : ∀ x ∈ b.mo, 0 ≤ x ∧ x ≤ 20
def mValid (b : MBox) : Bool := decide (b.sh.length ≤ 5) && decide (b.mo.length = b.sh.length) && b.sh.all (fun x => decide (0 ≤ x) && decide (x ≤ 20)) && b.mo.all (fun x => decide (0 ≤ x) && decide (x ≤ 20))
theorem mValid_iff {b : MBox} : mValid b = true ↔ MOk b := by
  unfold mValid
  simp only [Bool.and_eq_true, decide_eq_true_eq, List.all_eq_true]
  constructor
  · rintro ⟨⟨⟨h1, h2⟩, h3⟩, h4⟩
    exact ⟨h1, h2, h3, h4⟩
  · rintro ⟨h1, h2, h3, h4⟩
    exact ⟨⟨⟨h1, h2⟩, h3⟩, h4⟩
end Go.Proofs.Ytldcehhhndlhdaa

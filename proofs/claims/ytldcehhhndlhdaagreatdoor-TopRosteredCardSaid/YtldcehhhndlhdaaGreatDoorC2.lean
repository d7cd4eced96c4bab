/- Divisions of buckets: one bucket more along a cheapest path. No program here; no conditions. -/
import Derived.Test.YtldcehhhndlhdaaGreatDoorC1
namespace Go.Proofs.YtldcehhhndlhdaaGreatDoor.Bk
/-- By how much the division is more on a way, behind a path. -/
def gain : List Arc → Nat → Int
  | [], _ => 0
  | a :: p, i => (if a.way = (i : Int) then a.more else 0) + gain p i
def augB (d : Nat → Int) (p : List Arc) : Nat → Int := fun i => d i + gain p i
def cHa (t : BT) (a : Arc) (h : Nat) : Int := sumR t.m fun i => if t.hh i = h then (if a.way = (i : Int) then a.more else 0) else 0
def cWa (t : BT) (a : Arc) (w : Nat) : Int := sumR t.m fun i => if t.ww i = w then (if a.way = (i : Int) then a.more else 0) else 0
def cHp (t : BT) : List Arc → Nat → Int
  | [], _ => 0
  | a :: p, h => cHa t a h + cHp t p h
def cWp (t : BT) : List Arc → Nat → Int
  | [], _ => 0
  | a :: p, h => cWa t a h + cWp t p h
theorem draw_gain (t : BT) (h : Nat) : ∀ p : List Arc, drawH t (gain p) h = cHp t p h
  | [] => by
    show sumR t.m (fun i => if t.hh i = h then (0 : Int) else 0) = 0
    rw [sumR_congr (g := fun _ => 0) (fun i _ => by split <;> rfl), sumR_zero]
  | a :: p => by
    show sumR t.m (fun i => if t.hh i = h then ((if a.way = (i : Int) then a.more else 0) + gain p i) else 0) = cHa t a h + cHp t p h
    rw [← draw_gain t h p, sumR_congr (g := fun i => (if t.hh i = h then (if a.way = (i : Int) then a.more else 0) else 0) + (if t.hh i = h then gain p i else 0)) (fun i _ => by
      by_cases e : t.hh i = h
      · simp only [if_pos e]
      · simp only [if_neg e]; rfl), sumR_add]
    rfl
theorem give_gain (t : BT) (h : Nat) : ∀ p : List Arc, giveW t (gain p) h = cWp t p h
  | [] => by
    show sumR t.m (fun i => if t.ww i = h then (0 : Int) else 0) = 0
    rw [sumR_congr (g := fun _ => 0) (fun i _ => by split <;> rfl), sumR_zero]
  | a :: p => by
    show sumR t.m (fun i => if t.ww i = h then ((if a.way = (i : Int) then a.more else 0) + gain p i) else 0) = cWa t a h + cWp t p h
    rw [← give_gain t h p, sumR_congr (g := fun i => (if t.ww i = h then (if a.way = (i : Int) then a.more else 0) else 0) + (if t.ww i = h then gain p i else 0)) (fun i _ => by
      by_cases e : t.ww i = h
      · simp only [if_pos e]
      · simp only [if_neg e]; rfl), sumR_add]
    rfl
theorem draw_aug (t : BT) (d : Nat → Int) (p : List Arc) (h : Nat) : drawH t (augB d p) h = drawH t d h + cHp t p h := by
  rw [← draw_gain, ← show drawH t (augB d p) h = drawH t d h + drawH t (gain p) h from by
    unfold drawH augB
    rw [← sumR_add]
    exact sumR_congr fun i _ => by
      by_cases e : t.hh i = h
      · simp only [if_pos e]
      · simp only [if_neg e]; rfl]
theorem give_aug (t : BT) (d : Nat → Int) (p : List Arc) (h : Nat) : giveW t (augB d p) h = giveW t d h + cWp t p h := by
  rw [← give_gain, ← show giveW t (augB d p) h = giveW t d h + giveW t (gain p) h from by
    unfold giveW augB
    rw [← sumR_add]
    exact sumR_congr fun i _ => by
      by_cases e : t.ww i = h
      · simp only [if_pos e]
      · simp only [if_neg e]; rfl]
theorem cHa_way {t : BT} {a : Arc} {i : Nat} (hi : i < t.m) (e : a.way = (i : Int)) (h : Nat) : cHa t a h = if t.hh i = h then a.more else 0 := by
  unfold cHa
  rw [sumR_congr (g := fun j => if i = j then (if t.hh i = h then a.more else 0) else 0) (fun j _ => by
    rw [e]
    by_cases ej : i = j
    · subst ej; simp
    · rw [if_neg (c := ((i : Nat) : Int) = (j : Int)) (by omega), if_neg ej]; split <;> rfl), sumR_one _ hi]
theorem cWa_way {t : BT} {a : Arc} {i : Nat} (hi : i < t.m) (e : a.way = (i : Int)) (h : Nat) : cWa t a h = if t.ww i = h then a.more else 0 := by
  unfold cWa
  rw [sumR_congr (g := fun j => if i = j then (if t.ww i = h then a.more else 0) else 0) (fun j _ => by
    rw [e]
    by_cases ej : i = j
    · subst ej; simp
    · rw [if_neg (c := ((i : Nat) : Int) = (j : Int)) (by omega), if_neg ej]; split <;> rfl), sumR_one _ hi]
theorem cHa_none {t : BT} {a : Arc} (e : a.way = -1) (h : Nat) : cHa t a h = 0 := by
  unfold cHa
  rw [sumR_congr (g := fun _ => 0) (fun j _ => by rw [e, if_neg (c := (-1 : Int) = (j : Int)) (by omega)]; split <;> rfl), sumR_zero]
theorem cWa_none {t : BT} {a : Arc} (e : a.way = -1) (h : Nat) : cWa t a h = 0 := by
  unfold cWa
  rw [sumR_congr (g := fun _ => 0) (fun j _ => by rw [e, if_neg (c := (-1 : Int) = (j : Int)) (by omega)]; split <;> rfl), sumR_zero]
section
variable {t : BT} {d : Nat → Int} {π : Nat → Int} {S : BS} {n : Nat}
/-- A path that does not come by the sink: what it adds to each house, and to each well. -/
theorem chain_adds (hk : BOk t) (hD : BInv (arcsB t d) (springB t) π S) {v : Nat} {p : List Arc} (hc : Chain S.src (springB t) v p) : S.c v < farI → sinkB t ∉ v :: p.map Arc.fr →
    (∀ h, h < t.nH → cHp t p h = if v = t.nW + h then 1 else 0) ∧
    (v ≠ springB t → ∃ w0, w0 < t.nW ∧ 0 < hasW t d w0 ∧ (∃ a ∈ p, a.fr = springB t ∧ a.to = w0 ∧ a.cost = 0) ∧ ∀ w, w < t.nW → cWp t p w = (if w0 = w then 1 else 0) - (if v = w then 1 else 0)) := by
  induction hc with
  | nil =>
    intro _ _
    refine ⟨fun h hh => ?_, fun hn => absurd rfl hn⟩
    rw [if_neg (by unfold springB; omega)]
    rfl
  | @cons v p hv hc ih =>
    intro hf hs
    obtain ⟨q1, q2, q3, q4⟩ := hD.par v hf hv
    have hs2 : sinkB t ∉ (S.src v).fr :: p.map Arc.fr := fun hm => hs (List.mem_cons_of_mem _ (by rw [List.map_cons]; exact hm))
    have hvs : v ≠ sinkB t := fun e => hs (by rw [e]; simp)
    have hfs : (S.src v).fr ≠ sinkB t := fun e => hs2 (by rw [e]; simp)
    obtain ⟨i1, i2⟩ := ih q3 hs2
    obtain ⟨a, ha⟩ : ∃ a, S.src v = a := ⟨_, rfl⟩
    rw [ha] at q1 q2 q3 q4 hc hfs i1 i2 ⊢
    rcases mem_arcs.1 q1 with ⟨w, hw, ⟨h1, rfl⟩ | ⟨h1, rfl⟩⟩ | ⟨h, hh, ⟨h1, rfl⟩ | ⟨h1, rfl⟩⟩ | ⟨i, hi, rfl | ⟨h1, rfl⟩⟩
    · dsimp only at q2 q3 hc hfs i1 i2
      cases hc with
      | cons hx _ => exact absurd rfl hx
      | nil =>
        refine ⟨fun h hh => ?_, fun _ => ⟨w, hw, h1, ⟨_, List.mem_singleton.2 rfl, rfl, rfl, rfl⟩, fun w' hw' => ?_⟩⟩
        · show cHa t _ h + 0 = _
          rw [cHa_none rfl, if_neg (by omega)]
          rfl
        · show cWa t _ w' + 0 = _
          rw [cWa_none rfl, ← q2]
          omega
    · exact absurd q2.symm hv
    · exact absurd q2.symm hvs
    · exact absurd rfl hfs
    · dsimp only at q2 q3 hc hfs i1 i2
      have hww := hk.ww i hi
      have hhh := hk.hh i hi
      refine ⟨fun h hh => ?_, fun _ => ?_⟩
      · show cHa t _ h + cHp t p h = _
        rw [cHa_way hi rfl, i1 h hh, if_neg (c := t.ww i = t.nW + h) (by omega), ← q2]
        by_cases e : t.hh i = h
        · rw [if_pos e, if_pos (by omega)]; rfl
        · rw [if_neg e, if_neg (by omega)]; rfl
      · obtain ⟨w0, j1, j2, ⟨a', j3, j4⟩, j5⟩ := i2 (by unfold springB; omega)
        refine ⟨w0, j1, j2, ⟨a', List.mem_cons_of_mem _ j3, j4⟩, fun w hw => ?_⟩
        show cWa t _ w + cWp t p w = _
        rw [cWa_way hi rfl, j5 w hw, ← q2, if_neg (c := t.nW + t.hh i = w) (by omega)]
        dsimp only
        by_cases e : t.ww i = w
        · rw [if_pos e]; omega
        · rw [if_neg e]; omega
    · dsimp only at q2 q3 hc hfs i1 i2
      have hww := hk.ww i hi
      have hhh := hk.hh i hi
      refine ⟨fun h hh => ?_, fun _ => ?_⟩
      · show cHa t _ h + cHp t p h = _
        rw [cHa_way hi rfl, i1 h hh, ← q2, if_neg (c := t.ww i = t.nW + h) (by omega)]
        by_cases e : t.hh i = h
        · rw [if_pos e, if_pos (by omega)]; rfl
        · rw [if_neg e, if_neg (by omega)]; rfl
      · obtain ⟨w0, j1, j2, ⟨a', j3, j4⟩, j5⟩ := i2 (by unfold springB; omega)
        refine ⟨w0, j1, j2, ⟨a', List.mem_cons_of_mem _ j3, j4⟩, fun w hw => ?_⟩
        show cWa t _ w + cWp t p w = _
        rw [cWa_way hi rfl, j5 w hw, ← q2, if_neg (c := t.nW + t.hh i = w) (by omega)]
        dsimp only
        by_cases e : t.ww i = w
        · rw [if_pos e, if_pos e]; omega
        · rw [if_neg e, if_neg e]; omega
theorem gain_ge {p : List Arc} {x : Nat} {i : Nat} (hg : ∀ a ∈ p, a.way = (i : Int) → a.more = 1 ∨ (a.more = -1 ∧ a.to = x)) : (p.map Arc.to).Nodup → -1 ≤ gain p i ∧ ((∀ a ∈ p, a.to ≠ x) → 0 ≤ gain p i) := by
  induction p with
  | nil => intro _; exact ⟨by simp [gain], fun _ => by simp [gain]⟩
  | cons a p ih =>
    intro hn
    rw [List.map_cons] at hn
    obtain ⟨n1, n2⟩ := List.nodup_cons.1 hn
    obtain ⟨i1, i2⟩ := ih (fun b hb => hg b (List.mem_cons_of_mem _ hb)) n2
    have h0 := hg a (by simp)
    show -1 ≤ (if a.way = (i : Int) then a.more else 0) + gain p i ∧ _
    refine ⟨?_, fun hx => ?_⟩
    · split
      · rename_i e
        rcases h0 e with h | ⟨h, hx⟩
        · omega
        · have := i2 (fun b hb e2 => n1 (List.mem_map.2 ⟨b, hb, by rw [e2, hx]⟩))
          omega
      · omega
    · show 0 ≤ (if a.way = (i : Int) then a.more else 0) + gain p i
      have := i2 (fun b hb => hx b (List.mem_cons_of_mem _ hb))
      split
      · rename_i e
        rcases h0 e with h | ⟨h, hx'⟩
        · omega
        · exact absurd hx' (hx a (by simp))
      · omega
theorem gain_pos {p : List Arc} {i : Nat} (h : 0 < gain p i) : ∃ a ∈ p, a.way = (i : Int) ∧ 0 < a.more := by
  induction p with
  | nil => exact absurd h (by simp [gain])
  | cons a p ih =>
    have h' : 0 < (if a.way = (i : Int) then a.more else 0) + gain p i := h
    by_cases e : a.way = (i : Int) ∧ 0 < a.more
    · exact ⟨a, by simp, e⟩
    · have : (if a.way = (i : Int) then a.more else 0) ≤ 0 := by
        split
        · rename_i e1
          have : ¬ 0 < a.more := fun e2 => e ⟨e1, e2⟩
          omega
        · omega
      obtain ⟨b, hb, hb2⟩ := ih (by omega)
      exact ⟨b, List.mem_cons_of_mem _ hb, hb2⟩
theorem costL_le {M : Int} (hM0 : 0 ≤ M) : ∀ {p : List Arc}, (∀ a ∈ p, a.cost ≤ M) → costL p ≤ (p.length : Int) * M
  | [], _ => by simp [costL]
  | a :: p, h => by
    have h1 := costL_le hM0 (p := p) (fun b hb => h b (List.mem_cons_of_mem _ hb))
    have h2 := h a (by simp)
    rw [costL_cons, List.length_cons, Int.natCast_add, Int.add_mul]
    simp only [Int.natCast_one, Int.one_mul]
    omega
/-- Behind all passes there are numbers again by which no step is too cheap; at the nodes that are reached they are what these cost. -/
theorem pot_next {A : List Arc} {s : Nat} (hA : ∀ a ∈ A, a.fr < n ∧ a.to < n) (_ : s < n) {M : Int} (hM0 : 0 ≤ M) (hM : ∀ a ∈ A, a.cost ≤ M) (hMn : (n : Int) * M < farI) (hP : PotA A π) (hD : Done A s n π S) (z : Nat) :
    ∃ π', PotA A π' ∧ (∀ v, S.c v < farI → π' v = S.c v) ∧ (¬ S.c z < farI → 0 ≤ π' z) := by
  have hK : ∀ B : List Arc, ∃ K : Int, 0 ≤ K ∧ -π z ≤ K ∧ ∀ a ∈ B, S.c a.to - π a.fr - a.cost ≤ K := by
    intro B
    induction B with
    | nil => exact ⟨(-π z).toNat, by omega, by omega, by simp⟩
    | cons a B ih =>
      obtain ⟨K, k0, k1, k2⟩ := ih
      refine ⟨K + (S.c a.to - π a.fr - a.cost).toNat, by omega, by omega, fun b hb => ?_⟩
      rcases List.mem_cons.1 hb with rfl | hb
      · omega
      · have := k2 b hb
        omega
  obtain ⟨K, k0, k1, k2⟩ := hK A
  refine ⟨fun v => if S.c v < farI then S.c v else π v + K, fun a ha => ?_, fun v hv => if_pos hv, fun hz => ?_⟩
  · dsimp only
    have h2 := k2 a ha
    by_cases h : S.c a.fr < farI
    · have h3 := hD.step a ha h
      obtain ⟨p, hp⟩ := hD.inv.tree _ h
      have h4 := (chain_cost hD.inv hp h).2
      have h5 := hp.short (hA a ha).1 (fun b hb => (hA b (h4 b hb)).1)
      have h6 := costL_le hM0 (fun b hb => hM b (h4 b hb))
      have h7 := hD.lo _ p h hp
      have h8 := hM a ha
      have h9 : (p.length : Int) * M + M ≤ (n : Int) * M := by
        have e : (p.length : Int) * M + M = ((p.length + 1 : Nat) : Int) * M := by
          rw [Int.natCast_add, Int.add_mul]; simp
        rw [e]
        exact Int.mul_le_mul_of_nonneg_right (by omega) hM0
      rw [if_pos h, if_pos (by omega)]
      exact h3
    · rw [if_neg h]
      by_cases h3 : S.c a.to < farI
      · rw [if_pos h3]; omega
      · rw [if_neg h3]
        have := hP a ha
        omega
  · dsimp only
    rw [if_neg hz]
    omega
end
/-- What must be so of a town, that no cost is too great. -/
structure BSm (t : BT) : Prop where
  ok : BOk t
  nH : t.nH ≤ 6
  nW : t.nW ≤ 5
  hs : ∀ h, h < t.nH → 0 ≤ t.hs h ∧ t.hs h ≤ 9
  ws : ∀ w, w < t.nW → 0 ≤ t.ws w
def mostB : Int := 40353607000
theorem dear_le {n : Int} (h : n ≤ 9) : dear n ≤ mostB := by
  have := dearN_mono (show n.toNat ≤ 9 by omega)
  have e : dearN 9 = mostB := by decide
  rw [e] at this
  exact this
theorem dear_pos (n : Int) : 0 < dear n := dearN_pos _
theorem div_le {t : BT} {d : Nat → Int} (hd : Div t d) {h : Nat} : lackH t d h ≤ t.hs h := by
  have : 0 ≤ drawH t d h := sumR_nonneg fun i hi => by
    split
    · exact hd.pos i hi
    · exact Int.le_refl _
  unfold lackH
  omega
theorem div_le' {t : BT} {d : Nat → Int} (hd : Div t d) {w : Nat} : hasW t d w ≤ t.ws w := by
  have : 0 ≤ giveW t d w := sumR_nonneg fun i hi => by
    split
    · exact hd.pos i hi
    · exact Int.le_refl _
  unfold hasW
  omega
theorem arcs_cost {t : BT} (hs : BSm t) {d : Nat → Int} (hd : Div t d) : ∀ a ∈ arcsB t d, -mostB ≤ a.cost ∧ a.cost ≤ mostB := by
  intro a ha
  have hm : (0 : Int) ≤ mostB := by decide
  rcases mem_arcs.1 ha with ⟨w, hw, ⟨_, rfl⟩ | ⟨_, rfl⟩⟩ | ⟨h, hh, ⟨h1, rfl⟩ | ⟨h1, rfl⟩⟩ | ⟨i, hi, rfl | ⟨_, rfl⟩⟩
  · dsimp only; omega
  · dsimp only; omega
  · have h2 := div_le hd (h := h)
    have h3 := (hs.hs h hh).2
    have := dear_le (show lackH t d h - 1 ≤ 9 by omega)
    have := dear_le (show lackH t d h ≤ 9 by omega)
    have := dear_pos (lackH t d h - 1)
    have := dear_pos (lackH t d h)
    dsimp only
    omega
  · have h3 := (hs.hs h hh).2
    have := dear_le (show lackH t d h + 1 ≤ 9 by omega)
    have := dear_le (show lackH t d h ≤ 9 by omega)
    have := dear_pos (lackH t d h + 1)
    have := dear_pos (lackH t d h)
    dsimp only
    omega
  · dsimp only; omega
  · dsimp only; omega
/-- What holds of a division at work. -/
structure Fit (t : BT) (d : Nat → Int) : Prop where
  div : Div t d
  pot : ∃ π, PotA (arcsB t d) π ∧ π (sinkB t) ≤ π (springB t)
def nodesB (t : BT) : Nat := t.nW + t.nH + 2
/-- The state behind all passes. -/
def endB (t : BT) (d : Nat → Int) : BS := passes (arcsB t d) (startS (springB t)) (nodesB t)
theorem fit_zero {t : BT} (hs : BSm t) : Fit t fun _ => 0 := by
  have h0 : ∀ h, lackH t (fun _ => 0) h = t.hs h := fun h => by
    unfold lackH drawH
    rw [sumR_congr (g := fun _ => 0) (fun i _ => by split <;> rfl), sumR_zero]
    omega
  have w0 : ∀ w, hasW t (fun _ => 0) w = t.ws w := fun w => by
    unfold hasW giveW
    rw [sumR_congr (g := fun _ => 0) (fun i _ => by split <;> rfl), sumR_zero]
    omega
  have hdiv : Div t fun _ => 0 := ⟨fun i _ => Int.le_refl _, fun h hh => by rw [h0]; exact (hs.hs h hh).1, fun w hw => by rw [w0]; exact hs.ws w hw⟩
  refine ⟨hdiv, fun v => if v = sinkB t then -mostB else 0, fun a ha => ?_, ?_⟩
  · have hc := arcs_cost hs hdiv a ha
    have hm : (0 : Int) ≤ mostB := by decide
    have hk := hs.ok
    rcases mem_arcs.1 ha with ⟨w, hw, ⟨_, rfl⟩ | ⟨h1, rfl⟩⟩ | ⟨h, hh, ⟨h1, rfl⟩ | ⟨h1, rfl⟩⟩ | ⟨i, hi, rfl | ⟨h1, rfl⟩⟩
    · dsimp only
      rw [if_neg (by unfold sinkB; omega), if_neg (by unfold sinkB springB; omega)]
      omega
    · rw [w0] at h1; omega
    · dsimp only at hc ⊢
      rw [if_pos rfl, if_neg (by unfold sinkB; omega)]
      omega
    · rw [h0] at h1; omega
    · have h1 := hk.hh i hi
      have h2 := hk.ww i hi
      dsimp only
      rw [if_neg (by unfold sinkB; omega), if_neg (by unfold sinkB; omega)]
      omega
    · omega
  · dsimp only
    rw [if_pos rfl, if_neg (by unfold sinkB springB; omega)]
    decide
theorem far_most {t : BT} (hs : BSm t) : (nodesB t : Int) * mostB < farI := by
  have h1 := hs.nH
  have h2 := hs.nW
  have : (nodesB t : Int) ≤ 13 := by unfold nodesB; omega
  have := Int.mul_le_mul_of_nonneg_right this (show (0 : Int) ≤ mostB by decide)
  have e : (13 : Int) * mostB < farI := by decide
  omega
theorem end_done {t : BT} (hs : BSm t) {d : Nat → Int} {π : Nat → Int} (hP : PotA (arcsB t d) π) : Done (arcsB t d) (springB t) (nodesB t) π (endB t d) :=
  passes_done hP (arcs_lt hs.ok) (by unfold springB nodesB; omega)
/-- No path that costs less than nothing: no division costs less. -/
theorem fit_best {t : BT} (hs : BSm t) {d : Nat → Int} (hf : Fit t d) (hc : 0 ≤ (endB t d).c (sinkB t)) {e : Nat → Int} (he : Div t e) : costB t d ≤ costB t e := by
  obtain ⟨π, hP, hz⟩ := hf.pot
  have hD := end_done hs hP
  obtain ⟨π', hP', h1, h2⟩ := pot_next (arcs_lt hs.ok) (by unfold springB; omega) (by decide) (fun a ha => (arcs_cost hs hf.div a ha).2) (far_most hs) hP hD (sinkB t)
  have hsp : π' (springB t) = 0 := by rw [h1 _ (by rw [hD.inv.s0]; decide), hD.inv.s0]
  have hsk : 0 ≤ π' (sinkB t) := by
    by_cases h : (endB t d).c (sinkB t) < farI
    · rw [h1 _ h]; exact hc
    · exact h2 h
  have w1 := weak_dual hs.ok hf.div he hP
  have w2 := weak_dual hs.ok hf.div he hP'
  rw [hsp] at w2
  by_cases hu : totB t d ≤ totB t e
  · have := Int.mul_nonneg (show 0 ≤ totB t e - totB t d by omega) (show 0 ≤ π' (sinkB t) - 0 by omega)
    omega
  · have := Int.mul_nonneg (show 0 ≤ totB t d - totB t e by omega) (show 0 ≤ π (springB t) - π (sinkB t) by omega)
    have e1 : (totB t d - totB t e) * (π (springB t) - π (sinkB t)) = (totB t e - totB t d) * (π (sinkB t) - π (springB t)) := by
      rw [← Int.neg_sub (totB t e), ← Int.neg_sub (π (sinkB t)), Int.neg_mul_neg]
    omega
/-- One bucket more. -/
theorem fit_next {t : BT} (hs : BSm t) {d : Nat → Int} (hf : Fit t d) (hc : (endB t d).c (sinkB t) < 0) :
    ∃ p, Chain (endB t d).src (springB t) (sinkB t) p ∧ p.length + 1 ≤ nodesB t ∧ (∀ a ∈ p, a ∈ arcsB t d) ∧ Fit t (augB d p) ∧ sumR t.nH (lackH t (augB d p)) = sumR t.nH (lackH t d) - 1 := by
  obtain ⟨π, hP, hz⟩ := hf.pot
  have hk := hs.ok
  have hD := end_done hs hP
  obtain ⟨π', hP', h1, -⟩ := pot_next (arcs_lt hs.ok) (by unfold springB; omega) (by decide) (fun a ha => (arcs_cost hs hf.div a ha).2) (far_most hs) hP hD (sinkB t)
  obtain ⟨S, hS⟩ : ∃ S, endB t d = S := ⟨_, rfl⟩
  rw [hS] at hc hD h1 ⊢
  have hfs : S.c (sinkB t) < farI := by have : (0 : Int) < farI := by decide
                                        omega
  have hss : sinkB t ≠ springB t := by unfold sinkB springB; omega
  obtain ⟨p, hp⟩ := hD.inv.tree _ hfs
  have hpA := (chain_cost hD.inv hp hfs).2
  have hps := hp.short (n := nodesB t) (by unfold sinkB nodesB; omega) (fun a ha => (arcs_lt hk a (hpA a ha)).1)
  have hnd := hp.nodup
  -- on the path no step is loose
  have hpath : ∀ v q, Chain S.src (springB t) v q → S.c v < farI → ∀ a ∈ q, S.c a.to = S.c a.fr + a.cost ∧ S.c a.fr < farI ∧ S.c a.to < farI := by
    intro v q hq
    induction hq with
    | nil => intro _ a ha; simp at ha
    | @cons v q hv hq ih =>
      intro hf' a ha
      obtain ⟨q1, q2, q3, q4⟩ := hD.inv.par v hf' hv
      rcases List.mem_cons.1 ha with rfl | ha
      · have := hD.step _ q1 q3
        rw [q2] at this
        rw [q2]
        exact ⟨by omega, q3, hf'⟩
      · exact ih q3 a ha
  have hpq := hpath _ _ hp hfs
  have htos := (hp.tos (fun v => S.c v < farI) (fun v hv hvs => ⟨(hD.inv.par v hv hvs).2.1, (hD.inv.par v hv hvs).2.2.1⟩) hfs).1
  have hpi : ∀ a ∈ p, π' a.to = π' a.fr + a.cost := fun a ha => by
    obtain ⟨g1, g2, g3⟩ := hpq a ha
    rw [h1 _ g2, h1 _ g3, g1]
  -- the last step is that of a house
  obtain ⟨h0, q, hh0, hl0, rfl, hq, hcost⟩ : ∃ h0 q, h0 < t.nH ∧ 0 < lackH t d h0 ∧ p = ⟨t.nW + h0, sinkB t, dear (lackH t d h0 - 1) - dear (lackH t d h0), -1, 0⟩ :: q ∧ Chain S.src (springB t) (t.nW + h0) q ∧ S.c (t.nW + h0) < farI := by
    · obtain ⟨q, hpq', hq⟩ := hp.inv hss
      obtain ⟨q1, q2, q3, q4⟩ := hD.inv.par _ hfs hss
      obtain ⟨a, ha⟩ : ∃ a, S.src (sinkB t) = a := ⟨_, rfl⟩
      rw [ha] at q1 q2 q3 hq hpq'
      rw [hpq']
      rcases mem_arcs.1 q1 with ⟨w, hw, ⟨_, rfl⟩ | ⟨_, rfl⟩⟩ | ⟨h, hh, ⟨g1, rfl⟩ | ⟨_, rfl⟩⟩ | ⟨i, hi, rfl | ⟨_, rfl⟩⟩
      · unfold sinkB at q2; dsimp only at q2; omega
      · exact absurd q2.symm hss
      · exact ⟨h, q, hh, g1, rfl, hq, q3⟩
      · unfold sinkB at q2; dsimp only at q2; omega
      · have := hk.hh i hi; unfold sinkB at q2; dsimp only at q2; omega
      · have := hk.ww i hi; unfold sinkB at q2; dsimp only at q2; omega
  have hnq : sinkB t ∉ (t.nW + h0) :: q.map Arc.fr := by
    have := (List.nodup_cons.1 hnd).1
    rwa [List.map_cons] at this
  obtain ⟨a1, a2⟩ := chain_adds hk hD.inv hq hcost hnq
  obtain ⟨w0, hw0, hhw0, ⟨b0, hb0, hb1, hb2, hb3⟩, a3⟩ := a2 (by unfold springB; omega)
  obtain ⟨P, hPP⟩ : ∃ P, (⟨t.nW + h0, sinkB t, dear (lackH t d h0 - 1) - dear (lackH t d h0), -1, 0⟩ : Arc) :: q = P := ⟨_, rfl⟩
  have hdr : ∀ h, h < t.nH → drawH t (augB d P) h = drawH t d h + if h0 = h then 1 else 0 := fun h hh => by
    rw [draw_aug, ← hPP]
    show drawH t d h + (cHa t _ h + cHp t q h) = _
    rw [cHa_none rfl, a1 h hh]
    by_cases e : h0 = h
    · rw [if_pos e, if_pos (by omega)]; omega
    · rw [if_neg e, if_neg (by omega)]; omega
  have hgv : ∀ w, w < t.nW → giveW t (augB d P) w = giveW t d w + if w0 = w then 1 else 0 := fun w hw => by
    rw [give_aug, ← hPP]
    show giveW t d w + (cWa t _ w + cWp t q w) = _
    rw [cWa_none rfl, a3 w hw, if_neg (c := t.nW + h0 = w) (by omega)]
    omega
  have hlk : ∀ h, h < t.nH → lackH t (augB d P) h = lackH t d h - if h0 = h then 1 else 0 := fun h hh => by
    unfold lackH; rw [hdr h hh]; omega
  have hhs : ∀ w, w < t.nW → hasW t (augB d P) w = hasW t d w - if w0 = w then 1 else 0 := fun w hw => by
    unfold hasW; rw [hgv w hw]; omega
  rw [hPP] at hpA hpq htos hpi hps hp hnd
  -- what each way of the path is
  have hway : ∀ a ∈ P, ∀ i : Nat, i < t.m → a.way = (i : Int) → (a.more = 1 ∧ a.fr = t.ww i ∧ a.to = t.nW + t.hh i ∧ a.cost = 0) ∨ (a.more = -1 ∧ a.to = t.ww i ∧ 0 < d i) := by
    intro a ha i hi e
    rcases mem_arcs.1 (hpA a ha) with ⟨w, hw, ⟨_, rfl⟩ | ⟨_, rfl⟩⟩ | ⟨h, hh, ⟨g1, rfl⟩ | ⟨_, rfl⟩⟩ | ⟨j, hj, rfl | ⟨g, rfl⟩⟩
    · dsimp only at e; omega
    · dsimp only at e; omega
    · dsimp only at e; omega
    · dsimp only at e; omega
    · dsimp only at e
      obtain rfl : j = i := by omega
      exact .inl ⟨rfl, rfl, rfl, rfl⟩
    · dsimp only at e
      obtain rfl : j = i := by omega
      exact .inr ⟨rfl, rfl, g⟩
  have hpos : ∀ i, i < t.m → 0 ≤ augB d P i := fun i hi => by
    have hg := gain_ge (p := P) (x := t.ww i) (i := i) (fun a ha e => by
      rcases hway a ha i hi e with ⟨g, _⟩ | ⟨g, g2, _⟩
      · exact .inl g
      · exact .inr ⟨g, g2⟩) htos
    have hd := hf.div.pos i hi
    show 0 ≤ d i + gain P i
    by_cases e : 0 < d i
    · omega
    · have hg2 : 0 ≤ gain P i := by
        have := gain_ge (p := P) (x := springB t + 2) (i := i) (fun a ha e' => by
          rcases hway a ha i hi e' with ⟨g, _⟩ | ⟨g, g2, g3⟩
          · exact .inl g
          · exact absurd g3 e) htos
        exact this.2 (fun a ha => by have := (arcs_lt hk a (hpA a ha)).2; unfold springB; omega)
      omega
  have hdiv : Div t (augB d P) := ⟨hpos, fun h hh => by
      rw [hlk h hh]
      have := hf.div.lack h hh
      by_cases e : h0 = h
      · rw [if_pos e, ← e]; omega
      · rw [if_neg e]; omega, fun w hw => by
      rw [hhs w hw]
      have := hf.div.has w hw
      by_cases e : w0 = w
      · rw [if_pos e, ← e]; omega
      · rw [if_neg e]; omega⟩
  refine ⟨P, hp, hps, hpA, ⟨hdiv, π', fun a ha => ?_, ?_⟩, ?_⟩
  · rcases mem_arcs.1 ha with ⟨w, hw, ⟨g, rfl⟩ | ⟨g, rfl⟩⟩ | ⟨h, hh, ⟨g, rfl⟩ | ⟨g, rfl⟩⟩ | ⟨i, hi, rfl | ⟨g, rfl⟩⟩
    · rw [hhs w hw] at g
      exact hP' _ (mem_arcs.2 (.inl ⟨w, hw, .inl ⟨by split at g <;> omega, rfl⟩⟩))
    · rw [hhs w hw] at g
      by_cases e : w0 = w
      · have hb0' : b0 ∈ P := by rw [← hPP]; exact List.mem_cons_of_mem _ hb0
        have := hpi b0 hb0'
        rw [hb1, hb2, hb3, e] at this
        dsimp only
        omega
      · rw [if_neg e] at g
        exact hP' _ (mem_arcs.2 (.inl ⟨w, hw, .inr ⟨by omega, rfl⟩⟩))
    · by_cases e : h0 = h
      · subst e
        have := hpi _ (by rw [← hPP]; exact List.mem_cons_self)
        dsimp only at this ⊢
        rw [hlk h0 hh, if_pos rfl] at g ⊢
        obtain ⟨k, hk'⟩ := Int.eq_ofNat_of_zero_le (show 0 ≤ lackH t d h0 - 2 by omega)
        have e0 : lackH t d h0 = ((k + 2 : Nat) : Int) := by omega
        have x0 : dear (lackH t d h0) = dearN (k + 2) := by rw [e0]; rfl
        have x1 : dear (lackH t d h0 - 1) = dearN (k + 1) := by rw [e0]; show dearN _ = _; rw [show (((k + 2 : Nat) : Int) - 1).toNat = k + 1 by omega]
        have x2 : dear (lackH t d h0 - 1 - 1) = dearN k := by rw [e0]; show dearN _ = _; rw [show (((k + 2 : Nat) : Int) - 1 - 1).toNat = k by omega]
        rw [x0, x1] at this
        rw [x1, x2]
        have z0 := dearN_succ k
        have z1 : dearN (k + 2) = 7 * dearN (k + 1) := dearN_succ (k + 1)
        have z2 := dearN_pos k
        omega
      · have hl := hlk h hh
        rw [if_neg e, Int.sub_zero] at hl
        rw [hl] at g ⊢
        exact hP' _ (mem_arcs.2 (.inr (.inl ⟨h, hh, .inl ⟨g, rfl⟩⟩)))
    · by_cases e : h0 = h
      · subst e
        have := hpi _ (by rw [← hPP]; exact List.mem_cons_self)
        dsimp only at this ⊢
        rw [hlk h0 hh, if_pos rfl, show lackH t d h0 - 1 + 1 = lackH t d h0 by omega]
        omega
      · have hl := hlk h hh
        rw [if_neg e, Int.sub_zero] at hl
        rw [hl] at g ⊢
        exact hP' _ (mem_arcs.2 (.inr (.inl ⟨h, hh, .inr ⟨g, rfl⟩⟩)))
    · exact hP' _ (mem_arcs.2 (.inr (.inr ⟨i, hi, .inl rfl⟩)))
    · by_cases e : 0 < d i
      · exact hP' _ (mem_arcs.2 (.inr (.inr ⟨i, hi, .inr ⟨e, rfl⟩⟩)))
      · have hg : 0 < gain P i := by
          have : 0 < d i + gain P i := g
          omega
        obtain ⟨a, ha, e1, e2⟩ := gain_pos hg
        rcases hway a ha i hi e1 with ⟨_, g2, g3, g4⟩ | ⟨_, _, g3⟩
        · have := hpi a ha
          rw [g2, g3, g4] at this
          dsimp only
          omega
        · exact absurd g3 e
  · rw [h1 _ hfs, h1 _ (by rw [hD.inv.s0]; decide), hD.inv.s0]
    omega
  · rw [sumR_congr hlk, sumR_sub, sumR_one _ hh0]
end Go.Proofs.YtldcehhhndlhdaaGreatDoor.Bk
/- Lists of lacks, the greatest one first: what is earlier costs less; the fairest divisions of two towns. No program here; no conditions. -/
namespace Go.Proofs.YtldcehhhndlhdaaGreatDoor.Bk
def earlierL : List Int → List Int → Bool
  | x :: k, y :: l => if x = y then earlierL k l else decide (x < y)
  | _, _ => false
def costS (l : List Int) : Int := (l.map dear).sum
theorem costS_cons (x : Int) (l : List Int) : costS (x :: l) = dear x + costS l := by simp [costS]
theorem costS_nonneg : ∀ l : List Int, 0 ≤ costS l
  | [] => by simp [costS]
  | x :: l => by
    have := costS_nonneg l
    have := dear_pos x
    rw [costS_cons]
    omega
theorem costS_perm {k l : List Int} (h : k.Perm l) : costS k = costS l := by
  induction h with
  | nil => rfl
  | cons x _ ih => rw [costS_cons, costS_cons, ih]
  | swap x y l => rw [costS_cons, costS_cons, costS_cons, costS_cons]; omega
  | trans _ _ h1 h2 => rw [h1, h2]
theorem dear_mono {x y : Int} (h : x ≤ y) : dear x ≤ dear y := dearN_mono (by omega)
theorem costS_le {x : Int} : ∀ {l : List Int}, (∀ y ∈ l, y ≤ x) → costS l ≤ (l.length : Int) * dear x
  | [], _ => by simp [costS]
  | y :: l, h => by
    have h1 := costS_le (l := l) (fun z hz => h z (List.mem_cons_of_mem _ hz))
    have h2 := dear_mono (h y (by simp))
    rw [costS_cons, List.length_cons, Int.natCast_add, Int.add_mul]
    simp only [Int.natCast_one, Int.one_mul]
    omega
/-- The greatest one first. -/
def SortD (l : List Int) : Prop := l.Pairwise fun a b => b ≤ a
theorem earlier_cost : ∀ {k l : List Int}, SortD k → (∀ x ∈ k, 0 ≤ x) → k.length = l.length → k.length ≤ 6 → earlierL k l = true → costS k < costS l
  | [], l, _, _, _, _, h => by
    cases l with
    | nil => simp [earlierL] at h
    | cons y l => simp [earlierL] at h
  | x :: k, [], _, _, h, _, _ => by simp at h
  | x :: k, y :: l, hs, h0, hl, h6, h => by
    obtain ⟨s1, s2⟩ := List.pairwise_cons.1 hs
    simp only [List.length_cons] at hl h6
    unfold earlierL at h
    split at h
    · rename_i e
      have := earlier_cost s2 (fun z hz => h0 z (List.mem_cons_of_mem _ hz)) (by omega) (by omega) h
      rw [costS_cons, costS_cons, e]
      omega
    · have hxy : x < y := by simpa using h
      have h1 := costS_le (x := x) (l := x :: k) (fun z hz => by
        rcases List.mem_cons.1 hz with rfl | hz
        · omega
        · exact s1 z hz)
      have hx := h0 x (by simp)
      obtain ⟨a, rfl⟩ := Int.eq_ofNat_of_zero_le hx
      have h2 := dear_mono (show ((a + 1 : Nat) : Int) ≤ y by omega)
      have h3 : dear ((a + 1 : Nat) : Int) = 7 * dearN a := dearN_succ a
      have h4 : dear ((a : Nat) : Int) = dearN a := rfl
      have h5 := dearN_pos a
      have h6' := costS_nonneg l
      have h7 : ((((a : Nat) : Int) :: k).length : Int) * dear ((a : Nat) : Int) ≤ 6 * dearN a := by
        rw [h4]
        exact Int.mul_le_mul_of_nonneg_right (by rw [List.length_cons]; omega) (by omega)
      rw [costS_cons y]
      omega
/-- The lacks of the houses, in their order. -/
def lacksL (t : BT) (d : Nat → Int) : List Int := (List.range t.nH).map (lackH t d)
theorem sum_range (f : Nat → Int) : ∀ n, ((List.range n).map f).sum = sumR n f
  | 0 => rfl
  | n + 1 => by
    rw [List.range_succ, List.map_append, List.sum_append, sum_range f n]
    simp [sumR]
theorem cost_lacks (t : BT) (d : Nat → Int) : costS (lacksL t d) = costB t d := by
  unfold costS lacksL costB
  rw [List.map_map, sum_range]
  rfl
/-- A fairest division. -/
structure Best (t : BT) (d : Nat → Int) : Prop where
  div : Div t d
  least : ∀ e, Div t e → costB t d ≤ costB t e
/-- More in the wells, the same houses and ways. -/
structure Wetter (t o : BT) : Prop where
  nH : o.nH = t.nH
  nW : o.nW = t.nW
  m : o.m = t.m
  hs : o.hs = t.hs
  hh : o.hh = t.hh
  ww : o.ww = t.ww
  ws : ∀ w, w < t.nW → t.ws w ≤ o.ws w
theorem Wetter.lack {t o : BT} (h : Wetter t o) (d : Nat → Int) (x : Nat) : lackH o d x = lackH t d x := by
  unfold lackH drawH
  rw [h.hs, h.m, h.hh]
theorem Wetter.div {t o : BT} (h : Wetter t o) {d : Nat → Int} (hd : Div t d) : Div o d := by
  refine ⟨fun i hi => hd.pos i (by rw [← h.m]; exact hi), fun x hx => by rw [h.lack]; exact hd.lack x (by rw [← h.nH]; exact hx), fun w hw => ?_⟩
  have hw' : w < t.nW := by rw [← h.nW]; exact hw
  have h1 := hd.has w hw'
  have h2 := h.ws w hw'
  unfold hasW giveW at *
  rw [h.m, h.ww]
  omega
theorem Wetter.cost {t o : BT} (h : Wetter t o) (d : Nat → Int) : costB o d = costB t d := by
  unfold costB
  rw [h.nH]
  exact sumR_congr fun i _ => by rw [h.lack]
/-- With more in the wells no fairest division is less fair. -/
theorem wetter_fair {t o : BT} (h : Wetter t o) {d e : Nat → Int} (hd : Best t d) (he : Best o e) (h6 : t.nH ≤ 6) {k l : List Int} (hk : k.Perm (lacksL t d)) (hl : l.Perm (lacksL o e)) (hs : SortD k) : earlierL k l = false := by
  cases hx : earlierL k l with
  | false => rfl
  | true =>
    exfalso
    have l1 : k.length = t.nH := by rw [hk.length_eq]; simp [lacksL]
    have l2 : l.length = t.nH := by rw [hl.length_eq]; simp [lacksL, h.nH]
    have h0 : ∀ x ∈ k, 0 ≤ x := fun x hx => by
      obtain ⟨i, hi, rfl⟩ := List.mem_map.1 (hk.mem_iff.1 hx)
      exact hd.div.lack i (List.mem_range.1 hi)
    have h1 := earlier_cost hs h0 (by omega) (by omega) hx
    rw [costS_perm hk, costS_perm hl, cost_lacks, cost_lacks] at h1
    have h2 := he.least d (h.div hd.div)
    rw [h.cost d] at h2
    omega
/-- Where a division lets nobody lack anything, the fairest ones do. -/
theorem best_zero {t : BT} {d e : Nat → Int} (hd : Best t d) (he : Div t e) (h0 : ∀ h, h < t.nH → lackH t e h = 0) : ∀ h, h < t.nH → lackH t d h = 0 := by
  intro h hh
  have h1 := hd.least e he
  have h2 := hd.div.lack h hh
  by_cases hz : lackH t d h = 0
  · exact hz
  · exfalso
    unfold costB at h1
    have e1 : sumR t.nH (fun h => dear (lackH t e h)) = sumR t.nH fun _ => dear 0 := sumR_congr fun i hi => by rw [h0 i hi]
    rw [e1] at h1
    have h3 : 0 < sumR t.nH (fun i => dear (lackH t d i) - dear 0) := by
      have a1 := sumR_get (f := fun i => dear (lackH t d i) - dear 0) (n := t.nH) (fun i hi => by
        have := dear_mono (hd.div.lack i hi)
        omega) hh
      have a2 := dear_mono (show (1 : Int) ≤ lackH t d h by omega)
      have a3 : dear 1 = 7000 := by decide
      have a4 : dear 0 = 1000 := by decide
      omega
    rw [sumR_sub (fun i => dear (lackH t d i)) (fun _ => dear 0)] at h3
    omega
end Go.Proofs.YtldcehhhndlhdaaGreatDoor.Bk

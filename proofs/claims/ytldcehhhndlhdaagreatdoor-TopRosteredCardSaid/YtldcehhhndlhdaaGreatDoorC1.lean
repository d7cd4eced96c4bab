/- The cheapest paths from a spring: relaxing all steps again and again, in plain words. No program here; no conditions. -/

namespace Go.Proofs.YtldcehhhndlhdaaGreatDoor.Bk
/-- A step: from where, to where, what it costs, along which way (below 0: along none), and by how much the division is more there. -/
structure Arc where
  fr : Nat
  to : Nat
  cost : Int
  way : Int
  more : Int
  deriving DecidableEq, Inhabited
def updF {α : Type} (f : Nat → α) (i : Nat) (x : α) : Nat → α := fun j => if j = i then x else f j
theorem updF_same {α : Type} (f : Nat → α) (i : Nat) (x : α) : updF f i x i = x := if_pos rfl
theorem updF_other {α : Type} (f : Nat → α) {i j : Nat} (x : α) (h : j ≠ i) : updF f i x j = f j := if_neg h
/-- More than any path costs. -/
def farI : Int := 1152921504606846976
/-- What each node costs, and the last step to it. -/
structure BS where
  c : Nat → Int
  src : Nat → Arc
def relax (S : BS) (a : Arc) : BS := if S.c a.fr < farI ∧ S.c a.fr + a.cost < S.c a.to then ⟨updF S.c a.to (S.c a.fr + a.cost), updF S.src a.to a⟩ else S
def pass (A : List Arc) (S : BS) : BS := A.foldl relax S
def passes (A : List Arc) (S : BS) : Nat → BS
  | 0 => S
  | k + 1 => pass A (passes A S k)
def startS (s : Nat) : BS := ⟨fun v => if v = s then 0 else farI, fun _ => ⟨0, 0, 0, 0, 0⟩⟩
/-- The steps of a path, from its end back to the spring. -/
inductive Chain (src : Nat → Arc) (s : Nat) : Nat → List Arc → Prop
  | nil : Chain src s s []
  | cons {v : Nat} {p : List Arc} : v ≠ s → Chain src s (src v).fr p → Chain src s v (src v :: p)
theorem Chain.det {src : Nat → Arc} {s v : Nat} {p : List Arc} (h : Chain src s v p) : ∀ {q}, Chain src s v q → p = q := by
  induction h with
  | nil =>
    intro q hq
    cases hq with
    | nil => rfl
    | cons h _ => exact absurd rfl h
  | cons hv _ ih =>
    intro q hq
    cases hq with
    | nil => exact absurd rfl hv
    | cons _ h2 => rw [ih h2]
theorem Chain.inv {src : Nat → Arc} {s v : Nat} {p : List Arc} (h : Chain src s v p) (hv : v ≠ s) : ∃ q, p = src v :: q ∧ Chain src s (src v).fr q := by
  cases h with
  | nil => exact absurd rfl hv
  | cons _ h => exact ⟨_, rfl, h⟩
/-- Each node of a path has a shorter path. -/
theorem Chain.part {src : Nat → Arc} {s v : Nat} {p : List Arc} (h : Chain src s v p) : ∀ u ∈ p.map Arc.fr, ∃ q, Chain src s u q ∧ q.length < p.length := by
  induction h with
  | nil => intro u hu; simp at hu
  | cons hv hc ih =>
    intro u hu
    rw [List.map_cons, List.mem_cons] at hu
    rcases hu with rfl | hu
    · exact ⟨_, hc, by simp⟩
    · obtain ⟨q, h1, h2⟩ := ih u hu
      exact ⟨q, h1, by simp; omega⟩
theorem Chain.nodup {src : Nat → Arc} {s v : Nat} {p : List Arc} (h : Chain src s v p) : (v :: p.map Arc.fr).Nodup := by
  induction h with
  | nil => simp
  | @cons v p hv hc ih =>
    refine List.nodup_cons.2 ⟨fun hm => ?_, ih⟩
    obtain ⟨q, h1, h2⟩ := (Chain.cons hv hc).part v hm
    have := h1.det (Chain.cons hv hc)
    rw [this] at h2
    omega
theorem nodup_le {n : Nat} : ∀ {l : List Nat}, l.Nodup → (∀ x ∈ l, x < n) → l.length ≤ n := by
  induction n with
  | zero =>
    intro l _ h
    cases l with
    | nil => simp
    | cons x l => exact absurd (h x (by simp)) (by omega)
  | succ n ih =>
    intro l hn h
    by_cases hm : n ∈ l
    · have h1 : (l.erase n).Nodup := hn.erase n
      have h2 := ih h1 (fun x hx => by
        have h3 := h x (List.mem_of_mem_erase hx)
        have h4 : x ≠ n := fun e => by
          subst e
          exact (List.Nodup.not_mem_erase hn) hx
        omega)
      rw [List.length_erase_of_mem hm] at h2
      omega
    · have := ih hn (fun x hx => by
        have h3 := h x hx
        have h4 : x ≠ n := fun e => hm (e ▸ hx)
        omega)
      omega
/-- A path is as long as there are nodes, at most. -/
theorem Chain.short {src : Nat → Arc} {s v n : Nat} {p : List Arc} (h : Chain src s v p) (hv : v < n) (hp : ∀ a ∈ p, a.fr < n) : p.length + 1 ≤ n := by
  have := nodup_le h.nodup (n := n) (by
    intro x hx
    rw [List.mem_cons, List.mem_map] at hx
    rcases hx with rfl | ⟨a, ha, rfl⟩
    · exact hv
    · exact hp a ha)
  simpa using this
def costL (p : List Arc) : Int := (p.map Arc.cost).sum
theorem costL_cons (a : Arc) (p : List Arc) : costL (a :: p) = a.cost + costL p := by simp [costL]
/-- Numbers at the nodes by which no step is too cheap. -/
def PotA (A : List Arc) (π : Nat → Int) : Prop := ∀ a ∈ A, π a.to ≤ π a.fr + a.cost
structure BInv (A : List Arc) (s : Nat) (π : Nat → Int) (S : BS) : Prop where
  s0 : S.c s = 0
  le : ∀ v, S.c v ≤ farI
  pot : ∀ v, S.c v < farI → π v - π s ≤ S.c v
  par : ∀ v, S.c v < farI → v ≠ s → S.src v ∈ A ∧ (S.src v).to = v ∧ S.c (S.src v).fr < farI ∧ S.c (S.src v).fr + (S.src v).cost ≤ S.c v
  tree : ∀ v, S.c v < farI → ∃ p, Chain S.src s v p
theorem binv_start (A : List Arc) (s : Nat) (π : Nat → Int) : BInv A s π (startS s) := by
  have hf : ∀ v, (startS s).c v < farI → v = s := by
    intro v h
    unfold startS at h
    dsimp only at h
    split at h
    · assumption
    · omega
  refine ⟨if_pos rfl, fun v => ?_, fun v h => ?_, fun v h hv => absurd (hf v h) hv, fun v h => ?_⟩
  · unfold startS
    dsimp only
    split
    · decide
    · omega
  · rw [hf v h]
    show π s - π s ≤ (if s = s then (0 : Int) else farI)
    rw [if_pos rfl]
    omega
  · rw [hf v h]
    exact ⟨[], .nil⟩
theorem relax_mono (S : BS) (a : Arc) (v : Nat) : (relax S a).c v ≤ S.c v := by
  unfold relax
  split
  · rename_i h
    by_cases e : v = a.to
    · subst e
      dsimp only
      rw [updF_same]
      omega
    · dsimp only
      rw [updF_other _ _ e]
      omega
  · omega
theorem pass_mono (A : List Arc) : ∀ (S : BS) (v : Nat), (pass A S).c v ≤ S.c v := by
  induction A with
  | nil => intro S v; exact Int.le_refl _
  | cons a A ih =>
    intro S v
    exact Int.le_trans (ih (relax S a) v) (relax_mono S a v)
theorem binv_relax {A : List Arc} {s : Nat} {π : Nat → Int} {S : BS} (hP : PotA A π) (h : BInv A s π S) {a : Arc} (ha : a ∈ A) : BInv A s π (relax S a) := by
  unfold relax
  split
  · rename_i hc
    obtain ⟨hc1, hc2⟩ := hc
    have hpa := hP a ha
    have hpf := h.pot _ hc1
    have hts : a.to ≠ s := fun e => by
      rw [e, h.s0] at hc2
      rw [e] at hpa
      omega
    have hft : a.fr ≠ a.to := fun e => by
      rw [← e] at hpa hc2
      omega
    have hle := h.le a.to
    -- the path to where it starts does not lead by where it ends
    have key : ∀ w p, Chain S.src s w p → S.c w < farI → S.c w - π w < S.c a.to - π a.to → Chain (updF S.src a.to a) s w p := by
      intro w p hch
      induction hch with
      | nil => intro _ _; exact .nil
      | @cons w p hw hc ih =>
        intro hf hd
        have hwt : w ≠ a.to := fun e => by rw [e] at hd; omega
        obtain ⟨q1, q2, q3, q4⟩ := h.par w hf hw
        have hpw := hP _ q1
        rw [q2] at hpw
        have e : updF S.src a.to a w = S.src w := updF_other _ _ hwt
        rw [← e]
        refine .cons hw ?_
        rw [e]
        exact ih q3 (by omega)
    obtain ⟨pf, hpf2⟩ := h.tree _ hc1
    have hcf := key _ _ hpf2 hc1 (by omega)
    have hct : Chain (updF S.src a.to a) s a.to (a :: pf) := by
      have e : updF S.src a.to a a.to = a := updF_same _ _ _
      have := Chain.cons (src := updF S.src a.to a) (s := s) (v := a.to) (p := pf) hts (by rw [e]; exact hcf)
      rwa [e] at this
    have all : ∀ w p, Chain S.src s w p → ∃ q, Chain (updF S.src a.to a) s w q := by
      intro w p hch
      induction hch with
      | nil => exact ⟨[], .nil⟩
      | @cons w p hw hc ih =>
        by_cases hwt : w = a.to
        · rw [hwt]; exact ⟨_, hct⟩
        · obtain ⟨q, hq⟩ := ih
          have e : updF S.src a.to a w = S.src w := updF_other _ _ hwt
          exact ⟨updF S.src a.to a w :: q, .cons hw (by rw [e]; exact hq)⟩
    refine ⟨?_, fun v => ?_, fun v hv => ?_, fun v hv hvs => ?_, fun v hv => ?_⟩
    · show updF S.c a.to _ s = 0
      rw [updF_other _ _ (Ne.symm hts)]
      exact h.s0
    · show updF S.c a.to _ v ≤ farI
      by_cases e : v = a.to
      · rw [e, updF_same]; omega
      · rw [updF_other _ _ e]; exact h.le v
    · dsimp only at hv ⊢
      by_cases e : v = a.to
      · rw [e, updF_same]; omega
      · rw [updF_other _ _ e] at hv ⊢; exact h.pot v hv
    · dsimp only at hv ⊢
      by_cases e : v = a.to
      · subst e
        rw [updF_same, updF_same, updF_other _ _ hft]
        exact ⟨ha, rfl, hc1, Int.le_refl _⟩
      · rw [updF_other _ _ e] at hv
        rw [updF_other _ _ e, updF_other _ _ e]
        obtain ⟨q1, q2, q3, q4⟩ := h.par v hv hvs
        have hm : updF S.c a.to (S.c a.fr + a.cost) (S.src v).fr ≤ S.c (S.src v).fr := by
          by_cases e2 : (S.src v).fr = a.to
          · rw [e2, updF_same]; omega
          · rw [updF_other _ _ e2]; exact Int.le_refl _
        exact ⟨q1, q2, by omega, by omega⟩
    · dsimp only at hv ⊢
      by_cases e : v = a.to
      · rw [e]; exact ⟨_, hct⟩
      · rw [updF_other _ _ e] at hv
        obtain ⟨p, hp⟩ := h.tree v hv
        exact all v p hp
  · exact h
theorem binv_fold {A : List Arc} {s : Nat} {π : Nat → Int} (hP : PotA A π) : ∀ (B : List Arc) (S : BS), (∀ a ∈ B, a ∈ A) → BInv A s π S → BInv A s π (B.foldl relax S)
  | [], _, _, h => h
  | a :: B, S, hB, h => binv_fold hP B (relax S a) (fun x hx => hB x (List.mem_cons_of_mem _ hx)) (binv_relax hP h (hB a (by simp)))
theorem binv_passes {A : List Arc} {s : Nat} {π : Nat → Int} (hP : PotA A π) : ∀ k, BInv A s π (passes A (startS s) k)
  | 0 => binv_start A s π
  | k + 1 => binv_fold hP A _ (fun _ h => h) (binv_passes hP k)
/-- What a path costs, its end costs at least. -/
theorem chain_cost {A : List Arc} {s : Nat} {π : Nat → Int} {S : BS} (h : BInv A s π S) {v : Nat} {p : List Arc} (hc : Chain S.src s v p) : S.c v < farI → costL p ≤ S.c v ∧ ∀ a ∈ p, a ∈ A := by
  induction hc with
  | nil => intro _; rw [h.s0]; exact ⟨by simp [costL], by simp⟩
  | @cons v p hv hc ih =>
    intro hf
    obtain ⟨q1, q2, q3, q4⟩ := h.par v hf hv
    obtain ⟨i1, i2⟩ := ih q3
    refine ⟨by rw [costL_cons]; omega, fun a ha => ?_⟩
    rcases List.mem_cons.1 ha with rfl | ha
    · exact q1
    · exact i2 a ha
/-- Behind one pass no step that starts at a node that is reached is too long. -/
theorem pass_step (A : List Arc) : ∀ (S : BS) (a : Arc), a ∈ A → S.c a.fr < farI → (pass A S).c a.to ≤ S.c a.fr + a.cost := by
  induction A with
  | nil => intro S a h; simp at h
  | cons b A ih =>
    intro S a ha hf
    show (pass A (relax S b)).c a.to ≤ _
    have hm := relax_mono S b a.fr
    rcases List.mem_cons.1 ha with rfl | ha
    · have h1 := pass_mono A (relax S a) a.to
      have h2 : (relax S a).c a.to ≤ S.c a.fr + a.cost := by
        unfold relax
        split
        · dsimp only; rw [updF_same]; omega
        · rename_i hn
          have : ¬ S.c a.fr + a.cost < S.c a.to := fun h => hn ⟨hf, h⟩
          omega
      omega
    · have := ih (relax S b) a ha (by omega)
      omega
section
variable {A : List Arc} {s n : Nat} {π : Nat → Int}
/-- What a path of the end costs, a node costs at most, behind as many passes as the path is long. -/
theorem passes_le (hP : PotA A π) (N : Nat) {v : Nat} {p : List Arc} (hc : Chain (passes A (startS s) N).src s v p) : (passes A (startS s) N).c v < farI → ∀ k, p.length ≤ k → (passes A (startS s) k).c v ≤ costL p := by
  induction hc with
  | nil =>
    intro _ k _
    rw [(binv_passes hP k).s0]
    simp [costL]
  | @cons v p hv hc ih =>
    intro hf k hk
    have hN := binv_passes (s := s) hP N
    obtain ⟨q1, q2, q3, q4⟩ := hN.par v hf hv
    rw [List.length_cons] at hk
    obtain ⟨j, rfl⟩ : ∃ j, k = j + 1 := ⟨k - 1, by omega⟩
    have h1 := ih q3 j (by omega)
    have h2 := (chain_cost hN hc q3).1
    have h3 := pass_step A (passes A (startS s) j) _ q1 (by omega)
    rw [q2] at h3
    rw [costL_cons]
    show (pass A (passes A (startS s) j)).c v ≤ _
    omega
/-- What stands behind all passes. -/
structure Done (A : List Arc) (s n : Nat) (π : Nat → Int) (S : BS) : Prop where
  inv : BInv A s π S
  step : ∀ a ∈ A, S.c a.fr < farI → S.c a.to ≤ S.c a.fr + a.cost
  lo : ∀ v p, S.c v < farI → Chain S.src s v p → S.c v = costL p
theorem passes_done (hP : PotA A π) (hA : ∀ a ∈ A, a.fr < n ∧ a.to < n) (hs : s < n) : Done A s n π (passes A (startS s) n) := by
  have hI := binv_passes (s := s) hP n
  have hlen : ∀ v p, (passes A (startS s) n).c v < farI → Chain (passes A (startS s) n).src s v p → p.length + 1 ≤ n := by
    intro v p hf hc
    have h1 := (chain_cost hI hc hf).2
    have hv : v < n := by
      by_cases e : v = s
      · rw [e]; exact hs
      · obtain ⟨q1, q2, _⟩ := hI.par v hf e
        have := (hA _ q1).2
        rwa [q2] at this
    exact hc.short hv (fun a ha => (hA a (h1 a ha)).1)
  refine ⟨hI, fun a ha hf => ?_, fun v p hf hc => ?_⟩
  · obtain ⟨p, hp⟩ := hI.tree _ hf
    have h1 := hlen _ p hf hp
    obtain ⟨j, rfl⟩ : ∃ j, n = j + 1 := ⟨n - 1, by omega⟩
    have h2 := passes_le hP (j + 1) hp hf j (by omega)
    have h3 := (chain_cost hI hp hf).1
    have h4 := pass_step A (passes A (startS s) j) a ha (by omega)
    show (pass A (passes A (startS s) j)).c a.to ≤ _
    omega
  · have h1 := hlen _ p hf hc
    have h2 := passes_le hP n hc hf n (by omega)
    have h3 := (chain_cost hI hc hf).1
    omega
end
/-- The steps of a path lead each to where the next one starts: no node twice. -/
theorem Chain.tos {src : Nat → Arc} {s : Nat} (hto : Nat → Prop) (hsrc : ∀ v, hto v → v ≠ s → (src v).to = v ∧ hto (src v).fr) {v : Nat} {p : List Arc} (h : Chain src s v p) : hto v → (p.map Arc.to).Nodup ∧ ∀ a ∈ p, ∃ q, Chain src s a.to q ∧ q.length ≤ p.length := by
  induction h with
  | nil => intro _; simp
  | @cons v p hv hc ih =>
    intro hh
    obtain ⟨h1, h2⟩ := hsrc v hh hv
    obtain ⟨i1, i2⟩ := ih h2
    refine ⟨?_, fun a ha => ?_⟩
    · rw [List.map_cons]
      refine List.nodup_cons.2 ⟨fun hm => ?_, i1⟩
      obtain ⟨a, ha, e⟩ := List.mem_map.1 hm
      obtain ⟨q, hq, hl⟩ := i2 a ha
      rw [e, h1] at hq
      have := hq.det (Chain.cons hv hc)
      rw [this] at hl
      simp at hl
      omega
    · rcases List.mem_cons.1 ha with rfl | ha
      · exact ⟨_, by rw [h1]; exact .cons hv hc, Nat.le_refl _⟩
      · obtain ⟨q, hq, hl⟩ := i2 a ha
        exact ⟨q, hq, by simp; omega⟩
end Go.Proofs.YtldcehhhndlhdaaGreatDoor.Bk
/- Divisions of buckets: the steps with which one bucket more could go; a division over which no path is too cheap is a fairest one. No program here; no conditions. -/
namespace Go.Proofs.YtldcehhhndlhdaaGreatDoor.Bk
/-- The sum of the first numbers. -/
def sumR : Nat → (Nat → Int) → Int
  | 0, _ => 0
  | n + 1, f => sumR n f + f n
theorem sumR_congr {f g : Nat → Int} : ∀ {n : Nat}, (∀ i, i < n → f i = g i) → sumR n f = sumR n g
  | 0, _ => rfl
  | n + 1, h => by
    show sumR n f + f n = sumR n g + g n
    rw [sumR_congr (fun i hi => h i (by omega)), h n (by omega)]
theorem sumR_le {f g : Nat → Int} : ∀ {n : Nat}, (∀ i, i < n → f i ≤ g i) → sumR n f ≤ sumR n g
  | 0, _ => Int.le_refl _
  | n + 1, h => by
    show sumR n f + f n ≤ sumR n g + g n
    have := sumR_le (n := n) (fun i hi => h i (by omega))
    have := h n (by omega)
    omega
theorem sumR_add (f g : Nat → Int) : ∀ n, sumR n (fun i => f i + g i) = sumR n f + sumR n g
  | 0 => rfl
  | n + 1 => by
    show sumR n (fun i => f i + g i) + (f n + g n) = (sumR n f + f n) + (sumR n g + g n)
    rw [sumR_add f g n]
    omega
theorem sumR_sub (f g : Nat → Int) : ∀ n, sumR n (fun i => f i - g i) = sumR n f - sumR n g
  | 0 => rfl
  | n + 1 => by
    show sumR n (fun i => f i - g i) + (f n - g n) = (sumR n f + f n) - (sumR n g + g n)
    rw [sumR_sub f g n]
    omega
theorem sumR_zero (n : Nat) : sumR n (fun _ => 0) = 0 := by
  induction n with
  | zero => rfl
  | succ n ih => show sumR n (fun _ => 0) + 0 = 0; omega
theorem sumR_mul (f : Nat → Int) (k : Int) : ∀ n, sumR n (fun i => f i * k) = sumR n f * k
  | 0 => by simp [sumR]
  | n + 1 => by
    show sumR n (fun i => f i * k) + f n * k = (sumR n f + f n) * k
    rw [sumR_mul f k n, Int.add_mul]
theorem sumR_one {n j : Nat} (x : Int) (h : j < n) : sumR n (fun i => if j = i then x else 0) = x := by
  induction n with
  | zero => omega
  | succ n ih =>
    show sumR n (fun i => if j = i then x else 0) + (if j = n then x else 0) = x
    by_cases e : j = n
    · rw [if_pos e, sumR_congr (g := fun _ => 0) (fun i hi => if_neg (by omega)), sumR_zero]
      omega
    · rw [if_neg e, ih (by omega)]
      omega
theorem sumR_nonneg {f : Nat → Int} {n : Nat} (h : ∀ i, i < n → 0 ≤ f i) : 0 ≤ sumR n f := by
  have := sumR_le (f := fun _ => 0) (g := f) h
  rwa [sumR_zero] at this
theorem sumR_get {f : Nat → Int} {n j : Nat} (h : ∀ i, i < n → 0 ≤ f i) (hj : j < n) : f j ≤ sumR n f := by
  induction n with
  | zero => omega
  | succ n ih =>
    show f j ≤ sumR n f + f n
    by_cases e : j = n
    · subst e
      have := sumR_nonneg (n := j) (fun i hi => h i (by omega))
      omega
    · have := ih (fun i hi => h i (by omega)) (by omega)
      have := h n (by omega)
      omega
/-- A town at work: how many houses, wells and ways; what each wants and has; whose ways they are. -/
structure BT where
  nH : Nat
  nW : Nat
  m : Nat
  hs : Nat → Int
  ws : Nat → Int
  hh : Nat → Nat
  ww : Nat → Nat
structure BOk (t : BT) : Prop where
  hh : ∀ i, i < t.m → t.hh i < t.nH
  ww : ∀ i, i < t.m → t.ww i < t.nW
/-- What a house draws, and what a well gives. -/
def drawH (t : BT) (d : Nat → Int) (h : Nat) : Int := sumR t.m fun i => if t.hh i = h then d i else 0
def giveW (t : BT) (d : Nat → Int) (w : Nat) : Int := sumR t.m fun i => if t.ww i = w then d i else 0
def lackH (t : BT) (d : Nat → Int) (h : Nat) : Int := t.hs h - drawH t d h
def hasW (t : BT) (d : Nat → Int) (w : Nat) : Int := t.ws w - giveW t d w
structure Div (t : BT) (d : Nat → Int) : Prop where
  pos : ∀ i, i < t.m → 0 ≤ d i
  lack : ∀ h, h < t.nH → 0 ≤ lackH t d h
  has : ∀ w, w < t.nW → 0 ≤ hasW t d w
/-- What a lack costs. -/
def dearN (n : Nat) : Int := 1000 * 7 ^ n
def dear (n : Int) : Int := dearN n.toNat
theorem dearN_pos (n : Nat) : 0 < dearN n := by
  unfold dearN
  have : (0 : Int) < 7 ^ n := Int.pow_pos (by decide)
  omega
theorem dearN_succ (n : Nat) : dearN (n + 1) = 7 * dearN n := by
  unfold dearN
  rw [Int.pow_succ]
  omega
theorem dearN_mono {a b : Nat} (h : a ≤ b) : dearN a ≤ dearN b := by
  induction h with
  | refl => exact Int.le_refl _
  | @step m _ ih =>
    have := dearN_pos m
    have := dearN_succ m
    show dearN a ≤ dearN (m + 1)
    omega
/-- What it costs all houses together. -/
def costB (t : BT) (d : Nat → Int) : Int := sumR t.nH fun h => dear (lackH t d h)
def totB (t : BT) (d : Nat → Int) : Int := sumR t.m d
/-- The steps: the nodes are the wells, then the houses, then the spring and the sink. -/
def springB (t : BT) : Nat := t.nW + t.nH
def sinkB (t : BT) : Nat := t.nW + t.nH + 1
def arcsW (t : BT) (d : Nat → Int) (w : Nat) : List Arc :=
  (if 0 < hasW t d w then [⟨springB t, w, 0, -1, 0⟩] else []) ++ (if hasW t d w < t.ws w then [⟨w, springB t, 0, -1, 0⟩] else [])
def arcsH (t : BT) (d : Nat → Int) (h : Nat) : List Arc :=
  (if 0 < lackH t d h then [⟨t.nW + h, sinkB t, dear (lackH t d h - 1) - dear (lackH t d h), -1, 0⟩] else []) ++
  (if lackH t d h < t.hs h then [⟨sinkB t, t.nW + h, dear (lackH t d h + 1) - dear (lackH t d h), -1, 0⟩] else [])
def arcsY (t : BT) (d : Nat → Int) (i : Nat) : List Arc :=
  ⟨t.ww i, t.nW + t.hh i, 0, i, 1⟩ :: (if 0 < d i then [⟨t.nW + t.hh i, t.ww i, 0, i, -1⟩] else [])
def arcsB (t : BT) (d : Nat → Int) : List Arc :=
  (List.range t.nW).flatMap (arcsW t d) ++ ((List.range t.nH).flatMap (arcsH t d) ++ (List.range t.m).flatMap (arcsY t d))
theorem mem_arcs {t : BT} {d : Nat → Int} {a : Arc} : a ∈ arcsB t d ↔
    (∃ w, w < t.nW ∧ ((0 < hasW t d w ∧ a = ⟨springB t, w, 0, -1, 0⟩) ∨ (hasW t d w < t.ws w ∧ a = ⟨w, springB t, 0, -1, 0⟩))) ∨
    (∃ h, h < t.nH ∧ ((0 < lackH t d h ∧ a = ⟨t.nW + h, sinkB t, dear (lackH t d h - 1) - dear (lackH t d h), -1, 0⟩) ∨ (lackH t d h < t.hs h ∧ a = ⟨sinkB t, t.nW + h, dear (lackH t d h + 1) - dear (lackH t d h), -1, 0⟩))) ∨
    (∃ i, i < t.m ∧ (a = ⟨t.ww i, t.nW + t.hh i, 0, i, 1⟩ ∨ (0 < d i ∧ a = ⟨t.nW + t.hh i, t.ww i, 0, i, -1⟩))) := by
  have two : ∀ (p q : Prop) [Decidable p] [Decidable q] (x y : Arc), a ∈ (if p then [x] else []) ++ (if q then [y] else []) ↔ (p ∧ a = x) ∨ (q ∧ a = y) := by
    intro p q _ _ x y
    by_cases hp : p <;> by_cases hq : q <;> simp [hp, hq]
  have one : ∀ (q : Prop) [Decidable q] (x y : Arc), a ∈ x :: (if q then [y] else []) ↔ a = x ∨ (q ∧ a = y) := by
    intro q _ x y
    by_cases hq : q <;> simp [hq]
  unfold arcsB arcsW arcsH arcsY
  simp only [List.mem_append, List.mem_flatMap, List.mem_range]
  refine or_congr (exists_congr fun w => and_congr_right fun _ => ?_) (or_congr (exists_congr fun w => and_congr_right fun _ => ?_) (exists_congr fun w => and_congr_right fun _ => ?_))
  · rw [← List.mem_append]; exact two _ _ _ _
  · rw [← List.mem_append]; exact two _ _ _ _
  · exact one _ _ _
theorem arcs_lt {t : BT} (hk : BOk t) {d : Nat → Int} : ∀ a ∈ arcsB t d, a.fr < t.nW + t.nH + 2 ∧ a.to < t.nW + t.nH + 2 := by
  intro a ha
  rcases mem_arcs.1 ha with ⟨w, hw, ⟨_, rfl⟩ | ⟨_, rfl⟩⟩ | ⟨h, hh, ⟨_, rfl⟩ | ⟨_, rfl⟩⟩ | ⟨i, hi, rfl | ⟨_, rfl⟩⟩
  · simp only [springB]; omega
  · simp only [springB]; omega
  · simp only [sinkB]; omega
  · simp only [sinkB]; omega
  · have := hk.hh i hi; have := hk.ww i hi; dsimp only; omega
  · have := hk.hh i hi; have := hk.ww i hi; dsimp only; omega
/-- The sum over the houses of what each draws, and over the wells of what each gives. -/
theorem sum_draws (t : BT) (hk : BOk t) (x f : Nat → Int) : sumR t.nH (fun h => drawH t x h * f h) = sumR t.m fun i => x i * f (t.hh i) := by
  have key : ∀ m, m ≤ t.m → sumR t.nH (fun h => sumR m (fun i => if t.hh i = h then x i else 0) * f h) = sumR m fun i => x i * f (t.hh i) := by
    intro m
    induction m with
    | zero =>
      intro _
      show sumR t.nH (fun h => 0 * f h) = 0
      rw [sumR_congr (g := fun _ => 0) (fun i _ => by simp), sumR_zero]
    | succ m ih =>
      intro hm
      show sumR t.nH (fun h => (sumR m (fun i => if t.hh i = h then x i else 0) + (if t.hh m = h then x m else 0)) * f h) = sumR m (fun i => x i * f (t.hh i)) + x m * f (t.hh m)
      rw [← ih (by omega), sumR_congr (g := fun h => sumR m (fun i => if t.hh i = h then x i else 0) * f h + (if t.hh m = h then x m * f (t.hh m) else 0)) (fun h _ => by
        rw [Int.add_mul]
        by_cases e : t.hh m = h
        · rw [if_pos e, if_pos e, e]
        · rw [if_neg e, if_neg e]; simp), sumR_add, sumR_one _ (hk.hh m (by omega))]
  exact key t.m (Nat.le_refl _)
theorem sum_gives (t : BT) (hk : BOk t) (x f : Nat → Int) : sumR t.nW (fun w => giveW t x w * f w) = sumR t.m fun i => x i * f (t.ww i) := by
  have key : ∀ m, m ≤ t.m → sumR t.nW (fun h => sumR m (fun i => if t.ww i = h then x i else 0) * f h) = sumR m fun i => x i * f (t.ww i) := by
    intro m
    induction m with
    | zero =>
      intro _
      show sumR t.nW (fun h => 0 * f h) = 0
      rw [sumR_congr (g := fun _ => 0) (fun i _ => by simp), sumR_zero]
    | succ m ih =>
      intro hm
      show sumR t.nW (fun h => (sumR m (fun i => if t.ww i = h then x i else 0) + (if t.ww m = h then x m else 0)) * f h) = sumR m (fun i => x i * f (t.ww i)) + x m * f (t.ww m)
      rw [← ih (by omega), sumR_congr (g := fun h => sumR m (fun i => if t.ww i = h then x i else 0) * f h + (if t.ww m = h then x m * f (t.ww m) else 0)) (fun h _ => by
        rw [Int.add_mul]
        by_cases e : t.ww m = h
        · rw [if_pos e, if_pos e, e]
        · rw [if_neg e, if_neg e]; simp), sumR_add, sumR_one _ (hk.ww m (by omega))]
  exact key t.m (Nat.le_refl _)
/-- More costs more and more. -/
theorem dear_up (a : Nat) : ∀ k : Nat, dearN (a + k) - dearN a ≥ (k : Int) * (dearN (a + 1) - dearN a)
  | 0 => by simp
  | k + 1 => by
    have ih := dear_up a k
    have h1 := dearN_succ (a + k)
    have h2 := dearN_succ a
    have h3 := dearN_mono (show a ≤ a + k by omega)
    have e : ((k + 1 : Nat) : Int) * (dearN (a + 1) - dearN a) = (k : Int) * (dearN (a + 1) - dearN a) + (dearN (a + 1) - dearN a) := by
      rw [Int.natCast_add, Int.add_mul]; simp
    rw [e]
    show dearN (a + k + 1) - dearN a ≥ _
    omega
theorem dear_down (b : Nat) : ∀ k : Nat, dearN (b + 1) - dearN (b + k + 1) ≥ (k : Int) * (dearN (b + k) - dearN (b + k + 1))
  | 0 => by simp
  | k + 1 => by
    have ih := dear_down b k
    have h0 := dearN_succ b
    have h1 := dearN_succ (b + k)
    have h2 := dearN_succ (b + k + 1)
    have h4 := dearN_pos (b + k)
    -- the step of the greater number is the dearer one
    have hd : dearN (b + k + 1) - dearN (b + k + 2) ≤ dearN (b + k) - dearN (b + k + 1) := by
      show dearN (b + k + 1) - dearN (b + k + 1 + 1) ≤ _
      omega
    have hm := Int.mul_le_mul_of_nonneg_left hd (show (0 : Int) ≤ (k : Int) by omega)
    have e : ((k + 1 : Nat) : Int) * (dearN (b + k + 1) - dearN (b + k + 2)) = (k : Int) * (dearN (b + k + 1) - dearN (b + k + 2)) + (dearN (b + k + 1) - dearN (b + k + 2)) := by
      rw [Int.natCast_add, Int.add_mul]; simp
    show dearN (b + 1) - dearN (b + k + 2) ≥ ((k + 1 : Nat) : Int) * (dearN (b + k + 1) - dearN (b + k + 2))
    rw [e]
    omega
/-- One house: what it costs more, or less. -/
theorem dear_slope {n n' want p : Int} (h0 : 0 ≤ n) (h0' : 0 ≤ n') (hw' : n' ≤ want) (h1 : 0 < n → p ≤ dear (n - 1) - dear n) (h2 : n < want → -p ≤ dear (n + 1) - dear n) : dear n' - dear n ≥ (n - n') * p := by
  obtain ⟨a, rfl⟩ := Int.eq_ofNat_of_zero_le h0
  obtain ⟨b, rfl⟩ := Int.eq_ofNat_of_zero_le h0'
  unfold dear at *
  simp only [Int.toNat_natCast] at *
  rcases Nat.lt_or_ge a b with hab | hab
  · -- more lacks
    obtain ⟨k, rfl⟩ := Nat.exists_eq_add_of_lt hab
    have h := h2 (by omega)
    rw [show ((a : Int) + 1).toNat = a + 1 by omega] at h
    have hu := dear_up a (k + 1)
    have hm := Int.mul_le_mul_of_nonneg_left h (show (0 : Int) ≤ ((k + 1 : Nat) : Int) by omega)
    rw [show (a : Int) - ((a + k + 1 : Nat) : Int) = -((k + 1 : Nat) : Int) by omega, Int.neg_mul]
    rw [Int.mul_neg] at hm
    show dearN (a + (k + 1)) - dearN a ≥ _
    omega
  · obtain ⟨k, rfl⟩ := Nat.exists_eq_add_of_le hab
    by_cases hk : k = 0
    · subst hk
      simp
    · have h := h1 (by omega)
      rw [show ((b + k : Nat) : Int) - 1 = ((b + (k - 1) : Nat) : Int) by omega, Int.toNat_natCast] at h
      obtain ⟨j, rfl⟩ : ∃ j, k = j + 1 := ⟨k - 1, by omega⟩
      have hm := Int.mul_le_mul_of_nonneg_left h (show (0 : Int) ≤ ((j + 1 : Nat) : Int) by omega)
      rw [show j + 1 - 1 = j by omega] at hm h
      rw [show ((b + (j + 1) : Nat) : Int) - (b : Int) = ((j + 1 : Nat) : Int) by omega]
      -- the last of the steps, and those ahead of it
      have hd := dear_down b j
      have h1' := dearN_succ (b + j)
      have h2' := dearN_succ b
      have h3' := dearN_mono (show b ≤ b + j by omega)
      have h4' := dearN_pos b
      show dearN b - dearN (b + j + 1) ≥ _
      have e : ((j + 1 : Nat) : Int) * (dearN (b + j) - dearN (b + (j + 1))) = (j : Int) * (dearN (b + j) - dearN (b + j + 1)) + (dearN (b + j) - dearN (b + j + 1)) := by
        rw [Int.natCast_add, Int.add_mul]; simp; rfl
      rw [e] at hm
      omega
/-- No other division costs less than it must. -/
theorem weak_dual {t : BT} (hk : BOk t) {d e : Nat → Int} (hd : Div t d) (he : Div t e) {π : Nat → Int} (hP : PotA (arcsB t d) π) :
    costB t e - costB t d ≥ (totB t e - totB t d) * (π (sinkB t) - π (springB t)) := by
  have dn : ∀ h, h < t.nH → lackH t e h ≤ t.hs h := fun h hh => by
    have : 0 ≤ drawH t e h := sumR_nonneg fun i hi => by
      split
      · exact he.pos i hi
      · exact Int.le_refl _
    unfold lackH
    omega
  -- each house
  have s1 : costB t e - costB t d ≥ sumR t.nH fun h => drawH t (fun i => e i - d i) h * (π (sinkB t) - π (t.nW + h)) := by
    unfold costB
    rw [← sumR_sub]
    refine sumR_le fun h hh => ?_
    have e1 : drawH t (fun i => e i - d i) h = lackH t d h - lackH t e h := by
      unfold lackH drawH
      rw [sumR_congr (g := fun i => (if t.hh i = h then e i else 0) - (if t.hh i = h then d i else 0)) (fun i _ => by split <;> simp), sumR_sub]
      omega
    rw [e1]
    refine dear_slope (want := t.hs h) (hd.lack h hh) (he.lack h hh) (dn h hh) (fun hp => ?_) (fun hp => ?_)
    · have := hP _ (mem_arcs.2 (.inr (.inl ⟨h, hh, .inl ⟨hp, rfl⟩⟩)))
      dsimp only at this
      omega
    · have := hP _ (mem_arcs.2 (.inr (.inl ⟨h, hh, .inr ⟨hp, rfl⟩⟩)))
      dsimp only at this
      omega
  -- each way
  have s2 : (sumR t.m fun i => (e i - d i) * (π (sinkB t) - π (t.nW + t.hh i))) ≥ sumR t.m fun i => (e i - d i) * (π (sinkB t) - π (t.ww i)) := by
    refine sumR_le fun i hi => ?_
    have a1 := hP _ (mem_arcs.2 (.inr (.inr ⟨i, hi, .inl rfl⟩)))
    dsimp only at a1
    by_cases hp : 0 < d i
    · have a2 := hP _ (mem_arcs.2 (.inr (.inr ⟨i, hi, .inr ⟨hp, rfl⟩⟩)))
      dsimp only at a2
      rw [show π (t.nW + t.hh i) = π (t.ww i) by omega]
      exact Int.le_refl _
    · have h1 := hd.pos i hi
      have h2 := he.pos i hi
      exact Int.mul_le_mul_of_nonneg_left (by omega) (by omega)
  -- each well
  have s3 : (sumR t.nW fun w => giveW t (fun i => e i - d i) w * (π (sinkB t) - π w)) ≥ sumR t.nW fun w => giveW t (fun i => e i - d i) w * (π (sinkB t) - π (springB t)) := by
    refine sumR_le fun w hw => ?_
    have e1 : giveW t (fun i => e i - d i) w = giveW t e w - giveW t d w := by
      unfold giveW
      rw [sumR_congr (g := fun i => (if t.ww i = w then e i else 0) - (if t.ww i = w then d i else 0)) (fun i _ => by split <;> simp), sumR_sub]
    have g1 : 0 ≤ giveW t e w := sumR_nonneg fun i hi => by
      split
      · exact he.pos i hi
      · exact Int.le_refl _
    have g2 : 0 ≤ giveW t d w := sumR_nonneg fun i hi => by
      split
      · exact hd.pos i hi
      · exact Int.le_refl _
    have g3 := he.has w hw
    have g4 := hd.has w hw
    unfold hasW at g3 g4
    rw [e1]
    by_cases p1 : 0 < hasW t d w
    · have a1 := hP _ (mem_arcs.2 (.inl ⟨w, hw, .inl ⟨p1, rfl⟩⟩))
      dsimp only at a1
      by_cases p2 : hasW t d w < t.ws w
      · have a2 := hP _ (mem_arcs.2 (.inl ⟨w, hw, .inr ⟨p2, rfl⟩⟩))
        dsimp only at a2
        rw [show π w = π (springB t) by omega]
        exact Int.le_refl _
      · unfold hasW at p2
        exact Int.mul_le_mul_of_nonneg_left (by omega) (by omega)
    · unfold hasW at p1
      by_cases p2 : hasW t d w < t.ws w
      · have a2 := hP _ (mem_arcs.2 (.inl ⟨w, hw, .inr ⟨p2, rfl⟩⟩))
        dsimp only at a2
        exact Int.mul_le_mul_of_nonpos_left (by omega) (by omega)
      · unfold hasW at p2
        rw [show giveW t e w - giveW t d w = 0 by omega]
        simp
  rw [sum_draws t hk (fun i => e i - d i) (fun h => π (sinkB t) - π (t.nW + h))] at s1
  rw [sum_gives t hk (fun i => e i - d i) (fun w => π (sinkB t) - π w)] at s3
  have s4 : (sumR t.nW fun w => giveW t (fun i => e i - d i) w * (π (sinkB t) - π (springB t))) = (totB t e - totB t d) * (π (sinkB t) - π (springB t)) := by
    rw [sum_gives t hk (fun i => e i - d i) (fun _ => π (sinkB t) - π (springB t)), sumR_mul, sumR_sub]
    rfl
  rw [s4] at s3
  omega
end Go.Proofs.YtldcehhhndlhdaaGreatDoor.Bk

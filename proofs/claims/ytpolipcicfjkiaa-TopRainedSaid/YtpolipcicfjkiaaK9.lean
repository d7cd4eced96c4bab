/- What is held of the trace while two workers are at work: who knows what. Conditions: none. -/
import Derived.Test.YtpolipcicfjkiaaK8
import Derived.Conc.Strewn
namespace Go.Proofs.Ytpolipcicfjkiaa.Cy
open Go Go.Conc
open Go.ConcR (KK wgBlock WgAt stA smA rd wr mk DC0)

def blk : Loc → Nat
  | .cell a => a.block
  | .obj r => r
  | _ => 0

/-- Whoever works knows it; whoever has released knew it. -/
def Kn (t : Trace) (rel : Nat → Option Nat) (g k : Nat) : Prop := match rel g with
  | none => Knows t g k
  | some r => Before t k r

def Actor (n0 n g : Nat) : Prop := g = 0 ∨ (n0 ≤ g ∧ g < n)

def Fine (Shun : Loc → Prop) (Wg n0 n : Nat) (cls : Nat → Cls) (rel : Nat → Option Nat) (t : Trace) (k : Nat) (a : Touch) : Prop :=
  (blk a.loc = Wg → a.kind ≠ .plain ∧ (a.kind = .said → t.g? k = some 0) ∧ ∃ ad : Addr, a.loc = .cell ad) ∧
  (blk a.loc ≠ Wg → match cls (blk a.loc) with
    | .mine g => Actor n0 n g ∧ Kn t rel g k
    | .shared => (a.write = true → ∀ g, Actor n0 n g → rel g = none → Knows t g k) ∧ ∃ g, Actor n0 n g ∧ Kn t rel g k
    | .none => Knows t 0 k ∨ (Shun a.loc ∧ a.kind = .atomic))

structure TI (Shun : Loc → Prop) (Wg n0 n : Nat) (cls : Nat → Cls) (rel : Nat → Option Nat) (t : Trace) (B : Nat) : Prop where
  clean : ∀ said, ¬ Race said t
  fine : ∀ k a, touchAt t k = some a → a.loc.isMemory = true → Fine Shun Wg n0 n cls rel t k a
  low : ∀ op ∈ t, op.act.low B
  norel : ∀ op ∈ t, op.act ≠ .mark (.release (stA Wg))
  marks : ∀ g r, rel g = some r → t.g? r = some g ∧ t.act? r = some (.mark (.releaseMerge (stA Wg))) ∧ t.heard r
  over : ∀ k g, t.g? k = some g → g ≠ 0 → t.counts k → (∃ j, t.g? j = some 0 ∧ HappensBefore t k j) ∨ (n0 ≤ g ∧ g < n ∧ Kn t rel g k)

theorem Kn.app {t : Trace} {rel : Nat → Option Nat} {g k : Nat} (u : Trace) (h : Kn t rel g k) : Kn (t ++ u) rel g k := by
  unfold Kn at *
  split at h
  · exact Knows.app u h
  · exact Before.app u h

theorem blk_low {x : MemAct} {a : Touch} {B : Nat} (h : x.touch? = some a) (hl : x.low B) (hm : a.loc.isMemory = true) : blk a.loc < B := by
  cases x with
  | access e =>
    simp only [MemAct.touch?, Option.some.injEq] at h
    subst h
    obtain ⟨loc, w, s⟩ := e
    cases loc <;> first | exact hl | (simp [Loc.isMemory] at hm)
  | mark m => cases m <;> simp [MemAct.touch?] at h <;> (subst h; exact hl)
  | _ => simp [MemAct.touch?] at h

theorem Fine.old {Shun : Loc → Prop} {Wg n0 n n' : Nat} {cls cls' : Nat → Cls} {rel : Nat → Option Nat} {t u : Trace} {k : Nat} {a : Touch} (h : Fine Shun Wg n0 n cls rel t k a) (hk : k < t.size) (hc : cls' (blk a.loc) = cls (blk a.loc)) (hn : n' = n) :
    Fine Shun Wg n0 n' cls' rel (t ++ u) k a := by
  subst hn
  refine ⟨fun e => ⟨(h.1 e).1, fun e2 => by rw [g?_old hk]; exact (h.1 e).2.1 e2, (h.1 e).2.2⟩, fun e => ?_⟩
  have h2 := h.2 e
  rw [hc]
  split <;> rename_i hcl <;> rw [hcl] at h2 <;> simp only at h2
  · exact ⟨h2.1, h2.2.app u⟩
  · exact ⟨fun hw g hg hr => (h2.1 hw g hg hr).app u, h2.2.imp fun g x => ⟨x.1, x.2.app u⟩⟩
  · exact h2.imp (Knows.app u) id

/-- What goroutine i may do. -/
def OKop (Wg i B : Nat) (cls : Nat → Cls) (rel : Nat → Option Nat) (op : MemOp) : Prop :=
  op.g = i ∧ op.act.low B ∧ op.act ≠ .mark (.release (stA Wg)) ∧ ∀ x, op.act.touch? = some x → x.loc.isMemory = true →
    (blk x.loc = Wg ∧ x.kind ≠ .plain ∧ (x.kind = .said → i = 0) ∧ ∃ ad : Addr, x.loc = .cell ad) ∨ (blk x.loc ≠ Wg ∧ rel i = none ∧ (cls (blk x.loc) = .mine i ∨ (cls (blk x.loc) = .shared ∧ x.write = false)))

section
variable {Shun : Loc → Prop} {Wg n0 n B B' : Nat} {cls cls' : Nat → Cls} {rel : Nat → Option Nat} {t u : Trace}

theorem TI.touch_low (h : TI Shun Wg n0 n cls rel t B) {k : Nat} {a : Touch} (ha : touchAt t k = some a) (hm : a.loc.isMemory = true) : blk a.loc < B := by
  obtain ⟨x, hx, hxa⟩ := touch_of ha
  exact blk_low hxa (h.low _ (mem_of_getElem? hx)) hm

/-- The operations of one goroutine. -/
theorem TI.step (h : TI Shun Wg n0 n cls rel t B) (hB : B ≤ B') {i : Nat} (hi : Actor n0 n i ∨ ∀ op ∈ u, op.act.touch? = none) (hc : ∀ b, b < B → cls' b = cls b) (hu : ∀ op ∈ u, OKop Wg i B' cls' rel op)
    (hd : rel i ≠ none → ∀ k op, u[k]? = some op → op.act.touch? ≠ none → (t ++ u).deaf i (t.size + k) ≠ 0) : TI Shun Wg n0 n cls' rel (t ++ u) B' := by
  have hg : ∀ op ∈ u, op.g = i := fun op hop => (hu op hop).1
  refine ⟨fun said => noRace_append (h.clean said) hg fun k a ha op hop b hb hcf => ?_, fun k a ha hm => ?_, fun op hop => ?_, fun op hop => ?_, fun g r hr => ?_, fun k g hgk hne hcn => ?_⟩
  · have hi := hi.resolve_right (fun x => by rw [x op hop] at hb; cases hb)
    obtain ⟨hloc, hmem, hw, hkind⟩ := hcf
    have hf := h.fine k a ha hmem
    have hlt := h.touch_low ha hmem
    have hmb : b.loc.isMemory = true := hloc ▸ hmem
    rcases (hu op hop).2.2.2 b hb hmb with ⟨e, h1, h2, _⟩ | ⟨e, hrel, h2⟩
    · have e' : blk a.loc = Wg := by rw [hloc]; exact e
      obtain ⟨h3, h4, _⟩ := hf.1 e'
      rcases hkind with z | z | ⟨_, z1, z2⟩
      · exact absurd z h3
      · exact absurd z h1
      · have := h4 z1
        obtain ⟨x, hx, hxg⟩ := Option.map_eq_some_iff.1 this
        have hk := knows_own hx
        rw [hxg] at hk
        rw [h2 z2]
        exact hk
    · have e' : blk a.loc ≠ Wg := by rw [hloc]; exact e
      have h3 := hf.2 e'
      have hcl := hc _ hlt
      rw [hloc] at hcl h3
      rcases h2 with h2 | ⟨h2, h4⟩
      · rw [← hcl, h2] at h3
        simp only at h3
        have h3 := h3.2
        unfold Kn at h3
        rw [hrel] at h3
        exact h3
      · rw [← hcl, h2] at h3
        simp only at h3
        rw [h4] at hw
        exact h3.1 (by simpa using hw) i hi hrel
  · obtain ⟨x, hx, hxa⟩ := touch_of ha
    rcases getElem?_append_cases hx with ⟨hk, hx'⟩ | ⟨hk, hxu⟩
    · have ha' : touchAt t k = some a := by rw [touchAt_of hx']; exact hxa
      exact (h.fine k a ha' hm).old hk (hc _ (h.touch_low ha' hm)) rfl
    · have hi := hi.resolve_right (fun y => by rw [y x hxu] at hxa; cases hxa)
      have hgk : (t ++ u).g? k = some i := by simp [Trace.g?, hx, hg x hxu]
      have hkn : Knows (t ++ u) i k := by have := knows_own hx; rwa [hg x hxu] at this
      rcases (hu x hxu).2.2.2 a hxa hm with ⟨e, h1, h2, h5⟩ | ⟨e, hrel, h2⟩
      · exact ⟨fun _ => ⟨h1, fun z => by rw [hgk, h2 z], h5⟩, fun e' => absurd e e'⟩
      · refine ⟨fun e' => absurd e' e, fun _ => ?_⟩
        have hkn' : Kn (t ++ u) rel i k := by unfold Kn; rw [hrel]; exact hkn
        rcases h2 with h2 | ⟨h2, h4⟩
        · rw [h2]; exact ⟨hi, hkn'⟩
        · rw [h2]; exact ⟨fun hw => (by rw [h4] at hw; cases hw), i, hi, hkn'⟩
  · rcases Array.mem_append.1 hop with hop | hop
    · exact MemAct.low_mono hB (h.low op hop)
    · exact (hu op hop).2.1
  · rcases Array.mem_append.1 hop with hop | hop
    · exact h.norel op hop
    · exact (hu op hop).2.2.1
  · obtain ⟨h1, h2, g', hg', hdf⟩ := h.marks g r hr
    have hlt := lt_of_g? h1
    refine ⟨by rw [g?_old hlt]; exact h1, by simpa [Trace.act?, getElem?_append_old hlt] using h2, g', by rw [g?_old hlt]; exact hg', ?_⟩
    rw [deaf_old (Nat.le_of_lt hlt)]; exact hdf
  · obtain ⟨x, hx, hxg⟩ := Option.map_eq_some_iff.1 hgk
    rcases getElem?_append_cases hx with ⟨hk, hx'⟩ | ⟨hk, hxu⟩
    · rcases h.over k g (by rw [← g?_old (u := u) hk]; exact hgk) hne ((counts_old hk).1 hcn) with ⟨j, hj, hb⟩ | ⟨h1, h2, h3⟩
      · exact .inl ⟨j, by rw [g?_old (lt_of_g? hj)]; exact hj, hb_app u hb⟩
      · exact .inr ⟨h1, h2, h3.app u⟩
    · have hgi : g = i := by rw [← hxg]; exact hg x hxu
      subst hgi
      have hi := hi.resolve_right (fun y => by
        obtain ⟨a, ha, _⟩ := hcn
        have hxa : x.act.touch? = some a := by simpa [Trace.act?, hx] using ha
        rw [y x hxu] at hxa; cases hxa)
      have hact := hi.resolve_left hne
      refine .inr ⟨hact.1, hact.2, ?_⟩
      by_cases hrel : rel g = none
      · unfold Kn; rw [hrel]
        have := knows_own hx
        rwa [hg x hxu] at this
      · exfalso
        obtain ⟨a, ha, hmem, hkind⟩ := hcn
        have hxa : x.act.touch? = some a := by simpa [Trace.act?, hx] using ha
        have hk2 : u[k - t.size]? = some x := by
          rw [Array.getElem?_append_right hk] at hx; exact hx
        have hdf := hd hrel (k - t.size) x hk2 (by rw [hxa]; simp)
        rw [show t.size + (k - t.size) = k by omega] at hdf
        rcases (hu x hxu).2.2.2 a hxa hmem with ⟨e, h1, h2, _⟩ | ⟨_, h1, _⟩
        · rcases hkind with z | ⟨g', hg', hz⟩
          · have : a.kind = .said := by
              cases hkd : a.kind
              · exact absurd hkd h1
              · exact absurd hkd z
              · rfl
            exact hne (h2 this)
          · have : g' = g := by
              have := hg'.symm.trans hgk
              simpa using this
            subst this
            exact hdf hz
        · exact hrel h1

theorem act_last (t : Trace) (op : MemOp) : (t ++ #[op])[t.size]? = some op := by rw [Array.getElem?_append_right (Nat.le_refl _)]; simp

/-- What i knows happens before the last thing that i did. -/
theorem knows_last {op : MemOp} {i k : Nat} (hg : op.g = i) (h : Knows (t ++ #[op]) i k) : Before (t ++ #[op]) k t.size := by
  obtain ⟨q, z, hz, hzg, hb⟩ := h
  have hq := lt_size_of_getElem? hz
  simp at hq
  rcases Nat.lt_or_ge q t.size with hlt | hge
  · exact .inr (hb.hb (hb_po hlt hz (act_last t op) (by rw [hzg, hg])))
  · obtain rfl : q = t.size := by omega
    exact hb

theorem TI.release (h : TI Shun Wg n0 n cls rel t B) {i : Nat} (hi : Actor n0 n i) (hr : rel i = none) (hWg : Wg < B) (hear : Deaf t i = 0) (fn : FuncId) (pos : String) :
    TI Shun Wg n0 n cls (fun g => if g = i then some t.size else rel g) (t ++ #[{ g := i, fn, pos, act := .mark (.releaseMerge (stA Wg)) }]) B := by
  have h' := h.step (u := #[{ g := i, fn, pos, act := .mark (.releaseMerge (stA Wg)) }]) (cls' := cls) (Nat.le_refl B) (.inl hi) (fun _ _ => rfl) (fun op hop => by
    rw [Array.mem_singleton] at hop
    subst hop
    exact ⟨rfl, hWg, by simp, fun x hx => by simp [MemAct.touch?] at hx⟩) (fun e => absurd hr e)
  have cv : ∀ g k, Kn (t ++ #[{ g := i, fn, pos, act := .mark (.releaseMerge (stA Wg)) }]) rel g k → Kn (t ++ #[{ g := i, fn, pos, act := .mark (.releaseMerge (stA Wg)) }]) (fun g => if g = i then some t.size else rel g) g k := by
    intro g k hk
    unfold Kn at hk ⊢
    by_cases e : g = i
    · subst e
      rw [hr] at hk
      simp only [if_true]
      exact knows_last rfl hk
    · simp only [if_neg e]
      exact hk
  refine ⟨h'.clean, fun k a ha hm => ?_, h'.low, h'.norel, fun g r hgr => ?_, fun k g h1 h2 h3 => (h'.over k g h1 h2 h3).imp id fun x => ⟨x.1, x.2.1, cv _ _ x.2.2⟩⟩
  · obtain ⟨f1, f2⟩ := h'.fine k a ha hm
    refine ⟨f1, fun e => ?_⟩
    have f2 := f2 e
    split <;> rename_i hcl <;> rw [hcl] at f2 <;> simp only at f2
    · exact ⟨f2.1, cv _ _ f2.2⟩
    · exact ⟨fun hw g hg hgr => f2.1 hw g hg (by
        by_cases e : g = i
        · simp [e] at hgr
        · simpa [e] using hgr), f2.2.imp fun g x => ⟨x.1, cv _ _ x.2⟩⟩
    · exact f2
  · by_cases e : g = i
    · subst e
      simp only [if_true, Option.some.injEq] at hgr
      subst hgr
      refine ⟨by simp [Trace.g?], by simp [Trace.act?], g, by simp [Trace.g?], ?_⟩
      rw [deaf_old (Nat.le_refl _)]; exact hear
    · simp only [if_neg e] at hgr
      exact h'.marks g r hgr

theorem TI.spawn (h : TI Shun Wg n0 n cls rel t B) (hn : n0 ≤ n) (_h0 : 0 < n0) (hr0 : rel 0 = none) (hrn : rel n = none) (hear : Deaf t 0 = 0) (hearn : Deaf t n = 0) (fn fn' : FuncId) (pos : String)
    (hc : ∀ b, cls' b = cls b ∨ (cls b = .mine 0 ∧ (cls' b = .mine n ∨ (cls' b = .shared ∧ n = n0)))) :
    TI Shun Wg n0 (n + 1) cls' rel (t ++ #[{ g := 0, fn, pos, act := .go n }, { g := n, fn := fn', pos, act := .start }]) B := by
  have hgo : (t ++ #[({ g := 0, fn, pos, act := .go n } : MemOp), { g := n, fn := fn', pos, act := .start }])[t.size]? = some { g := 0, fn, pos, act := .go n } := by rw [Array.getElem?_append_right (Nat.le_refl _)]; simp
  have hst : (t ++ #[({ g := 0, fn, pos, act := .go n } : MemOp), { g := n, fn := fn', pos, act := .start }])[t.size + 1]? = some { g := n, fn := fn', pos, act := .start } := by rw [Array.getElem?_append_right (by omega)]; simp
  generalize hu : #[({ g := 0, fn, pos, act := .go n } : MemOp), { g := n, fn := fn', pos, act := .start }] = u at *
  have hnot : ∀ op ∈ u, op.act.touch? = none ∧ (∀ B, op.act.low B) ∧ op.act ≠ .mark (.release (stA Wg)) ∧ (op.act ≠ .mark .disable) := by
    intro op hop
    rw [← hu] at hop
    simp at hop
    rcases hop with rfl | rfl <;> simp [MemAct.touch?, MemAct.low]
  have edge : HappensBefore (t ++ u) t.size (t.size + 1) := by
    refine .single (.inr ⟨.spawn (child := n) (by simp [Trace.act?, hgo]) (by simp [Trace.act?, hst]) (by simp [Trace.g?, hst]), ⟨0, by simp [Trace.g?, hgo], by rw [deaf_old (Nat.le_refl _)]; exact hear⟩, ⟨n, by simp [Trace.g?, hst], ?_⟩⟩)
    have : (t ++ u).deaf n (t.size + 1) = (t ++ u).deaf n t.size := by
      rw [Trace.deaf, hgo]
    rw [this, deaf_old (Nat.le_refl _)]
    exact hearn
  have child : ∀ k, Knows t 0 k → Knows (t ++ u) n k := fun k hk => ⟨t.size + 1, _, hst, rfl, .inr ((hk.hb_new (Nat.le_refl _) hgo rfl).trans edge)⟩
  have old : ∀ {k a}, touchAt (t ++ u) k = some a → k < t.size ∧ touchAt t k = some a := by
    intro k a ha
    obtain ⟨x, hx, hxa⟩ := touch_of ha
    rcases getElem?_append_cases hx with ⟨hk, hx'⟩ | ⟨_, hxu⟩
    · exact ⟨hk, by rw [touchAt_of hx']; exact hxa⟩
    · rw [(hnot x hxu).1] at hxa; cases hxa
  have hAct : ∀ {g}, Actor n0 n g → Actor n0 (n + 1) g := fun hg => hg.imp id fun x => ⟨x.1, by omega⟩
  have a0 : Actor n0 n 0 := .inl rfl
  refine ⟨fun said => ?_, fun k a ha hm => ?_, fun op hop => ?_, fun op hop => ?_, fun g r hr => ?_, fun k g hgk hne hcn => ?_⟩
  · rintro ⟨i, j, hij, ⟨a, b, ha, hb, hcf⟩, m1, m2⟩
    obtain ⟨hi, ha'⟩ := old (k := i) (a := a) ha
    obtain ⟨hj, hb'⟩ := old (k := j) (a := b) hb
    exact h.clean said ⟨i, j, hij, ⟨a, b, ha', hb', hcf⟩, fun e => m1 (hb_app u e), fun e => m2 (hb_app u e)⟩
  · obtain ⟨hk, ha'⟩ := old ha
    obtain ⟨f1, f2⟩ := h.fine k a ha' hm
    refine ⟨fun e => ⟨(f1 e).1, fun e2 => by rw [g?_old hk]; exact (f1 e).2.1 e2, (f1 e).2.2⟩, fun e => ?_⟩
    have f2 := f2 e
    rcases hc (blk a.loc) with e2 | ⟨e2, e3 | ⟨e3, e4⟩⟩
    · rw [e2]
      split <;> rename_i hcl <;> rw [hcl] at f2 <;> simp only at f2
      · exact ⟨hAct f2.1, f2.2.app u⟩
      · refine ⟨fun hw g hg hgr => ?_, f2.2.imp fun g x => ⟨hAct x.1, x.2.app u⟩⟩
        rcases hg with rfl | ⟨h1, h2⟩
        · exact (f2.1 hw 0 a0 hr0).app u
        · rcases Nat.lt_or_ge g n with h3 | h3
          · exact (f2.1 hw g (.inr ⟨h1, h3⟩) hgr).app u
          · obtain rfl : g = n := by omega
            exact child k (f2.1 hw 0 a0 hr0)
      · exact f2.imp (Knows.app u) id
    · rw [e2] at f2
      simp only at f2
      have f3 := f2.2
      unfold Kn at f3
      rw [hr0] at f3
      rw [e3]
      refine ⟨.inr ⟨hn, by omega⟩, ?_⟩
      unfold Kn
      rw [hrn]
      exact child k f3
    · rw [e2] at f2
      simp only at f2
      have f3 := f2.2
      unfold Kn at f3
      rw [hr0] at f3
      have f4 := child k f3
      rw [e3]
      refine ⟨fun _ g hg hgr => ?_, 0, .inl rfl, ?_⟩
      · rcases hg with rfl | ⟨h1, h2⟩
        · exact f3.app u
        · have : g = n := by omega
          rw [this]
          exact f4
      · unfold Kn; rw [hr0]; exact f3.app u
  · rcases Array.mem_append.1 hop with hop | hop
    · exact h.low op hop
    · exact (hnot op hop).2.1 B
  · rcases Array.mem_append.1 hop with hop | hop
    · exact h.norel op hop
    · exact (hnot op hop).2.2.1
  · obtain ⟨h1, h2, g', hg', hdf⟩ := h.marks g r hr
    have hlt := lt_of_g? h1
    refine ⟨by rw [g?_old hlt]; exact h1, by simpa [Trace.act?, getElem?_append_old hlt] using h2, g', by rw [g?_old hlt]; exact hg', ?_⟩
    rw [deaf_old (Nat.le_of_lt hlt)]; exact hdf
  · obtain ⟨a, ha, hmem, hkind⟩ := id hcn
    obtain ⟨hk, ha'⟩ := old (k := k) (a := a) ha
    rcases h.over k g (by rw [← g?_old (u := u) hk]; exact hgk) hne ((counts_old hk).1 hcn) with ⟨j, hj, hb⟩ | ⟨h1, h2, h3⟩
    · exact .inl ⟨j, by rw [g?_old (lt_of_g? hj)]; exact hj, hb_app u hb⟩
    · exact .inr ⟨h1, by omega, h3.app u⟩

/-- The join: all is known to goroutine 0 again. -/
theorem TI.acquire (h : TI Shun Wg n0 n cls rel t B) (hr0 : rel 0 = none) (hall : ∀ g, n0 ≤ g → g < n → ∃ r, rel g = some r) (hWg : Wg < B) (hear : Deaf t 0 = 0) (fn : FuncId) (pos : String) :
    Past (fun l => Shun l ∨ ∃ a : Addr, l = .cell a ∧ a.block = Wg) B (t ++ #[{ g := 0, fn, pos, act := .mark (.acquire (stA Wg)) }]) := by
  have h' := h.step (u := #[{ g := 0, fn, pos, act := .mark (.acquire (stA Wg)) }]) (cls' := cls) (Nat.le_refl B) (.inl (.inl rfl)) (fun _ _ => rfl) (fun op hop => by
    rw [Array.mem_singleton] at hop
    subst hop
    exact ⟨rfl, hWg, by simp, fun x hx => by simp [MemAct.touch?] at hx⟩) (fun e => absurd hr0 e)
  generalize hu : #[({ g := 0, fn, pos, act := .mark (.acquire (stA Wg)) } : MemOp)] = u at *
  have hlast : (t ++ u)[t.size]? = some { g := 0, fn, pos, act := .mark (.acquire (stA Wg)) } := by rw [← hu]; exact act_last _ _
  have hsz : (t ++ u).size = t.size + 1 := by rw [← hu]; simp
  have edge : ∀ g r, rel g = some r → HappensBefore (t ++ u) r t.size := by
    intro g r hr
    obtain ⟨h1, h2, h3⟩ := h'.marks g r hr
    have hlt : r < t.size := lt_of_g? (h.marks g r hr).1
    refine .single (.inr ⟨.marked hlt (.inr h2) (by simp [Trace.act?, hlast]) (fun k _ _ e => ?_), h3, 0, by simp [Trace.g?, hlast], by rw [deaf_old (Nat.le_refl _)]; exact hear⟩)
    obtain ⟨x, hx, hxa⟩ := Option.map_eq_some_iff.1 e
    exact h'.norel x (mem_of_getElem? hx) hxa
  have kn0 : ∀ g k, Actor n0 n g → Kn (t ++ u) rel g k → Knows (t ++ u) 0 k := by
    intro g k hg hk
    unfold Kn at hk
    rcases hg with rfl | ⟨h1, h2⟩
    · rw [hr0] at hk; exact hk
    · obtain ⟨r, hr⟩ := hall g h1 h2
      rw [hr] at hk
      exact ⟨t.size, _, hlast, rfl, hk.trans (.inr (edge g r hr))⟩
  refine ⟨h'.clean, fun k a ha hm => ?_, fun k g hgk hne hcn => ?_, ?_, h'.low⟩
  · obtain ⟨f1, f2⟩ := h'.fine k a ha hm
    by_cases e : blk a.loc = Wg
    · obtain ⟨g1, g2, ad, g3⟩ := f1 e
      by_cases hs : a.kind = .said
      · obtain ⟨x, hx, hxg⟩ := Option.map_eq_some_iff.1 (g2 hs)
        have := knows_own hx
        rw [hxg] at this
        exact .inl this
      · refine .inr ⟨.inr ⟨ad, g3, by rw [g3] at e; exact e⟩, ?_⟩
        cases hk : a.kind
        · exact absurd hk g1
        · rfl
        · exact absurd hk hs
    · have f2 := f2 e
      split at f2
      · exact .inl (kn0 _ k f2.1 f2.2)
      · obtain ⟨g, hg, hk⟩ := f2.2
        exact .inl (kn0 g k hg hk)
      · exact f2.imp id fun x => ⟨.inl x.1, x.2⟩
  · rcases h'.over k g hgk hne hcn with x | ⟨h1, h2, h3⟩
    · exact x
    · obtain ⟨q, z, hz, hzg, hb⟩ := kn0 g k (.inr ⟨h1, h2⟩) h3
      refine ⟨q, by simp [Trace.g?, hz, hzg], ?_⟩
      rcases hb with rfl | hb
      · exfalso
        have : (t ++ u).g? k = some 0 := by simp [Trace.g?, hz, hzg]
        rw [hgk] at this
        exact hne (Option.some.inj this)
      · exact hb
  · have : Deaf (t ++ u) 0 = Deaf t 0 := by
      unfold Deaf
      rw [hsz, Trace.deaf, hlast]
      exact deaf_old (Nat.le_refl _)
    rw [this]; exact hear
end
end Go.Proofs.Ytpolipcicfjkiaa.Cy
/- The scripts of the caller and of its two workers, stop by stop; what is held of the machine while they are at work. Conditions: none. -/
namespace Go.Proofs.Ytpolipcicfjkiaa.Cy
open Go Go.Conc
open Go.ConcN (WgLive sumTo upd sumTo_upd upd_ne upd_same)
open Go.ConcR (KK wgBlock WgAt stA smA rd wr mk DC0)

/-! ### a worker, from its end backwards -/
section
variable (P : Program) (ty Wg : Nat)
def WD4 (d : Nat) (_ : Nat → Prop) (g : Goroutine) (_ w : World) : Prop :=
  d = 1 ∧ g.status = .running ∧ mayWake P g = true ∧ (WgAt ty Wg w 0 0 → ∃ g', stepG P false g w = .go g' (w.setCell (smA Wg) (.int .u32 1)) (semEvents (smA Wg)) ∧ ∃ q, QuitsD P q 1 g')
def WD3 (d : Nat) (K : Nat → Prop) (g : Goroutine) (V w : World) : Prop :=
  d = 1 ∧ g.status = .running ∧ (WgAt ty Wg w 1 0 → ∃ g', stepG P false g w = .go g' (w.setCell (stA Wg) (.int .u64 0)) #[wr (stA Wg)] ∧ ∃ m, GV P false true ty Wg (WD4 P ty Wg) m 1 K g' V)
def WD2 (d : Nat) (K : Nat → Prop) (g : Goroutine) (V w : World) : Prop :=
  d = 1 ∧ g.status = .running ∧ (WgAt ty Wg w 1 0 → ∃ g', stepG P false g w = .go g' w #[rd (stA Wg)] ∧ ∃ m, GV P false true ty Wg (WD3 P ty Wg) m 1 K g' V)
def WDec (d : Nat) (K : Nat → Prop) (g : Goroutine) (V w : World) : Prop :=
  d = 1 ∧ g.status = .running ∧ ∀ v wt : Nat, wt ≤ 1 → v < 2147483647 → WgAt ty Wg w ((v + 1) * KK + wt) 0 →
    ∃ g', stepG P false g w = .go g' (w.setCell (stA Wg) (.int .u64 (v * KK + wt))) #[rd (stA Wg), wr (stA Wg)] ∧
      ((v = 0 ∧ wt = 1) → ∃ m, GV P false true ty Wg (WD2 P ty Wg) m 1 K g' V) ∧ (¬ (v = 0 ∧ wt = 1) → ∃ q, QuitsD P q 1 g')
def WRel (Res : (Nat → Prop) → World → Prop) (d : Nat) (K : Nat → Prop) (g : Goroutine) (V w : World) : Prop :=
  d = 0 ∧ g.status = .running ∧ Res K V ∧ ∃ g', stepG P false g w = .go g' w #[mk (.releaseMerge (stA Wg))] ∧ ∃ m, GV P false true ty Wg (WDec P ty Wg) m 0 K g' V
end

/-! ### the caller, from its end backwards -/
section
variable (P : Program) (ty Wg : Nat) (Anch : Goroutine → (Nat → Prop) → World → Prop) (FinM : Goroutine → (Nat → Prop) → World → Prop)
def MAcq (d : Nat) (K : Nat → Prop) (g : Goroutine) (V w : World) : Prop :=
  d = 0 ∧ g.status = .running ∧ ∃ g', stepG P true g w = .go g' w #[mk (.acquire (stA Wg))] ∧ FinM g' K V
def MLast (d : Nat) (K : Nat → Prop) (g : Goroutine) (V w : World) : Prop :=
  d = 1 ∧ g.status = .running ∧ (WgAt ty Wg w 0 0 → ∃ g', stepG P true g w = .go g' w #[rd (stA Wg)] ∧ ∃ m, GV P true false ty Wg (MAcq P Wg FinM) m 1 K g' V)
def MSem (d : Nat) (K : Nat → Prop) (g : Goroutine) (V w : World) : Prop :=
  d = 1 ∧ g.status = .running ∧ g.offers = none ∧ ((∃ st, WgAt ty Wg w st 0) → stepG P true g w = .go { g with status := .blocked } w #[]) ∧
    (WgAt ty Wg w 0 1 → ∃ g', stepG P true g w = .go g' (w.setCell (smA Wg) (.int .u32 0)) (semEvents (smA Wg)) ∧ ∃ m, GV P true false ty Wg (MLast P ty Wg FinM) m 1 K g' V)
def MAnch (d : Nat) (K : Nat → Prop) (g : Goroutine) (V _ : World) : Prop := d = 1 ∧ g.status = .running ∧ Anch g K V
def MCas (vs : Nat) (d : Nat) (K : Nat → Prop) (g : Goroutine) (V w : World) : Prop :=
  d = 1 ∧ g.status = .running ∧ vs ≠ 0 ∧ ∀ v : Nat, v < 2147483648 → WgAt ty Wg w (v * KK) 0 →
    (v = vs → ∃ g', stepG P true g w = .go g' (w.setCell (stA Wg) (.int .u64 (v * KK + 1))) #[rd (stA Wg), wr (stA Wg)] ∧ ∃ m, GV P true false ty Wg (MSem P ty Wg FinM) m 1 K g' V) ∧
    (v ≠ vs → ∃ g', stepG P true g w = .go g' w #[rd (stA Wg)] ∧ ∃ m, GV P true false ty Wg (MAnch Anch) m 1 K g' V)
def MLoad (d : Nat) (K : Nat → Prop) (g : Goroutine) (V w : World) : Prop :=
  d = 1 ∧ g.status = .running ∧ ∀ v : Nat, v < 2147483648 → WgAt ty Wg w (v * KK) 0 → ∃ g', stepG P true g w = .go g' w #[rd (stA Wg)] ∧
    (v = 0 → ∃ m, GV P true false ty Wg (MAcq P Wg FinM) m 1 K g' V) ∧ (v ≠ 0 → ∃ m, GV P true false ty Wg (MCas P ty Wg Anch FinM v) m 1 K g' V)
end

/-- What all may read, once s workers are started; and what stands there. -/
structure Sh (shp : Nat → Nat → Prop) (sc : Nat → Option Obj) (s : Nat) (cls : Nat → Cls) (w : World) : Prop where
  all : ∀ b, shp s b → b < w.heap.size ∧ cls b = .shared ∧ w.heap[b]? = sc b
  /-- Number 3: what none may come near. -/
  away : ∀ b, shp 3 b → cls b = .none ∧ ∃ c e fr, w.heap[b]? = some (.cells c e fr)
  only : ∀ b, cls b = .shared → ∃ c e fr, w.heap[b]? = some (.cells c e fr)

section
variable (P : Program) (ty Wg : Nat) (shp : Nat → Nat → Prop) (sc : Nat → Option Obj)
/-- The go statement that starts the worker number s. -/
def MGo (s : Nat) (Res : (Nat → Prop) → World → Prop) (Next : Nat → (Nat → Prop) → Goroutine → World → World → Prop) (d : Nat) (K : Nat → Prop) (g : Goroutine) (V w : World) : Prop :=
  d = 0 ∧ g.status = .running ∧ ∃ g' child, stepG P true g w = .spawn g' child w #[] ∧ child.status = .running ∧
    ∀ cls n, (∀ b, K b ↔ Kf cls 0 w b) → V.heap = (view cls 0 w).heap → Sh shp sc s cls w → 0 < n → cls Wg = .none → Tidy (view cls n w) →
      ∃ cls', (∀ b, cls' b = cls b ∨ (cls b = .mine 0 ∧ b < w.heap.size ∧ (cls' b = .mine n ∨ (cls' b = .shared ∧ s = 0)))) ∧ Sh shp sc (s + 1) cls' w ∧
        Tidy (view cls' 0 w) ∧ Tidy (view cls' n w) ∧
        (∃ m, GV P true false ty Wg Next m 0 (Kf cls' 0 w) g' (view cls' 0 w)) ∧ (∃ m, GV P false false ty Wg (WRel P ty Wg Res) m 0 (Kf cls' n w) child (view cls' n w))
def MInc (Next : Nat → (Nat → Prop) → Goroutine → World → World → Prop) (d : Nat) (K : Nat → Prop) (g : Goroutine) (V w : World) : Prop :=
  d = 1 ∧ g.status = .running ∧ ∀ v : Nat, v < 2147483647 → WgAt ty Wg w (v * KK) 0 → ∃ g', stepG P true g w = .go g' (w.setCell (stA Wg) (.int .u64 ((v + 1) * KK))) #[rd (stA Wg), wr (stA Wg)] ∧
    ∃ m, GV P true false ty Wg Next m 1 K g' V
end

/-! ### the stages -/
inductive WPh where
  | work | rel | d2 | d3 | d4 | left
  deriving DecidableEq

inductive MSt where
  | inc (s : Nat) | go (s : Nat) | anch | load | cas (vs : Nat) | sem | last | acq

def WPh.wt : WPh → Nat
  | .work => 60 | .rel => 45 | .d2 => 30 | .d3 => 20 | .d4 => 10 | .left => 0
def WPh.cnt : WPh → Nat
  | .work | .rel => 1
  | _ => 0
def WPh.low : WPh → Prop
  | .work | .rel | .left => True
  | _ => False
def MSt.wt (cnt : Nat) : MSt → Nat
  | .inc 0 => 400 | .go 0 => 390 | .inc _ => 300 | .go _ => 290 | .anch => 102 | .load => 100
  | .cas vs => if vs = cnt then 98 else 103
  | .sem => 60 | .last => 50 | .acq => 40

section
variable (P : Program) (ty Wg n0 : Nat) (Anch : Goroutine → (Nat → Prop) → World → Prop) (FinM : Goroutine → (Nat → Prop) → World → Prop) (shp : Nat → Nat → Prop) (sc : Nat → Option Obj) (Res : Nat → (Nat → Prop) → World → Prop)

abbrev M1 := MInc P ty Wg (MGo P ty Wg shp sc 1 (Res 1) (MAnch Anch))
abbrev M0 := MInc P ty Wg (MGo P ty Wg shp sc 0 (Res 0) (M1 P ty Wg Anch shp sc Res))

/-- What the caller is at. -/
def MainJ : MSt → Nat → Nat → (Nat → Prop) → Goroutine → World → Prop
  | .inc 0, n, d, K, a, V => GV P true false ty Wg (M0 P ty Wg Anch shp sc Res) n d K a V
  | .inc _, n, d, K, a, V => GV P true false ty Wg (M1 P ty Wg Anch shp sc Res) n d K a V
  | .go 0, n, d, K, a, V => GV P true false ty Wg (MGo P ty Wg shp sc 0 (Res 0) (M1 P ty Wg Anch shp sc Res)) n d K a V
  | .go _, n, d, K, a, V => GV P true false ty Wg (MGo P ty Wg shp sc 1 (Res 1) (MAnch Anch)) n d K a V
  | .anch, n, d, K, a, V => GV P true false ty Wg (MAnch Anch) n d K a V
  | .load, n, d, K, a, V => GV P true false ty Wg (MLoad P ty Wg Anch FinM) n d K a V
  | .cas vs, n, d, K, a, V => GV P true false ty Wg (MCas P ty Wg Anch FinM vs) n d K a V
  | .sem, n, d, K, a, V => (∃ k, n = k + 1 ∧ GV P true false ty Wg (MSem P ty Wg FinM) k d K a V) ∨ (n = 0 ∧ ∃ a0 : Goroutine, a0.status = .running ∧ a0.offers = none ∧ a = { a0 with status := .blocked } ∧ GV P true false ty Wg (MSem P ty Wg FinM) 0 d K a0 V)
  | .last, n, d, K, a, V => GV P true false ty Wg (MLast P ty Wg FinM) n d K a V
  | .acq, n, d, K, a, V => GV P true false ty Wg (MAcq P Wg FinM) n d K a V

/-- What another goroutine is at. -/
def WorkJ : WPh → Nat → Nat → Nat → (Nat → Prop) → Goroutine → World → Prop
  | .work, n, g, d, K, b, V => GV P false false ty Wg (WRel P ty Wg (Res (g - n0))) n d K b V
  | .rel, n, _, d, K, b, V => GV P false true ty Wg (WDec P ty Wg) n d K b V
  | .d2, n, _, d, K, b, V => GV P false true ty Wg (WD2 P ty Wg) n d K b V
  | .d3, n, _, d, K, b, V => GV P false true ty Wg (WD3 P ty Wg) n d K b V
  | .d4, n, _, d, K, b, V => GV P false true ty Wg (WD4 P ty Wg) n d K b V
  | .left, n, _, d, _, b, _ => QuitsD P n d b

/-- How the group stands. -/
def Stand (st : MSt) (ph : Nat → WPh) (n : Nat) (w : World) : Prop :=
  match st with
  | .inc s => n = n0 + s ∧ s < 2 ∧ (∀ g, (ph g).low) ∧ WgAt ty Wg w ((sumTo n fun g => (ph g).cnt) * KK) 0
  | .go s => n = n0 + s ∧ s < 2 ∧ (∀ g, (ph g).low) ∧ WgAt ty Wg w (((sumTo n fun g => (ph g).cnt) + 1 : Nat) * KK) 0
  | .anch | .load | .cas _ => n = n0 + 2 ∧ (∀ g, (ph g).low) ∧ WgAt ty Wg w ((sumTo n fun g => (ph g).cnt) * KK) 0
  | .sem => n = n0 + 2 ∧ (((∀ g, (ph g).low) ∧ 0 < (sumTo n fun g => (ph g).cnt) ∧ WgAt ty Wg w ((sumTo n fun g => (ph g).cnt) * KK + 1) 0) ∨
      (∃ g, (ph g = .d2 ∨ ph g = .d3) ∧ (∀ j, j ≠ g → ph j = .left) ∧ WgAt ty Wg w 1 0) ∨
      (∃ g, ph g = .d4 ∧ (∀ j, j ≠ g → ph j = .left) ∧ WgAt ty Wg w 0 0) ∨
      ((∀ j, ph j = .left) ∧ WgAt ty Wg w 0 1))
  | .last | .acq => n = n0 + 2 ∧ (∀ j, ph j = .left) ∧ WgAt ty Wg w 0 0

/-- WHAT IS HELD OF THE MACHINE. -/
structure MI (Shun : Loc → Prop) (w0 : World) (st : MSt) (cls : Nat → Cls) (rel : Nat → Option Nat) (ph : Nat → WPh) (q : Nat → Nat) (nm : Nat) (gs : Array Goroutine) (a : Goroutine) (w : World) (t : Trace) : Prop where
  h0 : gs[0]? = some a
  main : MainJ P ty Wg Anch FinM shp sc Res st nm (Deaf t 0) (Kf cls 0 w) a (view cls 0 w)
  run : a.status = .running ∨ ∃ g, ph g ≠ .left
  wk : ∀ g b, 0 < g → gs[g]? = some b → WorkJ P ty Wg n0 Res (ph g) (q g) g (Deaf t g) (Kf cls g w) b (view cls g w)
  n0pos : 0 < n0
  n0le : n0 ≤ gs.size
  act : ∀ g, ph g ≠ .left → n0 ≤ g ∧ g < gs.size
  relw : ∀ g, n0 ≤ g → g < gs.size → (ph g = .work → rel g = none) ∧ (ph g ≠ .work → (∃ r, rel g = some r) ∧ Res (g - n0) (Kf cls g w) (view cls g w))
  reln : ∀ g, ¬ (n0 ≤ g ∧ g < gs.size) → rel g = none
  above : ∀ j, gs.size ≤ j → Deaf t j = 0
  ti : TI Shun Wg n0 gs.size cls rel t w.heap.size
  tidy : ∀ g, Tidy (view cls g w)
  wgc : cls Wg = .none
  sh : Sh shp sc (gs.size - n0) cls w
  sp : Stand ty Wg n0 st ph gs.size w
  os : w.os = w0.os
  out : w.output = w0.output
  tape : w.tape = w0.tape
  /-- Number 4: what is kept from all stays as it was. -/
  kept : ∀ b, shp 4 b → cls b = .none ∧ b ≠ Wg ∧ b < w.heap.size ∧ w.heap[b]? = w0.heap[b]?
end
end Go.Proofs.Ytpolipcicfjkiaa.Cy

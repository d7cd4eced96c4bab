/- The machine's invariant over the workers' steps at the group. Conditions: none. -/
import Derived.Test.YtpolipcicfjkiaaK10
namespace Go.Proofs.Ytpolipcicfjkiaa.Cy
open Go Go.Conc
open Go.ConcN (WgLive sumTo upd sumTo_upd upd_ne upd_same)
open Go.ConcR (KK wgBlock WgAt stA smA rd wr DC0)

theorem hear_at (t : Trace) (i : Nat) (fn : FuncId) (pos : String) (es : Array Event) (h : ∀ k e, es[k]? = some e → (MemAct.ofEvent e).touch? ≠ none → deafBehind (Deaf t i) (es.extract 0 k) ≠ 0) :
    ∀ k op, (MemOp.ofEvents i fn pos es)[k]? = some op → op.act.touch? ≠ none → (t ++ MemOp.ofEvents i fn pos es).deaf i (t.size + k) ≠ 0 := by
  intro k op hk hne
  rw [ofEvents_eq, Array.getElem?_map] at hk
  obtain ⟨e, he, rfl⟩ := Option.map_eq_some_iff.1 hk
  have hlt : k < es.size := (Array.getElem?_eq_some_iff.1 he).1
  have e1 : es.extract 0 k ++ es.extract k es.size = es := by simp [Nat.max_eq_right (Nat.le_of_lt hlt)]
  have e2 : (es.extract 0 k).size = k := by simp; omega
  have := deaf_at t i fn pos (es.extract 0 k) (es.extract k es.size)
  rw [e1, e2] at this
  rw [this]
  exact h k e he hne

theorem le_sum {n i : Nat} (f : Nat → Nat) (hi : i < n) : f i ≤ sumTo n f := by
  have := sum_upd f 0 hi
  omega

theorem two_sum {n i j : Nat} (f : Nat → Nat) (hi : i < n) (hj : j < n) (hij : j ≠ i) : f i + f j ≤ sumTo n f := by
  have h1 := sum_upd f 0 hi
  have h2 := le_sum (upd f i 0) hj
  rw [upd_ne _ _ hij] at h2
  omega

theorem sum_bound (f : Nat → Nat) (n0 : Nat) (h1 : ∀ g, f g ≤ 1) (h2 : ∀ g, g < n0 → f g = 0) : ∀ n, sumTo n f ≤ n - n0
  | 0 => by simp [sumTo]
  | n + 1 => by
    have := sum_bound f n0 h1 h2 n
    have h3 := h1 n
    have h4 := h2 n
    simp only [sumTo]
    by_cases h : n < n0
    · rw [h4 h]; omega
    · omega

section
variable {P : Program} {ty Wg n0 : Nat} {Anch : Goroutine → (Nat → Prop) → World → Prop} {FinM : Goroutine → (Nat → Prop) → World → Prop} {shp : Nat → Nat → Prop} {sc : Nat → Option Obj} {Res : Nat → (Nat → Prop) → World → Prop}
  {Shun : Loc → Prop} {w0 : World} {st : MSt} {cls : Nat → Cls} {rel : Nat → Option Nat} {ph : Nat → WPh} {q : Nat → Nat} {nm : Nat} {gs : Array Goroutine} {a : Goroutine} {w : World} {t : Trace}

theorem Stand.n_le {n : Nat} (h : Stand ty Wg n0 st ph n w) : n ≤ n0 + 2 := by
  cases st with
  | inc s => obtain ⟨h1, h2, _⟩ := h; omega
  | go s => obtain ⟨h1, h2, _⟩ := h; omega
  | _ => obtain ⟨h1, _⟩ := h; omega

theorem cnt_le (f : WPh) : f.cnt ≤ 1 := by cases f <;> decide

theorem sum_two {n : Nat} (h : n ≤ n0 + 2) (hact : ∀ g, ph g ≠ .left → n0 ≤ g ∧ g < n) : (sumTo n fun g => (ph g).cnt) ≤ 2 := by
  have := sum_bound (fun g => (ph g).cnt) n0 (fun g => cnt_le _) (fun g hg => by
    have : ph g = .left := by
      apply Classical.byContradiction
      intro e
      have := (hact g e).1
      omega
    simp [this, WPh.cnt]) n
  omega

/-- The last of those who work: all others have left. -/
theorem only {n i : Nat} (hl : ∀ g, (ph g).low) (hi : i < n) (hp : (ph i).cnt = 1) (h1 : (sumTo n fun g => (ph g).cnt) = 1) (hact : ∀ g, ph g ≠ .left → n0 ≤ g ∧ g < n) : ∀ j, j ≠ i → ph j = .left := by
  intro j hj
  apply Classical.byContradiction
  intro e
  have := two_sum (fun g => (ph g).cnt) hi (hact j e).2 hj
  have hc : (ph j).cnt = 1 := by
    have := hl j
    cases hh : ph j <;> rw [hh] at this e <;> first | rfl | exact this.elim | exact absurd rfl e
  omega

theorem low_upd {i : Nat} (hl : ∀ g, (ph g).low) : ∀ g, (upd ph i .left g).low := fun g => by
  by_cases e : g = i
  · subst e; rw [upd_same]; trivial
  · rw [upd_ne _ _ e]; exact hl g

theorem Stand.dec {n i : Nat} (h : Stand ty Wg n0 st ph n w) (hi : i < n) (hp : ph i = .rel) (hact : ∀ g, ph g ≠ .left → n0 ≤ g ∧ g < n) :
    ∃ v wt : Nat, wt ≤ 1 ∧ v < 2147483647 ∧ WgAt ty Wg w ((v + 1) * KK + wt) 0 ∧
      ∀ w', WgAt ty Wg w' (v * KK + wt) 0 → ((v = 0 ∧ wt = 1) → Stand ty Wg n0 st (upd ph i .d2) n w') ∧ (¬ (v = 0 ∧ wt = 1) → Stand ty Wg n0 st (upd ph i .left) n w') := by
  have hcnt : (ph i).cnt = 1 := by rw [hp]; rfl
  have h2 := sum_two h.n_le hact
  have hle := le_sum (fun g => (ph g).cnt) hi
  have hs := (sum_ph (ph := ph) hi .left).1
  rw [hcnt] at hs
  have hs : (sumTo n fun g => (upd ph i .left g).cnt) + 1 = sumTo n fun g => (ph g).cnt := by simpa [WPh.cnt] using hs
  generalize hc : (sumTo n fun g => (ph g).cnt) = c at *
  generalize hc' : (sumTo n fun g => (upd ph i .left g).cnt) = c' at *
  have hca : ((c' : Int) + 1) = (c : Int) := by omega
  cases st with
  | inc s =>
    obtain ⟨h1, h3, h4, h5⟩ := h
    refine ⟨c', 0, by omega, by omega, by rw [hca]; rw [hc] at h5; simpa using h5, fun w' hw => ⟨fun e => by omega, fun _ => ⟨h1, h3, low_upd h4, by rw [hc']; simpa using hw⟩⟩⟩
  | go s =>
    obtain ⟨h1, h3, h4, h5⟩ := h
    refine ⟨c, 0, by omega, by omega, by rw [hc] at h5; simpa using h5, fun w' hw => ⟨fun e => by omega, fun _ => ⟨h1, h3, low_upd h4, by rw [hc', hs]; simpa using hw⟩⟩⟩
  | sem =>
    obtain ⟨h1, h3⟩ := h
    rcases h3 with ⟨h4, h5, h6⟩ | ⟨g, h4, h5, h6⟩ | ⟨g, h4, h5, h6⟩ | ⟨h4, _⟩
    · refine ⟨c', 1, by omega, by omega, by rw [hca]; rw [hc] at h6; simpa using h6, fun w' hw => ⟨fun e => ⟨h1, .inr (.inl ⟨i, .inl (upd_same _ _ _), fun j hj => by rw [upd_ne _ _ hj]; exact only h4 hi hcnt (by omega) hact j hj, ?_⟩)⟩, fun e => ⟨h1, .inl ⟨low_upd h4, by rw [hc']; omega, by rw [hc']; simpa using hw⟩⟩⟩⟩
      obtain ⟨rfl, _⟩ := e
      simpa using hw
    · by_cases e : i = g
      · subst e; rw [hp] at h4; rcases h4 with e | e <;> cases e
      · rw [h5 i e] at hp; cases hp
    · by_cases e : i = g
      · subst e; rw [hp] at h4; cases h4
      · rw [h5 i e] at hp; cases hp
    · rw [h4 i] at hp; cases hp
  | last => rw [h.2.1 i] at hp; cases hp
  | acq => rw [h.2.1 i] at hp; cases hp
  | _ =>
    obtain ⟨h1, h4, h5⟩ := h
    refine ⟨c', 0, by omega, by omega, by rw [hca]; rw [hc] at h5; simpa using h5, fun w' hw => ⟨fun e => by omega, fun _ => ⟨h1, low_upd h4, by rw [hc']; simpa using hw⟩⟩⟩

/-- A stage at which the caller sleeps or will sleep: d2, d3 and d4. -/
theorem Stand.late {n i : Nat} (h : Stand ty Wg n0 st ph n w) (hp : ph i = .d2 ∨ ph i = .d3 ∨ ph i = .d4) : st = .sem ∧ n = n0 + 2 ∧ (∀ j, j ≠ i → ph j = .left) ∧ WgAt ty Wg w (if ph i = .d4 then 0 else 1) 0 := by
  have hl : ¬ (ph i).low := by rcases hp with e | e | e <;> rw [e] <;> exact id
  have hn : ph i ≠ .left := fun e => hl (by rw [e]; trivial)
  cases st with
  | inc s => exact absurd (h.2.2.1 i) hl
  | go s => exact absurd (h.2.2.1 i) hl
  | last => exact absurd (h.2.1 i) hn
  | acq => exact absurd (h.2.1 i) hn
  | sem =>
    obtain ⟨h1, ⟨h4, h5, h6⟩ | ⟨g, h4, h5, h6⟩ | ⟨g, h4, h5, h6⟩ | ⟨h4, _⟩⟩ := h
    · exact absurd (h4 i) hl
    · by_cases e : i = g
      · subst e
        exact ⟨rfl, h1, h5, by rw [if_neg (by rcases h4 with e | e <;> rw [e] <;> simp)]; exact h6⟩
      · exact absurd (h5 i e) hn
    · by_cases e : i = g
      · subst e
        exact ⟨rfl, h1, h5, by rw [if_pos h4]; exact h6⟩
      · exact absurd (h5 i e) hn
    · exact absurd (h4 i) hn
  | _ => exact absurd (h.2.1 i) hl

/-- A worker's step at the group itself. -/
theorem MI.wset (hRes : ∀ j K V K₁ V₁, Res j K V → Ext K V K₁ V₁ → Res j K₁ V₁) (h : MI P ty Wg n0 Anch FinM shp sc Res Shun w0 st cls rel ph q nm gs a w t) {i q' : Nat} {b b' : Goroutine} {w' : World} {es : Array Event} (f' : WPh) (hi : 0 < i) (hb : gs[i]? = some b) (hne : ph i ≠ .left) (hnw : ph i ≠ .work)
    (hst : stepG P false b w = .go b' w' es) {x y : Int} (hw : WgAt ty Wg w x y) (hw' : w' = w ∨ ∃ ad v x' y', w' = w.setCell ad v ∧ ad.block = Wg ∧ WgAt ty Wg w' x' y')
    (hes : ∀ e ∈ es, (∃ wr, e = ⟨.cell (stA Wg), wr, true⟩ ∨ e = ⟨.cell (smA Wg), wr, true⟩) ∨ e = ⟨.mark .disable, false, true⟩ ∨ e = ⟨.mark .enable, false, true⟩)
    (hd1 : Deaf t i = 1) (hde : ∀ k e, es[k]? = some e → (MemAct.ofEvent e).touch? ≠ none → deafBehind 1 (es.extract 0 k) ≠ 0) (hd2 : deafBehind 1 es = 1)
    (hJ : ∀ K V, K = Kf cls i w → V.heap = (view cls i w).heap → V.os = (view cls i w).os → WorkJ P ty Wg n0 Res f' q' i 1 K b' V) (hf' : f' ≠ .work)
    (hsp : Stand ty Wg n0 st (upd ph i f') gs.size w') (hdrop : f'.wt + 6 ≤ (ph i).wt)
    (hrun : ∀ a : Goroutine, (a.status = .running ∨ st = .sem) → ((mayWake P b && b'.status == .running) = true → a.status = .running) → (a.status = .running ∨ ∃ g, upd ph i f' g ≠ .left)) (sl : Option (Nat × Nat)) :
    ∃ m' ops, runT P (crowd gs w sl) i = (.next m', ops) ∧ Adv P ty Wg n0 Anch FinM shp sc Res Shun w0 (mu1 st ph gs.size) (mu2 q gs.size nm) m' (t ++ ops) := by
  have hlt : i < gs.size := (Array.getElem?_eq_some_iff.1 hb).1
  obtain ⟨hn0, _⟩ := h.act i hne
  obtain ⟨hr, hres⟩ := (h.relw i hn0 hlt).2 hnw
  have hB : Wg < w'.heap.size := by
    rcases hw' with rfl | ⟨ad, v, x', y', rfl, _, hw'⟩
    · exact h.wg_lt
    · exact (Array.getElem?_eq_some_iff.1 hw').1
  have h1 : Turn cls i Wg w w' ∧ clsTo cls i w w' = cls ∧ ((view cls i w').heap = (view cls i w).heap ∧ Kf cls i w' = Kf cls i w) := by
    rcases hw' with rfl | ⟨ad, v, x', y', rfl, ha, hw'⟩
    · exact ⟨turn_refl i, clsTo_refl i, rfl, rfl⟩
    · exact ⟨turn_wg hw hw' ha h.wgc, clsTo_set ad v, view_set hw hw' ha h.wgc⟩
  refine h.wstage hRes (q' := q') (rel' := rel) f' hi hb hne hst h1.1 h1.2.1 h1.2.2 (fun e he => ?_) (fun _ => hear_at t i _ _ es (by rw [hd1]; exact hde)) (fun _ _ => rfl) id (fun V e1 e2 => ?_) hf' hr hres hsp hdrop hrun sl
  · rcases hes e he with x | rfl | rfl
    · exact wg_ok x hB _ _
    · exact ⟨rfl, trivial, by simp [MemAct.ofEvent], fun x hx => by simp [MemAct.ofEvent, MemAct.touch?] at hx⟩
    · exact ⟨rfl, trivial, by simp [MemAct.ofEvent], fun x hx => by simp [MemAct.ofEvent, MemAct.touch?] at hx⟩
  · rw [hd1, hd2]
    exact hJ _ V rfl e1 e2
end
end Go.Proofs.Ytpolipcicfjkiaa.Cy
/- The workers' four steps at the group; a worker's step, whichever it is. Conditions: none. -/
namespace Go.Proofs.Ytpolipcicfjkiaa.Cy
open Go Go.Conc
open Go.ConcN (WgLive sumTo upd sumTo_upd upd_ne upd_same)
open Go.ConcR (KK wgBlock WgAt stA smA rd wr DC0)

theorem quits_run {P : Program} {n : Nat} {g : Goroutine} (h : QuitsD P n 1 g) : g.status = .running := by
  cases n with
  | zero => exact absurd h.2 (by decide)
  | succ n => exact h.elim (fun x => absurd x.2 (by decide)) (·.1)

section
variable {P : Program} {ty Wg n0 : Nat} {Anch : Goroutine → (Nat → Prop) → World → Prop} {FinM : Goroutine → (Nat → Prop) → World → Prop} {shp : Nat → Nat → Prop} {sc : Nat → Option Obj} {Res : Nat → (Nat → Prop) → World → Prop}
  {Shun : Loc → Prop} {w0 : World} {st : MSt} {cls : Nat → Cls} {rel : Nat → Option Nat} {ph : Nat → WPh} {q : Nat → Nat} {nm : Nat} {gs : Array Goroutine} {a : Goroutine} {w : World} {t : Trace}

theorem rdwr_es : ∀ k e, (#[rd (stA Wg), wr (stA Wg)] : Array Event)[k]? = some e → (MemAct.ofEvent e).touch? ≠ none → deafBehind 1 ((#[rd (stA Wg), wr (stA Wg)] : Array Event).extract 0 k) ≠ 0
  | 0, _, _, _ => by simp [deafBehind]
  | 1, _, _, _ => by simp [deafBehind, rd]
  | k + 2, e, h, _ => by simp at h
theorem one_es (e0 : Event) : ∀ k e, (#[e0] : Array Event)[k]? = some e → (MemAct.ofEvent e).touch? ≠ none → deafBehind 1 ((#[e0] : Array Event).extract 0 k) ≠ 0
  | 0, _, _, _ => by simp [deafBehind]
  | k + 1, e, h, _ => by simp at h
theorem sem_es : ∀ k e, (semEvents (smA Wg))[k]? = some e → (MemAct.ofEvent e).touch? ≠ none → deafBehind 1 ((semEvents (smA Wg)).extract 0 k) ≠ 0
  | 0, _, _, _ => by simp [deafBehind]
  | 1, _, _, _ => by simp [deafBehind, semEvents]
  | 2, _, _, _ => by simp [deafBehind, semEvents]
  | 3, _, _, _ => by simp [deafBehind, semEvents]
  | k + 4, e, h, _ => by simp [semEvents] at h

/-- The counter is taken down. -/
theorem MI.dec (hRes : ∀ j K V K₁ V₁, Res j K V → Ext K V K₁ V₁ → Res j K₁ V₁) (h : MI P ty Wg n0 Anch FinM shp sc Res Shun w0 st cls rel ph q nm gs a w t) {i : Nat} {b : Goroutine} (hi : 0 < i) (hb : gs[i]? = some b) (hp : ph i = .rel)
    (hS : WDec P ty Wg (Deaf t i) (Kf cls i w) b (view cls i w) w) (sl : Option (Nat × Nat)) :
    ∃ m' ops, runT P (crowd gs w sl) i = (.next m', ops) ∧ Adv P ty Wg n0 Anch FinM shp sc Res Shun w0 (mu1 st ph gs.size) (mu2 q gs.size nm) m' (t ++ ops) := by
  obtain ⟨hd1, _, hS⟩ := hS
  have hlt : i < gs.size := (Array.getElem?_eq_some_iff.1 hb).1
  obtain ⟨v, wt, hwt, hv, hat, hnext⟩ := h.sp.dec hlt hp h.act
  obtain ⟨g', hst, hA, hB⟩ := hS v wt hwt hv hat
  have hat' := hat.setSt (v * KK + wt)
  by_cases hz : v = 0 ∧ wt = 1
  · obtain ⟨m, hG⟩ := hA hz
    refine h.wset hRes (q' := m) .d2 hi hb (by rw [hp]; simp) (by rw [hp]; simp) hst hat (.inr ⟨_, _, _, _, rfl, rfl, hat'⟩) (fun e he => ?_) hd1 rdwr_es (by rfl) (fun K V e0 e1 e2 => by subst e0; exact (hG.same e1 e2 : GV P false true ty Wg (WD2 P ty Wg) m 1 _ g' V)) (by simp) ((hnext _ hat').1 hz) (by rw [hp]; decide) (fun a _ _ => .inr ⟨i, by rw [upd_same]; simp⟩) sl
    simp at he
    rcases he with rfl | rfl
    · exact .inl ⟨_, .inl rfl⟩
    · exact .inl ⟨_, .inl rfl⟩
  · obtain ⟨m, hG⟩ := hB hz
    refine h.wset hRes (q' := m) .left hi hb (by rw [hp]; simp) (by rw [hp]; simp) hst hat (.inr ⟨_, _, _, _, rfl, rfl, hat'⟩) (fun e he => ?_) hd1 rdwr_es (by rfl) (fun K V e0 e1 e2 => hG) (by simp) ((hnext _ hat').2 hz) (by rw [hp]; decide) (fun a h1 _ => ?_) sl
    · simp at he
      rcases he with rfl | rfl
      · exact .inl ⟨_, .inl rfl⟩
      · exact .inl ⟨_, .inl rfl⟩
    · rcases h1 with h1 | h1
      · exact .inl h1
      · subst h1
        have := ((hnext _ hat').2 hz)
        obtain ⟨_, ⟨h4, h5, h6⟩ | ⟨g, h4, h5, h6⟩ | ⟨g, h4, h5, h6⟩ | ⟨h4, h6⟩⟩ := this
        · refine .inr ?_
          apply Classical.byContradiction
          intro hno
          have hz : (sumTo gs.size fun g => (upd ph i .left g).cnt) = sumTo gs.size fun _ => 0 := Go.ConcN.sumTo_congr fun g _ => by
            have : upd ph i .left g = .left := Classical.byContradiction fun e => hno ⟨g, e⟩
            rw [this]; rfl
          have h0 : ∀ n, (sumTo n fun _ => 0) = 0 := fun n => by induction n with
            | zero => rfl
            | succ n ih => simp [sumTo, ih]
          rw [hz, h0] at h5
          omega
        · exact .inr ⟨g, by rcases h4 with e | e <;> rw [e] <;> simp⟩
        · exact .inr ⟨g, by rw [h4]; simp⟩
        · have := hat'.unique h6
          have e := this.2
          cases e

/-- The last one's look at the word. -/
theorem MI.d2 (hRes : ∀ j K V K₁ V₁, Res j K V → Ext K V K₁ V₁ → Res j K₁ V₁) (h : MI P ty Wg n0 Anch FinM shp sc Res Shun w0 st cls rel ph q nm gs a w t) {i : Nat} {b : Goroutine} (hi : 0 < i) (hb : gs[i]? = some b) (hp : ph i = .d2)
    (hS : WD2 P ty Wg (Deaf t i) (Kf cls i w) b (view cls i w) w) (sl : Option (Nat × Nat)) :
    ∃ m' ops, runT P (crowd gs w sl) i = (.next m', ops) ∧ Adv P ty Wg n0 Anch FinM shp sc Res Shun w0 (mu1 st ph gs.size) (mu2 q gs.size nm) m' (t ++ ops) := by
  obtain ⟨hd1, _, hS⟩ := hS
  obtain ⟨rfl, hn, hoth, hat⟩ := h.sp.late (.inl hp)
  rw [hp] at hat
  have hat : WgAt ty Wg w 1 0 := hat
  obtain ⟨g', hst, m, hG⟩ := hS hat
  refine h.wset hRes (q' := m) .d3 hi hb (by rw [hp]; simp) (by rw [hp]; simp) hst hat (.inl rfl) (fun e he => ?_) hd1 (one_es _) (by rfl) (fun K V e0 e1 e2 => by subst e0; exact (hG.same e1 e2 : GV P false true ty Wg (WD3 P ty Wg) m 1 _ g' V)) (by simp)
    ⟨hn, .inr (.inl ⟨i, .inr (upd_same _ _ _), fun j hj => by rw [upd_ne _ _ hj]; exact hoth j hj, hat⟩)⟩ (by rw [hp]; decide) (fun a _ _ => .inr ⟨i, by rw [upd_same]; simp⟩) sl
  simp at he
  subst he
  exact .inl ⟨_, .inl rfl⟩

/-- The word is set to naught. -/
theorem MI.d3 (hRes : ∀ j K V K₁ V₁, Res j K V → Ext K V K₁ V₁ → Res j K₁ V₁) (h : MI P ty Wg n0 Anch FinM shp sc Res Shun w0 st cls rel ph q nm gs a w t) {i : Nat} {b : Goroutine} (hi : 0 < i) (hb : gs[i]? = some b) (hp : ph i = .d3)
    (hS : WD3 P ty Wg (Deaf t i) (Kf cls i w) b (view cls i w) w) (sl : Option (Nat × Nat)) :
    ∃ m' ops, runT P (crowd gs w sl) i = (.next m', ops) ∧ Adv P ty Wg n0 Anch FinM shp sc Res Shun w0 (mu1 st ph gs.size) (mu2 q gs.size nm) m' (t ++ ops) := by
  obtain ⟨hd1, _, hS⟩ := hS
  obtain ⟨rfl, hn, hoth, hat⟩ := h.sp.late (.inr (.inl hp))
  rw [hp] at hat
  have hat : WgAt ty Wg w 1 0 := hat
  obtain ⟨g', hst, m, hG⟩ := hS hat
  have hat' := hat.setSt 0
  refine h.wset hRes (q' := m) .d4 hi hb (by rw [hp]; simp) (by rw [hp]; simp) hst hat (.inr ⟨_, _, _, _, rfl, rfl, hat'⟩) (fun e he => ?_) hd1 (one_es _) (by rfl) (fun K V e0 e1 e2 => by subst e0; exact (hG.same e1 e2 : GV P false true ty Wg (WD4 P ty Wg) m 1 _ g' V)) (by simp)
    ⟨hn, .inr (.inr (.inl ⟨i, upd_same _ _ _, fun j hj => by rw [upd_ne _ _ hj]; exact hoth j hj, hat'⟩))⟩ (by rw [hp]; decide) (fun a _ _ => .inr ⟨i, by rw [upd_same]; simp⟩) sl
  simp at he
  subst he
  exact .inl ⟨_, .inl rfl⟩

/-- The sleeper is woken. -/
theorem MI.d4 (hRes : ∀ j K V K₁ V₁, Res j K V → Ext K V K₁ V₁ → Res j K₁ V₁) (h : MI P ty Wg n0 Anch FinM shp sc Res Shun w0 st cls rel ph q nm gs a w t) {i : Nat} {b : Goroutine} (hi : 0 < i) (hb : gs[i]? = some b) (hp : ph i = .d4)
    (hS : WD4 P ty Wg (Deaf t i) (Kf cls i w) b (view cls i w) w) (sl : Option (Nat × Nat)) :
    ∃ m' ops, runT P (crowd gs w sl) i = (.next m', ops) ∧ Adv P ty Wg n0 Anch FinM shp sc Res Shun w0 (mu1 st ph gs.size) (mu2 q gs.size nm) m' (t ++ ops) := by
  obtain ⟨hd1, _, hmw, hS⟩ := hS
  obtain ⟨rfl, hn, hoth, hat⟩ := h.sp.late (.inr (.inr hp))
  rw [hp] at hat
  have hat : WgAt ty Wg w 0 0 := hat
  obtain ⟨g', hst, m, hG⟩ := hS hat
  have hat' := hat.setSm 1
  have hrun := quits_run hG
  refine h.wset hRes (q' := m) .left hi hb (by rw [hp]; simp) (by rw [hp]; simp) hst hat (.inr ⟨_, _, _, _, rfl, rfl, hat'⟩) (fun e he => ?_) hd1 sem_es (by rfl) (fun K V e0 e1 e2 => hG) (by simp)
    ⟨hn, .inr (.inr (.inr ⟨fun j => ?_, hat'⟩))⟩ (by rw [hp]; decide) (fun a _ h2 => .inl (h2 (by rw [hmw, hrun]; rfl))) sl
  · simp [semEvents] at he
    rcases he with rfl | rfl | rfl | rfl
    · exact .inr (.inl rfl)
    · exact .inl ⟨_, .inr rfl⟩
    · exact .inl ⟨_, .inr rfl⟩
    · exact .inr (.inr rfl)
  · by_cases e : j = i
    · subst e; exact upd_same _ _ _
    · rw [upd_ne _ _ e]; exact hoth j e

theorem GV.cases {main still : Bool} {St : Nat → (Nat → Prop) → Goroutine → World → World → Prop} {n d : Nat} {K : Nat → Prop} {g : Goroutine} {V w : World} (h : GV P main still ty Wg St n d K g V) (hr : Rel K V w) (hl : WgLive ty Wg w) :
    St d K g V w ∨ ∃ k, n = k + 1 ∧ ∃ g' w' V' es, stepG P main g w = .go g' w' es ∧ (Soft main Wg K V w V' w' es ∧ (still = true → w' = w ∧ ∀ e ∈ es, e.mute = true)) ∧ GV P main still ty Wg St k (deafBehind d es) K g' V' := by
  cases n with
  | zero => exact .inl (h K V w (Ext.refl K V) hr hl)
  | succ n =>
    rcases h with h | ⟨_, h⟩
    · exact .inl (h K V w (Ext.refl K V) hr hl)
    · exact .inr ⟨n, rfl, h K V w (Ext.refl K V) hr hl⟩

/-- A WORKER's STEP, whichever it is. -/
theorem MI.worker (hRes : ∀ j K V K₁ V₁, Res j K V → Ext K V K₁ V₁ → Res j K₁ V₁) (h : MI P ty Wg n0 Anch FinM shp sc Res Shun w0 st cls rel ph q nm gs a w t) {i : Nat} {b : Goroutine} (hi : 0 < i) (hb : gs[i]? = some b) (hrun : b.status = .running) (sl : Option (Nat × Nat)) :
    ∃ m' ops, runT P (crowd gs w sl) i = (.next m', ops) ∧ Adv P ty Wg n0 Anch FinM shp sc Res Shun w0 (mu1 st ph gs.size) (mu2 q gs.size nm) m' (t ++ ops) := by
  have hj := h.wk i b hi hb
  have hl := h.sp.live
  have hr := view_rel cls i w
  cases hp : ph i with
  | left => exact h.slip hRes hi hb hp hrun sl
  | work =>
    rw [hp] at hj
    rcases GV.cases hj hr hl with hS | ⟨k, hk, x⟩
    · exact h.release hRes hi hb hp hS sl
    · exact h.soft hRes hi hb hk (by rw [hp]; simp) (fun e => absurd hp e) (fun d K b V y => by rw [hp]; exact y) x sl
  | rel =>
    rw [hp] at hj
    rcases GV.cases hj hr hl with hS | ⟨k, hk, x⟩
    · exact h.dec hRes hi hb hp hS sl
    · exact h.soft hRes hi hb hk (by rw [hp]; simp) (fun _ => rfl) (fun d K b V y => by rw [hp]; exact y) x sl
  | d2 =>
    rw [hp] at hj
    rcases GV.cases hj hr hl with hS | ⟨k, hk, x⟩
    · exact h.d2 hRes hi hb hp hS sl
    · exact h.soft hRes hi hb hk (by rw [hp]; simp) (fun _ => rfl) (fun d K b V y => by rw [hp]; exact y) x sl
  | d3 =>
    rw [hp] at hj
    rcases GV.cases hj hr hl with hS | ⟨k, hk, x⟩
    · exact h.d3 hRes hi hb hp hS sl
    · exact h.soft hRes hi hb hk (by rw [hp]; simp) (fun _ => rfl) (fun d K b V y => by rw [hp]; exact y) x sl
  | d4 =>
    rw [hp] at hj
    rcases GV.cases hj hr hl with hS | ⟨k, hk, x⟩
    · exact h.d4 hRes hi hb hp hS sl
    · exact h.soft hRes hi hb hk (by rw [hp]; simp) (fun _ => rfl) (fun d K b V y => by rw [hp]; exact y) x sl
end
end Go.Proofs.Ytpolipcicfjkiaa.Cy
/- The machine's invariant over the caller's steps, but for the go statement and the end. Conditions: none. -/
namespace Go.Proofs.Ytpolipcicfjkiaa.Cy
open Go Go.Conc
open Go.ConcN (WgLive sumTo upd sumTo_upd upd_ne upd_same)
open Go.ConcR (KK wgBlock WgAt stA smA rd wr DC0)

section
variable {P : Program} {ty Wg n0 : Nat} {Anch : Goroutine → (Nat → Prop) → World → Prop} {FinM : Goroutine → (Nat → Prop) → World → Prop} {shp : Nat → Nat → Prop} {sc : Nat → Option Obj} {Res : Nat → (Nat → Prop) → World → Prop}
  {Shun : Loc → Prop} {w0 : World} {st : MSt} {cls : Nat → Cls} {rel : Nat → Option Nat} {ph : Nat → WPh} {q : Nat → Nat} {nm : Nat} {gs : Array Goroutine} {a : Goroutine} {w : World} {t : Trace}

theorem GV.casesM {main still : Bool} {St : Nat → (Nat → Prop) → Goroutine → World → World → Prop} {n d : Nat} {K : Nat → Prop} {g : Goroutine} {V w : World} (h : GV P main still ty Wg St n d K g V) (hr : Rel K V w) (hl : WgLive ty Wg w) :
    (St d K g V w ∧ GV P main still ty Wg St 0 d K g V) ∨ ∃ k, n = k + 1 ∧ g.status = .running ∧ ∃ g' w' V' es, stepG P main g w = .go g' w' es ∧ (Soft main Wg K V w V' w' es ∧ (still = true → w' = w ∧ ∀ e ∈ es, e.mute = true)) ∧ GV P main still ty Wg St k (deafBehind d es) K g' V' := by
  cases n with
  | zero => exact .inl ⟨h K V w (Ext.refl K V) hr hl, h⟩
  | succ n =>
    rcases h with h | ⟨h1, h⟩
    · exact .inl ⟨h K V w (Ext.refl K V) hr hl, h⟩
    · exact .inr ⟨n, rfl, h1, h K V w (Ext.refl K V) hr hl⟩

theorem RestI.mi0 {st' : MSt} {nm' : Nat} {mw : Bool} {a' : Goroutine}
    (h : RestI P ty Wg n0 Anch FinM shp sc Res Shun w0 st cls rel ph q nm 0 mw gs w t) (n0pos : 0 < n0) (n0le : n0 ≤ gs.size) (ha : gs[0]? = some a')
    (hmain : MainJ P ty Wg Anch FinM shp sc Res st' nm' (Deaf t 0) (Kf cls 0 w) a' (view cls 0 w)) (hrun : a'.status = .running ∨ ∃ g, ph g ≠ .left) (hact : ∀ g, ph g ≠ .left → n0 ≤ g ∧ g < gs.size)
    (hreln : ∀ g, ¬ (n0 ≤ g ∧ g < gs.size) → rel g = none) (htd : Tidy (view cls 0 w)) (hsp : Stand ty Wg n0 st' ph gs.size w) :
    MI P ty Wg n0 Anch FinM shp sc Res Shun w0 st' cls rel ph q nm' gs a' w t :=
  ⟨ha, hmain, hrun, fun g b hg hb => h.wk g b hg (by omega) hb, n0pos, n0le, hact, fun g h1 h2 => h.relw g h1 h2 (by omega), hreln, h.above, h.ti,
    fun g => if e : g = 0 then (by subst e; exact htd) else h.tidy g e, h.wgc, h.sh, hsp, h.os, h.out, h.tape, h.kept⟩

theorem MI.rel0 (h : MI P ty Wg n0 Anch FinM shp sc Res Shun w0 st cls rel ph q nm gs a w t) : rel 0 = none := h.reln 0 (by have := h.n0pos; omega)

/-- A step of the caller's. -/
theorem MI.mstep (hRes : ∀ j K V K₁ V₁, Res j K V → Ext K V K₁ V₁ → Res j K₁ V₁) (h : MI P ty Wg n0 Anch FinM shp sc Res Shun w0 st cls rel ph q nm gs a w t) {a' : Goroutine} {w' : World} {es : Array Event} {st' : MSt} {nm' : Nat}
    (hst : stepG P true a w = .go a' w' es) (hT : Turn cls 0 Wg w w') (hev : ∀ e ∈ es, OKop Wg 0 w'.heap.size (clsTo cls 0 w w') rel { g := 0, fn := a.frame.fn, pos := a.frame.place, act := .ofEvent e })
    (hJ : MainJ P ty Wg Anch FinM shp sc Res st' nm' (deafBehind (Deaf t 0) es) (Kf (clsTo cls 0 w w') 0 w') a' (view (clsTo cls 0 w w') 0 w')) (hrun : a'.status = .running ∨ ∃ g, ph g ≠ .left)
    (htd : Tidy (view (clsTo cls 0 w w') 0 w')) (hsp : Stand ty Wg n0 st' ph gs.size w')
    (hless : (st'.wt (sumTo gs.size fun g => (ph g).cnt) < st.wt (sumTo gs.size fun g => (ph g).cnt)) ∨ (st' = st ∧ nm' < nm)) (sl : Option (Nat × Nat)) :
    ∃ m' ops, runT P (crowd gs w sl) 0 = (.next m', ops) ∧ Adv P ty Wg n0 Anch FinM shp sc Res Shun w0 (mu1 st ph gs.size) (mu2 q gs.size nm) m' (t ++ ops) := by
  have hrunT := runT_crowd_go (P := P) (sl := sl) (i := 0) h.h0 (show stepG P (0 == 0) a w = _ from hst)
  obtain ⟨hsz, hgi, hRI⟩ := h.rest hRes (b' := a') (es := es) h.h0 (.inl (.inl rfl)) hT hev (fun e => absurd h.rel0 e)
  have hMI := hRI.mi0 (st' := st') (nm' := nm') h.n0pos (by rw [hsz]; exact h.n0le) hgi (by rw [Deaf_own]; exact hJ) hrun (fun g hg => by rw [hsz]; exact h.act g hg) (fun g hg => h.reln g (by rw [hsz] at hg; exact hg)) htd (by rw [hsz]; exact hsp)
  refine ⟨_, _, hrunT, _, _, _, _, _, _, _, _, _, _, rfl, hMI, ?_⟩
  rw [hsz]
  rcases hless with e | ⟨rfl, e⟩
  · left; unfold mu1; omega
  · right; exact ⟨rfl, by unfold mu2; omega⟩

/-- A soft one. -/
theorem MI.msoft (hRes : ∀ j K V K₁ V₁, Res j K V → Ext K V K₁ V₁ → Res j K₁ V₁) (h : MI P ty Wg n0 Anch FinM shp sc Res Shun w0 st cls rel ph q nm gs a w t) {k nm' : Nat} (hk : nm' < nm)
    {St : Nat → (Nat → Prop) → Goroutine → World → World → Prop} (hJ : ∀ d K b V, GV P true false ty Wg St k d K b V → MainJ P ty Wg Anch FinM shp sc Res st nm' d K b V) (hS1 : ∀ d K g V w, St d K g V w → g.status = .running)
    (hstep : ∃ g' w' V' es, stepG P true a w = .go g' w' es ∧ (Soft true Wg (Kf cls 0 w) (view cls 0 w) w V' w' es ∧ (false = true → w' = w ∧ ∀ e ∈ es, e.mute = true)) ∧ GV P true false ty Wg St k (deafBehind (Deaf t 0) es) (Kf cls 0 w) g' V') (sl : Option (Nat × Nat)) :
    ∃ m' ops, runT P (crowd gs w sl) 0 = (.next m', ops) ∧ Adv P ty Wg n0 Anch FinM shp sc Res Shun w0 (mu1 st ph gs.size) (mu2 q gs.size nm) m' (t ++ ops) := by
  obtain ⟨g', w', V', es, hst, ⟨hS, _⟩, hG⟩ := hstep
  obtain ⟨hT, hV, hVo⟩ := hS.turn
  have hwgs : w'.heap[Wg]? = w.heap[Wg]? := (hS.kept Wg ⟨h.wg_lt, by rw [h.wgc]; exact fun e => by cases e⟩).2
  have hGn : GV P true false ty Wg St k (deafBehind (Deaf t 0) es) (Kf (clsTo cls 0 w w') 0 w') g' (view (clsTo cls 0 w w') 0 w') := by
    rw [Kf_to 0 hT.size]
    exact hG.same hV.symm hVo.symm
  have hl' : WgLive ty Wg w' := by obtain ⟨x, y, hx⟩ := h.sp.live; exact ⟨x, y, hwgs.trans hx⟩
  refine h.mstep hRes hst hT (soft_ok (i := 0) (show Soft (0 == 0) Wg _ _ w V' w' es from hS) h.wgc h.wg_lt (.inl h.rel0) _ _) (hJ _ _ _ _ hGn) (.inl (hGn.running hS1 (view_rel _ 0 w') hl')) (fun x o ho => hS.tidy x o (by rw [hV]; exact ho)) (h.sp.congr hwgs) (.inr ⟨rfl, hk⟩) sl

/-- A step of the caller's at the group itself. -/
theorem MI.mset (hRes : ∀ j K V K₁ V₁, Res j K V → Ext K V K₁ V₁ → Res j K₁ V₁) (h : MI P ty Wg n0 Anch FinM shp sc Res Shun w0 st cls rel ph q nm gs a w t) {a' : Goroutine} {w' : World} {es : Array Event} {st' : MSt} {nm' : Nat}
    (hst : stepG P true a w = .go a' w' es) {x y : Int} (hw : WgAt ty Wg w x y) (hw' : w' = w ∨ ∃ ad v x' y', w' = w.setCell ad v ∧ ad.block = Wg ∧ WgAt ty Wg w' x' y')
    (hes : ∀ e ∈ es, (∃ wr, e = ⟨.cell (stA Wg), wr, true⟩ ∨ e = ⟨.cell (smA Wg), wr, true⟩) ∨ e = ⟨.mark .disable, false, true⟩ ∨ e = ⟨.mark .enable, false, true⟩)
    (hJ : ∀ V, V.heap = (view cls 0 w).heap → V.os = (view cls 0 w).os → MainJ P ty Wg Anch FinM shp sc Res st' nm' (deafBehind (Deaf t 0) es) (Kf cls 0 w) a' V) (hrun : a'.status = .running ∨ ∃ g, ph g ≠ .left)
    (hsp : Stand ty Wg n0 st' ph gs.size w')
    (hless : (st'.wt (sumTo gs.size fun g => (ph g).cnt) < st.wt (sumTo gs.size fun g => (ph g).cnt)) ∨ (st' = st ∧ nm' < nm)) (sl : Option (Nat × Nat)) :
    ∃ m' ops, runT P (crowd gs w sl) 0 = (.next m', ops) ∧ Adv P ty Wg n0 Anch FinM shp sc Res Shun w0 (mu1 st ph gs.size) (mu2 q gs.size nm) m' (t ++ ops) := by
  have hB : Wg < w'.heap.size := by
    rcases hw' with rfl | ⟨ad, v, x', y', rfl, _, hw'⟩
    · exact h.wg_lt
    · exact (Array.getElem?_eq_some_iff.1 hw').1
  have h1 : Turn cls 0 Wg w w' ∧ clsTo cls 0 w w' = cls ∧ ((view cls 0 w').heap = (view cls 0 w).heap ∧ Kf cls 0 w' = Kf cls 0 w) := by
    rcases hw' with rfl | ⟨ad, v, x', y', rfl, ha, hw'⟩
    · exact ⟨turn_refl 0, clsTo_refl 0, rfl, rfl⟩
    · exact ⟨turn_wg hw hw' ha h.wgc, clsTo_set ad v, view_set hw hw' ha h.wgc⟩
  refine h.mstep hRes (st' := st') (nm' := nm') hst h1.1 (fun e he => ?_) ?_ hrun ?_ hsp hless sl
  · rw [h1.2.1]
    rcases hes e he with x | rfl | rfl
    · exact wg_ok x hB _ _
    · exact ⟨rfl, trivial, by simp [MemAct.ofEvent], fun x hx => by simp [MemAct.ofEvent, MemAct.touch?] at hx⟩
    · exact ⟨rfl, trivial, by simp [MemAct.ofEvent], fun x hx => by simp [MemAct.ofEvent, MemAct.touch?] at hx⟩
  · rw [h1.2.1, h1.2.2.2]
    exact hJ _ h1.2.2.1 h1.1.os
  · rw [h1.2.1]
    exact fun x o ho => h.tidy 0 x o (by rw [← h1.2.2.1]; exact ho)

/-- A judgement's world need not be the machine's own. -/
theorem GV.live {main still : Bool} {St : Nat → (Nat → Prop) → Goroutine → World → World → Prop} {n d : Nat} {K : Nat → Prop} {g : Goroutine} {V : World} (h : GV P main still ty Wg St n d K g V) (hr : Rel K V w) (hl : WgLive ty Wg w) (hS1 : ∀ d K g V w, St d K g V w → g.status = .running) : g.status = .running :=
  h.running hS1 hr hl

/-- Add(1)'s step. -/
theorem MI.minc (hRes : ∀ j K V K₁ V₁, Res j K V → Ext K V K₁ V₁ → Res j K₁ V₁) {s : Nat} (h : MI P ty Wg n0 Anch FinM shp sc Res Shun w0 (.inc s) cls rel ph q nm gs a w t) {Next : Nat → (Nat → Prop) → Goroutine → World → World → Prop}
    (hS : MInc P ty Wg Next (Deaf t 0) (Kf cls 0 w) a (view cls 0 w) w) (hJ : ∀ m d K b V, GV P true false ty Wg Next m d K b V → MainJ P ty Wg Anch FinM shp sc Res (.go s) m d K b V) (hS1 : ∀ d K g V w, Next d K g V w → g.status = .running) (sl : Option (Nat × Nat)) :
    ∃ m' ops, runT P (crowd gs w sl) 0 = (.next m', ops) ∧ Adv P ty Wg n0 Anch FinM shp sc Res Shun w0 (mu1 (.inc s) ph gs.size) (mu2 q gs.size nm) m' (t ++ ops) := by
  obtain ⟨hd, _, hS⟩ := hS
  obtain ⟨h1, h2, h3, h4⟩ := id h.sp
  have hc := sum_two h.sp.n_le h.act
  obtain ⟨g', hst, m, hG⟩ := hS _ (by omega) h4
  have hat' := h4.setSt (((sumTo gs.size fun g => (ph g).cnt) + 1 : Nat) * KK)
  have ew : ∀ g, (ph g).low → True := fun _ _ => trivial
  refine h.mset hRes (st' := .go s) (nm' := m) hst h4 (.inr ⟨_, _, _, _, rfl, rfl, h4.setSt _⟩) (fun e he => ?_) (fun V e1 e2 => ?_) (.inl (hG.running hS1 (view_rel cls 0 w) h.sp.live)) ⟨h1, h2, h3, by simpa using hat'⟩ (.inl (by cases s <;> simp [MSt.wt])) sl
  · simp at he
    rcases he with rfl | rfl
    · exact .inl ⟨_, .inl rfl⟩
    · exact .inl ⟨_, .inl rfl⟩
  · rw [hd]
    exact hJ _ _ _ _ _ (hG.same e1 e2)

/-- Wait's look at the word. -/
theorem MI.mload (hRes : ∀ j K V K₁ V₁, Res j K V → Ext K V K₁ V₁ → Res j K₁ V₁) (h : MI P ty Wg n0 Anch FinM shp sc Res Shun w0 .load cls rel ph q nm gs a w t)
    (hS : MLoad P ty Wg Anch FinM (Deaf t 0) (Kf cls 0 w) a (view cls 0 w) w) (sl : Option (Nat × Nat)) :
    ∃ m' ops, runT P (crowd gs w sl) 0 = (.next m', ops) ∧ Adv P ty Wg n0 Anch FinM shp sc Res Shun w0 (mu1 .load ph gs.size) (mu2 q gs.size nm) m' (t ++ ops) := by
  obtain ⟨hd, _, hS⟩ := hS
  obtain ⟨h1, h3, h4⟩ := id h.sp
  have hc := sum_two h.sp.n_le h.act
  obtain ⟨g', hst, hA, hB⟩ := hS _ (by omega) h4
  have he : ∀ e ∈ (#[rd (stA Wg)] : Array Event), (∃ wr, e = ⟨.cell (stA Wg), wr, true⟩ ∨ e = ⟨.cell (smA Wg), wr, true⟩) ∨ e = ⟨.mark .disable, false, true⟩ ∨ e = ⟨.mark .enable, false, true⟩ := fun e he => by
    simp at he
    subst he
    exact .inl ⟨_, .inl rfl⟩
  by_cases hz : (sumTo gs.size fun g => (ph g).cnt) = 0
  · obtain ⟨m, hG⟩ := hA hz
    have hall : ∀ j, ph j = .left := fun j => by
      apply Classical.byContradiction
      intro e
      have hle : (ph j).cnt ≤ _ := le_sum (fun g => (ph g).cnt) (h.act j e).2
      have h0 : (ph j).cnt = 0 := by omega
      have hl := h3 j
      cases hh : ph j <;> rw [hh] at hl e h0 <;> first | exact hl.elim | exact e rfl | cases h0
    refine h.mset hRes (st' := .acq) (nm' := m) hst h4 (.inl rfl) he (fun V e1 e2 => ?_) (.inl (hG.running (fun _ _ _ _ _ x => x.2.1) (view_rel cls 0 w) h.sp.live)) ⟨h1, hall, by rw [hz] at h4; simpa using h4⟩ (.inl (by simp [MSt.wt])) sl
    rw [hd]
    exact (hG.same e1 e2 : GV P true false ty Wg (MAcq P Wg FinM) m 1 (Kf cls 0 w) g' V)
  · obtain ⟨m, hG⟩ := hB hz
    refine h.mset hRes (st' := .cas (sumTo gs.size fun g => (ph g).cnt)) (nm' := m) hst h4 (.inl rfl) he (fun V e1 e2 => ?_) (.inl (hG.running (fun _ _ _ _ _ x => x.2.1) (view_rel cls 0 w) h.sp.live)) ⟨h1, h3, h4⟩ (.inl (by simp [MSt.wt])) sl
    rw [hd]
    exact (hG.same e1 e2 : GV P true false ty Wg (MCas P ty Wg Anch FinM _) m 1 (Kf cls 0 w) g' V)

/-- Wait enrols, or finds the word changed. -/
theorem MI.mcas (hRes : ∀ j K V K₁ V₁, Res j K V → Ext K V K₁ V₁ → Res j K₁ V₁) {vs : Nat} (h : MI P ty Wg n0 Anch FinM shp sc Res Shun w0 (.cas vs) cls rel ph q nm gs a w t)
    (hS : MCas P ty Wg Anch FinM vs (Deaf t 0) (Kf cls 0 w) a (view cls 0 w) w) (sl : Option (Nat × Nat)) :
    ∃ m' ops, runT P (crowd gs w sl) 0 = (.next m', ops) ∧ Adv P ty Wg n0 Anch FinM shp sc Res Shun w0 (mu1 (.cas vs) ph gs.size) (mu2 q gs.size nm) m' (t ++ ops) := by
  obtain ⟨hd, _, hv0, hS⟩ := hS
  obtain ⟨h1, h3, h4⟩ := id h.sp
  have hc := sum_two h.sp.n_le h.act
  obtain ⟨hA, hB⟩ := hS _ (by omega) h4
  by_cases hz : (sumTo gs.size fun g => (ph g).cnt) = vs
  · obtain ⟨g', hst, m, hG⟩ := hA hz
    have hat' := h4.setSt ((sumTo gs.size fun g => (ph g).cnt) * KK + 1)
    refine h.mset hRes (st' := .sem) (nm' := m + 1) hst h4 (.inr ⟨_, _, _, _, rfl, rfl, hat'⟩) (fun e he => ?_) (fun V e1 e2 => ?_) (.inl (hG.running (fun _ _ _ _ _ x => x.2.1) (view_rel cls 0 w) h.sp.live)) ⟨h1, .inl ⟨h3, by omega, hat'⟩⟩ (.inl (by simp [MSt.wt, hz])) sl
    · simp at he
      rcases he with rfl | rfl
      · exact .inl ⟨_, .inl rfl⟩
      · exact .inl ⟨_, .inl rfl⟩
    · rw [hd]
      exact .inl ⟨m, rfl, (hG.same e1 e2 : GV P true false ty Wg (MSem P ty Wg FinM) m 1 (Kf cls 0 w) g' V)⟩
  · obtain ⟨g', hst, m, hG⟩ := hB hz
    refine h.mset hRes (st' := .anch) (nm' := m) hst h4 (.inl rfl) (fun e he => ?_) (fun V e1 e2 => ?_) (.inl (hG.running (fun _ _ _ _ _ x => x.2.1) (view_rel cls 0 w) h.sp.live)) ⟨h1, h3, h4⟩ (.inl (by simp [MSt.wt, Ne.symm hz])) sl
    · simp at he
      subst he
      exact .inl ⟨_, .inl rfl⟩
    · rw [hd]
      exact (hG.same e1 e2 : GV P true false ty Wg (MAnch Anch) m 1 (Kf cls 0 w) g' V)

/-- Wait at the semaphore. -/
theorem MI.msem (hRes : ∀ j K V K₁ V₁, Res j K V → Ext K V K₁ V₁ → Res j K₁ V₁) (h : MI P ty Wg n0 Anch FinM shp sc Res Shun w0 .sem cls rel ph q nm gs a w t) {k : Nat} (hk : nm = k + 1)
    (hS : MSem P ty Wg FinM (Deaf t 0) (Kf cls 0 w) a (view cls 0 w) w) (hG0 : GV P true false ty Wg (MSem P ty Wg FinM) 0 (Deaf t 0) (Kf cls 0 w) a (view cls 0 w)) (sl : Option (Nat × Nat)) :
    ∃ m' ops, runT P (crowd gs w sl) 0 = (.next m', ops) ∧ Adv P ty Wg n0 Anch FinM shp sc Res Shun w0 (mu1 .sem ph gs.size) (mu2 q gs.size nm) m' (t ++ ops) := by
  obtain ⟨hd, hr1, hr2, hA, hB⟩ := hS
  have sleep : (∃ st, WgAt ty Wg w st 0) → (∃ g, ph g ≠ .left) → ∃ m' ops, runT P (crowd gs w sl) 0 = (.next m', ops) ∧ Adv P ty Wg n0 Anch FinM shp sc Res Shun w0 (mu1 .sem ph gs.size) (mu2 q gs.size nm) m' (t ++ ops) := fun hz hg => by
    refine h.mset hRes (st' := .sem) (nm' := 0) (hA hz) hz.choose_spec (.inl rfl) (fun e he => by simp at he) (fun V e1 e2 => ?_) (.inr hg) h.sp (.inr ⟨rfl, by omega⟩) sl
    exact .inr ⟨rfl, a, hr1, hr2, rfl, hG0.same e1 e2⟩
  obtain ⟨h1, ⟨h4, h5, h6⟩ | ⟨g, h4, h5, h6⟩ | ⟨g, h4, h5, h6⟩ | ⟨h4, h6⟩⟩ := id h.sp
  · refine sleep ⟨_, h6⟩ ?_
    apply Classical.byContradiction
    intro hno
    have hz : (sumTo gs.size fun g => (ph g).cnt) = sumTo gs.size fun _ => 0 := Go.ConcN.sumTo_congr fun g _ => by
      have : ph g = .left := Classical.byContradiction fun e => hno ⟨g, e⟩
      rw [this]; rfl
    have h0 : ∀ n, (sumTo n fun _ => 0) = 0 := fun n => by induction n with
      | zero => rfl
      | succ n ih => simp [sumTo, ih]
    rw [hz, h0] at h5
    omega
  · exact sleep ⟨_, h6⟩ ⟨g, by rcases h4 with e | e <;> rw [e] <;> simp⟩
  · exact sleep ⟨_, h6⟩ ⟨g, by rw [h4]; simp⟩
  · obtain ⟨g', hst, m, hG⟩ := hB h6
    have hat' := h6.setSm 0
    refine h.mset hRes (st' := .last) (nm' := m) hst h6 (.inr ⟨_, _, _, _, rfl, rfl, hat'⟩) (fun e he => ?_) (fun V e1 e2 => ?_) (.inl (hG.running (fun _ _ _ _ _ x => x.2.1) (view_rel cls 0 w) h.sp.live)) ⟨h1, h4, hat'⟩ (.inl (by simp [MSt.wt])) sl
    · simp [semEvents] at he
      rcases he with rfl | rfl | rfl | rfl
      · exact .inr (.inl rfl)
      · exact .inl ⟨_, .inr rfl⟩
      · exact .inl ⟨_, .inr rfl⟩
      · exact .inr (.inr rfl)
    · have : deafBehind (Deaf t 0) (semEvents (smA Wg)) = 1 := by rw [hd]; rfl
      rw [this]
      exact (hG.same e1 e2 : GV P true false ty Wg (MLast P ty Wg FinM) m 1 (Kf cls 0 w) g' V)

/-- Wait's last look. -/
theorem MI.mlast (hRes : ∀ j K V K₁ V₁, Res j K V → Ext K V K₁ V₁ → Res j K₁ V₁) (h : MI P ty Wg n0 Anch FinM shp sc Res Shun w0 .last cls rel ph q nm gs a w t)
    (hS : MLast P ty Wg FinM (Deaf t 0) (Kf cls 0 w) a (view cls 0 w) w) (sl : Option (Nat × Nat)) :
    ∃ m' ops, runT P (crowd gs w sl) 0 = (.next m', ops) ∧ Adv P ty Wg n0 Anch FinM shp sc Res Shun w0 (mu1 .last ph gs.size) (mu2 q gs.size nm) m' (t ++ ops) := by
  obtain ⟨hd, _, hS⟩ := hS
  obtain ⟨h1, h3, h4⟩ := id h.sp
  obtain ⟨g', hst, m, hG⟩ := hS h4
  refine h.mset hRes (st' := .acq) (nm' := m) hst h4 (.inl rfl) (fun e he => ?_) (fun V e1 e2 => ?_) (.inl (hG.running (fun _ _ _ _ _ x => x.2.1) (view_rel cls 0 w) h.sp.live)) ⟨h1, h3, h4⟩ (.inl (by simp [MSt.wt])) sl
  · simp at he
    subst he
    exact .inl ⟨_, .inl rfl⟩
  · rw [hd]
    exact (hG.same e1 e2 : GV P true false ty Wg (MAcq P Wg FinM) m 1 (Kf cls 0 w) g' V)
end
end Go.Proofs.Ytpolipcicfjkiaa.Cy

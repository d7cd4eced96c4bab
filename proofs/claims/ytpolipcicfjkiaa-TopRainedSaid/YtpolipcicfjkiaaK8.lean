/- One goroutine's own steps in company, in its view: soft steps; out of a walk in the view, and out of a walk that looks at the group alone. Conditions: none. -/
import Derived.Test.YtpolipcicfjkiaaK6
import Derived.Test.YtpolipcicfjkiaaK7
namespace Go.Proofs.Ytpolipcicfjkiaa.Cy
open Go Go.Conc
open Go.ConcN (WgLive)
open Go.ConcR (stA smA rd wr mk DC0)

/-- The others have pushed blocks: they are kept from the view. -/
structure Ext (K : Nat → Prop) (V : World) (K₁ : Nat → Prop) (V₁ : World) : Prop where
  size : V.heap.size ≤ V₁.heap.size
  old : ∀ b, b < V.heap.size → V₁.heap[b]? = V.heap[b]?
  keep : ∀ b, K₁ b ↔ K b ∨ (V.heap.size ≤ b ∧ b < V₁.heap.size)
  os : V₁.os = V.os

def Env (V V₁ : World) : Prop := V.heap.size ≤ V₁.heap.size ∧ (∀ b, b < V.heap.size → V₁.heap[b]? = V.heap[b]?) ∧ V₁.os = V.os

theorem Env.refl (V : World) : Env V V := ⟨Nat.le_refl _, fun _ _ => rfl, rfl⟩
theorem Env.trans (a b c : World) (h : Env a b) (k : Env b c) : Env a c := ⟨Nat.le_trans h.1 k.1, fun i hi => (k.2.1 i (Nat.lt_of_lt_of_le hi h.1)).trans (h.2.1 i hi), k.2.2.trans h.2.2⟩
theorem Ext.refl (K : Nat → Prop) (V : World) : Ext K V K V := ⟨Nat.le_refl _, fun _ _ => rfl, fun b => ⟨.inl, fun h => h.elim id fun x => absurd x.2 (by omega)⟩, rfl⟩
theorem Ext.trans {K K₁ K₂ : Nat → Prop} {V V₁ V₂ : World} (h : Ext K V K₁ V₁) (k : Ext K₁ V₁ K₂ V₂) : Ext K V K₂ V₂ := by
  have e1 := h.size
  have e2 := k.size
  refine ⟨Nat.le_trans e1 e2, fun i hi => (k.old i (by omega)).trans (h.old i hi), fun b => ?_, k.os.trans h.os⟩
  rw [k.keep, h.keep]
  constructor
  · rintro ((h | h) | h)
    · exact .inl h
    · exact .inr ⟨h.1, by omega⟩
    · exact .inr ⟨by omega, h.2⟩
  · rintro (h | h)
    · exact .inl (.inl h)
    · by_cases hb : b < V₁.heap.size
      · exact .inl (.inr ⟨h.1, hb⟩)
      · exact .inr ⟨by omega, h.2⟩
theorem Ext.env {K K₁ : Nat → Prop} {V V₁ : World} (h : Ext K V K₁ V₁) (t : Nat → Question → Nat) : Env V (onTape V₁ t) := ⟨h.size, h.old, h.os⟩

/-- An atomic or a said touch of the group's. -/
def WgEv (Wg : Nat) (main : Bool) (e : Event) : Prop := ∃ x, (MemAct.ofEvent e).touch? = some x ∧ (∃ a : Addr, x.loc = .cell a ∧ a.block = Wg) ∧ x.kind ≠ .plain ∧ (main = false → x.kind ≠ .said)

/-- What stands in a block of a goroutine's own is a row, a loop or its deferred calls, and stays that. -/
inductive Like : Obj → Obj → Prop
  | cells (c c' : Array Value) (e : TypeId) (fr : Nat × Nat) : Like (.cells c e fr) (.cells c' e fr)
  | loop (l l' : Loop) : Like (.loop l) (.loop l')
  | deferred (d d' : Option (List Deferred)) : Like (.deferred d) (.deferred d')

structure Own (V V' : World) : Prop where
  size : V.heap.size ≤ V'.heap.size
  old : ∀ b, b < V.heap.size → V'.heap[b]? = V.heap[b]? ∨ ∃ o o', V.heap[b]? = some o ∧ V'.heap[b]? = some o' ∧ Like o o'
  new : ∀ b, V.heap.size ≤ b → b < V'.heap.size → ∃ o, V'.heap[b]? = some o ∧ Like o o

theorem Own.refl (V : World) : Own V V := ⟨Nat.le_refl _, fun _ _ => .inl rfl, fun b h1 h2 => absurd h2 (by omega)⟩

/-- What a soft step may list. -/
def SoftEv (K : Nat → Prop) (V : World) (Wg : Nat) (main : Bool) (e : Event) : Prop :=
  (EvOK K V e ∧ ∀ r, e.loc = .obj r → ¬ K r) ∨ e.mute = true ∨ WgEv Wg main e

structure Soft (main : Bool) (Wg : Nat) (K : Nat → Prop) (V w V' w' : World) (es : Array Event) : Prop where
  rel : Rel K V' w'
  tidy : Tidy V'
  own : Own V V'
  kept : ∀ b, K b → V'.heap[b]? = V.heap[b]? ∧ w'.heap[b]? = w.heap[b]?
  ev : ∀ e ∈ es, SoftEv K V' Wg main e
  os : w'.os = w.os
  out : w'.output = w.output
  tape : w'.tape = w.tape

/-- WITHIN n SOFT STEPS OF ITS OWN g COMES TO A STOP, whatever blocks the others push meanwhile. d: how deaf it is. -/
def GV (P : Program) (main still : Bool) (ty Wg : Nat) (St : Nat → (Nat → Prop) → Goroutine → World → World → Prop) : Nat → Nat → (Nat → Prop) → Goroutine → World → Prop
  | 0, d, K, g, V => ∀ K₁ V₁ w, Ext K V K₁ V₁ → Rel K₁ V₁ w → WgLive ty Wg w → St d K₁ g V₁ w
  | n + 1, d, K, g, V => (∀ K₁ V₁ w, Ext K V K₁ V₁ → Rel K₁ V₁ w → WgLive ty Wg w → St d K₁ g V₁ w) ∨
      (g.status = .running ∧ ∀ K₁ V₁ w, Ext K V K₁ V₁ → Rel K₁ V₁ w → WgLive ty Wg w →
        ∃ g' w' V' es, stepG P main g w = .go g' w' es ∧ (Soft main Wg K₁ V₁ w V' w' es ∧ (still = true → w' = w ∧ ∀ e ∈ es, e.mute = true)) ∧ GV P main still ty Wg St n (deafBehind d es) K₁ g' V')

section
variable {P : Program} {main still : Bool} {ty Wg : Nat} {St : Nat → (Nat → Prop) → Goroutine → World → World → Prop}

theorem GV.ext {n d : Nat} {K K₁ : Nat → Prop} {g : Goroutine} {V V₁ : World} (h : GV P main still ty Wg St n d K g V) (e : Ext K V K₁ V₁) : GV P main still ty Wg St n d K₁ g V₁ := by
  cases n with
  | zero => exact fun K₂ V₂ w e2 => h K₂ V₂ w (e.trans e2)
  | succ n =>
    rcases h with h | ⟨hs, h⟩
    · exact .inl fun K₂ V₂ w e2 => h K₂ V₂ w (e.trans e2)
    · exact .inr ⟨hs, fun K₂ V₂ w e2 => h K₂ V₂ w (e.trans e2)⟩

theorem GV.stop {n d : Nat} {K : Nat → Prop} {g : Goroutine} {V : World} (h : ∀ K₁ V₁ w, Ext K V K₁ V₁ → Rel K₁ V₁ w → WgLive ty Wg w → St d K₁ g V₁ w) : GV P main still ty Wg St n d K g V := by
  cases n with
  | zero => exact h
  | succ n => exact .inl h

theorem GV.more : ∀ {i d : Nat} {K : Nat → Prop} {g : Goroutine} {V : World}, GV P main still ty Wg St i d K g V → GV P main still ty Wg St (i + 1) d K g V
  | 0, _, _, _, _, h => .inl h
  | i + 1, d, K, g, V, h => by
    rcases h with h | ⟨hs, h⟩
    · exact .inl h
    · refine .inr ⟨hs, fun K₁ V₁ w e r l => ?_⟩
      obtain ⟨g', w', V', es, h1, h2, h3⟩ := h K₁ V₁ w e r l
      exact ⟨g', w', V', es, h1, h2, GV.more h3⟩

theorem GV.mono {n n' d : Nat} {K : Nat → Prop} {g : Goroutine} {V : World} (h : GV P main still ty Wg St n d K g V) (hn : n ≤ n') : GV P main still ty Wg St n' d K g V := by
  induction hn with
  | refl => exact h
  | step _ ih => exact ih.more

/-- At a stop one may go on. -/
theorem GV.then {St' : Nat → (Nat → Prop) → Goroutine → World → World → Prop} {m : Nat} : ∀ {n d : Nat} {K : Nat → Prop} {g : Goroutine} {V : World}, GV P main still ty Wg St n d K g V →
    (∀ d K g V, (∀ K₁ V₁ w, Ext K V K₁ V₁ → Rel K₁ V₁ w → WgLive ty Wg w → St d K₁ g V₁ w) → GV P main still ty Wg St' m d K g V) → GV P main still ty Wg St' (n + m) d K g V
  | 0, d, K, g, V, h, k => by rw [Nat.zero_add]; exact k d K g V h
  | n + 1, d, K, g, V, h, k => by
    rcases h with h | ⟨hs, h⟩
    · exact (k d K g V h).mono (by omega)
    · have e : n + 1 + m = (n + m) + 1 := by omega
      rw [e]
      refine .inr ⟨hs, fun K₁ V₁ w e r l => ?_⟩
      obtain ⟨g', w', V', es, h1, h2, h3⟩ := h K₁ V₁ w e r l
      exact ⟨g', w', V', es, h1, h2, GV.then h3 k⟩
end

/-! ### out of a walk that looks at the group alone -/
section
variable {P : Program} {main still : Bool} {ty Wg : Nat} {St : Nat → (Nat → Prop) → Goroutine → World → World → Prop}

theorem soft_still {K : Nat → Prop} {V w : World} {es : Array Event} (hr : Rel K V w) (ht : Tidy V) (h : ∀ e ∈ es, SoftEv K V Wg main e) : Soft main Wg K V w V w es :=
  ⟨hr, ht, Own.refl _, fun _ _ => ⟨rfl, rfl⟩, h, rfl, rfl, rfl⟩

theorem Tidy.ext {K K₁ : Nat → Prop} {V V₁ : World} (h : Tidy V) (e : Ext K V K₁ V₁) {w : World} (hr : Rel K₁ V₁ w) : Tidy V₁ := by
  intro b o ho
  by_cases hb : b < V.heap.size
  · rw [e.old b hb] at ho; exact h b o ho
  · have hlt := (Array.getElem?_eq_some_iff.1 ho).1
    obtain ⟨x, x', hx, _, hd⟩ := hr.dim b ((e.keep b).2 (.inr ⟨by omega, hlt⟩))
    rw [ho] at hx
    cases hx
    cases hd with
    | view a b t u h => exact h
    | keep o hk => cases o <;> simp at hk <;> trivial
    | _ => trivial

/-- Steps that turn nothing and list nothing, to a stop at which one goes on. -/
theorem gv_gs {S : Goroutine → World → Prop} {m d : Nat} :
    ∀ (n : Nat) (g : Goroutine) (w₀ : World) (K : Nat → Prop) (V : World), (∀ g K₁ V₁, Ext K V K₁ V₁ → Tidy V₁ → (∀ w, WgLive ty Wg w → S g w) → GV P main still ty Wg St m d K₁ g V₁) →
      Tidy V → WgLive ty Wg w₀ → Goes P main (RS ty Wg) DC0 S n g w₀ → GV P main still ty Wg St (n + m) d K g V
  | 0, g, w₀, K, V, hS, ht, _, h => by rw [Nat.zero_add]; exact hS g K V (Ext.refl K V) ht fun w hl => h w fun _ => hl
  | n + 1, g, w₀, K, V, hS, ht, hl0, h => by
    rcases h with h | ⟨hs, h⟩
    · exact (hS g K V (Ext.refl K V) ht fun w hl => h w fun _ => hl).mono (by omega)
    · have e : n + 1 + m = (n + m) + 1 := by omega
      rw [e]
      refine .inr ⟨hs, fun K₁ V₁ w e r l => ?_⟩
      have := h w fun _ => l
      revert this
      cases hst : stepG P main g w <;> first | exact fun h => h.elim | skip
      rename_i g' w' es
      rintro ⟨⟨rfl, rfl⟩, hg⟩
      exact ⟨g', w', V₁, #[], rfl, ⟨soft_still r (ht.ext e r) (by simp), fun _ => ⟨rfl, by simp⟩⟩, gv_gs n g' w' K₁ V₁ (fun g K₂ V₂ e2 => hS g K₂ V₂ (e.trans e2)) (ht.ext e r) l hg⟩

/-- A mark that is set on the way. -/
theorem gv_mk {mk0 : Mark} {Next : Goroutine → World → Prop} {m d : Nat} (hm : ∀ K V, SoftEv K V Wg main ⟨.mark mk0, false, true⟩) (hms : still = true → (⟨.mark mk0, false, true⟩ : Event).mute = true)
    (g : Goroutine) (K : Nat → Prop) (V : World) (hN : ∀ g w K₁ V₁, Ext K V K₁ V₁ → Tidy V₁ → WgLive ty Wg w → Next g w → GV P main still ty Wg St m (deafBehind d #[⟨.mark mk0, false, true⟩]) K₁ g V₁) (ht : Tidy V)
    (h : ∀ w, WgLive ty Wg w → AtMk P main mk0 Next g w) (hlive : ∃ w, WgLive ty Wg w) : GV P main still ty Wg St (m + 1) d K g V := by
  obtain ⟨w0, hw0⟩ := hlive
  refine .inr ⟨(h w0 hw0).1, fun K₁ V₁ w e r l => ?_⟩
  obtain ⟨_, g', hst, hn⟩ := h w l
  refine ⟨g', w, V₁, _, hst, ⟨soft_still r (ht.ext e r) (fun x hx => ?_), fun es => ⟨rfl, fun x hx => ?_⟩⟩, hN g' w K₁ V₁ e (ht.ext e r) l hn⟩
  · rw [Array.mem_singleton] at hx
    subst hx
    exact hm _ _
  · rw [Array.mem_singleton] at hx
    subst hx
    exact hms es
end

/-! ### out of a walk in the view -/
section
variable {T : Tables} {F1 F2 : Array Func} {main : Bool} {ty Wg : Nat} {St : Nat → (Nat → Prop) → Goroutine → World → World → Prop}

/-- No object but loops and their deferred calls is looked at; what is one's own stays of its kind. -/
def DN (V V' : World) (es : Array Event) : Prop := Own V V' ∧ ∀ e ∈ es, ∀ r, e.loc = .obj r → ∃ o, V'.heap[r]? = some o ∧ ((∃ l, o = .loop l) ∨ ∃ d, o = .deferred d)

theorem DN.own {K : Nat → Prop} {V V' w' : World} {es : Array Event} (h : DN V V' es) (hr : Rel K V' w') {e : Event} (he : e ∈ es) {r : Nat} (hl : e.loc = .obj r) : ¬ K r := by
  intro hk
  obtain ⟨o, ho, ht⟩ := h.2 e he r hl
  obtain ⟨x, x', hx, _, hd⟩ := hr.dim r hk
  rw [ho] at hx
  cases hx
  cases hd with
  | keep o h2 => rcases ht with ⟨l, rfl⟩ | ⟨d, rfl⟩ <;> simp at h2
  | _ => rcases ht with ⟨l, e⟩ | ⟨d, e⟩ <;> cases e

/-- A walk in the view that has been given up comes to no stop. -/
theorem lost_goes {S : Goroutine → World → Prop} (hS : ∀ g V, S g V → ∀ ch, g.frame.mode ≠ .panicking ch) : ∀ (n : Nat) (fr : Frame) (fs : List Frame) (V : World), Lost F1 fr → (∀ f ∈ fs, Dl F1 f) → Tidy V →
    ¬ Goes (Program.mk T F1) main Env DN S n (G fr (fs ++ [trap])) V
  | 0, fr, fs, V, hl, _, _, h => by
    obtain ⟨ch, hc⟩ := hl.mode
    exact hS _ _ (h V (Env.refl V)) ch hc
  | n + 1, fr, fs, V, hl, hfs, hv, h => by
    rcases h with h | ⟨_, h⟩
    · obtain ⟨ch, hc⟩ := hl.mode
      exact hS _ _ (h V (Env.refl V)) ch hc
    · have h := h V (Env.refl V)
      rcases lost_step (T := T) hl hfs hv main with ⟨o, w, es, he⟩ | ⟨f2, l2, v2, es, h1, h2, h3, he⟩ | ⟨ch, he⟩
      · rw [he] at h; exact h
      · rw [he] at h
        exact lost_goes hS n f2 l2 v2 h1 h2 h3 h.2
      · rw [he] at h
        have h := h.2
        cases n with
        | zero => exact hS _ _ (h V (Env.refl V)) ch rfl
        | succ n =>
          rcases h with h | ⟨_, h⟩
          · exact hS _ _ (h V (Env.refl V)) ch rfl
          · have h := h V (Env.refl V)
            have he : ∃ o w' es', stepG (Program.mk T F1) main (G (trap.raise ch) []) V = .ended o w' es' := ⟨_, _, _, rfl⟩
            obtain ⟨o, w', es', he⟩ := he
            rw [he] at h
            exact h

/-- Where a walk in the view stops, over whatever lies below. -/
def StopOn (S : Frame → List Frame → World → Prop) (b : List Frame) (g : Goroutine) (V : World) : Prop := ∃ fr fs, g = G fr (fs ++ b) ∧ S fr fs V

theorem StopOn.here {S : Frame → List Frame → World → Prop} {b : List Frame} {fr : Frame} {fs : List Frame} {V : World} (h : StopOn S b (G fr (fs ++ b)) V) : S fr fs V := by
  obtain ⟨fr', fs', e, h⟩ := h
  simp only [G, Goroutine.mk.injEq] at e
  obtain ⟨rfl, e, _⟩ := e
  have := List.append_cancel_right e
  subst this
  exact h

/-- A deferred call that nobody can make ends the run. -/
theorem dead_ends {fr : Frame} {base : List Frame} {d : Deferred} {ds : List Deferred} (hm : fr.mode = .returning) (hd : fr.defers = d :: ds) (h : Dead F1 d) (V : World) : ∃ o w es, stepG (Program.mk T F1) main (G fr base) V = .ended o w es := by
  obtain ⟨fn, tmps, todo, defers, mode, kind, roundOf⟩ := fr
  simp only at hm hd
  subst hm hd
  obtain ⟨f, c, x, hb, h1, hs⟩ := h
  obtain ⟨tg, args⟩ := d
  simp only at hb
  subst hb
  have hi : ∃ es, (invoke (.fn (.func f) c) args).runT (Program.mk T F1) V #[] = (.halt (.unsupported (.extern x.name)) V, es) := by
    unfold invoke
    exact callFunc_shut (T := T) h1 hs _ V
  obtain ⟨es, hi⟩ := hi
  have hun : stepG (Program.mk T F1) main (G ⟨fn, tmps, todo, ⟨.fn (.func f) c, args⟩ :: ds, .returning, kind, roundOf⟩ base) V = unwind (Program.mk T F1) main ⟨fn, tmps, todo, ⟨.fn (.func f) c, args⟩ :: ds, .returning, kind, roundOf⟩ base none V := by simp [stepG, G]
  rw [hun]
  exact ⟨_, _, _, by
    unfold unwind
    simp only
    unfold callDeferred
    simp only [hi, Bool.false_and, Bool.false_eq_true, if_false]
    rfl⟩

/-- ████ A WALK IN THE VIEW IS ONE OF SOFT STEPS. ████ 'base': what lies below. -/
theorem gv_quiet [FlatEqs T] (hF : Shut' F1 F2) {S : Frame → List Frame → World → Prop} (hS : ∀ fr fs V, S fr fs V → ∀ ch, fr.mode ≠ .panicking ch) {B : Bool} {base : List Frame} {m d : Nat}
    (hN : ∀ fr fs K V, Tame F1 F2 B fr fs → Tidy V → (∀ V₁, Env V V₁ → S fr fs V₁) → GV (Program.mk T F2) main false ty Wg St m d K (G fr (fs ++ base)) V) :
    ∀ (n : Nat) (fr : Frame) (fs : List Frame) (K : Nat → Prop) (V : World), Tame F1 F2 B fr fs → Tidy V →
      (∀ b, Goes (Program.mk T F1) main Env DN (StopOn S b) n (G fr (fs ++ b)) V) → GV (Program.mk T F2) main false ty Wg St (n + m) d K (G fr (fs ++ base)) V
  | 0, fr, fs, K, V, ht, hv, h => by
    rw [Nat.zero_add]
    exact hN fr fs K V ht hv fun V₁ e => (h base V₁ e).here
  | n + 1, fr, fs, K, V, ht, hv, h => by
    by_cases hst : ∀ V₁, Env V V₁ → S fr fs V₁
    · exact (hN fr fs K V ht hv hst).mono (by omega)
    have hstep : ∀ b V₁, Env V V₁ → (stepG (Program.mk T F1) main (G fr (fs ++ b)) V₁).goes fun g' w' es => DN V₁ w' es ∧ Goes (Program.mk T F1) main Env DN (StopOn S b) n g' w' := by
      intro b
      rcases h b with h | ⟨_, h⟩
      · exact absurd (fun V₁ e => (h V₁ e).here) hst
      · exact h
    have e0 : n + 1 + m = (n + m) + 1 := by omega
    rw [e0]
    refine .inr ⟨rfl, fun K₁ V₁ w e r l => ?_⟩
    have hv1 : Tidy V₁ := hv.ext e r
    have hr' : Rel K₁ (onTape V₁ fun j => w.tape (w.drawn + j)) w := ⟨r.size, r.low, r.same, r.dim, r.os⟩
    have hg := fun b => hstep b _ (e.env fun j => w.tape (w.drawn + j))
    have hB : B = true → fs = [] → fr.mode = .returning → ∃ b ds a, fr.defers = { target := .collected b, args := a } :: ds := by
      rintro rfl rfl hm
      obtain ⟨pre, dd, hd, hdead, hp⟩ := TB.defers (show TB F1 fr from ht.ret)
      cases pre with
      | nil =>
        obtain ⟨o, w', es, he⟩ := dead_ends (T := T) (main := main) (base := [] ++ base) hm hd hdead (onTape V₁ fun j => w.tape (w.drawn + j))
        have := hg base
        rw [he] at this
        exact this.elim
      | cons p pre =>
        obtain ⟨b, hb⟩ := hp p (List.mem_cons_self ..)
        obtain ⟨tg, args⟩ := p
        simp only at hb
        subst hb
        exact ⟨b, _, args, hd⟩
    rcases quiet_step (T := T) (K := K₁) (v := onTape V₁ fun j => w.tape (w.drawn + j)) hF ⟨hv1, w, hr'⟩ ht hB with ⟨f, l', u, es, h1, h2⟩ | h2 | ⟨f, u, es, h0, h1, h2⟩ | ⟨rfl, _, x, u, es, h2⟩
    · obtain ⟨l1, l2, l3, l4, l5, l6, l7⟩ := h2
      obtain ⟨w', h8, h9, h10⟩ := l7 w hr' (fun j _ q => by
        show w.tape (w.drawn + (0 + j)) q = _
        rw [Nat.zero_add])
      have hgo : ∀ b, DN (onTape V₁ fun j => w.tape (w.drawn + j)) u es ∧ Goes (Program.mk T F1) main Env DN (StopOn S b) n (G f (l' ++ b)) u := by
        intro b
        have := hg b
        rw [show stepG (Program.mk T F1) main (G fr (fs ++ b)) (onTape V₁ fun j => w.tape (w.drawn + j)) = .go (G f (l' ++ b)) u es from l1 main b] at this
        exact this
      have hev : ∀ x ∈ es, x.mute = false → x.loc ≠ .mark .disable ∧ x.loc ≠ .mark .enable := fun x hx _ => by
        have := l6 x hx
        unfold EvOK at this
        constructor <;> (intro h; rw [h] at this; cases this)
      have hdeaf : deafBehind d es = d := deafBehind_still (fun x hx => by
        have := l6 x hx
        unfold EvOK at this
        constructor <;> (intro h; rw [h] at this; cases this)) d
      refine ⟨G f (l' ++ base), w', u, es, h8 main base, ⟨⟨h9, l2, ⟨(hgo base).1.1.size, (hgo base).1.1.old, (hgo base).1.1.new⟩, fun b hb => h10.kept b hb, fun x hx => .inl ⟨l6 x hx, fun r' hr2 => (hgo base).1.own h9 hx hr2⟩, ?_, h10.out', h10.tape'⟩, fun e => by cases e⟩, ?_⟩
      · rw [← h9.os, h10.os]; exact r.os
      · rw [hdeaf]
        exact gv_quiet hF hS hN n f l' K₁ u h1 l2 fun b => (hgo b).2
    · obtain ⟨o, w', es, h2⟩ := h2 main base
      have := hg base
      rw [show stepG (Program.mk T F1) main (G fr (fs ++ base)) _ = _ from h2] at this
      exact this.elim
    · have := hg [trap]
      rw [show stepG (Program.mk T F1) main (G fr (fs ++ [trap])) _ = _ from h2 main [trap]] at this
      refine absurd this.2 (lost_goes (T := T) (S := StopOn S [trap]) (fun g V ⟨fr, fs, e, h⟩ ch hc => hS fr fs V h ch (by rw [e] at hc; exact hc)) n f fs u h1 (fun g hg => ⟨(ht.rest g hg).2, ht.ret.lostAll g hg⟩) h0)
    · have := hg [trap]
      rw [show stepG (Program.mk T F1) main (G fr ([] ++ [trap])) _ = _ from h2 main trap []] at this
      have e0 : trap.finish x = trap := rfl
      rw [e0] at this
      have hno : ∀ V, ¬ StopOn S [trap] (G trap []) V := by
        rintro V ⟨fr, fs, e, _⟩
        simp only [G, Goroutine.mk.injEq] at e
        have := congrArg List.length e.2.1
        simp at this
      have hG := this.2
      cases n with
      | zero => exact absurd (hG u (Env.refl u)) (hno u)
      | succ n =>
        rcases hG with hG | ⟨_, hG⟩
        · exact absurd (hG u (Env.refl u)) (hno u)
        · have hG := hG u (Env.refl u)
          have he : ∃ o w' es', stepG (Program.mk T F1) main (G trap []) u = .ended o w' es' := ⟨_, _, _, rfl⟩
          obtain ⟨o, w', es', he⟩ := he
          rw [he] at hG
          exact hG.elim
end
end Go.Proofs.Ytpolipcicfjkiaa.Cy
/- Who has what: the view of each goroutine out of the world; how views fare while one of them takes a step. Conditions: none. -/
namespace Go.Proofs.Ytpolipcicfjkiaa.Cy
open Go Go.Conc
open Go.ConcN (WgLive)
open Go.ConcR (KK wgBlock WgAt stA smA rd wr mk DC0)

/-- Whose a block is: one goroutine's · what all may read · nobody's. -/
inductive Cls where
  | mine (g : Nat)
  | shared
  | none
  deriving DecidableEq

def closeO : Obj → Obj
  | .cells _ e fr => .cells #[] e fr
  | .view _ u => .view ⟨0, 0, some 0⟩ u
  | .loop _ | .deferred _ | .pending .. => .coro none
  | o => o
def frzO : Obj → Obj
  | .cells c e _ => .cells c e (0, c.size)
  | o => closeO o

theorem dim_close (o : Obj) : Dim (closeO o) o := by
  cases o <;> first | exact .empty _ _ _ | exact .view _ _ _ _ rfl | exact .loop _ | exact .deferred _ | exact .pending _ _ | exact .keep _ rfl
theorem dim_frz (o : Obj) : Dim (frzO o) o := by
  cases o with
  | cells c e fr => exact .froz _ _ _
  | _ => simp only [frzO]; exact dim_close _

def seenO (cls : Nat → Cls) (g b : Nat) (o : Obj) : Obj := match cls b with
  | .mine h => if h = g then o else closeO o
  | .shared => frzO o
  | .none => closeO o

/-- Goroutine g's view. -/
def view (cls : Nat → Cls) (g : Nat) (w : World) : World := { w with heap := w.heap.mapIdx fun b o => seenO cls g b o }
/-- What is kept from it. -/
def Kf (cls : Nat → Cls) (g : Nat) (w : World) (b : Nat) : Prop := b < w.heap.size ∧ cls b ≠ .mine g

theorem view_get (cls : Nat → Cls) (g : Nat) (w : World) (b : Nat) : (view cls g w).heap[b]? = (w.heap[b]?).map (seenO cls g b) := by
  simp [view]
theorem view_size (cls : Nat → Cls) (g : Nat) (w : World) : (view cls g w).heap.size = w.heap.size := by simp [view]

theorem view_rel (cls : Nat → Cls) (g : Nat) (w : World) : Rel (Kf cls g w) (view cls g w) w := by
  refine ⟨view_size .., fun b hb => by rw [view_size]; exact hb.1, fun b hb => ?_, fun b hb => ?_, rfl⟩
  · rw [view_get]
    by_cases hlt : b < w.heap.size
    · have : cls b = .mine g := by
        apply Classical.byContradiction
        exact fun h => hb ⟨hlt, h⟩
      rw [Array.getElem?_eq_getElem hlt]
      simp [seenO, this]
    · rw [Array.getElem?_eq_none (by omega)]
      rfl
  · obtain ⟨hlt, hne⟩ := hb
    refine ⟨seenO cls g b w.heap[b], w.heap[b], by rw [view_get, Array.getElem?_eq_getElem hlt]; rfl, Array.getElem?_eq_getElem hlt, ?_⟩
    unfold seenO
    split
    · rename_i h hc
      have hhg : h ≠ g := fun e => hne (by rw [hc, e])
      rw [if_neg hhg]
      exact dim_close _
    · exact dim_frz _
    · exact dim_close _

theorem like_close {o o' : Obj} (h : Like o o') : closeO o = closeO o' := by cases h <;> rfl

/-- What a step of goroutine i's does to the world: its own blocks turn as they may, the group's block stays one; the others' stand. -/
structure Turn (cls : Nat → Cls) (i Wg : Nat) (w w' : World) : Prop where
  size : w.heap.size ≤ w'.heap.size
  old : ∀ b, b < w.heap.size → w'.heap[b]? = w.heap[b]? ∨ ((cls b = .mine i ∨ (b = Wg ∧ cls b = .none)) ∧ ∃ o o', w.heap[b]? = some o ∧ w'.heap[b]? = some o' ∧ Like o o')
  new : ∀ b, w.heap.size ≤ b → b < w'.heap.size → ∃ o, w'.heap[b]? = some o ∧ Like o o
  os : w'.os = w.os
  out : w'.output = w.output
  tape : w'.tape = w.tape

/-- The new blocks are i's. -/
def clsTo (cls : Nat → Cls) (i : Nat) (w w' : World) (b : Nat) : Cls := if w.heap.size ≤ b ∧ b < w'.heap.size then .mine i else cls b

/-- The others' views: blocks are pushed. -/
theorem Turn.ext {cls : Nat → Cls} {i Wg j : Nat} {w w' : World} (h : Turn cls i Wg w w') (hj : j ≠ i) : Ext (Kf cls j w) (view cls j w) (Kf (clsTo cls i w w') j w') (view (clsTo cls i w w') j w') := by
  refine ⟨by rw [view_size, view_size]; exact h.size, fun b hb => ?_, fun b => ?_, h.os⟩
  · rw [view_size] at hb
    have hc : clsTo cls i w w' b = cls b := by unfold clsTo; rw [if_neg (by omega)]
    rw [view_get, view_get]
    rcases h.old b hb with e | ⟨hcl, o, o', ho, ho', hl⟩
    · rw [e]; unfold seenO; rw [hc]
    · rw [ho, ho']
      simp only [Option.map_some, Option.some.injEq]
      unfold seenO
      rw [hc]
      rcases hcl with hcl | ⟨_, hcl⟩
      · rw [hcl]
        simp only [if_neg (Ne.symm hj)]
        rw [like_close hl]
      · rw [hcl]
        simp only
        rw [like_close hl]
  · rw [view_size, view_size]
    have := h.size
    unfold Kf clsTo
    constructor
    · rintro ⟨h1, h2⟩
      by_cases hb : b < w.heap.size
      · rw [if_neg (by omega)] at h2; exact .inl ⟨hb, h2⟩
      · exact .inr ⟨by omega, h1⟩
    · rintro (⟨h1, h2⟩ | ⟨h1, h2⟩)
      · exact ⟨by omega, by rw [if_neg (by omega)]; exact h2⟩
      · exact ⟨h2, by rw [if_pos ⟨h1, h2⟩]; exact fun e => hj (by cases e; rfl)⟩

/-- A soft step turns the world so; the goroutine's own new view. -/
theorem Soft.turn {cls : Nat → Cls} {i Wg : Nat} {main : Bool} {w w' V' : World} {es : Array Event} (h : Soft main Wg (Kf cls i w) (view cls i w) w V' w' es) :
    Turn cls i Wg w w' ∧ V'.heap = (view (clsTo cls i w w') i w').heap ∧ V'.os = (view (clsTo cls i w w') i w').os := by
  have hs : w'.heap.size = V'.heap.size := h.rel.size.symm
  have h1 := h.own.size
  rw [view_size] at h1
  have hmine : ∀ b, b < w.heap.size → cls b = .mine i → (view cls i w).heap[b]? = w.heap[b]? ∧ V'.heap[b]? = w'.heap[b]? := fun b hb hc => by
    have hk : ¬ Kf cls i w b := fun k => k.2 hc
    exact ⟨(view_rel cls i w).same b hk, h.rel.same b hk⟩
  have hnew : ∀ b, w.heap.size ≤ b → V'.heap[b]? = w'.heap[b]? := fun b hb => h.rel.same b fun k => by have := k.1; omega
  refine ⟨⟨by omega, fun b hb => ?_, fun b hb hb' => ?_, h.os, h.out, h.tape⟩, ?_, ?_⟩
  · by_cases hc : cls b = .mine i
    · obtain ⟨e1, e2⟩ := hmine b hb hc
      rcases h.own.old b (by rw [view_size]; exact hb) with e | ⟨o, o', ho, ho', hl⟩
      · exact .inl (by rw [← e2, e, e1])
      · exact .inr ⟨.inl hc, o, o', by rw [← e1]; exact ho, by rw [← e2]; exact ho', hl⟩
    · exact .inl (h.kept b ⟨hb, hc⟩).2
  · obtain ⟨o, ho, hl⟩ := h.own.new b (by rw [view_size]; exact hb) (by omega)
    exact ⟨o, by rw [← hnew b hb]; exact ho, hl⟩
  · apply Array.ext_getElem?
    intro b
    rw [view_get]
    by_cases hb : b < w.heap.size
    · have hc : clsTo cls i w w' b = cls b := by unfold clsTo; rw [if_neg (by omega)]
      by_cases hcm : cls b = .mine i
      · rw [(hmine b hb hcm).2]
        cases w'.heap[b]? <;> simp [seenO, hc, hcm]
      · obtain ⟨e1, e2⟩ := h.kept b ⟨hb, hcm⟩
        rw [e1, e2, view_get]
        unfold seenO
        rw [hc]
    · rw [hnew b (by omega)]
      by_cases hb' : b < w'.heap.size
      · rw [Array.getElem?_eq_getElem hb']
        have hc : clsTo cls i w w' b = .mine i := by unfold clsTo; rw [if_pos ⟨by omega, hb'⟩]
        simp [seenO, hc]
      · rw [Array.getElem?_eq_none (by omega)]; rfl
  · exact h.rel.os

/-- A judgement holds of a view with the same blocks. -/
theorem GV.same {P : Program} {main still : Bool} {ty Wg n d : Nat} {St : Nat → (Nat → Prop) → Goroutine → World → World → Prop} {K : Nat → Prop} {g : Goroutine} {V V' : World} (h : GV P main still ty Wg St n d K g V) (e : V'.heap = V.heap) (eo : V'.os = V.os) : GV P main still ty Wg St n d K g V' :=
  h.ext ⟨by rw [e]; exact Nat.le_refl _, fun b _ => by rw [e], fun b => ⟨.inl, fun x => x.elim id fun y => absurd y.2 (by rw [e]; omega)⟩, eo⟩
end Go.Proofs.Ytpolipcicfjkiaa.Cy

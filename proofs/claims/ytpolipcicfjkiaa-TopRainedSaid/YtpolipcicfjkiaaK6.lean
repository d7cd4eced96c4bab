/- A tree of a quiet goroutine's steps over all answers of the tape; a lone run that comes to its end whatever the tape gives such a tree. Conditions: none. -/
import Derived.Test.YtpolipcicfjkiaaK5
import Derived.Conc.Beside
namespace Go.Proofs.Ytpolipcicfjkiaa.Cy
open Go Go.Conc

def onTape (v : World) (t : Nat → Question → Nat) : World := { v with tape := t, drawn := 0 }

/-- What lies below a lone run: whoever panics into it comes to an end. -/
def trap : Frame := { fn := 0, tmps := #[], todo := [.code (.refuse "")], defers := [{ target := .nil, args := #[] }], mode := .run, kind := .normal }

section
variable (T : Tables) (F1 F2 : Array Func)
/-- THE TREE. 'Stop': where it ends. -/
inductive Tree (Stop : Frame → List Frame → World → Prop) : Frame → List Frame → World → Prop
  | stop {fr fs v} : (∀ t, Stop fr fs (onTape v t)) → Tree Stop fr fs v
  | step {fr fs v} (f : (Nat → Question → Nat) → Frame) (l : (Nat → Question → Nat) → List Frame) (u : (Nat → Question → Nat) → World) (es : (Nat → Question → Nat) → Array Event) :
      Tame F1 F2 false fr fs → (∀ t, Tame F1 F2 false (f t) (l t)) → (∀ t main base, stepG (Program.mk T F1) main (G fr (fs ++ base)) (onTape v t) = .go (G (f t) (l t ++ base)) (u t) (es t)) → (∀ t, Tree Stop (f t) (l t) (u t)) → Tree Stop fr fs v
end

section
variable {T : Tables} {F1 F2 : Array Func} {K : Nat → Prop}

theorem TR.one {fr : Frame} (h : TR F1 F2 fr) : TR F1 F1 fr := ⟨h.kind, h.defers, fun e => let ⟨x, _, a, _⟩ := h.fn e; ⟨x, x, a, a, rfl⟩⟩
theorem Rets.one {B : Bool} : ∀ {l : List Frame}, Rets F1 F2 B l → Rets F1 F1 B l
  | [], _ => trivial
  | [_], h => by
    cases B with
    | true => exact (show TB F1 _ from h)
    | false => exact TR.one h
  | _ :: _ :: _, h => ⟨h.1.one, h.2.one⟩
theorem Tame.one {B : Bool} {fr : Frame} {fs : List Frame} (h : Tame F1 F2 B fr fs) : Tame F1 F1 B fr fs := ⟨h.top, h.mode, h.rest, h.ret.one⟩
theorem Shut'.one (h : Shut' F1 F2) : Shut' F1 F1 := ⟨⟨fun f x hx => (h.fn f x hx).imp (fun ⟨_, b⟩ => ⟨hx, b⟩) id, rfl⟩, fun _ => rfl⟩

/-- A step that stays among quiet frames is one in lock-step. -/
theorem lock_of_step [FlatEqs T] (hF : Shut' F1 F2) {fr fr' : Frame} {fs fs' : List Frame} {v v' : World} {es : Array Event} (hv : Fair K v) (ht : Tame F1 F2 false fr fs) (ht' : fr'.mode = .run ∨ fr'.mode = .returning)
    (h : ∀ main base, stepG (Program.mk T F1) main (G fr (fs ++ base)) v = .go (G fr' (fs' ++ base)) v' es) : Tame F1 F2 false fr' fs' ∧ Lock K (stepF (Program.mk T F1) fr fs) (stepF (Program.mk T F2) fr fs) v fr' fs' v' es := by
  rcases quiet_step (T := T) hF hv ht (fun e => by cases e) with ⟨f, l, u, e, h1, h2⟩ | h2 | ⟨f, u, e, _, ⟨⟨ch, h1⟩, _⟩, h2⟩ | ⟨rfl, _, x, u, e, h2⟩
  · have := (h2.1 true []).symm.trans (h true [])
    simp only [GStep.go.injEq, G, Goroutine.mk.injEq, List.append_nil] at this
    obtain ⟨⟨rfl, rfl, _⟩, rfl, rfl⟩ := this
    exact ⟨h1, h2⟩
  · obtain ⟨o, u, e, h2⟩ := h2 true []
    have := h2.symm.trans (h true [])
    cases this
  · have := (h2 true []).symm.trans (h true [])
    simp only [GStep.go.injEq, G, Goroutine.mk.injEq, List.append_nil] at this
    obtain ⟨⟨rfl, _⟩, _⟩ := this
    rw [h1] at ht'
    rcases ht' with e | e <;> cases e
  · have := (h2 true trap []).symm.trans (h true [trap])
    simp only [GStep.go.injEq, G, Goroutine.mk.injEq] at this
    have := congrArg List.length this.1.2.1
    simp at this

/-- The same step on another tape that gives the same answers. -/
theorem step_shift [FlatEqs T] (hF : Shut' F1 F1) {fr fr' : Frame} {fs fs' : List Frame} {v v' : World} {es : Array Event} (hv : Tidy v) (ht : Tame F1 F1 false fr fs) (ht' : fr'.mode = .run ∨ fr'.mode = .returning)
    (h : ∀ main base, stepG (Program.mk T F1) main (G fr (fs ++ base)) v = .go (G fr' (fs' ++ base)) v' es) (t : Nat → Question → Nat) (d : Nat) (ha : ∀ j, v.drawn + j < v'.drawn → ∀ q, v.tape (v.drawn + j) q = t (d + j) q) :
    v.drawn ≤ v'.drawn ∧ ∀ main base, stepG (Program.mk T F1) main (G fr (fs ++ base)) { v with tape := t, drawn := d } = .go (G fr' (fs' ++ base)) { v' with tape := t, drawn := d + (v'.drawn - v.drawn) } es := by
  have hr : Rel (fun _ => False) v { v with tape := t, drawn := d } := ⟨rfl, fun _ h => h.elim, fun _ _ => rfl, fun _ h => h.elim, rfl⟩
  obtain ⟨_, h1, _, _, h4, _, _, h7⟩ := lock_of_step (K := fun _ => False) hF ⟨hv, _, hr⟩ ht ht' h
  obtain ⟨w', h8, h9, h10⟩ := h7 _ hr ha
  have : w' = { v' with tape := t, drawn := d + (v'.drawn - v.drawn) } := by
    have e1 : w'.heap = v'.heap := by
      apply Array.ext_getElem?
      intro i
      exact (h9.same i id).symm
    have e2 := h9.os
    have e3 := h10.tape'
    have e4 := h10.drawn
    have e5 := h10.out
    have e6 := h10.out'
    cases w'
    cases v'
    simp_all
  exact ⟨h4, fun main base => this ▸ h8 main base⟩

theorem Tree.tape {Stop : Frame → List Frame → World → Prop} {fr : Frame} {fs : List Frame} {v : World} (h : Tree T F1 F2 Stop fr fs v) (t : Nat → Question → Nat) (d : Nat) : Tree T F1 F2 Stop fr fs { v with tape := t, drawn := d } := by
  cases h with
  | stop h => exact .stop h
  | step f l u es h1 h2 h3 h4 => exact .step f l u es h1 h2 h3 h4

theorem fair_self {v : World} (h : Tidy v) : Fair (fun _ => False) v := ⟨h, v, Rel.refl v⟩

theorem lone_inj {fr fr' : Frame} {cs cs' : List Frame} {w w' : World} (h : (Stepped.next (lone fr cs w)) = .next (lone fr' cs' w')) : fr = fr' ∧ cs = cs' ∧ w = w' := by
  simp only [Stepped.next.injEq, lone, Machine.mk.injEq] at h
  obtain ⟨h1, h2, _⟩ := h
  simp at h2
  exact ⟨h2.1, h2.2, h1⟩

theorem run_step {fr fr' : Frame} {cs cs' : List Frame} {w w' : World} {es : Array Event} (h : stepG (Program.mk T F1) true (G fr cs) w = .go (G fr' cs') w' es) (N : Nat) : runN (Program.mk T F1) (N + 1) (lone fr cs w) = runN (Program.mk T F1) N (lone fr' cs' w') := by
  have : step (Program.mk T F1) (lone fr cs w) = .next (lone fr' cs' w') := step_lone_go (by simp only [G] at h; rw [h]; rfl)
  simp only [runN, this]

theorem run_end {fr : Frame} {cs : List Frame} {w w' : World} {es : Array Event} {o : Outcome} (h : stepG (Program.mk T F1) true (G fr cs) w = .ended o w' es) (N : Nat) : runN (Program.mk T F1) (N + 1) (lone fr cs w) = .ended o w' := by
  have : step (Program.mk T F1) (lone fr cs w) = .ended o w' := step_lone_ended (by simp only [G] at h; rw [h]; rfl)
  simp only [runN, this]

/-- What may be laid up in a frame that is given up. -/
def Dl (F1 : Array Func) (f : Frame) : Prop := f.mode = .run ∧ ∀ d ∈ f.defers, (∃ b, d.target = .collected b) ∨ Dead F1 d

theorem lost_step {fr : Frame} {fs : List Frame} {v : World} (hl : Lost F1 fr) (hfs : ∀ f ∈ fs, Dl F1 f) (hv : Tidy v) (main : Bool) :
    (∃ o w es, stepG (Program.mk T F1) main (G fr (fs ++ [trap])) v = .ended o w es) ∨
    (∃ fr' fs' v' es, Lost F1 fr' ∧ (∀ f ∈ fs', Dl F1 f) ∧ Tidy v' ∧ stepG (Program.mk T F1) main (G fr (fs ++ [trap])) v = .go (G fr' (fs' ++ [trap])) v' es) ∨
    (∃ ch, stepG (Program.mk T F1) main (G fr (fs ++ [trap])) v = .go (G (trap.raise ch) []) v #[]) := by
  obtain ⟨ch, hc⟩ := hl.mode
  obtain ⟨fn, tmps, todo, defers, mode, kind, roundOf⟩ := fr
  simp only at hc
  subst hc
  have hun : stepG (Program.mk T F1) main (G ⟨fn, tmps, todo, defers, .panicking ch, kind, roundOf⟩ (fs ++ [trap])) v = unwind (Program.mk T F1) main ⟨fn, tmps, todo, defers, .panicking ch, kind, roundOf⟩ (fs ++ [trap]) none v := by simp [stepG, G]
  rw [hun]
  cases defers with
  | cons d ds =>
    obtain ⟨tg, args⟩ := d
    rcases hl.defers _ (List.mem_cons_self ..) with ⟨b, hb⟩ | ⟨f, c, x, hb, h1, hs⟩
    · simp only at hb
      subst hb
      have hs := takeDeferred_sim (K := fun _ => False) (T := T) (F1 := F1) (F2 := F1) b
      rcases hr : (Instr.takeDeferred b).runT (Program.mk T F1) v #[] with ⟨r, es⟩
      cases r with
      | ok cs v1 =>
        obtain ⟨⟨ht, _⟩, hcs⟩ := hs.fair (fair_self hv) hr
        subst hcs
        exact .inr (.inl ⟨⟨fn, tmps, todo, ds, .panicking ch, kind, roundOf⟩, fs, v1, seen (Program.mk T F1) fn es, ⟨⟨ch, rfl⟩, fun d hd => hl.defers d (List.mem_cons_of_mem _ hd)⟩, hfs, ht, by simp [unwind, hr, GStep.after, G, -Sem.runT_eq]⟩)
      | halt x v1 => exact .inl ⟨_, _, _, by unfold unwind; simp only [hr]; rfl⟩
    · simp only at hb
      subst hb
      have hi : ∃ es, (invoke (.fn (.func f) c) args).runT (Program.mk T F1) v #[] = (.halt (.unsupported (.extern x.name)) v, es) := by
        unfold invoke
        exact callFunc_shut (T := T) h1 hs _ v
      obtain ⟨es, hi⟩ := hi
      exact .inl ⟨_, _, _, by
        unfold unwind
        simp only
        unfold callDeferred
        simp only [hi, Bool.false_and, Bool.false_eq_true, if_false]
        rfl⟩
  | nil =>
    by_cases hcat : Frame.catches (Program.mk T F1) ⟨fn, tmps, todo, [], .panicking ch, kind, roundOf⟩ = true
    · exact .inl ⟨_, _, _, by unfold unwind; simp only [hcat, if_true]; rfl⟩
    · have hcat' : Frame.catches (Program.mk T F1) ⟨fn, tmps, todo, [], .panicking ch, kind, roundOf⟩ = false := by simpa using hcat
      cases fs with
      | cons c rest =>
        obtain ⟨c1, c2⟩ := hfs c (List.mem_cons_self ..)
        refine .inr (.inl ⟨c.raise ch, rest, v, #[], ⟨⟨ch, ?_⟩, ?_⟩, fun f hf => hfs f (List.mem_cons_of_mem _ hf), hv, by simp [unwind, hcat', G]⟩)
        · unfold Frame.raise; rw [c1]
        · have : (c.raise ch).defers = c.defers := by unfold Frame.raise; rw [c1]
          rw [this]; exact c2
      | nil => exact .inr (.inr ⟨ch, by simp [unwind, hcat', G]⟩)

/-- Who has been given up does not come back. -/
theorem lost_never : ∀ (N : Nat) (fr : Frame) (fs : List Frame) (v : World), Lost F1 fr → (∀ f ∈ fs, Dl F1 f) → Tidy v →
    ∀ fr' fs' v', runN (Program.mk T F1) N (lone fr (fs ++ [trap]) v) = .next (lone fr' (fs' ++ [trap]) v') → ¬ (fr'.mode = .run ∨ fr'.mode = .returning)
  | 0, fr, fs, v, hl, _, _, fr', fs', v', h => by
    obtain ⟨rfl, _⟩ := lone_inj h
    obtain ⟨ch, hc⟩ := hl.mode
    rw [hc]
    rintro (e | e) <;> cases e
  | N + 1, fr, fs, v, hl, hfs, hv, fr', fs', v', h => by
    rcases lost_step (T := T) hl hfs hv true with ⟨o, w, es, he⟩ | ⟨f2, l2, v2, es, h1, h2, h3, he⟩ | ⟨ch, he⟩
    · rw [run_end he] at h
      cases h
    · rw [run_step he] at h
      exact lost_never N f2 l2 v2 h1 h2 h3 fr' fs' v' h
    · rw [run_step he] at h
      cases N with
      | zero =>
        have := (lone_inj h).2.1
        simp at this
      | succ N =>
        have he : ∃ o w' es', stepG (Program.mk T F1) true (G (trap.raise ch) []) v = .ended o w' es' := ⟨_, _, _, rfl⟩
        obtain ⟨o, w', es', he⟩ := he
        rw [run_end he] at h
        cases h

/-- Whoever comes to where quiet frames stand takes a step in lock-step first. -/
theorem first_lock [FlatEqs T] (hF : Shut' F1 F2) {fr fr' : Frame} {fs fs' : List Frame} {v v' : World} (hv : Tidy v) (ht : Tame F1 F2 false fr fs) {N : Nat}
    (h : runN (Program.mk T F1) (N + 1) (lone fr (fs ++ [trap]) v) = .next (lone fr' (fs' ++ [trap]) v')) (hm : fr'.mode = .run ∨ fr'.mode = .returning) :
    ∃ f l u es, Tame F1 F2 false f l ∧ (∀ main base, stepG (Program.mk T F1) main (G fr (fs ++ base)) v = .go (G f (l ++ base)) u es) ∧ Tidy u ∧ runN (Program.mk T F1) N (lone f (l ++ [trap]) u) = .next (lone fr' (fs' ++ [trap]) v') := by
  rcases quiet_step (T := T) hF (fair_self hv) ht (fun e => by cases e) with ⟨f, l, u, e, h1, h2⟩ | h2 | ⟨f, u, e, h0, h1, h2⟩ | ⟨rfl, _, x, u, e, h2⟩
  · refine ⟨f, l, u, e, h1, h2.1, h2.2.1, ?_⟩
    rw [← h, run_step (h2.1 true [trap])]
  · obtain ⟨o, u, e, h2⟩ := h2 true [trap]
    rw [run_end h2] at h
    cases h
  · rw [run_step (h2 true [trap])] at h
    exact absurd hm (lost_never N f fs u h1 (fun g hg => ⟨(ht.rest g hg).2, ht.ret.lostAll g hg⟩) h0 _ _ _ h)
  · rw [run_step (cs := [] ++ [trap]) (h2 true trap [])] at h
    have e0 : trap.finish x = trap := rfl
    rw [e0] at h
    cases N with
    | zero =>
      have := (lone_inj h).2.1
      simp at this
    | succ N =>
      have he : ∃ o w' es', stepG (Program.mk T F1) true (G trap []) u = .ended o w' es' := ⟨_, _, _, rfl⟩
      obtain ⟨o, w', es', he⟩ := he
      rw [run_end he] at h
      cases h

variable (T F1 F2) in
/-- Every run from here comes to where a tree stands, whatever the answers behind those that are given. -/
def Sure (Stop : Frame → List Frame → World → Prop) (s : Frame × List Frame × World) : Prop :=
  Tame F1 F2 false s.1 s.2.1 ∧ Tidy s.2.2 ∧ ∀ t : Nat → Question → Nat, (∀ p, p < s.2.2.drawn → t p = s.2.2.tape p) →
    ∃ N fr' fs' v', runN (Program.mk T F1) N (lone s.1 (s.2.1 ++ [trap]) { s.2.2 with tape := t }) = .next (lone fr' (fs' ++ [trap]) v') ∧ (fr'.mode = .run ∨ fr'.mode = .returning) ∧ Tree T F1 F2 Stop fr' fs' v'

variable (T F1) in
/-- What follows on a tree's want. -/
structure Follows (s s' : Frame × List Frame × World) : Prop where
  le : s.2.2.drawn ≤ s'.2.2.drawn
  old : ∀ p, p < s.2.2.drawn → s'.2.2.tape p = s.2.2.tape p
  step : ∃ es, ∀ t : Nat → Question → Nat, (∀ p, p < s'.2.2.drawn → t p = s'.2.2.tape p) → ∀ main base,
    stepG (Program.mk T F1) main (G s.1 (s.2.1 ++ base)) { s.2.2 with tape := t } = .go (G s'.1 (s'.2.1 ++ base)) { s'.2.2 with tape := t } es

theorem sure_next [FlatEqs T] (hF : Shut' F1 F2) {Stop : Frame → List Frame → World → Prop} (s : Frame × List Frame × World) (h : Sure T F1 F2 Stop s ∧ ¬ Tree T F1 F2 Stop s.1 s.2.1 s.2.2) :
    ∃ s', (Sure T F1 F2 Stop s' ∧ ¬ Tree T F1 F2 Stop s'.1 s'.2.1 s'.2.2) ∧ Follows T F1 s s' := by
  obtain ⟨fr, fs, v⟩ := s
  obtain ⟨⟨ht, hv, hs⟩, hno⟩ := h
  simp only at ht hv hs hno
  -- the first step, whatever the answers
  have first : ∀ t : Nat → Question → Nat, (∀ p, p < v.drawn → t p = v.tape p) → ∃ f l u es, Tame F1 F2 false f l ∧ (∀ main base, stepG (Program.mk T F1) main (G fr (fs ++ base)) { v with tape := t } = .go (G f (l ++ base)) u es) ∧ Tidy u ∧
      v.drawn ≤ u.drawn ∧ u.tape = t ∧ ∃ N fr' fs' v', runN (Program.mk T F1) N (lone f (l ++ [trap]) u) = .next (lone fr' (fs' ++ [trap]) v') ∧ (fr'.mode = .run ∨ fr'.mode = .returning) ∧ Tree T F1 F2 Stop fr' fs' v' := by
    intro t hag
    obtain ⟨N, fr', fs', v', hr, hm, htr⟩ := hs t hag
    cases N with
    | zero =>
      obtain ⟨rfl, h2, rfl⟩ := lone_inj hr
      have : fs = fs' := List.append_cancel_right h2
      subst this
      exact absurd (htr.tape v.tape v.drawn) hno
    | succ N =>
      obtain ⟨f, l, u, es, h1, h2, h3, h4⟩ := first_lock hF (v := { v with tape := t }) hv ht hr hm
      obtain ⟨_, l1, _, _, l4, l5, _⟩ := lock_of_step (K := fun _ => False) (v := { v with tape := t }) hF (fair_self hv) ht (by rcases h1.mode with e | e; exact .inl e; exact .inr e.1) h2
      exact ⟨f, l, u, es, h1, h2, h3, l4, l5, N, fr', fs', v', h4, hm, htr⟩
  -- some answers lead where no tree stands
  let ab : (Nat → Question → Nat) → (Nat → Question → Nat) := fun t p => if p < v.drawn then v.tape p else t (p - v.drawn)
  have hab : ∀ t p, p < v.drawn → ab t p = v.tape p := fun t p hp => by simp only [ab, if_pos hp]
  have hab2 : ∀ t j, ab t (v.drawn + j) = t j := fun t j => by
    have h1 : ¬ v.drawn + j < v.drawn := by omega
    have h2 : v.drawn + j - v.drawn = j := by omega
    simp only [ab, if_neg h1, h2]
  have mode : ∀ {f : Frame} {l : List Frame}, Tame F1 F2 false f l → (f.mode = .run ∨ f.mode = .returning) := fun h1 => by rcases h1.mode with e | e; exact .inl e; exact .inr e.1
  have hbad : ∃ t, ∀ f l u es, Tame F1 F2 false f l → (∀ main base, stepG (Program.mk T F1) main (G fr (fs ++ base)) { v with tape := ab t } = .go (G f (l ++ base)) u es) → ¬ Tree T F1 F2 Stop f l u := by
    apply Classical.byContradiction
    intro hall
    apply hno
    have key : ∀ t, ∃ (x : Frame × List Frame × World × Array Event), Tame F1 F2 false x.1 x.2.1 ∧ (∀ main base, stepG (Program.mk T F1) main (G fr (fs ++ base)) (onTape v t) = .go (G x.1 (x.2.1 ++ base)) x.2.2.1 x.2.2.2) ∧ Tree T F1 F2 Stop x.1 x.2.1 x.2.2.1 := by
      intro t
      apply Classical.byContradiction
      intro hx
      apply hall
      refine ⟨t, fun f l u es h1 h2 htr => hx ⟨(f, l, { u with tape := t, drawn := 0 + (u.drawn - v.drawn) }, es), h1, ?_, htr.tape _ _⟩⟩
      exact (step_shift (v := { v with tape := ab t }) hF.one hv ht.one (mode h1) h2 t 0 (fun j _ q => by rw [Nat.zero_add]; exact congrFun (hab2 t j) q)).2
    exact .step (fun t => (key t).choose.1) (fun t => (key t).choose.2.1) (fun t => (key t).choose.2.2.1) (fun t => (key t).choose.2.2.2) ht (fun t => (key t).choose_spec.1) (fun t => (key t).choose_spec.2.1) (fun t => (key t).choose_spec.2.2)
  obtain ⟨t, hbad⟩ := hbad
  obtain ⟨f, l, u, es, h1, h2, h3, h4, h5, _⟩ := first (ab t) (hab t)
  have hstep : ∀ t' : Nat → Question → Nat, (∀ p, p < u.drawn → t' p = u.tape p) → ∀ main base, stepG (Program.mk T F1) main (G fr (fs ++ base)) { v with tape := t' } = .go (G f (l ++ base)) { u with tape := t' } es := by
    intro t' hag
    have := (step_shift (v := { v with tape := ab t }) hF.one hv ht.one (mode h1) h2 t' v.drawn (fun j hj q => by
      simp only at hj
      rw [hag _ hj, h5])).2
    have e : v.drawn + (u.drawn - v.drawn) = u.drawn := by omega
    simp only [e] at this
    exact this
  refine ⟨(f, l, u), ⟨⟨h1, h3, fun t' hag => ?_⟩, hbad f l u es h1 h2⟩, ⟨h4, fun p hp => by show u.tape p = v.tape p; rw [h5]; exact hab t p hp, es, hstep⟩⟩
  simp only at hag
  obtain ⟨N, fr', fs', v', hr, hm, htr⟩ := hs t' (fun p hp => by rw [hag p (by omega), h5]; exact hab t p hp)
  cases N with
  | zero =>
    obtain ⟨rfl, h2', rfl⟩ := lone_inj hr
    have : fs = fs' := List.append_cancel_right h2'
    subst this
    exact absurd (htr.tape v.tape v.drawn) hno
  | succ N =>
    rw [run_step (hstep t' hag true [trap])] at hr
    exact ⟨N, fr', fs', v', hr, hm, htr⟩

/-- ████ A LONE RUN THAT COMES TO A TREE WHATEVER THE TAPE STANDS IN ONE ITSELF. ████ -/
theorem tree_of_sure [FlatEqs T] (hF : Shut' F1 F2) {Stop : Frame → List Frame → World → Prop} (s : Frame × List Frame × World) (h : Sure T F1 F2 Stop s) : Tree T F1 F2 Stop s.1 s.2.1 s.2.2 := by
  apply Classical.byContradiction
  intro hno
  let X := { s : Frame × List Frame × World // Sure T F1 F2 Stop s ∧ ¬ Tree T F1 F2 Stop s.1 s.2.1 s.2.2 }
  let nx : X → X := fun x => ⟨(sure_next hF x.1 x.2).choose, (sure_next hF x.1 x.2).choose_spec.1⟩
  have hnx : ∀ x : X, Follows T F1 x.1 (nx x).1 := fun x => (sure_next hF x.1 x.2).choose_spec.2
  let σ : Nat → X := fun n => Nat.rec ⟨s, h, hno⟩ (fun _ x => nx x) n
  have hσ : ∀ n, σ (n + 1) = nx (σ n) := fun n => rfl
  let D : Nat → Nat := fun n => (σ n).1.2.2.drawn
  have mono : ∀ n k, D n ≤ D (n + k) := by
    intro n k
    induction k with
    | zero => exact Nat.le_refl _
    | succ k ih => exact Nat.le_trans ih (by show _ ≤ (σ (n + k + 1)).1.2.2.drawn; rw [hσ]; exact (hnx (σ (n + k))).le)
  have old : ∀ n k p, p < D n → (σ (n + k)).1.2.2.tape p = (σ n).1.2.2.tape p := by
    intro n k p hp
    induction k with
    | zero => rfl
    | succ k ih =>
      rw [← ih]
      show (σ (n + k + 1)).1.2.2.tape p = _
      rw [hσ]
      exact (hnx (σ (n + k))).old p (Nat.lt_of_lt_of_le hp (mono n k))
  have any : ∀ n m p, p < D n → p < D m → (σ n).1.2.2.tape p = (σ m).1.2.2.tape p := by
    intro n m p h1 h2
    rcases Nat.le_total n m with hle | hle
    · obtain ⟨k, rfl⟩ := Nat.le.dest hle
      exact (old n k p h1).symm
    · obtain ⟨k, rfl⟩ := Nat.le.dest hle
      exact old m k p h2
  let τ : Nat → Question → Nat := fun p => open Classical in if hp : ∃ n, p < D n then (σ hp.choose).1.2.2.tape p else fun _ => 0
  have hτ : ∀ n p, p < D n → τ p = (σ n).1.2.2.tape p := by
    intro n p hp
    have hx : ∃ n, p < D n := ⟨n, hp⟩
    simp only [τ, dif_pos hx]
    exact any _ _ _ hx.choose_spec hp
  have run : ∀ n, runN (Program.mk T F1) n (lone s.1 (s.2.1 ++ [trap]) { s.2.2 with tape := τ }) = .next (lone (σ n).1.1 ((σ n).1.2.1 ++ [trap]) { (σ n).1.2.2 with tape := τ }) := by
    intro n
    induction n with
    | zero => rfl
    | succ n ih =>
      rw [runN_add, ih]
      obtain ⟨es, hst⟩ := (hnx (σ n)).step
      have := hst τ (fun p hp => by rw [hτ (n + 1) p (by show p < (σ (n + 1)).1.2.2.drawn; rw [hσ]; exact hp), hσ]) true [trap]
      show runN (Program.mk T F1) (0 + 1) _ = _
      rw [run_step this, hσ]
      rfl
  obtain ⟨N, fr', fs', v', hr, _, htr⟩ := h.2.2 τ (fun p hp => hτ 0 p hp)
  rw [run N] at hr
  obtain ⟨e1, e2, e3⟩ := lone_inj hr
  have e2 := List.append_cancel_right e2
  subst e1 e2 e3
  exact (σ N).2.2 (htr.tape _ _)
end
end Go.Proofs.Ytpolipcicfjkiaa.Cy
/- A tree beside goroutines that only leave: the machine carries it out, on whatever tape. Conditions: none. -/
namespace Go.Proofs.Ytpolipcicfjkiaa.Cy
open Go Go.Conc
open Go.ConcN (sumTo upd sumTo_upd upd_ne upd_same)

/-- The shunned places lie in blocks that are kept from the view and empty there. -/
def Shuns (Shun : Loc → Prop) (K : Nat → Prop) (v : World) : Prop := ∀ l, Shun l → ∃ a : Addr, l = .cell a ∧ K a.block ∧ ∀ x, v.cell? { a with spot := none } ≠ some x ∧ v.cell? a ≠ some x

theorem EvOK.evL {Shun : Loc → Prop} {K : Nat → Prop} {v : World} {e : Event} (h : EvOK K v e) (hs : Shuns Shun K v) : EvL Shun v.heap.size e := by
  obtain ⟨loc, wr, sy⟩ := e
  unfold EvOK at h
  cases loc with
  | cell a =>
    obtain ⟨⟨x, hx⟩, _⟩ := h
    refine ⟨fun y hy hsh => ?_, by simp, by simp, ?_⟩
    · obtain ⟨a', e', _, hn⟩ := hs _ hsh
      have : y.loc = .cell a := by
        simp only [MemAct.ofEvent, MemAct.touch?, Option.some.injEq] at hy
        rw [← hy]
      rw [this] at e'
      cases e'
      exact absurd hx (hn x).2
    · show a.block < _
      unfold World.cell? at hx
      split at hx
      · rename_i ho; exact (Array.getElem?_eq_some_iff.1 ho).1
      · cases hx
  | obj r =>
    obtain ⟨⟨o, ho, _⟩, _⟩ := h
    have hlt := (Array.getElem?_eq_some_iff.1 ho).1
    refine ⟨fun y hy hsh => ?_, by simp, by simp, by cases wr <;> cases sy <;> exact hlt⟩
    obtain ⟨a', e', _⟩ := hs _ hsh
    cases wr <;> cases sy <;> simp [MemAct.ofEvent, MemAct.touch?] at hy <;> (rw [← hy] at e'; cases e')
  | mark m =>
    simp only at h
    subst h
    exact ⟨fun y hy => by simp [MemAct.ofEvent, MemAct.touch?] at hy, by simp, by simp, trivial⟩
  | output => exact h.elim
  | goroutines => exact h.elim

theorem Shuns.kept {Shun : Loc → Prop} {K : Nat → Prop} {v v' : World} (h : Shuns Shun K v) (hk : ∀ b, K b → v'.heap[b]? = v.heap[b]?) : Shuns Shun K v' := fun l hl => by
  obtain ⟨a, rfl, ha, hn⟩ := h l hl
  refine ⟨a, rfl, ha, fun x => ?_⟩
  have e := hk _ ha
  have h1 := hn x
  unfold World.cell? at h1 ⊢
  simp only [e]
  exact h1

section
variable {T : Tables} {F1 F2 : Array Func} {K : Nat → Prop}

/-- What a step of the tree is in truth. -/
theorem tree_step [FlatEqs T] (hF : Shut' F1 F2) {fr fr' : Frame} {fs fs' : List Frame} {v v' w : World} {es : Array Event} (hv : Tidy v) (hr : Rel K v w) (ht : Tame F1 F2 false fr fs) (ht' : Tame F1 F2 false fr' fs')
    (h : ∀ main base, stepG (Program.mk T F1) main (G fr (fs ++ base)) (onTape v fun j => w.tape (w.drawn + j)) = .go (G fr' (fs' ++ base)) v' es) :
    ∃ w', (∀ main base, stepG (Program.mk T F2) main (G fr (fs ++ base)) w = .go (G fr' (fs' ++ base)) w' es) ∧ Rel K v' w' ∧ Tidy v' ∧ Grow v v' ∧ (∀ b, K b → v'.heap[b]? = v.heap[b]? ∧ w'.heap[b]? = w.heap[b]?) ∧ (∀ e ∈ es, EvOK K v' e) ∧ w'.output = w.output ∧ w'.tape = w.tape ∧ w'.os = w.os := by
  have hr' : Rel K (onTape v fun j => w.tape (w.drawn + j)) w := ⟨hr.size, hr.low, hr.same, hr.dim, hr.os⟩
  obtain ⟨_, _, l2, l3, _, _, l6, l7⟩ := lock_of_step (K := K) (v := onTape v fun j => w.tape (w.drawn + j)) hF ⟨hv, w, hr'⟩ ht (by rcases ht'.mode with e | e; exact .inl e; exact .inr e.1) h
  obtain ⟨w', h8, h9, h10⟩ := l7 w hr' (fun j _ q => by
    show w.tape (w.drawn + (0 + j)) q = _
    rw [Nat.zero_add])
  exact ⟨w', h8, h9, l2, l3, fun b hb => h10.kept b hb, l6, h10.out', h10.tape', h9.os.symm.trans (h10.os.trans hr.os)⟩

/-- ████ A TREE, CARRIED OUT BESIDE LEAVERS. ████ -/
theorem tree_beside [FlatEqs T] (hF : Shut' F1 F2) {Stop : Frame → List Frame → World → Prop} {Shun : Loc → Prop} {fr : Frame} {fs : List Frame} {v : World} (h : Tree T F1 F2 Stop fr fs v) :
    ∀ (M : Nat) (gs : Array Goroutine) (w : World) (sl : Option (Nat × Nat)) (t : Trace) (q : Nat → Nat), sumTo gs.size q ≤ M → gs[0]? = some (G fr fs) → Leavers (Program.mk T F2) t gs q → Past Shun w.heap.size t → Tidy v → Rel K v w → Shuns Shun K v →
      ∃ (N : Nat) (gs' : Array Goroutine) (fr' : Frame) (fs' : List Frame) (v' w' : World) (sl' : Option (Nat × Nat)) (t' : Trace) (q' : Nat → Nat),
        runNT (Program.mk T F2) N (crowd gs w sl) t = (.next (crowd gs' w' sl'), t') ∧ gs'.size = gs.size ∧ gs'[0]? = some (G fr' fs') ∧ Stop fr' fs' v' ∧ Leavers (Program.mk T F2) t' gs' q' ∧ Past Shun w'.heap.size t' ∧
        Tidy v' ∧ Rel K v' w' ∧ (∀ b, K b → v'.heap[b]? = v.heap[b]? ∧ w'.heap[b]? = w.heap[b]?) ∧ v.heap.size ≤ v'.heap.size ∧ w'.output = w.output ∧ w'.tape = w.tape ∧ w'.os = w.os := by
  induction h with
  | @stop fr fs v hs =>
    intro M gs w sl t q _ h0 hL hP hv hr hsh
    refine ⟨0, gs, fr, fs, onTape v v.tape, w, sl, t, q, rfl, rfl, h0, hs _, hL, hP, hv, ⟨hr.size, hr.low, hr.same, hr.dim, hr.os⟩, fun _ _ => ⟨rfl, rfl⟩, Nat.le_refl _, rfl, rfl, rfl⟩
  | @step fr fs v f l u es ht ht' hst _ ih =>
    intro M
    induction M with
    | zero | succ M ihM =>
      all_goals
      intro gs w sl t q hM h0 hL hP hv hr hsh
      have hrun : (G fr fs).status = .running := rfl
      have haw : ∀ g ∈ gs, awake g := by
        intro g hg
        obtain ⟨i, hi, rfl⟩ := Array.mem_iff_getElem.1 hg
        rcases Nat.eq_zero_or_pos i with rfl | hpos
        · have : gs[0] = G fr fs := by simpa [Array.getElem?_eq_getElem hi] using h0
          rw [this]; exact awake_of (.inl hrun)
        · exact awake_of ((hL.old i _ hpos (Array.getElem?_eq_getElem hi)).status.elim .inl fun x => .inr (.inr x))
      obtain ⟨i, g, d, sl', hi, hg, hpick⟩ := crowd_pick (P := (Program.mk T F2)) (w := w) (sl := sl) haw ⟨0, _, h0, hrun⟩
      rcases Nat.eq_zero_or_pos i with rfl | hpos
      · -- a step of the tree
        obtain rfl : g = G fr fs := by rw [h0] at hi; exact (Option.some.inj hi).symm
        have hrd : Rel K v (w.at d) := ⟨hr.size, hr.low, hr.same, hr.dim, hr.os⟩
        obtain ⟨w', hw, hr', hv', hg', hk', hev, ho', htp', hos'⟩ := tree_step hF hv hrd ht (ht' _) (hst fun j => (w.at d).tape ((w.at d).drawn + j))
        have hgo := hw true []
        simp only [List.append_nil] at hgo
        have hrunT := runT_crowd_go (P := (Program.mk T F2)) (sl := sl') (i := 0) hi (show stepG (Program.mk T F2) (0 == 0) (G fr fs) (w.at d) = _ from hgo)
        have hlt : 0 < gs.size := (Array.getElem?_eq_some_iff.1 h0).1
        have hsz : ((gs.map (woken (Program.mk T F2) (G fr fs) (G (f fun j => (w.at d).tape ((w.at d).drawn + j)) (l fun j => (w.at d).tape ((w.at d).drawn + j))) w')).setIfInBounds 0 (G (f fun j => (w.at d).tape ((w.at d).drawn + j)) (l fun j => (w.at d).tape ((w.at d).drawn + j)))).size = gs.size := by simp
        have hsh' := hsh.kept (fun b hb => (hk' b hb).1)
        have hws : w.heap.size ≤ w'.heap.size := by have := hg'.1; have e1 := hr.size; have e2 := hr'.size; omega
        obtain ⟨N, gs', fr', fs', v2, w2, sl2, t2, q2, a1, a2, a3, a4, a5, a6, a7, a8, a9, a10, a11, a12, a13⟩ := ih (fun j => (w.at d).tape ((w.at d).drawn + j)) (sumTo gs.size q)
          ((gs.map (woken (Program.mk T F2) (G fr fs) (G (f fun j => (w.at d).tape ((w.at d).drawn + j)) (l fun j => (w.at d).tape ((w.at d).drawn + j))) w')).setIfInBounds 0 (G (f fun j => (w.at d).tape ((w.at d).drawn + j)) (l fun j => (w.at d).tape ((w.at d).drawn + j)))) w' sl'
          (t ++ MemOp.ofEvents 0 (G fr fs).frame.fn (G fr fs).frame.place (es fun j => (w.at d).tape ((w.at d).drawn + j))) q (by rw [hsz]; exact Nat.le_refl _) (by simp [hlt])
          ⟨fun j x hj hx => by
              have hne : 0 ≠ j := by omega
              rw [Array.getElem?_setIfInBounds_ne hne, Array.getElem?_map] at hx
              obtain ⟨y, hy, rfl⟩ := Option.map_eq_some_iff.1 hx
              have hq := hL.old j y hj hy
              rw [woken_quitsD hq, Deaf_other t (by omega) _ (fun op hop => by obtain ⟨e, _, rfl⟩ := Go.Conc.mem_ofEvents hop; rfl)]
              exact hq, fun j hj => by
              rw [Deaf_other t (g' := 0) (by simp at hj; omega) _ (fun op hop => by obtain ⟨e, _, rfl⟩ := Go.Conc.mem_ofEvents hop; rfl)]
              exact hL.above j (by simpa using hj)⟩
          ((hP.mono hws).own (fun e he => by rw [← hr'.size]; exact (hev e he).evL hsh')) hv' hr' hsh'
        exact ⟨N + 1, gs', fr', fs', v2, w2, sl2, t2, q2, by simp only [runNT, hpick, hrunT]; exact a1, a2.trans hsz, a3, a4, a5, a6, a7, a8, fun b hb => ⟨(a9 b hb).1.trans (hk' b hb).1, (a9 b hb).2.trans (hk' b hb).2⟩, Nat.le_trans hg'.1 a10, a11.trans ho', a12.trans htp', a13.trans hos'⟩
      · -- a leaver slips
        have hq := hL.old i g hpos hi
        have hi0 : (i == 0) = false := by simp; omega
        have hlt : i < gs.size := (Array.getElem?_eq_some_iff.1 hi).1
        cases hqi : q i with
        | zero => rw [hqi] at hq; rw [hq.1] at hg; cases hg
        | succ k =>
          rw [hqi] at hq
          rcases hq with ⟨hf, _⟩ | ⟨_, g', es', hm, hstp, hq'⟩
          · rw [hf] at hg; cases hg
          have hrunT := runT_crowd_go (P := (Program.mk T F2)) (sl := sl') (i := i) hi (by rw [hi0]; exact hstp (w.at d))
          have hsz : ((gs.map (woken (Program.mk T F2) g g' (w.at d))).setIfInBounds i g').size = gs.size := by simp
          have hsum : sumTo gs.size (upd q i k) + (k + 1) = sumTo gs.size q + k := by
            have := sumTo_upd q k id hlt
            simpa [hqi] using this
          first
            | (exfalso; omega)
            | (obtain ⟨N, gs', fr', fs', v2, w2, sl2, t2, q2, a1, a2, a3, a4⟩ := ihM ((gs.map (woken (Program.mk T F2) g g' (w.at d))).setIfInBounds i g') (w.at d) sl' (t ++ MemOp.ofEvents i g.frame.fn g.frame.place es') (upd q i k) (by rw [hsz]; omega)
                (by
                  have hne : i ≠ 0 := by omega
                  rw [Array.getElem?_setIfInBounds_ne hne, Array.getElem?_map, h0]
                  simp [woken_run hrun])
                ⟨fun j x hj hx => by
                  by_cases hji : i = j
                  · subst hji
                    rw [Array.getElem?_setIfInBounds_self_of_lt (by simpa using hlt)] at hx
                    obtain rfl := Option.some.inj hx
                    rw [upd_same, Deaf_own]
                    exact hq'
                  · rw [Array.getElem?_setIfInBounds_ne hji, Array.getElem?_map] at hx
                    obtain ⟨y, hy, rfl⟩ := Option.map_eq_some_iff.1 hx
                    have hqj := hL.old j y hj hy
                    rw [woken_quitsD hqj, upd_ne q k (Ne.symm hji), Deaf_other t hji _ (fun op hop => by obtain ⟨e, _, rfl⟩ := Go.Conc.mem_ofEvents hop; rfl)]
                    exact hqj, fun j hj => by
                  rw [Deaf_other t (g' := i) (by simp at hj; omega) _ (fun op hop => by obtain ⟨e, _, rfl⟩ := Go.Conc.mem_ofEvents hop; rfl)]
                  exact hL.above j (by simpa using hj)⟩
                (hP.mute (by omega) hm) hv ⟨hr.size, hr.low, hr.same, hr.dim, hr.os⟩ hsh
               exact ⟨N + 1, gs', fr', fs', v2, w2, sl2, t2, q2, by simp only [runNT, hpick, hrunT]; exact a1, a2.trans hsz, a3, a4⟩)
end
end Go.Proofs.Ytpolipcicfjkiaa.Cy

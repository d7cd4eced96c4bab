/- How the machine's invariant fares over one goroutine's step: the others' part. Conditions: none. -/
import Derived.Test.YtpolipcicfjkiaaK9
namespace Go.Proofs.Ytpolipcicfjkiaa.Cy
open Go Go.Conc
open Go.ConcN (WgLive sumTo upd sumTo_upd upd_ne upd_same)
open Go.ConcR (KK wgBlock WgAt stA smA rd wr mk DC0)

section
variable {P : Program} {main still : Bool} {ty Wg : Nat} {St : Nat → (Nat → Prop) → Goroutine → World → World → Prop}
theorem GV.running {n d : Nat} {K : Nat → Prop} {g : Goroutine} {V w : World} (h : GV P main still ty Wg St n d K g V) (hS : ∀ d K g V w, St d K g V w → g.status = .running) (hr : Rel K V w) (hl : WgLive ty Wg w) : g.status = .running := by
  cases n with
  | zero => exact hS _ _ _ _ _ (h K V w (Ext.refl K V) hr hl)
  | succ n =>
    rcases h with h | ⟨h, _⟩
    · exact hS _ _ _ _ _ (h K V w (Ext.refl K V) hr hl)
    · exact h
end

section
variable {P : Program} {ty Wg n0 : Nat} {Anch : Goroutine → (Nat → Prop) → World → Prop} {FinM : Goroutine → (Nat → Prop) → World → Prop} {shp : Nat → Nat → Prop} {sc : Nat → Option Obj} {Res : Nat → (Nat → Prop) → World → Prop}

theorem WorkJ.ext {f : WPh} {n g d : Nat} {K K₁ : Nat → Prop} {b : Goroutine} {V V₁ : World} (h : WorkJ P ty Wg n0 Res f n g d K b V) (e : Ext K V K₁ V₁) : WorkJ P ty Wg n0 Res f n g d K₁ b V₁ := by
  cases f <;> first | exact GV.ext h e | exact h

theorem MainJ.ext {st : MSt} {n d : Nat} {K K₁ : Nat → Prop} {a : Goroutine} {V V₁ : World} (h : MainJ P ty Wg Anch FinM shp sc Res st n d K a V) (e : Ext K V K₁ V₁) : MainJ P ty Wg Anch FinM shp sc Res st n d K₁ a V₁ := by
  cases st with
  | inc s => cases s <;> exact GV.ext h e
  | go s => cases s <;> exact GV.ext h e
  | sem =>
    rcases h with ⟨k, e1, h⟩ | ⟨e1, a0, h1, h2, h3, h⟩
    · exact .inl ⟨k, e1, GV.ext h e⟩
    · exact .inr ⟨e1, a0, h1, h2, h3, GV.ext h e⟩
  | _ => exact GV.ext h e

theorem WorkJ.status {f : WPh} {n g d : Nat} {K : Nat → Prop} {b : Goroutine} {V w : World} (h : WorkJ P ty Wg n0 Res f n g d K b V) (hr : Rel K V w) (hl : WgLive ty Wg w) : b.status = .running ∨ b.status = .finished := by
  cases f with
  | left => exact QuitsD.status h
  | _ => exact .inl (GV.running h (fun _ _ _ _ _ x => x.2.1) hr hl)

theorem MainJ.status {st : MSt} {n d : Nat} {K : Nat → Prop} {a : Goroutine} {V w : World} (h : MainJ P ty Wg Anch FinM shp sc Res st n d K a V) (hr : Rel K V w) (hl : WgLive ty Wg w) :
    a.status = .running ∨ (a.status = .blocked ∧ a.offers = none ∧ st = .sem ∧ n = 0) := by
  cases st with
  | inc s => cases s <;> exact .inl (GV.running h (fun _ _ _ _ _ x => x.2.1) hr hl)
  | go s => cases s <;> exact .inl (GV.running h (fun _ _ _ _ _ x => x.2.1) hr hl)
  | sem =>
    rcases h with ⟨k, e1, h⟩ | ⟨e1, a0, h1, h2, h3, h⟩
    · exact .inl (GV.running h (fun _ _ _ _ _ x => x.2.1) hr hl)
    · exact .inr ⟨by rw [h3], by rw [h3]; exact h2, rfl, e1⟩
  | _ => exact .inl (GV.running h (fun _ _ _ _ _ x => x.2.1) hr hl)

/-- What is left of the invariant for the others, once goroutine i has taken its step. -/
structure RestI (P : Program) (ty Wg n0 : Nat) (Anch : Goroutine → (Nat → Prop) → World → Prop) (FinM : Goroutine → (Nat → Prop) → World → Prop) (shp : Nat → Nat → Prop) (sc : Nat → Option Obj) (Res : Nat → (Nat → Prop) → World → Prop)
    (Shun : Loc → Prop) (w0 : World) (st : MSt) (cls : Nat → Cls) (rel : Nat → Option Nat) (ph : Nat → WPh) (q : Nat → Nat) (nm i : Nat) (mw : Bool) (gs : Array Goroutine) (w : World) (t : Trace) : Prop where
  main : i ≠ 0 → ∃ a nm', gs[0]? = some a ∧ nm' ≤ nm + 1 ∧ MainJ P ty Wg Anch FinM shp sc Res st nm' (Deaf t 0) (Kf cls 0 w) a (view cls 0 w) ∧ (mw = true → a.status = .running) ∧ (a.status = .running ∨ ∃ g, ph g ≠ .left)
  wk : ∀ g b, 0 < g → g ≠ i → gs[g]? = some b → WorkJ P ty Wg n0 Res (ph g) (q g) g (Deaf t g) (Kf cls g w) b (view cls g w)
  relw : ∀ g, n0 ≤ g → g < gs.size → g ≠ i → (ph g = .work → rel g = none) ∧ (ph g ≠ .work → (∃ r, rel g = some r) ∧ Res (g - n0) (Kf cls g w) (view cls g w))
  above : ∀ j, gs.size ≤ j → Deaf t j = 0
  ti : TI Shun Wg n0 gs.size cls rel t w.heap.size
  tidy : ∀ g, g ≠ i → Tidy (view cls g w)
  wgc : cls Wg = .none
  sh : Sh shp sc (gs.size - n0) cls w
  os : w.os = w0.os
  out : w.output = w0.output
  tape : w.tape = w0.tape
  /-- Number 4: what is kept from all stays as it was. -/
  kept : ∀ b, shp 4 b → cls b = .none ∧ b ≠ Wg ∧ b < w.heap.size ∧ w.heap[b]? = w0.heap[b]?

theorem WgAt.live {w : World} {st sm : Int} (h : WgAt ty Wg w st sm) : WgLive ty Wg w := ⟨st, sm, h⟩

theorem Stand.live {st : MSt} {ph : Nat → WPh} {n : Nat} {w : World} (h : Stand ty Wg n0 st ph n w) : WgLive ty Wg w := by
  cases st with
  | inc s => exact WgAt.live h.2.2.2
  | go s => exact WgAt.live h.2.2.2
  | sem =>
    rcases h.2 with h | ⟨_, _, _, h⟩ | ⟨_, _, _, h⟩ | h
    · exact WgAt.live h.2.2
    · exact WgAt.live h
    · exact WgAt.live h
    · exact WgAt.live h.2
  | last => exact WgAt.live h.2.2
  | acq => exact WgAt.live h.2.2
  | _ => exact WgAt.live h.2.2

/-- ONE GOROUTINE's STEP: the others' part. -/
theorem MI.rest (hRes : ∀ j K V K₁ V₁, Res j K V → Ext K V K₁ V₁ → Res j K₁ V₁) {Shun : Loc → Prop} {w0 : World} {st : MSt} {cls : Nat → Cls} {rel : Nat → Option Nat} {ph : Nat → WPh} {q : Nat → Nat} {nm : Nat} {gs : Array Goroutine} {a : Goroutine} {w : World} {t : Trace}
    (h : MI P ty Wg n0 Anch FinM shp sc Res Shun w0 st cls rel ph q nm gs a w t) {i : Nat} {b b' : Goroutine} {w' : World} {es : Array Event} (hb : gs[i]? = some b) (hact : Actor n0 gs.size i ∨ ∀ e ∈ es, (MemAct.ofEvent e).touch? = none) (hT : Turn cls i Wg w w')
    (hev : ∀ e ∈ es, OKop Wg i w'.heap.size (clsTo cls i w w') rel { g := i, fn := b.frame.fn, pos := b.frame.place, act := .ofEvent e })
    (hd : rel i ≠ none → ∀ k op, (MemOp.ofEvents i b.frame.fn b.frame.place es)[k]? = some op → op.act.touch? ≠ none → (t ++ MemOp.ofEvents i b.frame.fn b.frame.place es).deaf i (t.size + k) ≠ 0) :
    ((gs.map (woken P b b' w')).setIfInBounds i b').size = gs.size ∧ ((gs.map (woken P b b' w')).setIfInBounds i b')[i]? = some b' ∧
    RestI P ty Wg n0 Anch FinM shp sc Res Shun w0 st (clsTo cls i w w') rel ph q nm i (mayWake P b && b'.status == .running) ((gs.map (woken P b b' w')).setIfInBounds i b') w' (t ++ MemOp.ofEvents i b.frame.fn b.frame.place es) := by
  have hlt : i < gs.size := (Array.getElem?_eq_some_iff.1 hb).1
  have hsz : ((gs.map (woken P b b' w')).setIfInBounds i b').size = gs.size := by simp
  have hlive := h.sp.live
  have hother : ∀ j, j ≠ i → Deaf (t ++ MemOp.ofEvents i b.frame.fn b.frame.place es) j = Deaf t j := fun j hj =>
    Deaf_other t (g' := i) (Ne.symm hj) _ (fun op hop => by obtain ⟨e, _, rfl⟩ := Go.Conc.mem_ofEvents hop; rfl)
  have hwW : Wg < w.heap.size := by
    obtain ⟨x, y, hx⟩ := hlive
    exact (Array.getElem?_eq_some_iff.1 hx).1
  refine ⟨hsz, by simp [hlt], ⟨fun hi => ?_, fun g x hg hgi hx => ?_, fun g h1 h2 h3 => ?_, fun j hj => ?_, ?_, fun g hgi => ?_, ?_, ?_, hT.os.trans h.os, hT.out.trans h.out, hT.tape.trans h.tape, fun x hx => by
    obtain ⟨k1, k2, k3, k4⟩ := h.kept x hx
    refine ⟨by unfold clsTo; rw [if_neg (by omega)]; exact k1, k2, by have := hT.size; omega, ?_⟩
    rcases hT.old x k3 with e | ⟨hc | hc, _⟩
    · exact e.trans k4
    · rw [k1] at hc; cases hc
    · exact absurd hc.1 k2⟩⟩
  · -- the caller
    have hx0 : ((gs.map (woken P b b' w')).setIfInBounds i b')[0]? = some (woken P b b' w' a) := by
      rw [Array.getElem?_setIfInBounds_ne hi, Array.getElem?_map, h.h0]; rfl
    have hm := h.main.ext (hT.ext (j := 0) (Ne.symm hi))
    rw [← hother 0 (Ne.symm hi)] at hm
    have hst := MainJ.status h.main (view_rel cls 0 w) hlive
    rcases hst with hrun | ⟨hbl, hoff, rfl, rfl⟩
    · have e : woken P b b' w' a = a := woken_run hrun
      exact ⟨a, nm, by rw [hx0, e], by omega, hm, fun _ => hrun, .inl hrun⟩
    · rcases hm with ⟨k, e, _⟩ | ⟨_, a0, r1, r2, rfl, hg⟩
      · omega
      · by_cases hw : mayWake P b = true ∧ b'.status = .running
        · have e : woken P b b' w' { a0 with status := .blocked } = a0 := by
            unfold woken
            rw [if_pos (by simp [hw.1, hw.2])]
            obtain ⟨f, c, s, dy, o⟩ := a0
            simp only at r1 r2
            subst r1 r2
            rfl
          exact ⟨a0, 1, by rw [hx0, e], Nat.le_refl _, .inl ⟨0, rfl, hg⟩, fun _ => r1, .inl r1⟩
        · by_cases hw2 : woken P b b' w' { a0 with status := .blocked } = { a0 with status := .blocked }
          · refine ⟨_, 0, by rw [hx0, hw2], by omega, .inr ⟨rfl, a0, r1, r2, rfl, hg⟩, fun e => ?_, ?_⟩
            · simp at e; exact absurd e hw
            · rcases h.run with e | e
              · rw [hbl] at e; cases e
              · exact .inr e
          · have e : woken P b b' w' { a0 with status := .blocked } = a0 := by
              unfold woken at hw2 ⊢
              split at hw2
              · rename_i hc
                rw [if_pos hc]
                obtain ⟨f, c, s, dy, o⟩ := a0
                simp only at r1 r2
                subst r1 r2
                rfl
              · exact absurd rfl hw2
            exact ⟨a0, 1, by rw [hx0, e], Nat.le_refl _, .inl ⟨0, rfl, hg⟩, fun _ => r1, .inl r1⟩
  · rw [Array.getElem?_setIfInBounds_ne (Ne.symm hgi), Array.getElem?_map] at hx
    obtain ⟨y, hy, rfl⟩ := Option.map_eq_some_iff.1 hx
    have hw := h.wk g y hg hy
    have hs := hw.status (view_rel cls g w) hlive
    have e : woken P b b' w' y = y := by
      unfold woken
      split
      · exact again_running _ hs
      · rfl
    rw [e, hother g hgi]
    exact hw.ext (hT.ext hgi)
  · rw [hsz] at h2
    obtain ⟨x, y⟩ := h.relw g h1 h2
    exact ⟨x, fun hp => ⟨(y hp).1, hRes _ _ _ _ _ (y hp).2 (hT.ext h3)⟩⟩
  · rw [hsz] at hj
    rw [hother j (by omega)]
    exact h.above j hj
  · rw [hsz]
    exact h.ti.step hT.size (hact.imp id fun y op hop => by obtain ⟨e, he, rfl⟩ := Go.Conc.mem_ofEvents hop; exact y e he) (fun x hx => by unfold clsTo; rw [if_neg (by omega)]) (fun op hop => by obtain ⟨e, he, rfl⟩ := Go.Conc.mem_ofEvents hop; exact hev e he) hd
  · exact (h.tidy g).ext (hT.ext hgi) (view_rel _ g w')
  · unfold clsTo; rw [if_neg (by omega)]; exact h.wgc
  · rw [hsz]
    refine ⟨fun x hx => ?_, fun x hx => ?_, fun x hx => ?_⟩
    rotate_left 2
    · unfold clsTo at hx
      split at hx
      · cases hx
      · obtain ⟨c, e, fr, e2⟩ := h.sh.only x hx
        have hxw := (Array.getElem?_eq_some_iff.1 e2).1
        rcases hT.old x hxw with e3 | ⟨hc | hc, _⟩
        · exact ⟨c, e, fr, e3.trans e2⟩
        · rw [hx] at hc; cases hc
        · rw [hx] at hc; cases hc.2
    rotate_left
    · obtain ⟨e1, c, e, fr, e2⟩ := h.sh.away x hx
      have hxw := (Array.getElem?_eq_some_iff.1 e2).1
      refine ⟨by unfold clsTo; rw [if_neg (by omega)]; exact e1, ?_⟩
      rcases hT.old x hxw with e3 | ⟨_, o, o', e3, e4, hl⟩
      · exact ⟨c, e, fr, e3.trans e2⟩
      · rw [e2] at e3
        cases e3
        cases hl with
        | cells _ c' _ _ => exact ⟨_, _, _, e4⟩
    obtain ⟨hxw, e1, e2⟩ := h.sh.all x hx
    refine ⟨by have := hT.size; omega, by unfold clsTo; rw [if_neg (by omega)]; exact e1, ?_⟩
    rcases hT.old x hxw with e | ⟨hc | hc, _⟩
    · rw [e]; exact e2
    · rw [e1] at hc; cases hc
    · rw [e1] at hc; cases hc.2

/-- A soft step's entries are such as the trace lets by. -/
theorem soft_ok {cls : Nat → Cls} {rel : Nat → Option Nat} {i : Nat} {w w' V' : World} {es : Array Event} (h : Soft (i == 0) Wg (Kf cls i w) (view cls i w) w V' w' es) (hwg : cls Wg = .none) (hWg : Wg < w.heap.size)
    (hr : rel i = none ∨ ∀ e ∈ es, e.mute = true) (fn : FuncId) (pos : String) : ∀ e ∈ es, OKop Wg i w'.heap.size (clsTo cls i w w') rel { g := i, fn, pos, act := .ofEvent e } := by
  obtain ⟨hT, hV, _⟩ := h.turn
  have hsz := hT.size
  intro e he
  by_cases hmu : e.mute = true
  · exact ⟨rfl, low_mute hmu _, fun x => by
      obtain ⟨loc, wr, sy⟩ := e
      cases loc <;> simp [Event.mute] at hmu
      rename_i m
      cases m <;> simp [MemAct.ofEvent] at hmu x, fun x hx => by rw [touch_mute hmu] at hx; cases hx⟩
  have hr := hr.resolve_right (fun x => hmu (x e he))
  rcases h.ev e he with ⟨hev, hobj⟩ | hev | ⟨x, hx, ⟨a, ha, hab⟩, hk, hs⟩
  · obtain ⟨loc, wr, sy⟩ := e
    unfold EvOK at hev
    cases loc with
    | cell a =>
      obtain ⟨⟨x, hx⟩, hw⟩ := hev
      simp only at hw
      have hblk : ∃ o, V'.heap[a.block]? = some o ∧ ∃ c e fr, o = .cells c e fr ∧ c ≠ #[] := by
        unfold World.cell? at hx
        split at hx
        · rename_i c e fr ho
          refine ⟨_, ho, c, e, fr, rfl, fun hc => ?_⟩
          subst hc
          split at hx <;> simp at hx
        · cases hx
      obtain ⟨o, ho, c, ty2, fr, rfl, hc⟩ := hblk
      have hlt : a.block < w'.heap.size := by
        have := (Array.getElem?_eq_some_iff.1 ho).1
        rw [hV, view_size] at this
        exact this
      rw [hV, view_get, Array.getElem?_eq_getElem hlt] at ho
      simp only [Option.map_some, Option.some.injEq] at ho
      have hnone : ∀ o : Obj, closeO o ≠ .cells c ty2 fr := fun o e => by
        cases o <;> simp [closeO] at e
        exact hc e.1
      refine ⟨rfl, hlt, by simp [MemAct.ofEvent], fun y hy hm => .inr ?_⟩
      have hyl : y.loc = .cell a ∧ y.write = wr := by
        simp only [MemAct.ofEvent, MemAct.touch?, Option.some.injEq] at hy
        rw [← hy]; exact ⟨rfl, rfl⟩
      rw [hyl.1, hyl.2]
      show a.block ≠ Wg ∧ rel i = none ∧ (clsTo cls i w w' a.block = _ ∨ _)
      unfold seenO at ho
      split at ho
      · rename_i g hcl
        split at ho
        · rename_i hgi
          subst hgi
          refine ⟨fun e => ?_, hr, .inl hcl⟩
          rw [e] at hcl
          unfold clsTo at hcl
          rw [if_neg (by omega), hwg] at hcl
          cases hcl
        · exact absurd ho (hnone _)
      · rename_i hcl
        refine ⟨fun e => ?_, hr, .inr ⟨hcl, ?_⟩⟩
        · rw [e] at hcl
          unfold clsTo at hcl
          rw [if_neg (by omega), hwg] at hcl
          cases hcl
        · cases wr with
          | false => rfl
          | true =>
            exfalso
            refine hw rfl ⟨?_, fun e => ?_⟩
            · apply Classical.byContradiction
              intro hge
              unfold clsTo at hcl
              rw [if_pos ⟨by omega, hlt⟩] at hcl
              cases hcl
            · unfold clsTo at hcl
              by_cases hb : w.heap.size ≤ a.block
              · rw [if_pos ⟨hb, hlt⟩] at hcl; cases hcl
              · rw [if_neg (by omega), e] at hcl; cases hcl
      · exact absurd ho (hnone _)
    | obj r =>
      obtain ⟨⟨o, ho, _⟩, _⟩ := hev
      have hlt : r < w'.heap.size := by
        have := (Array.getElem?_eq_some_iff.1 ho).1
        rw [hV, view_size] at this
        exact this
      have hmine : clsTo cls i w w' r = .mine i := by
        have := hobj r rfl
        unfold clsTo
        by_cases hb : w.heap.size ≤ r
        · rw [if_pos ⟨hb, hlt⟩]
        · rw [if_neg (by omega)]
          apply Classical.byContradiction
          exact fun e => this ⟨by omega, e⟩
      refine ⟨rfl, by cases wr <;> cases sy <;> exact hlt, by cases wr <;> cases sy <;> simp [MemAct.ofEvent], fun y hy hm => .inr ?_⟩
      have hyl : y.loc = .obj r := by cases wr <;> cases sy <;> simp [MemAct.ofEvent, MemAct.touch?] at hy <;> rw [← hy]
      rw [hyl]
      refine ⟨fun e => ?_, hr, .inl hmine⟩
      have e : r = Wg := e
      rw [e] at hmine
      unfold clsTo at hmine
      rw [if_neg (by omega), hwg] at hmine
      cases hmine
    | mark m =>
      simp only at hev
      subst hev
      exact ⟨rfl, trivial, by simp [MemAct.ofEvent], fun y hy => by simp [MemAct.ofEvent, MemAct.touch?] at hy⟩
    | output => exact hev.elim
    | goroutines => exact hev.elim
  · exact absurd hev hmu
  · have hlow : (MemAct.ofEvent e).low w'.heap.size := by
      generalize hm : MemAct.ofEvent e = m at hx
      cases m with
      | access e' =>
        simp only [MemAct.touch?, Option.some.injEq] at hx
        subst hx
        show e'.loc.low _
        rw [show e'.loc = .cell a from ha]
        show a.block < _
        omega
      | mark m =>
        cases m <;> simp [MemAct.touch?] at hx <;> (subst hx; simp only [Loc.cell.injEq] at ha; subst ha; show _ < _; omega)
      | _ => simp [MemAct.touch?] at hx
    refine ⟨rfl, hlow, fun e2 => ?_, fun y hy hm => .inl ?_⟩
    · have e2 : MemAct.ofEvent e = .mark (.release (stA Wg)) := e2
      rw [e2] at hx
      simp [MemAct.touch?] at hx
    · have : y = x := Option.some.inj (hy.symm.trans hx)
      subst this
      exact ⟨by rw [ha]; exact hab, hk, fun z => by
        apply Classical.byContradiction
        intro h0
        exact hs (by simpa using h0) z, a, ha⟩
end
end Go.Proofs.Ytpolipcicfjkiaa.Cy
/- The machine's invariant over each step of the others and of the workers. Conditions: none. -/
namespace Go.Proofs.Ytpolipcicfjkiaa.Cy
open Go Go.Conc
open Go.ConcN (WgLive sumTo upd sumTo_upd upd_ne upd_same)
open Go.ConcR (KK wgBlock WgAt stA smA rd wr mk DC0)

section
variable {P : Program} {ty Wg n0 : Nat} {Anch : Goroutine → (Nat → Prop) → World → Prop} {FinM : Goroutine → (Nat → Prop) → World → Prop} {shp : Nat → Nat → Prop} {sc : Nat → Option Obj} {Res : Nat → (Nat → Prop) → World → Prop}
  {Shun : Loc → Prop} {w0 : World} {st : MSt} {cls : Nat → Cls} {rel : Nat → Option Nat} {ph : Nat → WPh} {q : Nat → Nat} {nm : Nat} {gs : Array Goroutine} {a : Goroutine} {w : World} {t : Trace}

def mu1 (st : MSt) (ph : Nat → WPh) (n : Nat) : Nat := st.wt (sumTo n fun g => (ph g).cnt) + sumTo n fun g => (ph g).wt
def mu2 (q : Nat → Nat) (n nm : Nat) : Nat := 2 * sumTo n q + nm

/-- The next machine, in less. -/
def Adv (P : Program) (ty Wg n0 : Nat) (Anch : Goroutine → (Nat → Prop) → World → Prop) (FinM : Goroutine → (Nat → Prop) → World → Prop) (shp : Nat → Nat → Prop) (sc : Nat → Option Obj) (Res : Nat → (Nat → Prop) → World → Prop) (Shun : Loc → Prop) (w0 : World)
    (k1 k2 : Nat) (m' : Machine) (t' : Trace) : Prop :=
  ∃ st cls rel ph q nm gs a w sl, m' = crowd gs w sl ∧ MI P ty Wg n0 Anch FinM shp sc Res Shun w0 st cls rel ph q nm gs a w t' ∧ (mu1 st ph gs.size < k1 ∨ (mu1 st ph gs.size = k1 ∧ mu2 q gs.size nm < k2))

theorem ext_at (cls : Nat → Cls) (g : Nat) (w : World) (d : Nat) : Ext (Kf cls g w) (view cls g w) (Kf cls g (w.at d)) (view cls g (w.at d)) :=
  ⟨Nat.le_refl _, fun _ _ => rfl, fun b => ⟨.inl, fun h => h.elim id fun x => absurd x.2 (by have := x.1; show ¬ b < (view cls g w).heap.size; omega)⟩, rfl⟩

theorem Stand.congr {n : Nat} {w' : World} (h : Stand ty Wg n0 st ph n w) (e : w'.heap[Wg]? = w.heap[Wg]?) : Stand ty Wg n0 st ph n w' := by
  have c : ∀ x y, WgAt ty Wg w x y → WgAt ty Wg w' x y := fun x y h => by unfold WgAt at *; rw [e]; exact h
  cases st with
  | inc s => exact ⟨h.1, h.2.1, h.2.2.1, c _ _ h.2.2.2⟩
  | go s => exact ⟨h.1, h.2.1, h.2.2.1, c _ _ h.2.2.2⟩
  | sem => exact ⟨h.1, h.2.imp (fun x => ⟨x.1, x.2.1, c _ _ x.2.2⟩) fun x => x.imp (fun ⟨g, a, b, d⟩ => ⟨g, a, b, c _ _ d⟩) fun x => x.imp (fun ⟨g, a, b, d⟩ => ⟨g, a, b, c _ _ d⟩) fun x => ⟨x.1, c _ _ x.2⟩⟩
  | last => exact ⟨h.1, h.2.1, c _ _ h.2.2⟩
  | acq => exact ⟨h.1, h.2.1, c _ _ h.2.2⟩
  | _ => exact ⟨h.1, h.2.1, c _ _ h.2.2⟩

theorem MI.at (hRes : ∀ j K V K₁ V₁, Res j K V → Ext K V K₁ V₁ → Res j K₁ V₁) (h : MI P ty Wg n0 Anch FinM shp sc Res Shun w0 st cls rel ph q nm gs a w t) (d : Nat) : MI P ty Wg n0 Anch FinM shp sc Res Shun w0 st cls rel ph q nm gs a (w.at d) t :=
  ⟨h.h0, h.main.ext (ext_at cls 0 w d), h.run, fun g b hg hb => (h.wk g b hg hb).ext (ext_at cls g w d), h.n0pos, h.n0le, h.act, fun g h1 h2 => ⟨(h.relw g h1 h2).1, fun hp => ⟨((h.relw g h1 h2).2 hp).1, hRes _ _ _ _ _ ((h.relw g h1 h2).2 hp).2 (ext_at cls g w d)⟩⟩,
    h.reln, h.above, h.ti, h.tidy, h.wgc, ⟨h.sh.all, h.sh.away, h.sh.only⟩, h.sp.congr rfl, h.os, h.out, h.tape, h.kept⟩

theorem MI.wg_lt (h : MI P ty Wg n0 Anch FinM shp sc Res Shun w0 st cls rel ph q nm gs a w t) : Wg < w.heap.size := by
  obtain ⟨x, y, hx⟩ := h.sp.live
  exact (Array.getElem?_eq_some_iff.1 hx).1

theorem turn_refl (i : Nat) : Turn cls i Wg w w := ⟨Nat.le_refl _, fun _ _ => .inl rfl, fun b h1 h2 => absurd h2 (by omega), rfl, rfl, rfl⟩
theorem clsTo_refl (i : Nat) : clsTo cls i w w = cls := by
  funext b
  unfold clsTo
  rw [if_neg (by omega)]

/-- The others' part, and the goroutine's own. -/
theorem RestI.mi {i : Nat} (hi : i ≠ 0) {mw : Bool} {rel' : Nat → Option Nat} {ph' : Nat → WPh} {q' : Nat → Nat} {b' : Goroutine}
    (h : RestI P ty Wg n0 Anch FinM shp sc Res Shun w0 st cls rel ph q nm i mw gs w t) (n0pos : 0 < n0) (n0le : n0 ≤ gs.size) (hb : gs[i]? = some b')
    (hph : ∀ g, g ≠ i → ph' g = ph g) (hq : ∀ g, g ≠ i → q' g = q g) (hrel : ∀ g, g ≠ i → rel' g = rel g)
    (hw : WorkJ P ty Wg n0 Res (ph' i) (q' i) i (Deaf t i) (Kf cls i w) b' (view cls i w)) (hact : ∀ g, ph' g ≠ .left → n0 ≤ g ∧ g < gs.size)
    (hrw : n0 ≤ i → (ph' i = .work → rel' i = none) ∧ (ph' i ≠ .work → (∃ r, rel' i = some r) ∧ Res (i - n0) (Kf cls i w) (view cls i w))) (hreln : ∀ g, ¬ (n0 ≤ g ∧ g < gs.size) → rel' g = none)
    (hti : TI Shun Wg n0 gs.size cls rel' t w.heap.size) (htd : Tidy (view cls i w)) (hsp : Stand ty Wg n0 st ph' gs.size w)
    (hrun : ∀ a : Goroutine, (a.status = .running ∨ st = .sem) → (mw = true → a.status = .running) → (a.status = .running ∨ ∃ g, ph g ≠ .left) → (a.status = .running ∨ ∃ g, ph' g ≠ .left)) :
    ∃ a nm', nm' ≤ nm + 1 ∧ MI P ty Wg n0 Anch FinM shp sc Res Shun w0 st cls rel' ph' q' nm' gs a w t := by
  obtain ⟨a, nm', h1, h2, h3, h4, h5⟩ := h.main hi
  have hst : a.status = .running ∨ st = .sem := by
    rcases MainJ.status h3 (view_rel cls 0 w) hsp.live with x | ⟨_, _, x, _⟩
    · exact .inl x
    · exact .inr x
  refine ⟨a, nm', h2, ⟨h1, h3, hrun a hst h4 h5, fun g b hg hb' => ?_, n0pos, n0le, hact, fun g g1 g2 => ?_, hreln, h.above, hti, fun g => ?_, h.wgc, h.sh, hsp, h.os, h.out, h.tape, h.kept⟩⟩
  · by_cases e : g = i
    · subst e
      rw [hb] at hb'
      cases hb'
      exact hw
    · rw [hph g e, hq g e]
      exact h.wk g b hg e hb'
  · by_cases e : g = i
    · subst e; exact hrw g1
    · rw [hph g e, hrel g e]
      exact h.relw g g1 g2 e
  · by_cases e : g = i
    · subst e; exact htd
    · exact h.tidy g e

theorem sum_upd {n i : Nat} (q : Nat → Nat) (k : Nat) (hi : i < n) : sumTo n (upd q i k) + q i = sumTo n q + k := by
  have := sumTo_upd q k id hi
  simpa using this

theorem mut_ok {i B : Nat} {es : Array Event} (hm : ∀ e ∈ es, e.mute = true) (fn : FuncId) (pos : String) : ∀ e ∈ es, OKop Wg i B cls rel { g := i, fn, pos, act := .ofEvent e } := by
  intro e he
  have hmu := hm e he
  exact ⟨rfl, low_mute hmu _, fun x => by
    obtain ⟨loc, wr, sy⟩ := e
    cases loc <;> simp [Event.mute] at hmu
    rename_i m
    cases m <;> simp [MemAct.ofEvent] at hmu x, fun x hx => by rw [touch_mute hmu] at hx; cases hx⟩

theorem no_touch {i : Nat} {es : Array Event} (hm : ∀ e ∈ es, (MemAct.ofEvent e).touch? = none) (fn : FuncId) (pos : String) (u : Trace) : ∀ (k : Nat) op, (MemOp.ofEvents i fn pos es)[k]? = some op → op.act.touch? ≠ none → (u ++ MemOp.ofEvents i fn pos es).deaf i (u.size + k) ≠ 0 := by
  intro k op hk hne
  obtain ⟨e, he, rfl⟩ := Go.Conc.mem_ofEvents (mem_of_getElem? hk)
  exact absurd (hm e he) hne

/-- A leaver slips. -/
theorem MI.slip (hRes : ∀ j K V K₁ V₁, Res j K V → Ext K V K₁ V₁ → Res j K₁ V₁) (h : MI P ty Wg n0 Anch FinM shp sc Res Shun w0 st cls rel ph q nm gs a w t) {i : Nat} {b : Goroutine} (hi : 0 < i) (hb : gs[i]? = some b) (hp : ph i = .left) (hrun : b.status = .running) (sl : Option (Nat × Nat)) :
    ∃ m' ops, runT P (crowd gs w sl) i = (.next m', ops) ∧ Adv P ty Wg n0 Anch FinM shp sc Res Shun w0 (mu1 st ph gs.size) (mu2 q gs.size nm) m' (t ++ ops) := by
  have hj := h.wk i b hi hb
  rw [hp] at hj
  have hj : QuitsD P (q i) (Deaf t i) b := hj
  cases hq : q i with
  | zero => rw [hq] at hj; rw [hj.1] at hrun; cases hrun
  | succ k =>
    rw [hq] at hj
    rcases hj with ⟨hf, _⟩ | ⟨_, g', es, hm, hst, hq'⟩
    · rw [hf] at hrun; cases hrun
    have hi0 : (i == 0) = false := by simp; omega
    have hlt : i < gs.size := (Array.getElem?_eq_some_iff.1 hb).1
    have hrunT := runT_crowd_go (P := P) (sl := sl) (i := i) hb (show stepG P (i == 0) b w = _ by rw [hi0]; exact hst w)
    have hnt : ∀ e ∈ es, (MemAct.ofEvent e).touch? = none := fun e he => touch_mute (hm e he)
    obtain ⟨hsz, hgi, hR⟩ := h.rest hRes (b' := g') (es := es) hb (.inr hnt) (turn_refl i) (mut_ok hm _ _) (fun _ => no_touch hnt _ _ t)
    rw [clsTo_refl] at hR
    obtain ⟨a', nm', hnm, hMI⟩ := hR.mi (rel' := rel) (ph' := ph) (q' := upd q i k) (b' := g') (by omega) h.n0pos (by rw [hsz]; exact h.n0le) hgi (fun _ _ => rfl) (fun g hg => upd_ne q k hg) (fun _ _ => rfl)
      (by rw [hp, upd_same, Deaf_own]; exact hq') (fun g hg => by rw [hsz]; exact h.act g hg) (fun h1 => h.relw i h1 hlt) (fun g hg => h.reln g (by rw [hsz] at hg; exact hg)) hR.ti (h.tidy i) (by rw [hsz]; exact h.sp) (fun _ _ _ x => x)
    refine ⟨_, _, hrunT, _, _, _, _, _, _, _, _, _, _, rfl, hMI, .inr ⟨by rw [hsz], ?_⟩⟩
    rw [hsz]
    have := sum_upd q k hlt
    unfold mu2
    omega

theorem Kf_to {w' : World} (i : Nat) (hs : w.heap.size ≤ w'.heap.size) : Kf (clsTo cls i w w') i w' = Kf cls i w := by
  funext b
  unfold Kf clsTo
  apply propext
  constructor
  · rintro ⟨h1, h2⟩
    by_cases hb : b < w.heap.size
    · rw [if_neg (by omega)] at h2; exact ⟨hb, h2⟩
    · rw [if_pos ⟨by omega, h1⟩] at h2; exact absurd rfl h2
  · rintro ⟨h1, h2⟩
    exact ⟨by omega, by rw [if_neg (by omega)]; exact h2⟩

/-- A worker's soft step: the judgement 'J' goes on with one step less. -/
theorem MI.soft (hRes : ∀ j K V K₁ V₁, Res j K V → Ext K V K₁ V₁ → Res j K₁ V₁) (h : MI P ty Wg n0 Anch FinM shp sc Res Shun w0 st cls rel ph q nm gs a w t) {i k : Nat} {b : Goroutine} (hi : 0 < i) (hb : gs[i]? = some b) (hq : q i = k + 1) (hne : ph i ≠ .left)
    {still : Bool} {St : Nat → (Nat → Prop) → Goroutine → World → World → Prop} (hstill : ph i ≠ .work → still = true) (hJ : ∀ d K b V, GV P false still ty Wg St k d K b V → WorkJ P ty Wg n0 Res (ph i) k i d K b V)
    (hstep : ∃ g' w' V' es, stepG P false b w = .go g' w' es ∧ (Soft false Wg (Kf cls i w) (view cls i w) w V' w' es ∧ (still = true → w' = w ∧ ∀ e ∈ es, e.mute = true)) ∧ GV P false still ty Wg St k (deafBehind (Deaf t i) es) (Kf cls i w) g' V') (sl : Option (Nat × Nat)) :
    ∃ m' ops, runT P (crowd gs w sl) i = (.next m', ops) ∧ Adv P ty Wg n0 Anch FinM shp sc Res Shun w0 (mu1 st ph gs.size) (mu2 q gs.size nm) m' (t ++ ops) := by
  obtain ⟨g', w', V', es, hst, ⟨hS, hmu⟩, hG⟩ := hstep
  have hi0 : (i == 0) = false := by simp; omega
  have hlt : i < gs.size := (Array.getElem?_eq_some_iff.1 hb).1
  obtain ⟨hn0, _⟩ := h.act i hne
  have hA : Actor n0 gs.size i := .inr ⟨hn0, hlt⟩
  have hrunT := runT_crowd_go (P := P) (sl := sl) (i := i) hb (show stepG P (i == 0) b w = _ by rw [hi0]; exact hst)
  obtain ⟨hT, hV, hVo⟩ := hS.turn
  have hr : rel i = none ∨ ∀ e ∈ es, e.mute = true := by
    by_cases hw : ph i = .work
    · exact .inl ((h.relw i hn0 hlt).1 hw)
    · exact .inr (hmu (hstill hw)).2
  obtain ⟨hsz, hgi, hR⟩ := h.rest hRes (b' := g') (es := es) hb (.inl hA) hT (soft_ok (by rw [hi0]; exact hS) h.wgc h.wg_lt hr _ _) (fun hrel => no_touch (fun e he => touch_mute ((hr.resolve_left hrel) e he)) _ _ t)
  have hGn : GV P false still ty Wg St k (deafBehind (Deaf t i) es) (Kf (clsTo cls i w w') i w') g' (view (clsTo cls i w w') i w') := by
    rw [Kf_to i hT.size]
    exact hG.same hV.symm hVo.symm
  have hwgs : w'.heap[Wg]? = w.heap[Wg]? := (hS.kept Wg ⟨h.wg_lt, by rw [h.wgc]; exact fun e => by cases e⟩).2
  obtain ⟨a', nm', hnm, hMI⟩ := hR.mi (rel' := rel) (ph' := ph) (q' := upd q i k) (b' := g') (by omega) h.n0pos (by rw [hsz]; exact h.n0le) hgi (fun _ _ => rfl) (fun g hg => upd_ne q k hg) (fun _ _ => rfl)
    (by rw [upd_same, Deaf_own]; exact hJ _ _ _ _ hGn) (fun g hg => by rw [hsz]; exact h.act g hg)
    (fun h1 => ⟨(h.relw i h1 hlt).1, fun hw => ⟨((h.relw i h1 hlt).2 hw).1, by
      obtain ⟨rfl, _⟩ := hmu (hstill hw)
      rw [clsTo_refl]
      exact ((h.relw i h1 hlt).2 hw).2⟩⟩) (fun g hg => h.reln g (by rw [hsz] at hg; exact hg)) hR.ti
    (fun x o ho => hS.tidy x o (by rw [hV]; exact ho)) (by rw [hsz]; exact h.sp.congr hwgs) (fun _ _ _ x => x)
  refine ⟨_, _, hrunT, _, _, _, _, _, _, _, _, _, _, rfl, hMI, .inr ⟨by rw [hsz], ?_⟩⟩
  rw [hsz]
  have := sum_upd q k hlt
  unfold mu2
  omega
end
end Go.Proofs.Ytpolipcicfjkiaa.Cy
/- The machine's invariant over the workers' release, and their steps at the group. Conditions: none. -/
namespace Go.Proofs.Ytpolipcicfjkiaa.Cy
open Go Go.Conc
open Go.ConcN (WgLive sumTo upd sumTo_upd upd_ne upd_same)
open Go.ConcR (KK wgBlock WgAt stA smA rd wr mk DC0)

theorem deaf_at (t : Trace) (i : Nat) (fn : FuncId) (pos : String) (es1 es2 : Array Event) : (t ++ MemOp.ofEvents i fn pos (es1 ++ es2)).deaf i (t.size + es1.size) = deafBehind (Deaf t i) es1 := by
  have e : MemOp.ofEvents i fn pos (es1 ++ es2) = MemOp.ofEvents i fn pos es1 ++ MemOp.ofEvents i fn pos es2 := by simp [ofEvents_eq]
  have hs : (t ++ MemOp.ofEvents i fn pos es1).size = t.size + es1.size := by simp [ofEvents_eq]
  rw [e, ← Array.append_assoc, ← hs, deaf_old (Nat.le_refl _), ← Deaf_own t i fn pos es1]
  rfl

section
variable {P : Program} {ty Wg n0 : Nat} {Anch : Goroutine → (Nat → Prop) → World → Prop} {FinM : Goroutine → (Nat → Prop) → World → Prop} {shp : Nat → Nat → Prop} {sc : Nat → Option Obj} {Res : Nat → (Nat → Prop) → World → Prop}
  {Shun : Loc → Prop} {w0 : World} {st : MSt} {cls : Nat → Cls} {rel : Nat → Option Nat} {ph : Nat → WPh} {q : Nat → Nat} {nm : Nat} {gs : Array Goroutine} {a : Goroutine} {w : World} {t : Trace}

theorem setCell_ne (w : World) (ad : Addr) (v : Value) {b : Nat} (hb : b ≠ ad.block) : (w.setCell ad v).heap[b]? = w.heap[b]? := by
  unfold World.setCell
  simp only
  rw [Array.getElem?_modify, if_neg (Ne.symm hb)]

theorem turn_wg {i : Nat} {ad : Addr} {v : Value} {x y x' y' : Int} (h : WgAt ty Wg w x y) (h' : WgAt ty Wg (w.setCell ad v) x' y') (ha : ad.block = Wg) (hc : cls Wg = .none) : Turn cls i Wg w (w.setCell ad v) := by
  have hs : (w.setCell ad v).heap.size = w.heap.size := by unfold World.setCell; simp
  refine ⟨by rw [hs]; exact Nat.le_refl _, fun b hb => ?_, fun b h1 h2 => absurd h2 (by rw [hs]; omega), rfl, rfl, rfl⟩
  by_cases e : b = Wg
  · subst e
    exact .inr ⟨.inr ⟨rfl, hc⟩, _, _, h, h', .cells _ _ _ _⟩
  · exact .inl (setCell_ne w ad v (by rw [ha]; exact e))

theorem clsTo_set {i : Nat} (ad : Addr) (v : Value) : clsTo cls i w (w.setCell ad v) = cls := by
  have hs : (w.setCell ad v).heap.size = w.heap.size := by unfold World.setCell; simp
  funext b
  unfold clsTo
  rw [hs, if_neg (by omega)]

theorem view_set {g : Nat} {ad : Addr} {v : Value} {x y x' y' : Int} (h : WgAt ty Wg w x y) (h' : WgAt ty Wg (w.setCell ad v) x' y') (ha : ad.block = Wg) (hc : cls Wg = .none) :
    (view cls g (w.setCell ad v)).heap = (view cls g w).heap ∧ Kf cls g (w.setCell ad v) = Kf cls g w := by
  have hs : (w.setCell ad v).heap.size = w.heap.size := by unfold World.setCell; simp
  refine ⟨?_, by unfold Kf; rw [hs]⟩
  apply Array.ext_getElem?
  intro b
  rw [view_get, view_get]
  by_cases e : b = Wg
  · subst e
    rw [show w.heap[b]? = _ from h, show (w.setCell ad v).heap[b]? = _ from h']
    simp [seenO, hc, wgBlock, closeO]
  · rw [setCell_ne w ad v (by rw [ha]; exact e)]

theorem wg_ok {i B : Nat} {e : Event} (he : ∃ wr, e = ⟨.cell (stA Wg), wr, true⟩ ∨ e = ⟨.cell (smA Wg), wr, true⟩) (hB : Wg < B) (fn : FuncId) (pos : String) : OKop Wg i B cls rel { g := i, fn, pos, act := .ofEvent e } := by
  obtain ⟨wr, rfl | rfl⟩ := he <;>
    exact ⟨rfl, hB, by simp [MemAct.ofEvent], fun x hx _ => .inl (by
      simp only [MemAct.ofEvent, MemAct.touch?, Option.some.injEq] at hx
      subst hx
      exact ⟨rfl, by simp, by simp, _, rfl⟩)⟩

theorem cnt_pos {n i : Nat} (hi : i < n) (hp : (ph i).cnt = 1) : ∃ v, (sumTo n fun g => (ph g).cnt) = v + 1 := by
  have := sum_upd (fun g => (ph g).cnt) 0 hi
  exact ⟨(sumTo n fun g => (ph g).cnt) - 1, by omega⟩

/-- A phase turned: what the sums become. -/
theorem sum_ph {n i : Nat} (hi : i < n) (f : WPh) : (sumTo n fun g => (upd ph i f g).cnt) + (ph i).cnt = (sumTo n fun g => (ph g).cnt) + f.cnt ∧ (sumTo n fun g => (upd ph i f g).wt) + (ph i).wt = (sumTo n fun g => (ph g).wt) + f.wt := by
  have e1 : (fun g => (upd ph i f g).cnt) = upd (fun g => (ph g).cnt) i f.cnt := by
    funext g; by_cases e : g = i
    · subst e; simp [upd_same]
    · simp [upd_ne _ _ e]
  have e2 : (fun g => (upd ph i f g).wt) = upd (fun g => (ph g).wt) i f.wt := by
    funext g; by_cases e : g = i
    · subst e; simp [upd_same]
    · simp [upd_ne _ _ e]
  rw [e1, e2]
  exact ⟨sum_upd _ _ hi, sum_upd _ _ hi⟩

theorem wt_le (st : MSt) (c c' : Nat) : st.wt c' ≤ st.wt c + 5 := by
  cases st with
  | inc s => cases s <;> simp [MSt.wt]
  | go s => cases s <;> simp [MSt.wt]
  | cas vs => simp only [MSt.wt]; split <;> split <;> omega
  | _ => simp [MSt.wt]

/-- A worker passes on to its next stage. -/
theorem MI.wstage (hRes : ∀ j K V K₁ V₁, Res j K V → Ext K V K₁ V₁ → Res j K₁ V₁) (h : MI P ty Wg n0 Anch FinM shp sc Res Shun w0 st cls rel ph q nm gs a w t) {i q' : Nat} {b b' : Goroutine} {w' : World} {es : Array Event} {rel' : Nat → Option Nat} (f' : WPh) (hi : 0 < i) (hb : gs[i]? = some b) (hne : ph i ≠ .left)
    (hst : stepG P false b w = .go b' w' es) (hT : Turn cls i Wg w w') (hcl : clsTo cls i w w' = cls) (hv : (view cls i w').heap = (view cls i w).heap ∧ Kf cls i w' = Kf cls i w)
    (hev : ∀ e ∈ es, OKop Wg i w'.heap.size cls rel { g := i, fn := b.frame.fn, pos := b.frame.place, act := .ofEvent e })
    (hd : rel i ≠ none → ∀ k op, (MemOp.ofEvents i b.frame.fn b.frame.place es)[k]? = some op → op.act.touch? ≠ none → (t ++ MemOp.ofEvents i b.frame.fn b.frame.place es).deaf i (t.size + k) ≠ 0)
    (hrel : ∀ g, g ≠ i → rel' g = rel g) (hti : TI Shun Wg n0 gs.size cls rel (t ++ MemOp.ofEvents i b.frame.fn b.frame.place es) w'.heap.size → TI Shun Wg n0 gs.size cls rel' (t ++ MemOp.ofEvents i b.frame.fn b.frame.place es) w'.heap.size)
    (hJ : ∀ V, V.heap = (view cls i w).heap → V.os = (view cls i w).os → WorkJ P ty Wg n0 Res f' q' i (deafBehind (Deaf t i) es) (Kf cls i w) b' V) (hf' : f' ≠ .work) (hR : ∃ r, rel' i = some r) (hres : Res (i - n0) (Kf cls i w) (view cls i w))
    (hsp : Stand ty Wg n0 st (upd ph i f') gs.size w') (hdrop : f'.wt + 6 ≤ (ph i).wt)
    (hrun : ∀ a : Goroutine, (a.status = .running ∨ st = .sem) → ((mayWake P b && b'.status == .running) = true → a.status = .running) → (a.status = .running ∨ ∃ g, upd ph i f' g ≠ .left)) (sl : Option (Nat × Nat)) :
    ∃ m' ops, runT P (crowd gs w sl) i = (.next m', ops) ∧ Adv P ty Wg n0 Anch FinM shp sc Res Shun w0 (mu1 st ph gs.size) (mu2 q gs.size nm) m' (t ++ ops) := by
  have hi0 : (i == 0) = false := by simp; omega
  have hlt : i < gs.size := (Array.getElem?_eq_some_iff.1 hb).1
  obtain ⟨hn0, _⟩ := h.act i hne
  have hA : Actor n0 gs.size i := .inr ⟨hn0, hlt⟩
  have hrunT := runT_crowd_go (P := P) (sl := sl) (i := i) hb (show stepG P (i == 0) b w = _ by rw [hi0]; exact hst)
  obtain ⟨hsz, hgi, hRI⟩ := h.rest hRes (b' := b') (es := es) hb (.inl hA) hT (by rw [hcl]; exact hev) hd
  rw [hcl] at hRI
  have hext : Ext (Kf cls i w) (view cls i w) (Kf cls i w) (view cls i w') := ⟨by rw [hv.1]; exact Nat.le_refl _, fun b _ => by rw [hv.1], fun b => ⟨.inl, fun x => x.elim id fun y => absurd y.2 (by rw [hv.1]; omega)⟩, hT.os⟩
  obtain ⟨a', nm', hnm, hMI⟩ := hRI.mi (rel' := rel') (ph' := upd ph i f') (q' := upd q i q') (b' := b') (by omega) h.n0pos (by rw [hsz]; exact h.n0le) hgi (fun g hg => upd_ne _ _ hg) (fun g hg => upd_ne _ _ hg) hrel
    (by rw [upd_same, upd_same, Deaf_own, hv.2]; exact hJ _ hv.1 hT.os)
    (fun g hg => by
      rw [hsz]
      by_cases e : g = i
      · subst e; exact ⟨hn0, hlt⟩
      · rw [upd_ne _ _ e] at hg; exact h.act g hg)
    (fun h1 => ⟨fun e => by rw [upd_same] at e; exact absurd e hf', fun _ => ⟨hR, by rw [hv.2]; exact hRes _ _ _ _ _ hres hext⟩⟩)
    (fun g hg => by
      rw [hsz] at hg
      rw [hrel g (fun e => hg (by subst e; exact ⟨hn0, hlt⟩))]
      exact h.reln g hg) (by rw [hsz]; exact hti (by have := hRI.ti; rw [hsz] at this; exact this))
    (fun x o ho => h.tidy i x o (by rw [← hv.1]; exact ho)) (by rw [hsz]; exact hsp) (fun a h1 h2 _ => hrun a h1 h2)
  refine ⟨_, _, hrunT, _, _, _, _, _, _, _, _, _, _, rfl, hMI, .inl ?_⟩
  rw [hsz]
  obtain ⟨e1, e2⟩ := sum_ph (ph := ph) hlt f'
  unfold mu1
  have := wt_le st (sumTo gs.size fun g => (ph g).cnt) (sumTo gs.size fun g => (upd ph i f' g).cnt)
  omega

/-- Stages in which nobody has come to the last steps. -/
theorem Stand.release {n i : Nat} (h : Stand ty Wg n0 st ph n w) (hi : i < n) (hp : ph i = .work) : Stand ty Wg n0 st (upd ph i .rel) n w := by
  have hc : (sumTo n fun g => (upd ph i .rel g).cnt) = sumTo n fun g => (ph g).cnt := by
    have := (sum_ph (ph := ph) hi .rel).1
    rw [hp] at this
    simpa [WPh.cnt] using this
  have hl : (∀ g, (ph g).low) → ∀ g, (upd ph i .rel g).low := fun hh g => by
    by_cases e : g = i
    · subst e; rw [upd_same]; trivial
    · rw [upd_ne _ _ e]; exact hh g
  cases st with
  | inc s => exact ⟨h.1, h.2.1, hl h.2.2.1, by rw [hc]; exact h.2.2.2⟩
  | go s => exact ⟨h.1, h.2.1, hl h.2.2.1, by rw [hc]; exact h.2.2.2⟩
  | sem =>
    refine ⟨h.1, ?_⟩
    rcases h.2 with x | ⟨g, h1, h2, _⟩ | ⟨g, h1, h2, _⟩ | ⟨h1, _⟩
    · exact .inl ⟨hl x.1, by rw [hc]; exact x.2.1, by rw [hc]; exact x.2.2⟩
    · by_cases e : i = g
      · subst e; rw [hp] at h1; rcases h1 with e | e <;> cases e
      · rw [h2 i e] at hp; cases hp
    · by_cases e : i = g
      · subst e; rw [hp] at h1; cases h1
      · rw [h2 i e] at hp; cases hp
    · rw [h1 i] at hp; cases hp
  | last => rw [h.2.1 i] at hp; cases hp
  | acq => rw [h.2.1 i] at hp; cases hp
  | _ => exact ⟨h.1, hl h.2.1, by rw [hc]; exact h.2.2⟩

/-- The release. -/
theorem MI.release (hRes : ∀ j K V K₁ V₁, Res j K V → Ext K V K₁ V₁ → Res j K₁ V₁) (h : MI P ty Wg n0 Anch FinM shp sc Res Shun w0 st cls rel ph q nm gs a w t) {i : Nat} {b : Goroutine} (hi : 0 < i) (hb : gs[i]? = some b) (hp : ph i = .work)
    (hS : WRel P ty Wg (Res (i - n0)) (Deaf t i) (Kf cls i w) b (view cls i w) w) (sl : Option (Nat × Nat)) :
    ∃ m' ops, runT P (crowd gs w sl) i = (.next m', ops) ∧ Adv P ty Wg n0 Anch FinM shp sc Res Shun w0 (mu1 st ph gs.size) (mu2 q gs.size nm) m' (t ++ ops) := by
  obtain ⟨hd0, _, hres, g', hst, m, hG⟩ := hS
  have hlt : i < gs.size := (Array.getElem?_eq_some_iff.1 hb).1
  have hne : ph i ≠ .left := by rw [hp]; simp
  obtain ⟨hn0, _⟩ := h.act i hne
  have hrel := (h.relw i hn0 hlt).1 hp
  have hops : MemOp.ofEvents i b.frame.fn b.frame.place #[Go.ConcR.mk (.releaseMerge (stA Wg))] = #[{ g := i, fn := b.frame.fn, pos := b.frame.place, act := .mark (.releaseMerge (stA Wg)) }] := by simp [ofEvents_eq, Go.ConcR.mk, MemAct.ofEvent]
  refine h.wstage hRes (q' := m) (rel' := fun g => if g = i then some t.size else rel g) .rel hi hb hne hst (turn_refl i) (clsTo_refl i) ⟨rfl, rfl⟩ (fun e he => ?_) (fun e => absurd hrel e) (fun g hg => by simp [hg]) (fun _ => ?_) (fun V e1 e2 => ?_) (by simp) ⟨t.size, by simp⟩ hres (h.sp.release hlt hp) (by rw [hp]; decide) (fun a _ _ => .inr ⟨i, by rw [upd_same]; simp⟩) sl
  · rw [Array.mem_singleton] at he
    subst he
    exact ⟨rfl, h.wg_lt, by simp [Go.ConcR.mk, MemAct.ofEvent], fun x hx => by simp [Go.ConcR.mk, MemAct.ofEvent, MemAct.touch?] at hx⟩
  · rw [hops]
    exact h.ti.release (.inr ⟨hn0, hlt⟩) hrel h.wg_lt hd0 _ _
  · have : deafBehind (Deaf t i) #[Go.ConcR.mk (.releaseMerge (stA Wg))] = 0 := by rw [hd0]; rfl
    rw [this]
    exact (hG.same e1 e2 : GV P false true ty Wg (WDec P ty Wg) m 0 (Kf cls i w) g' V)
end
end Go.Proofs.Ytpolipcicfjkiaa.Cy

/- sync.WaitGroup's Done up to its first two marks, in whatever company. Conditions: none. -/
import Derived.Test.YtpolipcicfjkiaaK7
import Derived.Test.YtpolipcicfjkiaaK12
import Derived.AtR
import Derived.RangeFuncRecord
import Derived.Conc.CompanyMem
import Derived.Conc.CompanyCalls
namespace Go.Proofs.Ytpolipcicfjkiaa.Cy
open Go Go.Conc Go.RowKit Go.Conc.Lib Go.ConcR.Gen
open Go.ConcN (WgLive)
open Go.ConcN.Gen Go.ConcN
open Go.ConcR (KK wgBlock WgAt stA smA rd wr mk DC0)
variable {L : WgLink}

set_option maxRecDepth 100000 in
set_option maxHeartbeats 8000000 in
/-- The two states at which Done sets its first two marks. -/
theorem doneMk {P : Program} (H : WgLib P L) {Wg : Nat} {c : Frame} {cs : List Frame} :
    ∃ g1 g2 g3 g4 : Goroutine, (∀ w, WgLive L.tWg Wg w → GS P L.tWg Wg false (IsG g1) (G ((baseD L.done).at ⟨#[.pointer (some ⟨Wg, 0, none⟩), undef, undef, undef], []⟩ [.code (body_done L)]) (c :: cs)) w) ∧
      g1.status = .running ∧ (∀ w, stepG P false g1 w = .go g2 w #[Go.ConcR.mk (.releaseMerge (stA Wg))]) ∧ (∀ w, WgLive L.tWg Wg w → GS P L.tWg Wg false (IsG g3) g2 w) ∧ g3.status = .running ∧ (∀ w, stepG P false g3 w = .go g4 w #[Go.ConcR.mk .disable]) := by
  lib_facts
  apply Exists.intro
  apply Exists.intro
  apply Exists.intro
  apply Exists.intro
  refine ⟨fun w hF => ?_, ?_, fun w => ?_, fun w hF => ?_, ?_, fun w => ?_⟩
  · simp only [body_done, doneFn, Option.getD_some]
    u_reg rs_rl hF
    u_op rs_rl hF
    u_in rs_rl hF
    refine goes_call rfl rfl (by k_ne) rfl H.f_add (nm_add L) rfl ⟨by u_nil, ?_⟩
    walk_nrmf addFn
    u_c stepG_seq rs_rl hF
    u_cond true rs_rl hF
    u_c stepG_seq rs_rl hF
    u_c stepG_seq rs_rl hF
    u_reg rs_rl hF
    u_op rs_rl hF
    u_op rs_rl hF
    u_c stepG_region_end rs_rl hF
    u_cond true rs_rl hF
    u_reg rs_rl hF
    u_op rs_rl hF
    u_conv H.underlying_tWgP H.room_tWg (WgLive.cell0 hF).choose_spec rs_rl hF
    exact Goes.stop (fun _ _ => rfl)
  · rfl
  · exact stepG_markAt .releaseMerge (by simp) rfl rfl (by k_ne) rfl H.f_relMerge (x_relMerge_n L) (x_relMerge_b L) (x_relMerge_x L) (x_relMerge_f L) (ad := stA Wg) (by simp [Act.eval, stA])
  · walk_nrm
    u_c stepG_region_end rs_rl hF
    u_c stepG_seq rs_rl hF
    u_reg rs_rl hF
    exact Goes.stop (fun _ _ => rfl)
  · rfl
  · exact stepG_mark0 .disable (by simp) rfl rfl (by k_ne) rfl H.f_disable (x_disable_n L) (x_disable_b L) (x_disable_x L) (x_disable_f L)
end Go.Proofs.Ytpolipcicfjkiaa.Cy
/- Done's steps as the phase knows them. Conditions: none. -/
namespace Go.Proofs.Ytpolipcicfjkiaa.Cy
open Go Go.Conc Go.RowKit Go.Conc.Lib Go.ConcR.Gen
open Go.ConcN (WgLive RW DWs AtR0 AtK1 AtD1 AtD2 AtD3 AtD4 EvW)
open Go.ConcR (KK wgBlock WgAt stA smA rd wr DC0)
/-- A block of one's own stands, whatever the others do. -/
def Pin (C : Nat) (ob : Obj) (K : Nat → Prop) (V : World) : Prop := V.heap[C]? = some ob ∧ ¬ K C

theorem Pin.ext {C : Nat} {ob : Obj} {K K₁ : Nat → Prop} {V V₁ : World} (h : Pin C ob K V) (e : Ext K V K₁ V₁) : Pin C ob K₁ V₁ := by
  have hlt := (Array.getElem?_eq_some_iff.1 h.1).1
  exact ⟨(e.old C hlt).trans h.1, fun k => by
    rcases (e.keep C).1 k with x | x
    · exact h.2 x
    · omega⟩

theorem Pin.rel {C : Nat} {ob : Obj} {K : Nat → Prop} {V w : World} (h : Pin C ob K V) (r : Rel K V w) : w.heap[C]? = some ob := (r.same C h.2).symm.trans h.1

theorem goes_here {P : Program} {main : Bool} {R : World → World → Prop} {D : World → World → Array Event → Prop} {S : Goroutine → World → Prop} {k : Nat} {g : Goroutine} {w w₁ : World} (h : Goes P main R D S k g w) (r : R w w₁) :
    S g w₁ ∨ ∃ k', (stepG P main g w₁).goes fun g' w' es => D w₁ w' es ∧ Goes P main R D S k' g' w' := by
  cases k with
  | zero => exact .inl (h w₁ r)
  | succ k =>
    rcases h with h | ⟨_, h⟩
    · exact .inl (h w₁ r)
    · exact .inr ⟨k, h w₁ r⟩

theorem pin_set {Wg C : Nat} {ob : Obj} {w : World} (h : w.heap[C]? = some ob) (hc : C ≠ Wg) (ad : Addr) (ha : ad.block = Wg) (v : Value) : (w.setCell ad v).heap[C]? = some ob := by
  rw [setCell_ne w ad v (by rw [ha]; exact hc)]; exact h

section
variable {P : Program} {ty Wg C n : Nat} {Own Rd : Nat → Loc → Prop} {val : Value}

/-- The kit's walk goes where the own one goes. -/
theorem run_to {R : World → World → Prop} {D : World → World → Array Event → Prop} {S : Goroutine → World → Prop} (hR : ∀ w, R w w) {w : World} (hS : ∀ g g', S g w → stepG P false g w ≠ .go g' w #[]) {g1 : Goroutine} :
    ∀ (n' : Nat) {k : Nat} {g : Goroutine}, Goes P false (RS ty Wg) DC0 (IsG g1) n' g w → Goes P false R D S k g w → ∃ k', Goes P false R D S k' g1 w
  | 0, k, g, h, h2 => by
    have e : g = g1 := h w id
    subst e
    exact ⟨k, h2⟩
  | n' + 1, k, g, h, h2 => by
    rcases h with h | ⟨_, h⟩
    · have e : g = g1 := h w id
      subst e
      exact ⟨k, h2⟩
    · have hh := h w id
      clear h
      revert hh
      cases hst : stepG P false g w <;> first | exact fun h => h.elim | skip
      rename_i g' w' es
      rintro ⟨⟨rfl, rfl⟩, hh⟩
      rcases goes_here h2 (hR w') with h3 | ⟨k', h3⟩
      · exact absurd hst (hS g g' h3)
      · rw [hst] at h3
        exact run_to hR hS n' hh h3.2

variable [Go.ConcR.Payload]
theorem rw_refl (w : World) : RW ty Wg C n 0 (1 - 1) w w := ⟨fun _ _ _ _ => rfl, id, id, rfl⟩
/-- Done's script behind its 'disable'. -/
theorem done_dec {w : World} {g0 g1 g2 g3 g4 : Goroutine} {k : Nat} (h : Goes P false (RW ty Wg C n 0 (1 - 1)) (DWs Wg Own Rd C n 1) (AtR0 P ty Wg C n 0 1 val) k g0 w)
    (o1 : GS P ty Wg false (IsG g1) g0 w) (s1 : stepG P false g1 w = .go g2 w #[Go.ConcR.mk (.releaseMerge (stA Wg))]) (o2 : GS P ty Wg false (IsG g3) g2 w) (s2 : stepG P false g3 w = .go g4 w #[Go.ConcR.mk .disable]) :
    ∃ m, Goes P false (RW ty Wg C n 0 (1 - 1)) DC0 (AtD1 P ty Wg C n 0 1) m g4 w := by
  have hS0 : ∀ g g', AtR0 P ty Wg C n 0 1 val g w → stepG P false g w ≠ .go g' w #[] := fun g g' h e => by
    obtain ⟨_, _, g2, h2, _⟩ := h
    rw [e] at h2
    simp [Go.ConcR.mk] at h2
  have hS1 : ∀ g g', AtK1 P ty Wg C n 0 1 g w → stepG P false g w ≠ .go g' w #[] := fun g g' h e => by
    obtain ⟨_, g2, h2, _⟩ := h
    rw [e] at h2
    simp [Go.ConcR.mk] at h2
  obtain ⟨k1, h1⟩ := run_to rw_refl hS0 120 o1 h
  have hR0 : AtR0 P ty Wg C n 0 1 val g1 w := by
    rcases goes_here h1 (rw_refl w) with h2 | ⟨k2, h2⟩
    · exact h2
    · rw [s1] at h2
      obtain ⟨k3, h3⟩ := run_to rw_refl hS0 120 o2 h2.2
      exfalso
      rcases goes_here h3 (rw_refl w) with ⟨_, _, x, h4, _⟩ | ⟨k4, h4⟩
      · rw [s2] at h4
        simp [Go.ConcR.mk] at h4
      · rw [s2] at h4
        exact (h4.1.2 ⟨.mark .disable, false, true⟩ (by simp [Go.ConcR.mk])).2.1 rfl
  obtain ⟨_, _, x, h4, m, h5⟩ := hR0
  rw [s1] at h4
  simp only [GStep.go.injEq] at h4
  obtain ⟨rfl, _⟩ := h4
  obtain ⟨k5, h6⟩ := run_to rw_refl hS1 120 o2 h5
  rcases goes_here h6 (rw_refl w) with ⟨_, x, h7, m7, h8⟩ | ⟨k8, h8⟩
  · rw [s2] at h7
    simp only [GStep.go.injEq] at h7
    obtain ⟨rfl, _⟩ := h7
    exact ⟨m7, h8⟩
  · rw [s2] at h8
    have := h8.1.2
    simp [Go.ConcR.mk] at this
end

section
variable [Go.ConcR.Payload]
variable {P : Program} {main still : Bool} {ty Wg C cn : Nat} {ob : Obj} {St : Nat → (Nat → Prop) → Goroutine → World → World → Prop}

theorem rw_pin {w w₁ : World} (h : w.heap[C]? = some ob) (h1 : w₁.heap[C]? = some ob) (hl : WgLive ty Wg w₁) : RW ty Wg C cn 0 (1 - 1) w w₁ :=
  ⟨fun b hb => absurd hb (by omega), fun _ => hl, fun ⟨cs, a, b⟩ => ⟨cs, by rw [h1, ← h]; exact a, b⟩, by unfold World.cell?; rw [h1, h]⟩

theorem gv_rw {S : Goroutine → World → Prop} {m d : Nat} :
    ∀ (n : Nat) (g : Goroutine) (w₀ : World) (K : Nat → Prop) (V : World), (∀ g K₁ V₁, Ext K V K₁ V₁ → Tidy V₁ → (∀ w, WgLive ty Wg w → w.heap[C]? = some ob → S g w) → GV P main still ty Wg St m d K₁ g V₁) →
      Tidy V → Pin C ob K V → WgLive ty Wg w₀ → w₀.heap[C]? = some ob → Goes P main (RW ty Wg C cn 0 (1 - 1)) DC0 S n g w₀ → GV P main still ty Wg St (n + m) d K g V
  | 0, g, w₀, K, V, hS, ht, hp, _, h0, h => by rw [Nat.zero_add]; exact hS g K V (Ext.refl K V) ht fun w hl h1 => h w (rw_pin h0 h1 hl)
  | n + 1, g, w₀, K, V, hS, ht, hp, hl0, h0, h => by
    rcases h with h | ⟨hs, h⟩
    · exact (hS g K V (Ext.refl K V) ht fun w hl h1 => h w (rw_pin h0 h1 hl)).mono (by omega)
    · have e : n + 1 + m = (n + m) + 1 := by omega
      rw [e]
      refine .inr ⟨hs, fun K₁ V₁ w e r l => ?_⟩
      have hp1 := hp.ext e
      have := h w (rw_pin h0 (hp1.rel r) l)
      revert this
      cases hst : stepG P main g w <;> first | exact fun h => h.elim | skip
      rename_i g' w' es
      rintro ⟨⟨rfl, rfl⟩, hg⟩
      exact ⟨g', w', V₁, #[], rfl, ⟨soft_still r (ht.ext e r) (by simp), fun _ => ⟨rfl, by simp⟩⟩, gv_rw n g' w' K₁ V₁ (fun g K₂ V₂ e2 => hS g K₂ V₂ (e.trans e2)) (ht.ext e r) hp1 l (hp1.rel r) hg⟩
end

section
variable [Go.ConcR.Payload]
variable {P : Program} {ty Wg C cn : Nat} {ob : Obj} {K : Nat → Prop} {V w₀ : World} {g : Goroutine} {val : Value}

theorem gvw_d4 (ht : Tidy V) (hp : Pin C ob K V) (hl : WgLive ty Wg w₀) (h0 : w₀.heap[C]? = some ob) {n : Nat} (h : Goes P false (RW ty Wg C cn 0 (1 - 1)) DC0 (AtD4 P ty Wg) n g w₀) : GV P false true ty Wg (WD4 P ty Wg) n 1 K g V := by
  refine gv_rw n g w₀ K V (m := 0) (fun g K₁ V₁ e ht h => GV.stop fun K₂ V₂ w e2 r l => ?_) ht hp hl h0 h
  obtain ⟨h1, h2, h3⟩ := h w l (((hp.ext e).ext e2).rel r)
  exact ⟨rfl, h1, h2, h3⟩

theorem gvw_d3 (hc : C ≠ Wg) (ht : Tidy V) (hp : Pin C ob K V) (hl : WgLive ty Wg w₀) (h0 : w₀.heap[C]? = some ob) {n : Nat} (h : Goes P false (RW ty Wg C cn 0 (1 - 1)) DC0 (AtD3 P ty Wg C cn 0 1) n g w₀) : GV P false true ty Wg (WD3 P ty Wg) n 1 K g V := by
  refine gv_rw n g w₀ K V (m := 0) (fun g K₁ V₁ e ht h => GV.stop fun K₂ V₂ w e2 r l => ?_) ht hp hl h0 h
  have hp2 := (hp.ext e).ext e2
  obtain ⟨h1, h2⟩ := h w l (hp2.rel r)
  refine ⟨rfl, h1, fun hw => ?_⟩
  obtain ⟨g', h3, m, h4⟩ := h2 hw
  exact ⟨g', h3, m, gvw_d4 (ht.ext e2 r) hp2 ⟨_, _, hw.setSt 0⟩ (pin_set (hp2.rel r) hc _ rfl _) h4⟩

theorem gvw_d2 (hc : C ≠ Wg) (ht : Tidy V) (hp : Pin C ob K V) (hl : WgLive ty Wg w₀) (h0 : w₀.heap[C]? = some ob) {n : Nat} (h : Goes P false (RW ty Wg C cn 0 (1 - 1)) DC0 (AtD2 P ty Wg C cn 0 1) n g w₀) : GV P false true ty Wg (WD2 P ty Wg) n 1 K g V := by
  refine gv_rw n g w₀ K V (m := 0) (fun g K₁ V₁ e ht h => GV.stop fun K₂ V₂ w e2 r l => ?_) ht hp hl h0 h
  have hp2 := (hp.ext e).ext e2
  obtain ⟨h1, h2⟩ := h w l (hp2.rel r)
  refine ⟨rfl, h1, fun hw => ?_⟩
  obtain ⟨g', h3, m, h4⟩ := h2 hw
  exact ⟨g', h3, m, gvw_d3 hc (ht.ext e2 r) hp2 l (hp2.rel r) h4⟩

theorem gvw_dec (hc : C ≠ Wg) (ht : Tidy V) (hp : Pin C ob K V) (hl : WgLive ty Wg w₀) (h0 : w₀.heap[C]? = some ob) {n : Nat} (h : Goes P false (RW ty Wg C cn 0 (1 - 1)) DC0 (AtD1 P ty Wg C cn 0 1) n g w₀) : GV P false true ty Wg (WDec P ty Wg) n 1 K g V := by
  refine gv_rw n g w₀ K V (m := 0) (fun g K₁ V₁ e ht h => GV.stop fun K₂ V₂ w e2 r l => ?_) ht hp hl h0 h
  have hp2 := (hp.ext e).ext e2
  obtain ⟨h1, h2⟩ := h w l (hp2.rel r)
  refine ⟨rfl, h1, fun v wt a b hw => ?_⟩
  obtain ⟨g', h3, h4, h5⟩ := h2 v wt a b hw
  refine ⟨g', h3, fun hz => ?_, h5⟩
  obtain ⟨m, h6⟩ := h4 hz
  exact ⟨m, gvw_d2 hc (ht.ext e2 r) hp2 ⟨_, _, hw.setSt _⟩ (pin_set (hp2.rel r) hc _ rfl _) h6⟩

/-- DONE, as a worker's deferred call. -/
theorem gv_done {L : WgLink} (H : WgLib P L) {Res : (Nat → Prop) → World → Prop} (hk : Keeps Res) {c : Frame} {cs : List Frame} {qt : Nat} (hcm : c.mode = .returning) (hT : QuitsD P qt 0 (G c cs)) (hc : C ≠ Wg) (ht : Tidy V) (hp : Pin C ob K V) (hf : Res K V)
    (hval : ∀ w : World, w.heap[C]? = some ob → Go.ConcN.Has C 0 val w) (hw : ∃ w, WgLive L.tWg Wg w ∧ w.heap[C]? = some ob) :
    GV P false false L.tWg Wg (WRel P L.tWg Wg Res) 120 0 K (G ((baseD L.done).at ⟨#[.pointer (some ⟨Wg, 0, none⟩), undef, undef, undef], []⟩ [.code (body_done L)]) (c :: cs)) V := by
  obtain ⟨g1, g2, g3, g4, o1, r1, s1, o2, r3, s2⟩ := doneMk H (Wg := Wg) (c := c) (cs := cs)
  obtain ⟨w, hl, hob⟩ := hw
  have hd := Go.ConcN.Gen.doneN H (Own := fun _ _ => False) (Rd := fun _ _ => False) (Wg := Wg) (C := C) (n := 1) (Low := 0) (k := 1) (val := val) hcm hT w ⟨hl, hval w hob⟩
  obtain ⟨m, hm⟩ := done_dec hd (o1 w hl) (s1 w) (o2 w hl) (s2 w)
  refine gv_gs 120 _ w K V (m := 0) (fun g K₁ V₁ e ht h => ?_) ht hl (o1 w hl)
  have hg : g = g1 := h w hl
  subst hg
  refine GV.stop fun K₂ V₂ w2 e2 r2 l2 => ⟨rfl, r1, hk _ _ _ _ (hk _ _ _ _ hf e) e2, g2, s1 w2, 120 + (m + 1), ?_⟩
  refine gv_gs 120 g2 w2 K₂ V₂ (m := m + 1) (fun g K₃ V₃ e3 ht h => ?_) (ht.ext e2 r2) l2 (o2 w2 l2)
  have hg : g = g3 := h w hl
  subst hg
  refine .inr ⟨r3, fun K₄ V₄ w4 e4 r4 l4 => ⟨g4, w4, V₄, _, s2 w4, ⟨soft_still r4 (ht.ext e4 r4) (fun x hx => ?_), fun _ => ⟨rfl, fun x hx => ?_⟩⟩, ?_⟩⟩
  · simp [Go.ConcR.mk] at hx
    subst hx
    exact soft_disable _ _ _
  · simp [Go.ConcR.mk] at hx
    subst hx
    rfl
  · exact gvw_dec hc (ht.ext e4 r4) ((((hp.ext e).ext e2).ext e3).ext e4) hl hob hm
end
end Go.Proofs.Ytpolipcicfjkiaa.Cy
/- Steps of a range over a function, one by one, for whichever goroutine. Conditions: none. -/
namespace Go.Proofs.Ytpolipcicfjkiaa.Cy
open Go Go.Conc

section
variable {P : Program} {main : Bool} {b : Frame} {a : Act} {k : List Item} {cs : List Frame} {w : World}

theorem stepR_seq {x y : Code} : stepG P main (G (b.atR a (.code (.seq x y) :: k)) cs) w = .go (G (b.atR a (.code x :: .code y :: k)) cs) w := by simp [G, stepG, stepG.exec, Frame.atR]
theorem stepR_skip : stepG P main (G (b.atR a (.code .skip :: k)) cs) w = .go (G (b.atR a k) cs) w := by simp [G, stepG, stepG.exec, Frame.atR]
theorem stepR_block {id : Nat} {c : Code} : stepG P main (G (b.atR a (.code (.block id c) :: k)) cs) w = .go (G (b.atR a (.code c :: .inBlock id :: k)) cs) w := by simp [G, stepG, stepG.exec, Frame.atR]
theorem stepR_inBlock {id : Nat} : stepG P main (G (b.atR a (.inBlock id :: k)) cs) w = .go (G (b.atR a k) cs) w := by simp [G, stepG, stepG.exec, Frame.atR]
theorem stepR_region {id : Nat} {ops : Array Oper} : stepG P main (G (b.atR a (.code (.region id ops false) :: k)) cs) w = .go (G (b.atR a (.inRegion ops (List.range ops.size) :: k)) cs) w := by simp [G, stepG, stepG.exec, Frame.atR]
theorem stepR_region_end {ops : Array Oper} : stepG P main (G (b.atR a (.inRegion ops [] :: k)) cs) w = .go (G (b.atR a k) cs) w := by simp [G, stepG, stepG.exec, Frame.atR]

theorem stepR_oper {ops : Array Oper} {i : Nat} {rest : List Nat} {o : Oper} (ho : ops[i]? = some o) (hw : Region.wanted o (yielded ops a.tmps) = true) (hd : ∀ c, o.op ≠ .defer c) :
    stepG P main (G (b.atR a (.inRegion ops (i :: rest) :: k)) cs) w = stepG.apply P true (b.atR a (.inRegion ops (i :: rest) :: k)) cs none (execOp a.eval o) w := by
  have he := Frame.eval_atR b a (.inRegion ops (i :: rest) :: k)
  simp only [Frame.atR] at he
  obtain ⟨fn, tmps, todo, defers, mode, kind, roundOf⟩ := b
  cases roundOf with
  | none => simp [G, stepG, stepG.exec, stepG.oper, Frame.oper?, Frame.atR, ho, hw, he] at he ⊢
  | some l =>
    simp [G, stepG, stepG.exec, stepG.oper, Frame.oper?, Frame.atR, ho, hw] at he ⊢
    rw [he]
    cases hop : o.op <;> first | rfl | exact absurd hop (hd _)

theorem stepR_value {ops : Array Oper} {i : Nat} {rest : List Nat} {o : Oper} {v : Value} {w' : World} (ho : ops[i]? = some o) (hw : Region.wanted o (yielded ops a.tmps) = true) (hd : ∀ c, o.op ≠ .defer c)
    (hk : b.kind ≠ .early) (hr : (execOp a.eval o).run P w = .ok (.value v) w') :
    stepG P main (G (b.atR a (.inRegion ops (i :: rest) :: k)) cs) w = .go (G (b.atR (a.put o.dst v) (.inRegion ops rest :: k)) cs) w' (listed P b.fn a o w) := by
  have hk' : (b.kind == CallKind.early) = false := by simpa using hk
  rw [stepR_oper ho hw hd]
  simp [stepG.apply, hr, G, Frame.atR, hk', GStep.after, listed, Frame.finish, ho, Act.put]
  cases o.dst <;> exact ⟨rfl, rfl⟩

theorem stepR_none {ops : Array Oper} {i : Nat} {rest : List Nat} {o : Oper} {w' : World} (ho : ops[i]? = some o) (hw : Region.wanted o (yielded ops a.tmps) = true) (hd : ∀ c, o.op ≠ .defer c)
    (hk : b.kind ≠ .early) (hr : (execOp a.eval o).run P w = .ok .skip w') :
    stepG P main (G (b.atR a (.inRegion ops (i :: rest) :: k)) cs) w = .go (G (b.atR (a.put o.dst undef) (.inRegion ops rest :: k)) cs) w' (listed P b.fn a o w) := by
  have hk' : (b.kind == CallKind.early) = false := by simpa using hk
  rw [stepR_oper ho hw hd]
  simp [stepG.apply, hr, G, Frame.atR, hk', GStep.after, listed, Frame.finish, ho, Act.put]
  cases o.dst <;> exact ⟨rfl, rfl⟩

/-- A round begins. -/
theorem stepR_begin {l : Nat} {r : Loop} (hb : b.roundOf = some l) (hk : b.kind ≠ .early) (h : w.heap[l]? = some (.loop r)) (hr : r.state = .ready) :
    stepG P main (G (b.atR a (.beginRound :: k)) cs) w = .go (G (b.atR a k) cs) (w.putObj l (.loop { r with state := .busy })) (seen P b.fn ((Instr.beginRound l).events P w #[])) := by
  have hk' : (b.kind == CallKind.early) = false := by simpa using hk
  have h1 := run_beginRound (P := P) h hr
  simp [G, stepG, stepG.exec, Frame.atR, hb, stepG.apply, h1, Result.andThen, hk', GStep.after, Frame.finish]

/-- A round ends as it should. -/
theorem stepR_end {l : Nat} {r : Loop} {c : Frame} (hb : b.roundOf = some l) (hk : b.kind = .normal) (h : w.heap[l]? = some (.loop r)) :
    stepG P main (G (b.atR a []) (c :: cs)) w = .go (G (c.finish (.bool true)) cs) (w.putObj l (.loop { r with state := .ready, pending := none })) (seen P b.fn ((Instr.endRound l none).events P w #[])) := by
  have h1 := run_endRound (P := P) none h
  simp at h1
  simp [G, stepG, stepG.exec, Frame.atR, hb, h1, GStep.after, doReturn, hk]

theorem enters_run {f : FuncId} {fn : Func} (hf : P.funcs[f]? = some fn) (hname : (fn.name == "runtime.NumGoroutine") = false) (hb : fn.body.isNone = false) (args : Array Value) (w : World) :
    (callFunc f args).run P w = .ok (.enter f args) w ∧ (callFunc f args).events P w #[] = #[] := by
  have h1 := run_call_body (P := P) (w := w) (a := ⟨#[], []⟩) (o := { (default : Oper) with op := .call { callee := .value (.func f), args := args.map .const, argTypes := #[] } }) rfl hf hname hb
  have h2 := events_call_body (P := P) (w := w) (a := ⟨#[], []⟩) (o := { (default : Oper) with op := .call { callee := .value (.func f), args := args.map .const, argTypes := #[] } }) rfl hf hname hb
  rw [execOp_call_func rfl] at h1 h2
  have e : (args.map Operand.const).map (Act.eval ⟨#[], []⟩) = args := by
    rw [Array.map_map]
    exact (Array.map_congr_left (fun _ _ => rfl)).trans (Array.map_id _)
  rw [e] at h1 h2
  exact ⟨h1, h2 #[]⟩

/-- The loop is entered: two blocks are laid, the iterator is called. -/
theorem stepR_range {g : Operand} {ps : Array Tmp} {asg body : Code} {gf : Nat} {lb : Array Value} {fn : Func} {c : Code} (hb : b.roundOf = none) (hk : b.kind ≠ .early) (hg : a.eval g = .func (.func gf) #[] lb)
    (hf : P.funcs[gf]? = some fn) (hname : (fn.name == "runtime.NumGoroutine") = false) (hbody : fn.body = some c) :
    stepG P main (G (b.atR a (.code (.rangeFunc g ps asg body) :: k)) cs) w =
      .go (G ((Go.Conc.base gf).at ⟨((#[Value.func (.yield (w.heap.size + 1)) #[] #[]] : Array Value) ++ lb) ++ Array.replicate (fn.ntmps - ((#[Value.func (.yield (w.heap.size + 1)) #[] #[]] : Array Value) ++ lb).size) undef, []⟩ [.code c])
        (b.atR ⟨a.tmps, { target := .collected w.heap.size, args := #[] } :: a.defers⟩ (.inRangeFunc (w.heap.size + 1) :: k) :: cs))
        ((w.alloc (.deferred (some []))).alloc (.loop { state := .ready, pending := none, fn := b.fn, tmps := a.tmps, params := ps, assign := asg, body, defers := w.heap.size })) #[] := by
  have hk' : (b.kind == CallKind.early) = false := by simpa using hk
  have h1 := run_enterLoop_outer (P := P) (w := w) b.fn a.tmps ps asg body
  have e1 : (Instr.enterLoop b.fn a.tmps ps asg body none).events P w #[] = #[] := by simp [Instr.enterLoop, Sem.events_bind]
  have hb2 : fn.body.isNone = false := by rw [hbody]; rfl
  have hc := enters_run hf hname hb2 ((#[Value.func (.yield (w.heap.size + 1)) #[] #[]] : Array Value) ++ lb) ((w.alloc (.deferred (some []))).alloc (.loop { state := .ready, pending := none, fn := b.fn, tmps := a.tmps, params := ps, assign := asg, body, defers := w.heap.size }))
  rw [← enter_at _ hf hbody]
  have hg' : ∀ todo ds, Frame.eval { fn := b.fn, tmps := a.tmps, todo, defers := ds, mode := .run, kind := b.kind, roundOf := b.roundOf } g = .func (.func gf) #[] lb := fun todo ds => by
    rw [← hg]; cases g <;> rfl
  simp [G, stepG, stepG.exec, Frame.atR, hb, h1, e1, seen, GStep.after, stepG.apply, resolve, Deferred.ofValue, Sem.run_bind, Sem.events_bind, invoke, hk'] at hg' hc ⊢
  obtain ⟨hc1, hc2⟩ := hc
  have hv : ∀ (fr : Frame) (v : Value), fr.eval (.const v) = v := fun _ _ => rfl
  simp only [hg', hv]
  simp [hc1, hc2, Frame.enter]

/-- The iterator has returned: the loop ends. -/
theorem stepR_endRange {l : Nat} {r : Loop} (_hk : b.kind ≠ .early) (h : w.heap[l]? = some (.loop r)) (hr : r.state ≠ .busy) (hp : r.pending = none) :
    stepG P main (G (b.atR a (.endRangeFunc l :: k)) cs) w = .go (G (b.atR a k) cs) (w.putObj l (.loop { r with state := .exhausted })) (seen P b.fn ((Instr.endLoop l).events P w #[])) := by
  have h1 := run_endLoop (P := P) h hr
  rw [hp] at h1
  simp [G, stepG, stepG.exec, Frame.atR, h1, GStep.after, hp]

/-- The iterator yields: a round is entered. -/
theorem stepR_yield {ops : Array Oper} {i : Nat} {rest : List Nat} {o : Oper} {l : Nat} {r : Loop} {f : Operand} {args : Array Operand} {ats : Array TypeId} (ho : ops[i]? = some o) (hw : Region.wanted o (yielded ops a.tmps) = true)
    (hop : o.op = .call { callee := .value f, args, argTypes := ats }) (hk : b.kind ≠ .early) (hf : a.eval f = .func (.yield l) #[] #[]) (h : w.heap[l]? = some (.loop r)) (hs : args.size = r.params.size) :
    stepG P main (G (b.atR a (.inRegion ops (i :: rest) :: k)) cs) w =
      .go (G (Frame.round l r.fn ((r.params.zip (args.map a.eval)).foldl (fun tmps (t, x) => tmps.setIfInBounds t x) r.tmps) r.assign r.body .normal) (b.atR a (.inRegion ops (i :: rest) :: k) :: cs)) w (seen P b.fn ((Instr.yield l (args.map a.eval)).events P w #[])) := by
  have hk' : (b.kind == CallKind.early) = false := by simpa using hk
  have h1 := run_yield (P := P) (args := args.map a.eval) h (by simpa using hs)
  rw [stepR_oper ho hw (by rw [hop]; simp)]
  simp [stepG.apply, execOp, hop, resolve, Deferred.ofValue, hf, invoke, G, Frame.atR, hk', GStep.after]
  simp [h1]

theorem finish_range {l : Nat} {v : Value} : (b.atR a (.inRangeFunc l :: k)).finish v = b.atR a (.endRangeFunc l :: k) := by simp [Frame.finish, Frame.atR]

/-- What was deferred in the rounds: nothing. -/
theorem stepR_collect {D : Nat} {todo : List Item} {ds : List Deferred} (_hk : b.kind ≠ .early) (h : w.heap[D]? = some (.deferred (some []))) :
    stepG P main (G { b.atR ⟨a.tmps, { target := .collected D, args := #[] } :: ds⟩ todo with mode := .returning } cs) w =
      .go (G { b.atR ⟨a.tmps, ds⟩ todo with mode := .returning } cs) (w.putObj D (.deferred none)) (seen P b.fn ((Instr.takeDeferred D).events P w #[])) := by
  have h1 := run_takeDeferred (P := P) h
  simp [G, stepG, unwind, Frame.atR, h1, GStep.after]
end
end Go.Proofs.Ytpolipcicfjkiaa.Cy
/- Rounds of a range over a function, in company. Conditions: none. -/
namespace Go.Proofs.Ytpolipcicfjkiaa.Cy
open Go Go.Conc

section
variable (P : Program) (main : Bool) (R : World → World → Prop) (D : World → World → Array Event → Prop) (fn : FuncId) (l : Nat)
/-- The judgement for a code that is left in its normal way alone, in a round's frame. -/
def WpR (c : Code) (n : Nat) (Q : Act → World → Prop) (a : Act) (w : World) : Prop :=
  ∀ (b : Frame) (k : List Item) (cs : List Frame) (Stop : Goroutine → World → Prop) (m : Nat), b.fn = fn → b.kind ≠ .early → b.roundOf = some l →
    (∀ a' w', Q a' w' → Goes P main R D Stop m (G (b.atR a' k) cs) w') → Goes P main R D Stop (m + n) (G (b.atR a (.code c :: k)) cs) w
def OpsR (ops : Array Oper) (todo : List Nat) (n : Nat) (Q : Act → World → Prop) (a : Act) (w : World) : Prop :=
  ∀ (b : Frame) (k : List Item) (cs : List Frame) (Stop : Goroutine → World → Prop) (m : Nat), b.fn = fn → b.kind ≠ .early → b.roundOf = some l →
    (∀ a' w', Q a' w' → Goes P main R D Stop m (G (b.atR a' k) cs) w') → Goes P main R D Stop (m + n) (G (b.atR a (.inRegion ops todo :: k)) cs) w
end

section
variable {P : Program} {main : Bool} {R : World → World → Prop} {D : World → World → Array Event → Prop} {fn : FuncId} {l : Nat} {Q : Act → World → Prop} {a : Act} {w : World}

theorem wpR_seq (T : Terms R D) {x y : Code} {n₁ n₂ : Nat} (h : WpR P main R D fn l x n₁ (fun a' w' => WpR P main R D fn l y n₂ Q a' w') a w) : WpR P main R D fn l (.seq x y) (n₁ + n₂ + 1) Q a w := by
  intro b k cs Stop m hb hk hr hc
  have hx : Goes P main R D Stop (m + n₂ + n₁) (G (b.atR a (.code x :: .code y :: k)) cs) w := h b (.code y :: k) cs Stop (m + n₂) hb hk hr fun a' w' q => q b k cs Stop m hb hk hr hc
  have e : m + (n₁ + n₂ + 1) = (m + n₂ + n₁) + 1 := by omega
  rw [e]
  exact Goes.step rfl fun w₁ h₁ => by rw [stepR_seq]; exact ⟨T.idle _, hx.rely T.trans h₁⟩

theorem wpR_skip (T : Terms R D) (h : Q a w) : WpR P main R D fn l .skip 1 Q a w := fun b k cs Stop m _ _ _ hc =>
  Goes.step rfl fun w₁ h₁ => by rw [stepR_skip]; exact ⟨T.idle _, Goes.rely T.trans (hc _ _ h) h₁⟩

theorem wpR_block (T : Terms R D) {id : Nat} {c : Code} {n : Nat} (h : WpR P main R D fn l c n Q a w) : WpR P main R D fn l (.block id c) (n + 2) Q a w := by
  intro b k cs Stop m hb hk hr hc
  have hx : Goes P main R D Stop (m + 1 + n) (G (b.atR a (.code c :: .inBlock id :: k)) cs) w := h b (.inBlock id :: k) cs Stop (m + 1) hb hk hr fun a' w' q =>
    Goes.step rfl fun w₁ h₁ => by rw [stepR_inBlock]; exact ⟨T.idle _, Goes.rely T.trans (hc _ _ q) h₁⟩
  have e : m + (n + 2) = (m + 1 + n) + 1 := by omega
  rw [e]
  exact Goes.step rfl fun w₁ h₁ => by rw [stepR_block]; exact ⟨T.idle _, hx.rely T.trans h₁⟩

theorem wpR_region (T : Terms R D) {id : Nat} {ops : Array Oper} {n : Nat} (h : OpsR P main R D fn l ops (List.range ops.size) n Q a w) : WpR P main R D fn l (.region id ops false) (n + 1) Q a w :=
  fun b k cs Stop m hb hk hr hc => Goes.step rfl fun w₁ h₁ => by rw [stepR_region]; exact ⟨T.idle _, (h b k cs Stop m hb hk hr hc).rely T.trans h₁⟩

theorem opsR_nil (T : Terms R D) {ops : Array Oper} (h : Q a w) : OpsR P main R D fn l ops [] 1 Q a w := fun b k cs Stop m _ _ _ hc =>
  Goes.step rfl fun w₁ h₁ => by rw [stepR_region_end]; exact ⟨T.idle _, Goes.rely T.trans (hc _ _ h) h₁⟩

theorem opsR_more {ops : Array Oper} {todo : List Nat} {n n' : Nat} (h : OpsR P main R D fn l ops todo n Q a w) (hn : n ≤ n') : OpsR P main R D fn l ops todo n' Q a w :=
  fun b k cs Stop m hb hk hr hc => (h b k cs Stop m hb hk hr hc).mono (by omega)

theorem stepR_unwanted {b : Frame} {k : List Item} {cs : List Frame} {ops : Array Oper} {i : Nat} {rest : List Nat} {o : Oper} (ho : ops[i]? = some o) (hw : Region.wanted o (yielded ops a.tmps) = false) :
    stepG P main (G (b.atR a (.inRegion ops (i :: rest) :: k)) cs) w = .go (G (b.atR (a.put o.dst undef) (.inRegion ops rest :: k)) cs) w := by
  simp [G, stepG, stepG.exec, Frame.atR, ho, hw, Frame.finish, Act.put]
  cases o.dst <;> exact ⟨rfl, rfl⟩

theorem opsR_of_opC (T : Terms R D) {ops : Array Oper} (hdf : ∀ (i : Nat) (o : Oper), ops[i]? = some o → ∀ c, o.op ≠ .defer c) {i : Nat} {rest : List Nat} {n : Nat} (h : OpC P R D fn ops i (fun a' w' => OpsR P main R D fn l ops rest n Q a' w') a w) : OpsR P main R D fn l ops (i :: rest) (n + 1) Q a w := by
  unfold OpC at h
  split at h
  · exact h.elim
  · rename_i o ho
    intro b k cs Stop m hb hk hr hc
    split at h
    · rename_i hw
      refine Goes.step rfl fun w₁ h₁ => ?_
      have := h w₁ h₁
      revert this
      cases hx : (execOp a.eval o).run P w₁ with
      | ok x w' =>
        cases x with
        | value v =>
          rintro ⟨d, g⟩
          rw [stepR_value ho hw (hdf i o ho) hk hx]
          exact ⟨hb ▸ d, g b k cs Stop m hb hk hr hc⟩
        | skip =>
          rintro ⟨d, g⟩
          rw [stepR_none ho hw (hdf i o ho) hk hx]
          exact ⟨hb ▸ d, g b k cs Stop m hb hk hr hc⟩
        | _ => exact fun x => x.elim
      | halt _ _ => exact fun x => x.elim
    · rename_i hw
      exact Goes.step rfl fun w₁ h₁ => by rw [stepR_unwanted ho (by simpa using hw)]; exact ⟨T.idle _, (h b k cs Stop m hb hk hr hc).rely T.trans h₁⟩

/-- The operations of a region one by one, with no frame in sight. -/
def OpsK (P : Program) (R : World → World → Prop) (D : World → World → Array Event → Prop) (fn : FuncId) (ops : Array Oper) : List Nat → (Act → World → Prop) → Act → World → Prop
  | [], Q, a, w => Q a w
  | i :: rest, Q, a, w => OpC P R D fn ops i (fun a' w' => OpsK P R D fn ops rest Q a' w') a w

theorem opsR_of_opsK (T : Terms R D) {ops : Array Oper} (hdf : ∀ (i : Nat) (o : Oper), ops[i]? = some o → ∀ c, o.op ≠ .defer c) : ∀ {todo : List Nat} {a : Act} {w : World}, OpsK P R D fn ops todo Q a w → OpsR P main R D fn l ops todo (todo.length + 1) Q a w
  | [], _, _, h => opsR_nil T h
  | _i :: _rest, _a, _w, h => opsR_of_opC T hdf (OpC_mono (fun _a' _w' x => opsR_of_opsK T hdf x) h)

variable {md : Region.Mode} {S : World → Prop}
theorem anyCH_soundR (T : Terms R D) {ops : Array Oper} (hdf : ∀ (i : Nat) (o : Oper), ops[i]? = some o → ∀ c, o.op ≠ .defer c) : ∀ (fuel t : Nat) (listed : Array Bool) (a : Act) (w : World), AnyCH P R D fn md ops (fun e a w => e = .normal ∧ Q a w) S fuel listed a w →
    OpsR P main R D fn l ops (Region.linearise.go md ops fuel t listed []) (fuel + 1) Q a w := by
  intro fuel
  induction fuel with
  | zero => intro t listed a w h; simpa [Region.linearise.go] using opsR_nil T h.2.2
  | succ fuel ih =>
    intro t listed a w h
    obtain ⟨h₀, h₁⟩ := h
    simp only [Region.linearise.go]
    show OpsR P main R D fn l ops (match (Region.ready md ops listed)[t % (Region.ready md ops listed).length]? with
      | some i => Region.linearise.go md ops fuel (t / (Region.ready md ops listed).length) (listed.setIfInBounds i true) [i]
      | none => [].reverse) (fuel + 1 + 1) Q a w
    cases hi : (Region.ready md ops listed)[t % (Region.ready md ops listed).length]? with
    | none =>
      have hnil : Region.ready md ops listed = [] := by
        apply Classical.byContradiction
        intro hne
        have hlt : t % (Region.ready md ops listed).length < (Region.ready md ops listed).length := Nat.mod_lt _ (List.length_pos_iff.2 hne)
        rw [List.getElem?_eq_getElem hlt] at hi
        cases hi
      exact opsR_more (by simpa using opsR_nil T (h₀ hnil).2) (by omega)
    | some i =>
      simp only []
      rw [linearise_go_acc, List.reverse_singleton, List.singleton_append]
      exact opsR_of_opC T hdf (OpC_mono (fun a' w' x => ih _ _ a' w' x.2) (h₁ i (List.mem_of_getElem? hi)))

theorem stepR_region_draw {b : Frame} {k : List Item} {cs : List Frame} {id : Nat} {ops : Array Oper} :
    stepG P main (G (b.atR a (.code (.region id ops true) :: k)) cs) w =
      .go (G (b.atR a (.inRegion ops (Region.schedule (P.follows .mixedOrders) ops (w.tape w.drawn (.order b.fn id))) :: k)) cs) { w with drawn := w.drawn + 1 } := by
  simp [G, stepG, stepG.exec, Frame.atR, choose, Sem.run, Question.forced, Question.cut]

theorem wpR_held (T : Terms R D) (hd : LetsDraw D) {id : Nat} {ops : Array Oper} (hdf : ∀ (i : Nat) (o : Oper), ops[i]? = some o → ∀ c, o.op ≠ .defer c) (hm : P.follows .mixedOrders = true)
    (h : ∀ w₁, R w w₁ → AnyCH P R D fn .any ops (fun e a w => e = .normal ∧ Q a w) S ops.size (Array.replicate ops.size false) a { w₁ with drawn := w₁.drawn + 1 }) : WpR P main R D fn l (.region id ops true) (ops.size + 1 + 1) Q a w :=
  fun b k cs Stop m hb hk hr hc => Goes.step rfl fun w₁ h₁ => by
    rw [stepR_region_draw]
    refine ⟨hd _, ?_⟩
    simp only [Region.schedule, hm, Bool.true_or, if_true]
    exact anyCH_soundR T hdf ops.size _ _ a _ (h w₁ h₁) b k cs Stop m hb hk hr hc

/-! ### a round -/
/-- The round comes back with 'true'. -/
def RoundC (P : Program) (main : Bool) (R : World → World → Prop) (D : World → World → Array Event → Prop) (l : Nat) (r : Loop) (vs : Array Value) (n : Nat) (w : World) (Post : World → Prop) : Prop :=
  ∀ (c : Frame) (cs : List Frame) (Stop : Goroutine → World → Prop) (m : Nat), (∀ w', Post w' → Goes P main R D Stop m (G (c.finish (.bool true)) cs) w') →
    Goes P main R D Stop (m + n) (G (Frame.round l r.fn ((r.params.zip vs).foldl (fun tmps (t, x) => tmps.setIfInBounds t x) r.tmps) r.assign r.body .normal) (c :: cs)) w

theorem roundC_of (_T : Terms R D) {r : Loop} {vs : Array Value} {n₁ n₂ : Nat} {Post : World → Prop}
    (h : WpR P main R D r.fn l r.assign n₁ (fun a₁ w₁ => ∀ w₂, R w₁ w₂ → w₂.heap[l]? = some (.loop r) ∧ r.state = .ready ∧ D w₂ (w₂.putObj l (.loop { r with state := .busy })) (seen P r.fn ((Instr.beginRound l).events P w₂ #[])) ∧
      WpR P main R D r.fn l r.body n₂ (fun _ w₃ => ∀ w₄, R w₃ w₄ → ∃ r', w₄.heap[l]? = some (.loop r') ∧ D w₄ (w₄.putObj l (.loop { r' with state := .ready, pending := none })) (seen P r.fn ((Instr.endRound l none).events P w₄ #[])) ∧
        Post (w₄.putObj l (.loop { r' with state := .ready, pending := none }))) a₁ (w₂.putObj l (.loop { r with state := .busy }))) ⟨(r.params.zip vs).foldl (fun tmps (t, x) => tmps.setIfInBounds t x) r.tmps, []⟩ w) :
    RoundC P main R D l r vs (n₁ + n₂ + 2) w Post := by
  intro c cs Stop m hc
  have h2 := h { (default : Frame) with fn := r.fn, kind := .normal, roundOf := some l } [.beginRound, .code r.body] (c :: cs) Stop (m + 1 + n₂ + 1) rfl (by simp) rfl fun a₁ w₁ q => ?_
  · have e : m + (n₁ + n₂ + 2) = m + 1 + n₂ + 1 + n₁ := by omega
    rw [e]
    exact h2
  · refine Goes.step rfl fun w₂ h₂ => ?_
    obtain ⟨q1, q2, q3, q4⟩ := q w₂ h₂
    rw [stepR_begin rfl (by simp) q1 q2]
    refine ⟨q3, q4 _ [] (c :: cs) Stop (m + 1) rfl (by simp) rfl fun a₃ w₃ q5 => ?_⟩
    refine Goes.step rfl fun w₄ h₄ => ?_
    obtain ⟨r', q6, q7, q8⟩ := q5 w₄ h₄
    rw [stepR_end rfl rfl q6]
    exact ⟨q7, hc _ q8⟩

/-- The iterator yields, and goes on. -/
theorem opsC_yield {Q : Exit → Act → World → Prop} {ops : Array Oper} {i : Nat} {rest : List Nat} {o : Oper} {r : Loop} {f : Operand} {args : Array Operand} {ats : Array TypeId} {nr n : Nat} (ho : ops[i]? = some o) (hw : Region.wanted o (yielded ops a.tmps) = true)
    (hop : o.op = .call { callee := .value f, args, argTypes := ats }) (hf : a.eval f = .func (.yield l) #[] #[]) (hs : args.size = r.params.size)
    (h : ∀ w₁, R w w₁ → w₁.heap[l]? = some (.loop r) ∧ D w₁ w₁ (seen P fn ((Instr.yield l (args.map a.eval)).events P w₁ #[])) ∧
      RoundC P main R D l r (args.map a.eval) nr w₁ (fun w' => OpsC P main R D fn ops rest n Q (a.put o.dst (.bool true)) w')) : OpsC P main R D fn ops (i :: rest) (n + nr + 1) Q a w := by
  intro b k cs Stop m hb hk hc
  have e : m + (n + nr + 1) = (m + n + nr) + 1 := by omega
  rw [e]
  refine Goes.step rfl fun w₁ h₁ => ?_
  obtain ⟨h2, h3, h4⟩ := h w₁ h₁
  have hn : ∀ a' todo, b.at a' todo = ({ b with roundOf := none }).atR a' todo := fun _ _ => rfl
  rw [hn, stepR_yield ho hw hop (by exact hk) hf h2 hs]
  refine ⟨by show D w₁ w₁ (seen P b.fn _); rw [hb]; exact h3, ?_⟩
  refine h4 _ cs Stop (m + n) fun w' hp => ?_
  have := hp b k cs Stop m hb hk hc
  rw [← hn, Frame.finish_at, ho]
  exact this
end
end Go.Proofs.Ytpolipcicfjkiaa.Cy

/- The go statement; the end; a step, whichever it is; the phase. Conditions: none. -/
import Derived.Test.YtpolipcicfjkiaaK11
namespace Go.Proofs.Ytpolipcicfjkiaa.Cy
open Go Go.Conc
open Go.ConcN (WgLive sumTo upd sumTo_upd upd_ne upd_same)
open Go.ConcR (KK wgBlock WgAt stA smA rd wr DC0)

section
variable {P : Program} {ty Wg n0 : Nat} {Anch : Goroutine → (Nat → Prop) → World → Prop} {FinM : Goroutine → (Nat → Prop) → World → Prop} {shp : Nat → Nat → Prop} {sc : Nat → Option Obj} {Res : Nat → (Nat → Prop) → World → Prop}
  {Shun : Loc → Prop} {w0 : World} {st : MSt} {cls : Nat → Cls} {rel : Nat → Option Nat} {ph : Nat → WPh} {q : Nat → Nat} {nm : Nat} {gs : Array Goroutine} {a : Goroutine} {w : World} {t : Trace}

/-- Another's view does not change when a block goes from one to the other. -/
theorem view_go {cls' : Nat → Cls} {g n : Nat} (w : World) (h0 : g ≠ 0) (hn : g ≠ n) (hc : ∀ b, cls' b = cls b ∨ (cls b = .mine 0 ∧ cls' b = .mine n)) : (view cls' g w).heap = (view cls g w).heap ∧ Kf cls' g w = Kf cls g w := by
  constructor
  · apply Array.ext_getElem?
    intro b
    rw [view_get, view_get]
    rcases hc b with e | ⟨e1, e2⟩
    · unfold seenO; rw [e]
    · unfold seenO
      rw [e1, e2]
      simp [Ne.symm h0, Ne.symm hn]
  · funext b
    unfold Kf
    rcases hc b with e | ⟨e1, e2⟩
    · rw [e]
    · rw [e1, e2]
      apply propext
      constructor
      · rintro ⟨x, _⟩; exact ⟨x, fun e => h0 (by cases e; rfl)⟩
      · rintro ⟨x, _⟩; exact ⟨x, fun e => hn (by cases e; rfl)⟩

theorem deaf_spawn (t : Trace) (n j : Nat) (fn fn' : FuncId) (pos pos' : String) : Deaf (t ++ #[{ g := 0, fn, pos, act := .go n }, { g := n, fn := fn', pos := pos', act := .start }]) j = Deaf t j := by
  exact Deaf_append t j [{ g := 0, fn, pos, act := .go n }, { g := n, fn := fn', pos := pos', act := .start }]

theorem same_ext {K K' : Nat → Prop} {V V' : World} (h : V'.heap = V.heap) (hk : K' = K) (ho : V'.os = V.os) : Ext K V K' V' := by
  subst hk
  exact ⟨by rw [h]; exact Nat.le_refl _, fun b _ => by rw [h], fun b => ⟨.inl, fun x => x.elim id fun y => absurd y.2 (by rw [h]; omega)⟩, ho⟩

theorem sum_push {n : Nat} (f : WPh) (c : WPh → Nat) : (sumTo (n + 1) fun g => c (upd ph n f g)) = (sumTo n fun g => c (ph g)) + c f := by
  simp only [sumTo, upd_same]
  rw [Go.ConcN.sumTo_congr (g := fun g => c (ph g)) fun g hg => by rw [upd_ne _ _ (by omega)]]

theorem tame_close (o : Obj) : tameObj (closeO o) := by
  cases o <;> first | trivial | rfl
theorem tame_frz (o : Obj) : tameObj (frzO o) := by
  cases o <;> first | trivial | rfl
theorem tidy_view {cls : Nat → Cls} {g : Nat} {w : World} (h : ∀ b o, cls b = .mine g → w.heap[b]? = some o → tameObj o) : Tidy (view cls g w) := by
  intro b o ho
  rw [view_get] at ho
  obtain ⟨x, hx, rfl⟩ := Option.map_eq_some_iff.1 ho
  unfold seenO
  split
  · rename_i k hk
    split
    · rename_i e; subst e; exact h b x hk hx
    · exact tame_close x
  · exact tame_frz x
  · exact tame_close x

/-- A worker is started. -/
theorem MI.mgo (hRes : ∀ j K V K₁ V₁, Res j K V → Ext K V K₁ V₁ → Res j K₁ V₁) {s : Nat} (h : MI P ty Wg n0 Anch FinM shp sc Res Shun w0 (.go s) cls rel ph q nm gs a w t) {Next : Nat → (Nat → Prop) → Goroutine → World → World → Prop}
    (hS : MGo P ty Wg shp sc s (Res s) Next (Deaf t 0) (Kf cls 0 w) a (view cls 0 w) w) {st' : MSt} (hst' : (s = 0 ∧ st' = .inc 1) ∨ (s = 1 ∧ st' = .anch)) (hJ : ∀ m d K b V, GV P true false ty Wg Next m d K b V → MainJ P ty Wg Anch FinM shp sc Res st' m d K b V)
    (hS1 : ∀ d K g V w, Next d K g V w → g.status = .running) (sl : Option (Nat × Nat)) :
    ∃ m' ops, runT P (crowd gs w sl) 0 = (.next m', ops) ∧ Adv P ty Wg n0 Anch FinM shp sc Res Shun w0 (mu1 (.go s) ph gs.size) (mu2 q gs.size nm) m' (t ++ ops) := by
  obtain ⟨hd, _, g', child, hst, hcr, hS⟩ := hS
  obtain ⟨h1, h2, h3, h4⟩ := id h.sp
  have hn0 := h.n0pos
  have hnle := h.n0le
  obtain ⟨cls', hc1, hsh, ht0, htn, ⟨m, hG⟩, k, hC⟩ := hS cls gs.size (fun _ => Iff.rfl) rfl (by have := h.sh; rw [h1, Nat.add_sub_cancel_left] at this; exact this) (by omega) h.wgc (h.tidy gs.size)
  have hrunT := runT_crowd_spawn (P := P) (sl := sl) (i := 0) h.h0 (show stepG P (0 == 0) a w = _ from hst)
  have hops : ((MemOp.ofEvents 0 a.frame.fn a.frame.place #[]).push { g := 0, fn := a.frame.fn, pos := a.frame.place, act := .go gs.size } |>.push { g := gs.size, fn := child.frame.fn, pos := a.frame.place, act := .start }) =
      #[{ g := 0, fn := a.frame.fn, pos := a.frame.place, act := .go gs.size }, { g := gs.size, fn := child.frame.fn, pos := a.frame.place, act := .start }] := by simp [ofEvents_eq]
  rw [hops] at hrunT
  have hwg' : cls' Wg = .none := by
    rcases hc1 Wg with e | ⟨e, _⟩
    · rw [e]; exact h.wgc
    · rw [h.wgc] at e; cases e
  have hlive := h.sp.live
  have hrg' := hG.running hS1 (view_rel cls' 0 w) hlive
  have hgw : ∀ g, g ≠ 0 → g ≠ gs.size → ph g ≠ .left → (view cls' g w).heap = (view cls g w).heap ∧ Kf cls' g w = Kf cls g w := fun g g1 g2 g3 => by
    refine view_go w g1 g2 fun b => ?_
    rcases hc1 b with e | ⟨e, _, e2 | ⟨_, e3⟩⟩
    · exact .inl e
    · exact .inr ⟨e, e2⟩
    · have := h.act g g3
      omega
  have hsize : (((gs.setIfInBounds 0 g').push child)).size = gs.size + 1 := by simp
  have hlt0 : 0 < gs.size := by omega
  have hMI : MI P ty Wg n0 Anch FinM shp sc Res Shun w0 st' cls' rel (upd ph gs.size .work) (upd q gs.size k) m ((gs.setIfInBounds 0 g').push child) g' w
      (t ++ #[{ g := 0, fn := a.frame.fn, pos := a.frame.place, act := .go gs.size }, { g := gs.size, fn := child.frame.fn, pos := a.frame.place, act := .start }]) := by
    refine ⟨?_, ?_, .inl hrg', fun g b hg hb => ?_, hn0, by rw [hsize]; omega, fun g hg => ?_, fun g g1 g2 => ?_, fun g hg => ?_, fun j hj => ?_, ?_, fun g => ?_, hwg', ?_, ?_, h.os, h.out, h.tape, fun b hb => by
      obtain ⟨k1, k2⟩ := h.kept b hb
      refine ⟨?_, k2⟩
      rcases hc1 b with e | ⟨e, _⟩
      · rw [e]; exact k1
      · rw [k1] at e; cases e⟩
    · rw [Array.getElem?_push_lt (by simpa using hlt0)]
      simp
    · rw [deaf_spawn, hd]
      exact hJ _ _ _ _ _ hG
    · rw [deaf_spawn]
      by_cases e : g = gs.size
      · subst e
        have : b = child := by
          have : ((gs.setIfInBounds 0 g').push child)[gs.size]? = some child := by rw [Array.getElem?_push]; simp
          rw [this] at hb
          exact (Option.some.inj hb).symm
        subst this
        rw [upd_same, upd_same, h.above _ (Nat.le_refl _)]
        show GV P false false ty Wg (WRel P ty Wg (Res (gs.size - n0))) k 0 _ _ _
        rw [show gs.size - n0 = s by omega]
        exact hC
      · rw [upd_ne _ _ e, upd_ne _ _ e]
        have hlt : g < gs.size := by
          have := (Array.getElem?_eq_some_iff.1 hb).1
          rw [hsize] at this
          omega
        have hb' : gs[g]? = some b := by
          rw [Array.getElem?_push_lt (by simpa using hlt)] at hb
          simp at hb
          rw [Array.getElem_setIfInBounds_ne (by omega) (by omega)] at hb
          rw [Array.getElem?_eq_getElem hlt, hb]
        have hw := h.wk g b hg hb'
        by_cases hl : ph g = .left
        · rw [hl] at hw ⊢
          exact hw
        · obtain ⟨e1, e2⟩ := hgw g (by omega) e hl
          exact hw.ext (same_ext e1 e2 rfl)
    · by_cases e : g = gs.size
      · subst e; rw [hsize]; omega
      · rw [upd_ne _ _ e] at hg
        have := h.act g hg
        rw [hsize]; omega
    · rw [hsize] at g2
      by_cases e : g = gs.size
      · subst e
        rw [upd_same]
        exact ⟨fun _ => h.reln _ (by omega), fun e => absurd rfl e⟩
      · rw [upd_ne _ _ e]
        obtain ⟨x, y⟩ := h.relw g g1 (by omega)
        refine ⟨x, fun hp => ⟨(y hp).1, ?_⟩⟩
        by_cases hl : ph g = .left
        · -- left, of this phase: with the first worker none is
          have hs1 : s ≠ 0 := by omega
          have hv : (view cls' g w).heap = (view cls g w).heap ∧ Kf cls' g w = Kf cls g w := by
            refine view_go w (by omega) e fun b => ?_
            rcases hc1 b with e | ⟨e, _, e2 | ⟨_, e3⟩⟩
            · exact .inl e
            · exact .inr ⟨e, e2⟩
            · exact absurd e3 hs1
          exact hRes _ _ _ _ _ (y hp).2 (same_ext hv.1 hv.2 rfl)
        · obtain ⟨e1, e2⟩ := hgw g (by omega) e hl
          exact hRes _ _ _ _ _ (y hp).2 (same_ext e1 e2 rfl)
    · rw [hsize] at hg
      exact h.reln g (by omega)
    · rw [hsize] at hj
      rw [deaf_spawn]
      exact h.above j (by omega)
    · rw [hsize]
      exact h.ti.spawn hnle hn0 h.rel0 (h.reln _ (by omega)) hd (h.above _ (Nat.le_refl _)) _ _ _ fun b => (hc1 b).imp id fun ⟨e, _, x⟩ => ⟨e, x.imp id fun y => ⟨y.1, by omega⟩⟩
    · by_cases e0 : g = 0
      · subst e0; exact ht0
      · by_cases e : g = gs.size
        · subst e; exact htn
        · refine tidy_view fun b o hm ho => ?_
          have hcb : cls b = .mine g := by
            rcases hc1 b with e1 | ⟨_, _, e1 | ⟨e1, _⟩⟩
            · rw [← e1]; exact hm
            · rw [e1] at hm; cases hm; exact absurd rfl e
            · rw [e1] at hm; cases hm
          refine h.tidy g b o ?_
          rw [view_get, ho]
          simp [seenO, hcb]
    · rw [hsize, show gs.size + 1 - n0 = s + 1 by omega]
      exact hsh
    · rw [hsize]
      have hl : ∀ g, (upd ph gs.size .work g).low := fun g => by
        by_cases e : g = gs.size
        · subst e; rw [upd_same]; trivial
        · rw [upd_ne _ _ e]; exact h3 g
      have hc : (sumTo (gs.size + 1) fun g => (upd ph gs.size .work g).cnt) = (sumTo gs.size fun g => (ph g).cnt) + 1 := sum_push .work WPh.cnt
      rcases hst' with ⟨rfl, rfl⟩ | ⟨rfl, rfl⟩
      · exact ⟨by omega, by omega, hl, by rw [hc]; exact h4⟩
      · exact ⟨by omega, hl, by rw [hc]; exact h4⟩
  refine ⟨_, _, hrunT, _, _, _, _, _, _, _, _, _, _, rfl, hMI, .inl ?_⟩
  rw [hsize]
  have hw : (sumTo (gs.size + 1) fun g => (upd ph gs.size .work g).wt) = (sumTo gs.size fun g => (ph g).wt) + 60 := sum_push .work WPh.wt
  unfold mu1
  rw [hw]
  rcases hst' with ⟨rfl, rfl⟩ | ⟨rfl, rfl⟩ <;> simp [MSt.wt] <;> omega

/-- THE END OF THE PHASE. -/
def EndP (P : Program) (ty Wg n0 : Nat) (FinM : Goroutine → (Nat → Prop) → World → Prop) (shp : Nat → Nat → Prop) (sc : Nat → Option Obj) (Res : Nat → (Nat → Prop) → World → Prop) (Shun : Loc → Prop) (w0 : World) (m' : Machine) (t' : Trace) : Prop :=
  ∃ cls q gs a w sl, m' = crowd gs w sl ∧ gs[0]? = some a ∧ FinM a (Kf cls 0 w) (view cls 0 w) ∧ Leavers P t' gs q ∧ Past (fun l => Shun l ∨ ∃ a : Addr, l = .cell a ∧ a.block = Wg) w.heap.size t' ∧
    gs.size = n0 + 2 ∧ (∀ j, j < 2 → Res j (Kf cls (n0 + j) w) (view cls (n0 + j) w)) ∧ Sh shp sc 2 cls w ∧ cls Wg = .none ∧ WgAt ty Wg w 0 0 ∧
    (∀ g, Tidy (view cls g w)) ∧ w.os = w0.os ∧ w.output = w0.output ∧ w.tape = w0.tape ∧ ∀ b, shp 4 b → cls b = .none ∧ w.heap[b]? = w0.heap[b]?

theorem deaf_acq (t : Trace) (fn : FuncId) (pos : String) (j : Nat) (Wg : Nat) : Deaf (t ++ #[{ g := 0, fn, pos, act := .mark (.acquire (stA Wg)) }]) j = Deaf t j := by
  exact Deaf_append t j [{ g := 0, fn, pos, act := .mark (.acquire (stA Wg)) }]

/-- Wait's last step. -/
theorem MI.macq (h : MI P ty Wg n0 Anch FinM shp sc Res Shun w0 .acq cls rel ph q nm gs a w t) (hS : MAcq P Wg FinM (Deaf t 0) (Kf cls 0 w) a (view cls 0 w) w) (sl : Option (Nat × Nat)) :
    ∃ m' ops, runT P (crowd gs w sl) 0 = (.next m', ops) ∧ EndP P ty Wg n0 FinM shp sc Res Shun w0 m' (t ++ ops) := by
  obtain ⟨hd, _, g', hst, hF⟩ := hS
  obtain ⟨h1, h3, h4⟩ := id h.sp
  have hn0 := h.n0pos
  have hlt0 : 0 < gs.size := by omega
  have hrunT := runT_crowd_go (P := P) (sl := sl) (i := 0) h.h0 (show stepG P (0 == 0) a w = _ from hst)
  have hops : MemOp.ofEvents 0 a.frame.fn a.frame.place #[Go.ConcR.mk (.acquire (stA Wg))] = #[{ g := 0, fn := a.frame.fn, pos := a.frame.place, act := .mark (.acquire (stA Wg)) }] := by simp [ofEvents_eq, Go.ConcR.mk, MemAct.ofEvent]
  rw [hops] at hrunT
  have hw : ∀ g b, 0 < g → gs[g]? = some b → QuitsD P (q g) (Deaf t g) b := fun g b hg hb => by
    have := h.wk g b hg hb
    rw [h3 g] at this
    exact this
  refine ⟨_, _, hrunT, cls, q, _, g', w, _, rfl, by simp [hlt0], hF, ⟨fun i b hi hb => ?_, fun j hj => ?_⟩, ?_, by simp [h1], fun j hj => ?_, ?_, h.wgc, h4, ?_, h.os, h.out, h.tape, fun b hb => ⟨(h.kept b hb).1, (h.kept b hb).2.2.2⟩⟩
  · rw [deaf_acq]
    rw [Array.getElem?_setIfInBounds_ne (by omega), Array.getElem?_map] at hb
    obtain ⟨y, hy, rfl⟩ := Option.map_eq_some_iff.1 hb
    have := hw i y hi hy
    have e : woken P a g' w y = y := by
      unfold woken
      split
      · exact again_running _ this.status
      · rfl
    rw [e]
    exact this
  · rw [deaf_acq]
    exact h.above j (by simpa using hj)
  · exact h.ti.acquire h.rel0 (fun g g1 g2 => ((h.relw g g1 g2).2 (by rw [h3 g]; simp)).1) h.wg_lt hd _ _
  · have := ((h.relw (n0 + j) (by omega) (by omega)).2 (by rw [h3]; simp)).2
    rw [show n0 + j - n0 = j by omega] at this
    exact this
  · have := h.sh
    rw [h1, show n0 + 2 - n0 = 2 by omega] at this
    exact this
  · exact h.tidy

/-- The machine at the end of the phase is come to. -/
def EndIn (P : Program) (ty Wg n0 : Nat) (FinM : Goroutine → (Nat → Prop) → World → Prop) (shp : Nat → Nat → Prop) (sc : Nat → Option Obj) (Res : Nat → (Nat → Prop) → World → Prop) (Shun : Loc → Prop) (w0 : World) (m : Machine) (t : Trace) : Prop :=
  ∃ N m' t', runNT P N m t = (.next m', t') ∧ EndP P ty Wg n0 FinM shp sc Res Shun w0 m' t'

/-- THE CALLER's STEP, whichever it is. -/
theorem MI.caller (hRes : ∀ j K V K₁ V₁, Res j K V → Ext K V K₁ V₁ → Res j K₁ V₁) (hAnch : ∀ a K V, Anch a K V → Tidy V → ∃ m, GV P true false ty Wg (MLoad P ty Wg Anch FinM) m 1 K a V)
    (h : MI P ty Wg n0 Anch FinM shp sc Res Shun w0 st cls rel ph q nm gs a w t) (hrun : a.status = .running) (sl : Option (Nat × Nat)) :
    ∃ m' ops, runT P (crowd gs w sl) 0 = (.next m', ops) ∧ (Adv P ty Wg n0 Anch FinM shp sc Res Shun w0 (mu1 st ph gs.size) (mu2 q gs.size nm) m' (t ++ ops) ∨ EndP P ty Wg n0 FinM shp sc Res Shun w0 m' (t ++ ops)) := by
  have hl := h.sp.live
  have hr := view_rel cls 0 w
  have put : (∃ m' ops, runT P (crowd gs w sl) 0 = (.next m', ops) ∧ Adv P ty Wg n0 Anch FinM shp sc Res Shun w0 (mu1 st ph gs.size) (mu2 q gs.size nm) m' (t ++ ops)) →
      ∃ m' ops, runT P (crowd gs w sl) 0 = (.next m', ops) ∧ (Adv P ty Wg n0 Anch FinM shp sc Res Shun w0 (mu1 st ph gs.size) (mu2 q gs.size nm) m' (t ++ ops) ∨ EndP P ty Wg n0 FinM shp sc Res Shun w0 m' (t ++ ops)) :=
    fun ⟨m', ops, h1, h2⟩ => ⟨m', ops, h1, .inl h2⟩
  have hm := h.main
  have load : ∀ nm1, MI P ty Wg n0 Anch FinM shp sc Res Shun w0 .load cls rel ph q nm1 gs a w t → ∃ m' ops, runT P (crowd gs w sl) 0 = (.next m', ops) ∧ Adv P ty Wg n0 Anch FinM shp sc Res Shun w0 (mu1 .load ph gs.size) (mu2 q gs.size nm1) m' (t ++ ops) := fun nm1 h => by
    have hm := h.main
    rcases GV.casesM hm hr hl with ⟨hS, _⟩ | ⟨k, hk, _, x⟩
    · exact h.mload hRes hS sl
    · exact h.msoft hRes (k := k) (nm' := k) (by omega) (fun d K b V y => y) (fun _ _ _ _ _ x => x.2.1) x sl
  cases st with
  | inc s =>
    have hs := h.sp.2.1
    match s, hs with
    | 0, _ =>
      rcases GV.casesM hm hr hl with ⟨hS, _⟩ | ⟨k, hk, _, x⟩
      · exact put (h.minc hRes hS (fun m d K b V y => y) (fun _ _ _ _ _ x => x.2.1) sl)
      · exact put (h.msoft hRes (k := k) (nm' := k) (by omega) (fun d K b V y => y) (fun _ _ _ _ _ x => x.2.1) x sl)
    | 1, _ =>
      rcases GV.casesM hm hr hl with ⟨hS, _⟩ | ⟨k, hk, _, x⟩
      · exact put (h.minc hRes hS (fun m d K b V y => y) (fun _ _ _ _ _ x => x.2.1) sl)
      · exact put (h.msoft hRes (k := k) (nm' := k) (by omega) (fun d K b V y => y) (fun _ _ _ _ _ x => x.2.1) x sl)
  | go s =>
    have hs := h.sp.2.1
    match s, hs with
    | 0, _ =>
      rcases GV.casesM hm hr hl with ⟨hS, _⟩ | ⟨k, hk, _, x⟩
      · exact put (h.mgo hRes hS (st' := .inc 1) (.inl ⟨rfl, rfl⟩) (fun m d K b V y => y) (fun _ _ _ _ _ x => x.2.1) sl)
      · exact put (h.msoft hRes (k := k) (nm' := k) (by omega) (fun d K b V y => y) (fun _ _ _ _ _ x => x.2.1) x sl)
    | 1, _ =>
      rcases GV.casesM hm hr hl with ⟨hS, _⟩ | ⟨k, hk, _, x⟩
      · exact put (h.mgo hRes hS (st' := .anch) (.inr ⟨rfl, rfl⟩) (fun m d K b V y => y) (fun _ _ _ _ _ x => x.2.1) sl)
      · exact put (h.msoft hRes (k := k) (nm' := k) (by omega) (fun d K b V y => y) (fun _ _ _ _ _ x => x.2.1) x sl)
  | anch =>
    rcases GV.casesM hm hr hl with ⟨hS, _⟩ | ⟨k, hk, _, x⟩
    · obtain ⟨hd, _, ha⟩ := hS
      obtain ⟨m, hG⟩ := hAnch _ _ _ ha (h.tidy 0)
      have hMI : MI P ty Wg n0 Anch FinM shp sc Res Shun w0 .load cls rel ph q m gs a w t :=
        ⟨h.h0, by rw [hd]; exact hG, h.run, h.wk, h.n0pos, h.n0le, h.act, h.relw, h.reln, h.above, h.ti, h.tidy, h.wgc, h.sh, h.sp, h.os, h.out, h.tape, h.kept⟩
      obtain ⟨m', ops, h1, st', cls', rel', ph', q', nm', gs', a', w', sl', e, h2, h3⟩ := load m hMI
      refine ⟨m', ops, h1, .inl ⟨st', cls', rel', ph', q', nm', gs', a', w', sl', e, h2, .inl ?_⟩⟩
      have : mu1 .load ph gs.size < mu1 .anch ph gs.size := by unfold mu1; simp [MSt.wt]
      omega
    · exact put (h.msoft hRes (k := k) (nm' := k) (by omega) (fun d K b V y => y) (fun _ _ _ _ _ x => x.2.1) x sl)
  | load => exact put (load _ h)
  | cas vs =>
    rcases GV.casesM hm hr hl with ⟨hS, _⟩ | ⟨k, hk, _, x⟩
    · exact put (h.mcas hRes hS sl)
    · exact put (h.msoft hRes (k := k) (nm' := k) (by omega) (fun d K b V y => y) (fun _ _ _ _ _ x => x.2.1) x sl)
  | sem =>
    rcases hm with ⟨k, hk, hm⟩ | ⟨_, a0, _, _, e, _⟩
    · rcases GV.casesM hm hr hl with ⟨hS, hG⟩ | ⟨k', hk', _, x⟩
      · exact put (h.msem hRes hk hS hG sl)
      · exact put (h.msoft hRes (k := k') (nm' := k' + 1) (by omega) (fun d K b V y => .inl ⟨k', rfl, y⟩) (fun _ _ _ _ _ x => x.2.1) x sl)
    · rw [e] at hrun; cases hrun
  | last =>
    rcases GV.casesM hm hr hl with ⟨hS, _⟩ | ⟨k, hk, _, x⟩
    · exact put (h.mlast hRes hS sl)
    · exact put (h.msoft hRes (k := k) (nm' := k) (by omega) (fun d K b V y => y) (fun _ _ _ _ _ x => x.2.1) x sl)
  | acq =>
    rcases GV.casesM hm hr hl with ⟨hS, _⟩ | ⟨k, hk, _, x⟩
    · obtain ⟨m', ops, h1, h2⟩ := h.macq hS sl
      exact ⟨m', ops, h1, .inr h2⟩
    · exact put (h.msoft hRes (k := k) (nm' := k) (by omega) (fun d K b V y => y) (fun _ _ _ _ _ x => x.2.1) x sl)

/-- All are awake or gone; or the caller sleeps and somebody works. -/
theorem MI.status (h : MI P ty Wg n0 Anch FinM shp sc Res Shun w0 st cls rel ph q nm gs a w t) : ∃ (i : Nat) (g : Goroutine), gs[i]? = some g ∧ g.status = .running := by
  rcases h.run with e | ⟨g, e⟩
  · exact ⟨0, a, h.h0, e⟩
  · obtain ⟨h1, h2⟩ := h.act g e
    have h0 := h.n0pos
    refine ⟨g, gs[g], Array.getElem?_eq_getElem h2, ?_⟩
    have hw := h.wk g _ (by omega) (Array.getElem?_eq_getElem h2)
    have hr := view_rel cls g w
    have hl := h.sp.live
    cases hp : ph g with
    | left => exact absurd hp e
    | work => rw [hp] at hw; exact GV.running hw (fun _ _ _ _ _ x => x.2.1) hr hl
    | rel => rw [hp] at hw; exact GV.running hw (fun _ _ _ _ _ x => x.2.1) hr hl
    | d2 => rw [hp] at hw; exact GV.running hw (fun _ _ _ _ _ x => x.2.1) hr hl
    | d3 => rw [hp] at hw; exact GV.running hw (fun _ _ _ _ _ x => x.2.1) hr hl
    | d4 => rw [hp] at hw; exact GV.running hw (fun _ _ _ _ _ x => x.2.1) hr hl
end
end Go.Proofs.Ytpolipcicfjkiaa.Cy
/- THE PHASE: from its beginning the machine comes to its end. Conditions: none. -/
namespace Go.Proofs.Ytpolipcicfjkiaa.Cy
open Go Go.Conc
open Go.ConcN (WgLive sumTo upd sumTo_upd upd_ne upd_same)
open Go.ConcR (KK wgBlock WgAt stA smA rd wr DC0)

section
variable {P : Program} {ty Wg n0 : Nat} {Anch : Goroutine → (Nat → Prop) → World → Prop} {FinM : Goroutine → (Nat → Prop) → World → Prop} {shp : Nat → Nat → Prop} {sc : Nat → Option Obj} {Res : Nat → (Nat → Prop) → World → Prop}
  {Shun : Loc → Prop} {w0 : World} {st : MSt} {cls : Nat → Cls} {rel : Nat → Option Nat} {ph : Nat → WPh} {q : Nat → Nat} {nm : Nat} {gs : Array Goroutine} {a : Goroutine} {w : World} {t : Trace}

theorem MI.awake (h : MI P ty Wg n0 Anch FinM shp sc Res Shun w0 st cls rel ph q nm gs a w t) : ∀ g ∈ gs, awake g := by
  intro g hg
  obtain ⟨i, hi, rfl⟩ := Array.mem_iff_getElem.1 hg
  have hl := h.sp.live
  have : gs[i].status = .running ∨ gs[i].status = .finished ∨ gs[i].status = .blocked := by
    by_cases e : i = 0
    · subst e
      have h0 := h.h0
      rw [Array.getElem?_eq_getElem hi] at h0
      have := Option.some.inj h0
      rw [this]
      exact (MainJ.status h.main (view_rel cls 0 w) hl).imp id fun x => .inr x.1
    · exact ((h.wk i _ (by omega) (Array.getElem?_eq_getElem hi)).status (view_rel cls i w) hl).imp id .inl
  intro d e
  rw [e] at this
  rcases this with x | x | x <;> cases x

theorem phase_lex (hRes : ∀ j K V K₁ V₁, Res j K V → Ext K V K₁ V₁ → Res j K₁ V₁) (hAnch : ∀ a K V, Anch a K V → Tidy V → ∃ m, GV P true false ty Wg (MLoad P ty Wg Anch FinM) m 1 K a V) :
    ∀ (k1 k2 : Nat) (st : MSt) (cls : Nat → Cls) (rel : Nat → Option Nat) (ph : Nat → WPh) (q : Nat → Nat) (nm : Nat) (gs : Array Goroutine) (a : Goroutine) (w : World) (sl : Option (Nat × Nat)) (t : Trace),
      MI P ty Wg n0 Anch FinM shp sc Res Shun w0 st cls rel ph q nm gs a w t → mu1 st ph gs.size = k1 → mu2 q gs.size nm = k2 → EndIn P ty Wg n0 FinM shp sc Res Shun w0 (crowd gs w sl) t := by
  intro k1
  induction k1 using Nat.strongRecOn with
  | _ k1 ih1 =>
    intro k2
    induction k2 using Nat.strongRecOn with
    | _ k2 ih2 =>
      intro st cls rel ph q nm gs a w sl t h e1 e2
      obtain ⟨i, g, d, sl', hi, hg, hstep⟩ := crowd_pick (P := P) (w := w) (sl := sl) h.awake h.status
      have hd := h.at hRes d
      have key : ∃ m' ops, runT P (crowd gs (w.at d) sl') i = (.next m', ops) ∧ (Adv P ty Wg n0 Anch FinM shp sc Res Shun w0 k1 k2 m' (t ++ ops) ∨ EndP P ty Wg n0 FinM shp sc Res Shun w0 m' (t ++ ops)) := by
        rw [← e1, ← e2]
        by_cases hi0 : i = 0
        · subst hi0
          have : g = a := Option.some.inj (hi.symm.trans h.h0)
          subst this
          exact hd.caller hRes hAnch hg sl'
        · obtain ⟨m', ops, h1, h2⟩ := hd.worker hRes (by omega) hi hg sl'
          exact ⟨m', ops, h1, .inl h2⟩
      obtain ⟨m', ops, h1, h2⟩ := key
      rw [h1] at hstep
      have go : EndIn P ty Wg n0 FinM shp sc Res Shun w0 m' (t ++ ops) → EndIn P ty Wg n0 FinM shp sc Res Shun w0 (crowd gs w sl) t := by
        rintro ⟨N, m2, t2, h3, h4⟩
        refine ⟨N + 1, m2, t2, ?_, h4⟩
        show (match stepT P (crowd gs w sl) with | (.next m, ops) => runNT P N m (t ++ ops) | (e, ops) => (e, t ++ ops)) = _
        rw [hstep]
        exact h3
      rcases h2 with ⟨st', cls', rel', ph', q', nm', gs', a', w', sl2, rfl, h3, h4⟩ | h2
      · rcases h4 with h4 | ⟨h4, h5⟩
        · exact go (ih1 _ h4 _ _ _ _ _ _ _ _ _ _ _ _ h3 rfl rfl)
        · exact go (ih2 _ h5 _ _ _ _ _ _ _ _ _ _ _ h3 h4 rfl)
      · exact go ⟨0, _, _, rfl, h2⟩

/-- The beginning. -/
theorem ti_begin {cls : Nat → Cls} {B : Nat} (hp : Past Shun B t) (hB : B ≤ Wg) (hsz : Wg < w.heap.size)
    (hc : ∀ b, cls b = .none ∨ cls b = .mine 0) (hs : ∀ l, Shun l → ∃ a : Addr, l = .cell a ∧ cls a.block = .none) : TI Shun Wg gs.size gs.size cls (fun _ => none) t w.heap.size := by
  refine ⟨hp.clean, fun k a hk hm => ⟨fun e => ?_, fun _ => ?_⟩, fun op hop => Go.MemAct.low_mono (by omega) (hp.seen op hop), fun op hop e => ?_, (fun g r e => by cases e), fun k g h1 h2 h3 => ?_⟩
  · obtain ⟨x, hx, hxa⟩ := touch_of hk
    have := blk_low hxa (hp.seen x (mem_of_getElem? hx)) hm
    omega
  · have hkn := hp.known k a hk hm
    rcases hc (blk a.loc) with e | e
    · rw [e]; exact hkn
    · rw [e]
      refine ⟨.inl rfl, ?_⟩
      rcases hkn with x | ⟨x, _⟩
      · exact x
      · obtain ⟨ad, hl, hn⟩ := hs _ x
        rw [hl] at e
        have e : cls ad.block = .mine 0 := e
        rw [hn] at e
        cases e
  · have := hp.seen op hop
    rw [e] at this
    have : Wg < B := this
    omega
  · exact .inl (hp.over k g h1 h2 h3)

/-- ████ THE PHASE. ████ -/
theorem phase (hRes : ∀ j K V K₁ V₁, Res j K V → Ext K V K₁ V₁ → Res j K₁ V₁) (hAnch : ∀ a K V, Anch a K V → Tidy V → ∃ m, GV P true false ty Wg (MLoad P ty Wg Anch FinM) m 1 K a V)
    {B : Nat} (hcl : ∀ b, cls b = .none ∨ cls b = .mine 0) (hwgc : cls Wg = .none) (hp : Past Shun B t) (hB : B ≤ Wg) (hsz : Wg < w.heap.size) (hL : Leavers P t gs q) (h0 : gs[0]? = some a) (hrun : a.status = .running) (hwg : WgAt ty Wg w 0 0)
    (hs : ∀ l, Shun l → ∃ a : Addr, l = .cell a ∧ cls a.block = .none) (hV : Tidy (view cls 0 w)) (hshp0 : ∀ b, ¬ shp 0 b) (hshp3 : ∀ b, shp 3 b → cls b = .none ∧ ∃ c e fr, w.heap[b]? = some (.cells c e fr)) (hshp4 : ∀ b, shp 4 b → cls b = .none ∧ b ≠ Wg ∧ b < w.heap.size)
    (hG : GV P true false ty Wg (M0 P ty Wg Anch shp sc Res) nm 0 (Kf cls 0 w) a (view cls 0 w)) (sl : Option (Nat × Nat)) :
    EndIn P ty Wg gs.size FinM shp sc Res Shun w (crowd gs w sl) t := by
  have hlt : 0 < gs.size := (Array.getElem?_eq_some_iff.1 h0).1
  have hz : ∀ n, (sumTo n fun _ => 0) = 0 := fun n => by induction n with
    | zero => rfl
    | succ n ih => simp [sumTo, ih]
  have hd : Deaf t 0 = 0 := hp.hears
  refine phase_lex hRes hAnch _ _ (.inc 0) cls (fun _ => none) (fun _ => .left) q nm gs a w sl t ⟨h0, by rw [hd]; exact hG, .inl hrun, fun g b hg hb => hL.old g b hg hb, hlt, Nat.le_refl _, fun g e => absurd rfl e, fun g h1 h2 => by omega, fun _ _ => rfl, hL.above,
    ti_begin hp hB hsz hcl hs, fun g => ?_, hwgc, ⟨fun b hb => ?_, fun b hb => ?_, fun b hb => by rcases hcl b with x | x <;> rw [x] at hb <;> cases hb⟩, ⟨rfl, by omega, fun _ => trivial, ?_⟩, rfl, rfl, rfl, fun b hb => ⟨(hshp4 b hb).1, (hshp4 b hb).2.1, (hshp4 b hb).2.2, rfl⟩⟩ rfl rfl
  · by_cases e : g = 0
    · subst e; exact hV
    · refine tidy_view fun b o hm _ => ?_
      rcases hcl b with x | x <;> rw [x] at hm <;> cases hm
      exact absurd rfl e
  · rw [Nat.sub_self] at hb
    exact absurd hb (hshp0 b)
  · exact hshp3 b hb
  · have : (sumTo gs.size fun _ => (WPh.left).cnt) = 0 := hz _
    rw [this]
    simpa using hwg

/-! ### behind the phase -/
def clsE (cls : Nat → Cls) (b : Nat) : Cls := match cls b with
  | .none => .none
  | _ => .mine 0

theorem clsE_none {cls : Nat → Cls} {b : Nat} (h : cls b = .none) : clsE cls b = .none := by unfold clsE; rw [h]
theorem clsE_some {cls : Nat → Cls} {b : Nat} (h : cls b ≠ .none) : clsE cls b = .mine 0 := by
  unfold clsE
  cases hc : cls b with
  | none => exact absurd hc h
  | _ => rfl

theorem seen_mine {cls : Nat → Cls} {g b : Nat} {w : World} {o : Obj} (h : (view cls g w).heap[b]? = some o) (hm : cls b = .mine g) : w.heap[b]? = some o := by
  rw [view_get] at h
  obtain ⟨x, hx, e⟩ := Option.map_eq_some_iff.1 h
  unfold seenO at e
  rw [hm] at e
  simp at e
  rw [hx, e]

theorem seen_end {cls : Nat → Cls} {b : Nat} {w : World} {o : Obj} (h : w.heap[b]? = some o) (hm : cls b ≠ .none) : (view (clsE cls) 0 w).heap[b]? = some o := by
  rw [view_get, h]
  unfold seenO
  simp [clsE_some hm]

/-- A row of cells that may be written is one's own. -/
theorem open_mine {cls : Nat → Cls} {g b : Nat} {w : World} {c : Array Value} {e : TypeId} (h : (view cls g w).heap[b]? = some (.cells c e)) (hc : c ≠ #[]) : cls b = .mine g := by
  rw [view_get] at h
  obtain ⟨x, hx, e2⟩ := Option.map_eq_some_iff.1 h
  have h1 : closeO x ≠ .cells c e := fun e3 => by
    cases x <;> simp [closeO] at e3
    exact hc e3.1
  unfold seenO at e2
  split at e2
  · rename_i k hk
    split at e2
    · rename_i hkg; rw [hk, hkg]
    · exact absurd e2 h1
  · exfalso
    cases x with
    | cells c' e' fr' =>
      simp [frzO] at e2
      obtain ⟨e3, _, e4⟩ := e2
      subst e3
      exact hc e4
    | _ => exact h1 e2
  · exact absurd e2 h1

theorem tidy_end {cls : Nat → Cls} {w : World} (h : ∀ g, Tidy (view cls g w)) (hs : ∀ b o, cls b = .shared → w.heap[b]? = some o → tameObj o) : Tidy (view (clsE cls) 0 w) := by
  refine tidy_view fun b o hm ho => ?_
  cases hc : cls b with
  | none => rw [clsE_none hc] at hm; cases hm
  | mine g =>
    refine h g b o ?_
    rw [view_get, ho]
    simp [seenO, hc]
  | shared => exact hs b o hc ho
end
end Go.Proofs.Ytpolipcicfjkiaa.Cy
/- Add's and Wait's steps as the phase knows them. Conditions: none. -/
namespace Go.Proofs.Ytpolipcicfjkiaa.Cy
open Go Go.Conc Go.RowKit Go.Conc.Lib Go.ConcR.Gen
open Go.ConcN (WgLive sumTo upd sumTo_upd upd_ne upd_same)
open Go.ConcN.Gen Go.ConcN
open Go.ConcR (KK wgBlock WgAt stA smA rd wr DC0)

section
variable {P : Program} {ty Wg : Nat} {Ret : Goroutine → World → Prop} {FV : (Nat → Prop) → World → Prop} {K : Nat → Prop} {V w₀ : World} {g : Goroutine}

/-- At the join: what is left of Wait, and what is known of the view. -/
def FinW (P : Program) (ty Wg : Nat) (Ret : Goroutine → World → Prop) (FV : (Nat → Prop) → World → Prop) (g : Goroutine) (K : Nat → Prop) (V : World) : Prop := (∃ w, WgLive ty Wg w ∧ GS P ty Wg true Ret g w) ∧ FV K V

def Keeps (FV : (Nat → Prop) → World → Prop) : Prop := ∀ K V K₁ V₁, FV K V → Ext K V K₁ V₁ → FV K₁ V₁

theorem soft_enable (main : Bool) (K : Nat → Prop) (V : World) : SoftEv K V Wg main ⟨.mark .enable, false, true⟩ := .inr (.inl rfl)
theorem soft_disable (main : Bool) (K : Nat → Prop) (V : World) : SoftEv K V Wg main ⟨.mark .disable, false, true⟩ := .inr (.inl rfl)
theorem soft_read (K : Nat → Prop) (V : World) : SoftEv K V Wg true ⟨.mark (.read (smA Wg)), false, true⟩ := .inr (.inr ⟨_, rfl, ⟨_, rfl, rfl⟩, by simp, by simp⟩)
theorem soft_write (K : Nat → Prop) (V : World) : SoftEv K V Wg true ⟨.mark (.write (smA Wg)), false, true⟩ := .inr (.inr ⟨_, rfl, ⟨_, rfl, rfl⟩, by simp, by simp⟩)

theorem gv_acq (hk : Keeps FV) (ht : Tidy V) (hl : WgLive ty Wg w₀) (hf : FV K V) (h : GS P ty Wg true (AtMk P true (.acquire (stA Wg)) (GS P ty Wg true Ret)) g w₀) : GV P true false ty Wg (MAcq P Wg (FinW P ty Wg Ret FV)) 120 0 K g V := by
  refine gv_gs 120 g w₀ K V (m := 0) (fun g K₁ V₁ e ht h => GV.stop fun K₂ V₂ w e2 _ l => ?_) ht hl h
  obtain ⟨hr, g', hst, hn⟩ := h w l
  exact ⟨rfl, hr, g', hst, ⟨w, l, hn⟩, hk _ _ _ _ (hk _ _ _ _ hf e) e2⟩

theorem gv_seen (hk : Keeps FV) (ht : Tidy V) (hl : WgLive ty Wg w₀) (hf : FV K V) (h : GS P ty Wg true (AtSeen P ty Wg Ret) g w₀) : GV P true false ty Wg (MAcq P Wg (FinW P ty Wg Ret FV)) 241 1 K g V := by
  refine gv_gs 120 g w₀ K V (m := 121) (fun g K₁ V₁ e ht h => ?_) ht hl h
  exact gv_mk (m := 120) (soft_enable true) (by simp) g K₁ V₁ (fun g w K₂ V₂ e2 ht2 l hn => gv_acq hk ht2 l (hk _ _ _ _ (hk _ _ _ _ hf e) e2) hn) ht h ⟨_, hl⟩

theorem gv_last (hk : Keeps FV) (ht : Tidy V) (hl : WgLive ty Wg w₀) (hf : FV K V) (h : GS P ty Wg true (AtLast P ty Wg Ret) g w₀) : GV P true false ty Wg (MLast P ty Wg (FinW P ty Wg Ret FV)) 120 1 K g V := by
  refine gv_gs 120 g w₀ K V (m := 0) (fun g K₁ V₁ e ht h => GV.stop fun K₂ V₂ w e2 r l => ?_) ht hl h
  obtain ⟨hr, hst⟩ := h w l
  refine ⟨rfl, hr, fun hw => ?_⟩
  obtain ⟨g', h1, h2⟩ := hst hw
  exact ⟨g', h1, _, gv_seen hk (ht.ext e2 r) l (hk _ _ _ _ (hk _ _ _ _ hf e) e2) h2⟩

theorem gv_sem (hk : Keeps FV) (ht : Tidy V) (hl : WgLive ty Wg w₀) (hf : FV K V) (h : GS P ty Wg true (AtSem P ty Wg Ret) g w₀) : GV P true false ty Wg (MSem P ty Wg (FinW P ty Wg Ret FV)) 120 1 K g V := by
  refine gv_gs 120 g w₀ K V (m := 0) (fun g K₁ V₁ e ht h => GV.stop fun K₂ V₂ w e2 r l => ?_) ht hl h
  obtain ⟨hr, ho, hb, hst⟩ := h w l
  refine ⟨rfl, hr, ho, hb, fun hw => ?_⟩
  obtain ⟨g', h1, h2⟩ := hst hw
  exact ⟨g', h1, _, gv_last hk (ht.ext e2 r) ⟨_, _, hw.setSm 0⟩ (hk _ _ _ _ (hk _ _ _ _ hf e) e2) h2⟩

theorem gv_enrol (hk : Keeps FV) (ht : Tidy V) (hl : WgLive ty Wg w₀) (hf : FV K V) (h : GS P ty Wg true (AtMk P true (.write (smA Wg)) (GS P ty Wg true (AtSem P ty Wg Ret))) g w₀) : GV P true false ty Wg (MSem P ty Wg (FinW P ty Wg Ret FV)) 241 1 K g V := by
  refine gv_gs 120 g w₀ K V (m := 121) (fun g K₁ V₁ e ht h => ?_) ht hl h
  exact gv_mk (m := 120) soft_write (by simp) g K₁ V₁ (fun g w K₂ V₂ e2 ht2 l hn => gv_sem hk ht2 l (hk _ _ _ _ (hk _ _ _ _ hf e) e2) hn) ht h ⟨_, hl⟩

/-- The head of Wait's loop, and what is known of the view. -/
def AnchF (L : WgLink) (Wg : Nat) (c : Frame) (cs : List Frame) (FV : (Nat → Prop) → World → Prop) (g : Goroutine) (K : Nat → Prop) (V : World) : Prop := (∀ w, AnchW L Wg c cs g w) ∧ FV K V

variable {L : WgLink} {c : Frame} {cs : List Frame}
theorem gv_cas (hk : Keeps FV) {vs : Nat} (hv : vs ≠ 0) (ht : Tidy V) (hl : WgLive ty Wg w₀) (hf : FV K V) (h : GS P ty Wg true (AtCas P ty Wg (AnchW L Wg c cs) Ret vs) g w₀) : GV P true false ty Wg (MCas P ty Wg (AnchF L Wg c cs FV) (FinW P ty Wg Ret FV) vs) 120 1 K g V := by
  refine gv_gs 120 g w₀ K V (m := 0) (fun g K₁ V₁ e ht h => GV.stop fun K₂ V₂ w e2 r l => ?_) ht hl h
  obtain ⟨hr, hst⟩ := h w l
  have hf2 := hk _ _ _ _ (hk _ _ _ _ hf e) e2
  refine ⟨rfl, hr, hv, fun v hv hw => ⟨fun e => ?_, fun e => ?_⟩⟩
  · obtain ⟨g', h1, h2⟩ := (hst v hv hw).1 e
    exact ⟨g', h1, _, gv_enrol hk (ht.ext e2 r) ⟨_, _, hw.setSt _⟩ hf2 h2⟩
  · obtain ⟨g', h1, h2⟩ := (hst v hv hw).2 e
    refine ⟨g', h1, 120, gv_gs 120 g' w K₂ V₂ (m := 0) (fun g K₃ V₃ e3 ht h => GV.stop fun K₄ V₄ w4 e4 r l4 => ?_) (ht.ext e2 r) l h2⟩
    have ha := h w4 l4
    refine ⟨rfl, ?_, fun _ => ha, hk _ _ _ _ (hk _ _ _ _ hf2 e3) e4⟩
    obtain ⟨T, rfl, _⟩ := ha
    rfl

theorem gv_load (hk : Keeps FV) (ht : Tidy V) (hl : WgLive ty Wg w₀) (hf : FV K V) (h : GS P ty Wg true (AtLoad P ty Wg (AnchW L Wg c cs) Ret) g w₀) : GV P true false ty Wg (MLoad P ty Wg (AnchF L Wg c cs FV) (FinW P ty Wg Ret FV)) 120 1 K g V := by
  refine gv_gs 120 g w₀ K V (m := 0) (fun g K₁ V₁ e ht h => GV.stop fun K₂ V₂ w e2 r l => ?_) ht hl h
  obtain ⟨hr, hst⟩ := h w l
  have hf2 := hk _ _ _ _ (hk _ _ _ _ hf e) e2
  refine ⟨rfl, hr, fun v hv hw => ?_⟩
  obtain ⟨g', h1, h2, h3⟩ := hst v hv hw
  exact ⟨g', h1, fun e => ⟨_, gv_seen hk (ht.ext e2 r) l hf2 (h2 e)⟩, fun e => ⟨_, gv_cas hk e (ht.ext e2 r) l hf2 (h3 e)⟩⟩
end

section
variable {P : Program} {L : WgLink} {Wg : Nat} {FV : (Nat → Prop) → World → Prop} {K : Nat → Prop} {V : World} {b₀ : Frame} {a₀ : Act} {ops₀ : Array Oper} {i₀ : Nat} {rest₀ : List Nat} {k₀ : List Item} {cs : List Frame}

theorem live_ex (ty Wg : Nat) : ∃ w, WgLive ty Wg w :=
  ⟨{ (default : World) with heap := (Array.replicate (Wg + 1) (wgBlock ty 0 0)) }, 0, 0, by unfold WgAt; simp⟩

/-- From the head of Wait's loop to the look at the word. -/
theorem anch_load (H : WgLib P L) (hk : Keeps FV) (g : Goroutine) (K : Nat → Prop) (V : World) (h : AnchF L Wg (b₀.at a₀ (.inRegion ops₀ (i₀ :: rest₀) :: k₀)) cs FV g K V) (ht : Tidy V) :
    ∃ m, GV P true false L.tWg Wg (MLoad P L.tWg Wg (AnchF L Wg (b₀.at a₀ (.inRegion ops₀ (i₀ :: rest₀) :: k₀)) cs FV) (FinW P L.tWg Wg (IsG (G (b₀.at (a₀.put ((ops₀[i₀]?).bind (·.dst)) (.tuple #[])) (.inRegion ops₀ rest₀ :: k₀)) cs)) FV)) m 1 K g V := by
  obtain ⟨w, hl⟩ := live_ex L.tWg Wg
  exact ⟨120, gv_load hk ht hl h.2 (waitHead H g w (h.1 w) hl)⟩

/-- Wait's beginning. -/
theorem gv_wait (H : WgLib P L) (hk : Keeps FV) (ht : Tidy V) (hf : FV K V) :
    GV P true false L.tWg Wg (MAnch (AnchF L Wg (b₀.at a₀ (.inRegion ops₀ (i₀ :: rest₀) :: k₀)) cs FV)) 241 0 K
      (G ((base L.wait).at ⟨#[.pointer (some ⟨Wg, 0, none⟩)] ++ Array.replicate 83 undef, []⟩ [.code (body_wait L)]) (b₀.at a₀ (.inRegion ops₀ (i₀ :: rest₀) :: k₀) :: cs)) V := by
  obtain ⟨w, hl⟩ := live_ex L.tWg Wg
  refine gv_gs 120 _ w K V (m := 121) (fun g K₁ V₁ e ht h => ?_) ht hl (waitEnter H w hl)
  refine gv_mk (m := 120) (soft_disable true) (by simp) g K₁ V₁ (fun g w K₂ V₂ e2 ht2 l hn => ?_) ht h ⟨w, hl⟩
  refine gv_gs 120 g w K₂ V₂ (m := 0) (fun g K₃ V₃ e3 ht h => GV.stop fun K₄ V₄ w4 e4 r l4 => ?_) ht2 l hn
  have ha := h w4 l4
  refine ⟨rfl, ?_, fun _ => ha, hk _ _ _ _ (hk _ _ _ _ (hk _ _ _ _ (hk _ _ _ _ hf e) e2) e3) e4⟩
  obtain ⟨T, rfl, _⟩ := ha
  rfl

/-- Add(1). -/
theorem gv_add {Next : Nat → (Nat → Prop) → Goroutine → World → World → Prop} {m : Nat} (H : WgLib P L) (ht : Tidy V)
    (hN : ∀ K₁ V₁, Ext K V K₁ V₁ → Tidy V₁ → GV P true false L.tWg Wg Next m 0 K₁ (G (b₀.at (a₀.put ((ops₀[i₀]?).bind (·.dst)) (.tuple #[])) (.inRegion ops₀ rest₀ :: k₀)) cs) V₁) :
    GV P true false L.tWg Wg (MInc P L.tWg Wg Next) 241 0 K
      (G ((base L.add).at ⟨#[.pointer (some ⟨Wg, 0, none⟩), .int .i64 1] ++ Array.replicate 115 undef, []⟩ [.code (body_add L)]) (b₀.at a₀ (.inRegion ops₀ (i₀ :: rest₀) :: k₀) :: cs)) V := by
  obtain ⟨w, hl⟩ := live_ex L.tWg Wg
  have fin : ∀ K₁ V₁ w₁ g', Ext K V K₁ V₁ → Tidy V₁ → WgLive L.tWg Wg w₁ → GS P L.tWg Wg true (AtMk P true .enable (GS P L.tWg Wg true fun g _ => g = G (b₀.at (a₀.put ((ops₀[i₀]?).bind (·.dst)) (.tuple #[])) (.inRegion ops₀ rest₀ :: k₀)) cs)) g' w₁ →
      GV P true false L.tWg Wg Next (120 + ((120 + m) + 1)) 1 K₁ g' V₁ := fun K₁ V₁ w₁ g' e1 ht1 hl1 h => by
    refine gv_gs 120 g' w₁ K₁ V₁ (m := (120 + m) + 1) (fun g K₂ V₂ e2 ht h => ?_) ht1 hl1 h
    refine gv_mk (m := 120 + m) (soft_enable true) (by simp) g K₂ V₂ (fun g w K₃ V₃ e3 ht3 l hn => ?_) ht h ⟨w₁, hl1⟩
    refine gv_gs 120 g w K₃ V₃ (m := m) (fun g K₄ V₄ e4 ht h => ?_) ht3 l hn
    have hg := h w l
    subst hg
    exact hN _ _ (((e1.trans e2).trans e3).trans e4) ht
  refine gv_gs 120 _ w K V (m := 121) (fun g K₁ V₁ e ht h => ?_) ht hl (addInc H w hl)
  refine gv_mk (m := 120) (soft_disable true) (by simp) g K₁ V₁ (fun g w K₂ V₂ e2 ht2 l hn => ?_) ht h ⟨w, hl⟩
  refine gv_gs 120 g w K₂ V₂ (m := 0) (fun g K₃ V₃ e3 ht h => GV.stop fun K₄ V₄ w4 e4 r l4 => ?_) ht2 l hn
  obtain ⟨hr, hst⟩ := h w4 l4
  have e34 := ((e.trans e2).trans e3).trans e4
  refine ⟨rfl, hr, fun v hv hw => ?_⟩
  obtain ⟨g', h1, h2⟩ := hst v hv hw
  have hl5 : WgLive L.tWg Wg (w4.setCell (stA Wg) (.int .u64 ((v + 1) * KK))) := ⟨_, _, hw.setSt _⟩
  rcases h2 with ⟨_, h2⟩ | ⟨_, h2⟩
  · refine ⟨g', h1, 120 + ((120 + ((120 + m) + 1)) + 1), ?_⟩
    refine gv_gs 120 g' _ K₄ V₄ (m := (120 + ((120 + m) + 1)) + 1) (fun g K₅ V₅ e5 ht h => ?_) (ht.ext e4 r) hl5 h2
    exact gv_mk (m := 120 + ((120 + m) + 1)) soft_read (by simp) g K₅ V₅ (fun g w K₆ V₆ e6 ht6 l hn => fin K₆ V₆ w g ((e34.trans e5).trans e6) ht6 l hn) ht h ⟨_, hl5⟩
  · exact ⟨g', h1, _, fin K₄ V₄ _ g' e34 (ht.ext e4 r) hl5 h2⟩
end
end Go.Proofs.Ytpolipcicfjkiaa.Cy

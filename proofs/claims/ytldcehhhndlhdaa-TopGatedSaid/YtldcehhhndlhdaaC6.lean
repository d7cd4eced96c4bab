/- As Range, for a function value that is bound to a receiver: a method value. No function here; no conditions. -/
import Derived.Test.YtldcehhhndlhdaaC5
import Derived.RangeFuncBox
import Derived.OwnWalkIn
import Derived.TacticsInMore
import Derived.LoopNIn
import Derived.LoopIn
import Derived.Test.YtldcehhhndlhdaaC4
namespace Go.Proofs.Ytldcehhhndlhdaa
open Go.RowKit

/-- What is said holds on, whatever turns at that number or above it. -/
def UpFrom {β : Type} (B : Nat) (I : β → World → Prop) : Prop :=
  ∀ s W W' row, I s W → W.grownBy W' row → (∀ r, row = some r → B ≤ r) → I s W'
theorem UpFrom.own {β : Type} {B : Nat} {I : β → World → Prop} (h : UpFrom B I) : OwnFrom B I := fun s W W' row hs hg hr => h s W W' row hs hg fun r e => (hr r e).1
/-- What an iterator keeps, told of each round what it yields; it may write what it has made itself. -/
def SeqRP {α : Type} (F : Fence) (n : Nat) (P : Program) (g : Nat) (pb lb : Array Value) (encs : α → Array Value) (Kp : World → World → Prop) (S Sp : List α → Prop) (C : (List α → World → Prop) → Prop) (R : List α → α → World → Prop) (w : World) : Prop :=
  ∀ (l : Nat) (J Jx : List α → World → Prop) (W : World), Below w.heap.size w W → UpFrom W.heap.size J → UpFrom W.heap.size Jx → C J →
    (∀ pre x W1, J pre W1 → R pre x W1 → YieldAt F (n - 1) P l (encs x) W1 fun e W' =>
      (e = .returned (.bool true) ∧ J (pre ++ [x]) W' ∧ Kp W1 W') ∨ (e = .returned (.bool false) ∧ Jx (pre ++ [x]) W')) →
    J [] W →
    CallsIn F n P g (pb ++ #[.func (.yield l) #[] #[]] ++ lb) W fun e W' => (∃ v, e = .returned v) ∧ ((∃ xs, S xs ∧ J xs W') ∨ (∃ pre, Sp pre ∧ Jx pre W'))

variable {F : Fence} {n : Nat} {P : Program}
theorem wpIn_rangeFunc_RP {α : Type} {g : Operand} {ps : Array Tmp} {assign body : Code} {Q : Exit → Act → World → Prop} {a : Act} {w : World}
    (hro : F.round = none) (h1 : 1 ≤ n) {gf : Nat} {pb lb : Array Value} (hg : a.eval g = .func (.func gf) pb lb) (hFg : F.fn gf) (eg : ∀ args w, (callFunc gf args).run P w = .ok (.enter gf args) w)
    {encs : α → Array Value} {Kp : World → World → Prop} {S Sp : List α → Prop} {C : (List α → World → Prop) → Prop} {R : List α → α → World → Prop} {w0 : World} (hseq : SeqRP F (n - 1) P gf pb lb encs Kp S Sp C R w0)
    (hKt : ∀ {A B C : World}, Kp A B → Kp B C → Kp A C) (hKb : ∀ (W : World) (l : Nat) (o o' : Obj), w.heap.size ≤ l → W.heap[l]? = some o → o.isCells = false → o.isWalk = false → Kp W (W.putObj l o')) (hb0 : Below w0.heap.size w0 w) (hps : ∀ x, (encs x).size = ps.size)
    (I : List α → World → Prop) (Ix : Code → List α → World → Prop) (hI' : UpFrom w.heap.size I) (hIx' : ∀ c, UpFrom w.heap.size (Ix c)) (hC : ∀ J : List α → World → Prop, (∀ pre W, J pre W → I pre W) → C J) (h0 : I [] w) (Ax : List α → α → Act → World → Prop) (hAx : ∀ pre x a', OwnFrom w.heap.size (fun (_ : Unit) W => Ax pre x a' W))
    (hassign : ∀ (l : Nat) (pre : List α) (x : α) (W : World) (K : Act → World → Prop), I pre W → R pre x W → (∀ a' W', KeepsFrom w.heap.size W W' → Kp W W' → I pre W' → Ax pre x a' W' → K a' W') →
      assign.wpIn (F.inRound l) (n - 1 - 1) P (Exit.then K (fun _ _ _ => False)) { tmps := (ps.zip (encs x)).foldl (fun t (p, v) => t.setIfInBounds p v) a.tmps, defers := [] } W)
    (hbody : ∀ (l : Nat) (pre : List α) (x : α) (a' : Act) (W : World), w.heap.size ≤ l → (∃ r, W.heap[l]? = some (.loop r)) → I pre W → Ax pre x a' W → body.wpIn (F.inRound l) (n - 1 - 1) P (ownPostG w.heap.size Kp I Ix (pre ++ [x]) W) a' W)
    (hdone : ∀ (D : Nat) (xs : List α) (W : World), w.heap.size ≤ D → S xs → I xs W → W.heap[D]? = some (.deferred (some [])) → Q .normal { a with defers := { target := .collected D, args := #[] } :: a.defers } W)
    (hstop : ∀ (D : Nat) (c : Code) (pre : List α) (W : World), w.heap.size ≤ D → Sp pre → Ix c pre W → W.heap[D]? = some (.deferred (some [])) → c.wpIn F n P Q { a with defers := { target := .collected D, args := #[] } :: a.defers } W) :
    (Code.rangeFunc g ps assign body).wpIn F n P Q a w := by
  have hI := hI'.own
  have hIx := fun c => (hIx' c).own
  refine wpIn_rangeFunc fun fn hfn => ?_
  rw [hro]
  obtain ⟨D, hD⟩ : ∃ D, w.heap.size = D := ⟨_, rfl⟩
  obtain ⟨rec, hrec⟩ : ∃ rec : LoopState → Option Code → Loop, rec = fun st pe => { state := st, pending := pe, fn, tmps := a.tmps, params := ps, assign, body, defers := D } := ⟨_, rfl⟩
  obtain ⟨W1, hW1⟩ : ∃ W1, (w.alloc (.deferred (some []))).alloc (.loop (rec .ready none)) = W1 := ⟨_, rfl⟩
  have hsz1 : W1.heap.size = D + 2 := by rw [← hW1, ← hD]; simp
  have hL1 : W1.heap[D + 1]? = some (.loop (rec .ready none)) := by
    have := World.alloc_heap_new (w.alloc (.deferred (some []))) (.loop (rec .ready none))
    rwa [World.size_alloc, hW1, hD] at this
  have hK1 : W1.heap[D]? = some (.deferred (some [])) := by
    rw [← hW1, ← hD]
    exact (Below.heap_alloc _ _ _ (by simp)).trans (World.alloc_heap_new w _)
  have hI1 : I [] W1 := by rw [← hW1]; exact hI.alloc _ (hI.alloc _ h0)
  have hb1 : Below w0.heap.size w0 W1 := by
    rw [← hW1]
    exact hb0.trans ((((Below.refl _ w).alloc (Nat.le_refl _) _).alloc (by simp) _).mono hb0.size)
  rw [hD] at hI hIx hI' hIx' hAx hbody hassign hKb hdone hstop
  refine ⟨D + 1, [{ target := .collected D, args := #[] }], W1, { target := .fn (.func gf) lb, args := pb ++ #[.func (.yield (D + 1)) #[] #[]] }, W1, gf,
    pb ++ #[.func (.yield (D + 1)) #[] #[]] ++ lb, W1, ?_, ?_, ?_, ?_, fun _ => h1, ?_⟩
  · rw [← hW1, hrec, ← hD]; exact run_enterLoop_outer _ _ _ _ _
  · simp only [resolve, hg]
    simp [go_sem]
  · intro f' hf'; simp [Target.leads] at hf'; subst hf'; exact hFg
  · simp [invoke, go_sem, eg]
  · have hst : ∀ {A B : World} {row : Option Nat} {b : Nat} {o : Obj}, A.grownBy B row → (∀ r, row = some r → W1.heap.size ≤ r) → b < W1.heap.size → A.heap[b]? = some o → B.heap[b]? = some o :=
      fun hg hr hb ho => (hg.block _ (Array.getElem?_eq_some_iff.1 ho).1 (fun e => by have := hr _ e.symm; omega)).trans ho
    refine (hseq (D + 1)
      (fun pre W => I pre W ∧ W.heap[D + 1]? = some (.loop (rec .ready none)) ∧ W.heap[D]? = some (.deferred (some [])))
      (fun pre W => ∃ c, Ix c pre W ∧ W.heap[D + 1]? = some (.loop (rec .done (some c))) ∧ W.heap[D]? = some (.deferred (some [])))
      W1 hb1
      (fun s A B row hs hg' hr => ⟨hI' s A B row hs.1 hg' (fun r e => by have := hr r e; omega), hst hg' hr (by omega) hs.2.1, hst hg' hr (by omega) hs.2.2⟩)
      (fun s A B row hs hg' hr => by
        obtain ⟨c, hc, hl, hk⟩ := hs
        exact ⟨c, hIx' c s A B row hc hg' (fun r e => by have := hr r e; omega), hst hg' hr (by omega) hl, hst hg' hr (by omega) hk⟩)
      (hC _ fun _ _ h => h.1) ?_ ⟨hI1, hL1, hK1⟩).mono ?_
    · rintro pre x W ⟨hi, hl, hk⟩ hR
      have hy := run_yield (P := P) (args := encs x) hl (by rw [hrec]; exact hps x)
      rw [hrec] at hy
      refine ⟨fn, _, assign, body, hy, roundIn_of_wpIn hfn (hassign _ pre x W _ hi hR ?_)⟩
      clear hy hR
      intro a' V hkf hkp hi' hax
      have hl' := hkf.same _ _ (by omega) hl rfl
      have hk' := hkf.same _ _ (Nat.le_refl _) hk rfl
      refine ⟨_, run_beginRound hl' (by rw [hrec]), ?_⟩
      have hlt : D + 1 < V.heap.size := (Array.getElem?_eq_some_iff.1 hl').1
      obtain ⟨V2, hV2⟩ : ∃ V2, V.putObj (D + 1) (.loop { rec .ready none with state := .busy }) = V2 := ⟨_, rfl⟩
      have hl2 : V2.heap[D + 1]? = some (.loop { rec .ready none with state := .busy }) := by rw [← hV2]; exact World.putObj_heap_same hlt
      have hk2 : V2.heap[D]? = some (.deferred (some [])) := by rw [← hV2]; exact (World.putObj_heap_other (by omega)).trans hk'
      have hw2 : Kp V V2 := by rw [← hV2]; exact hKb _ _ _ _ (by omega) hl' rfl rfl
      have hi2 : I pre V2 := by rw [← hV2]; exact hI.putObj _ hi' (by omega) hl' rfl
      have hax2 : Ax pre x a' V2 := by rw [← hV2]; exact (hAx pre x a').putObj (s := ()) _ hax (by omega) hl' rfl
      rw [hV2]
      refine wpIn_mono (hbody _ pre x a' _ (by omega) ⟨_, hl2⟩ hi2 hax2) ?_
      have fin : ∀ (jump : Option Code) (U : World), KeepsFrom D V2 U → ∃ U', (Instr.endRound (D + 1) jump).run P U = .ok (.bool jump.isNone) U' ∧
          (∀ (T : List α → World → Prop), OwnFrom D T → ∀ ys, T ys U → T ys U') ∧ Kp U U' ∧ U'.heap[D + 1]? = some (.loop (rec (if jump.isNone then .ready else .done) jump)) ∧ U'.heap[D]? = some (.deferred (some [])) := fun jump U hk3 => by
        have hl3 := hk3.same _ _ (by omega) hl2 rfl
        have hrun := run_endRound (P := P) jump hl3
        rw [hrec] at hrun
        refine ⟨_, hrun, fun T hT ys ht => hT.putObj _ ht (by omega) hl3 rfl, hKb _ _ _ _ (by omega) hl3 rfl rfl, ?_, ?_⟩
        · rw [hrec]; exact World.putObj_heap_same (Array.getElem?_eq_some_iff.1 hl3).1
        · exact (World.putObj_heap_other (by omega)).trans (hk3.same _ _ (Nat.le_refl _) hk2 rfl)
      rintro e a3 U hp
      cases e with
      | normal =>
        obtain ⟨hk3, hkp3, hi3⟩ := hp
        obtain ⟨U', hr, hT, hkp4, hl4, hk4⟩ := fin none U hk3
        exact ⟨_, U', hr, .inl ⟨rfl, ⟨hT _ hI _ hi3, hl4, hk4⟩, hKt hkp (hKt (hKt hw2 hkp3) hkp4)⟩⟩
      | ret =>
        obtain ⟨hk3, hi3⟩ := hp
        obtain ⟨U', hr, hT, _, hl4, hk4⟩ := fin (some .ret) U hk3
        exact ⟨_, U', hr, .inr ⟨rfl, .ret, hT _ (hIx _) _ hi3, hl4, hk4⟩⟩
      | exit id =>
        obtain ⟨hk3, hi3⟩ := hp
        obtain ⟨U', hr, hT, _, hl4, hk4⟩ := fin (some (.exit id)) U hk3
        exact ⟨_, U', hr, .inr ⟨rfl, .exit id, hT _ (hIx _) _ hi3, hl4, hk4⟩⟩
      | goto t =>
        obtain ⟨hk3, hi3⟩ := hp
        obtain ⟨U', hr, hT, _, hl4, hk4⟩ := fin (some (.goto t)) U hk3
        exact ⟨_, U', hr, .inr ⟨rfl, .goto t, hT _ (hIx _) _ hi3, hl4, hk4⟩⟩
      | panic ch => exact hp.elim
      | outgrown => exact hp.elim
    · rintro e U ⟨⟨v, rfl⟩, (⟨xs, hS, hi, hl, hk⟩ | ⟨pre, hSp, c, hi, hl, hk⟩)⟩
      · have hend := run_endLoop (P := P) hl (by rw [hrec]; simp)
        rw [hrec] at hend
        exact ⟨none, _, hend, hdone _ xs _ (Nat.le_refl _) hS (hI.putObj _ hi (by omega) hl rfl) ((World.putObj_heap_other (by omega)).trans hk)⟩
      · have hend := run_endLoop (P := P) hl (by rw [hrec]; simp)
        rw [hrec] at hend
        exact ⟨some c, _, hend, hstop _ c pre _ (Nat.le_refl _) hSp ((hIx c).putObj _ hi (by omega) hl rfl) ((World.putObj_heap_other (by omega)).trans hk)⟩

/-- Below a number nothing has turned; of the cells beside these blocks neither. -/
structure KpX (B : Nat) (Ks : List Nat) (W W' : World) : Prop where
  bel : Below B W W'
  same : ∀ k o, k ∉ Ks → W.heap[k]? = some o → o.isCells = true → W'.heap[k]? = some o
theorem KpX.refl (B : Nat) (Ks : List Nat) (W : World) : KpX B Ks W W := ⟨Below.refl _ _, fun _ _ _ h _ => h⟩
theorem KpX.trans {B : Nat} {Ks : List Nat} {X Y Z : World} (h : KpX B Ks X Y) (k : KpX B Ks Y Z) : KpX B Ks X Z := ⟨h.bel.trans k.bel, fun i o hi ho hc => k.same i o hi (h.same i o hi ho hc) hc⟩
theorem KpX.putObj {B n : Nat} {Ks : List Nat} (hB : B ≤ n) (W : World) (l : Nat) : ∀ (o o' : Obj), n ≤ l → W.heap[l]? = some o → o.isCells = false → o.isWalk = false → KpX B Ks W (W.putObj l o') := fun o o' hl ho hc _ => by
  have hg := grownBy_putObj' W l o'
  refine ⟨⟨hg.os, hg.tape, hg.output, hg.size, fun k hk => hg.block k (by have := (Array.getElem?_eq_some_iff.1 ho).1; omega) (fun e => by injection e with e; omega)⟩, fun k o2 _ hk hc2 => ?_⟩
  by_cases e : k = l
  · subst e
    rw [ho] at hk
    injection hk with hk
    rw [hk, hc2] at hc
    cases hc
  · exact (World.putObj_heap_other e).trans hk
theorem KpX.below {B : Nat} {Ks : List Nat} {W W' : World} (h : Below W.heap.size W W') (hB : B ≤ W.heap.size) : KpX B Ks W W' :=
  ⟨h.mono hB, fun k _ _ hk _ => (h.block k (Array.getElem?_eq_some_iff.1 hk).1).trans hk⟩
theorem KpX.grown {B : Nat} {Ks : List Nat} {W W' : World} {row : Option Nat} (h : W.grownBy W' row) (hB : B ≤ W.heap.size) (hr : ∀ k, row = some k → B ≤ k ∧ k ∈ Ks) : KpX B Ks W W' :=
  ⟨⟨h.os, h.tape, h.output, h.size, fun k hk => h.block k (by omega) (fun e => by have := (hr k e.symm).1; omega)⟩, fun k _ hk ho _ => (h.block k (Array.getElem?_eq_some_iff.1 ho).1 (fun e => hk (hr k e.symm).2)).trans ho⟩
/-- What a call owns, behind something that keeps its things. -/
theorem St.kpX {w0 w w' : World} {n : Nat} {L : List Item} {Ks : List Nat} (h : St w0 w n L) (hk : KpX w0.heap.size Ks w w') (hL : ∀ x ∈ L, x.cel) (hn : ∀ x ∈ L, ∀ b, x.blk = some b → b ∉ Ks) : St w0 w' w'.heap.size L := by
  refine ⟨rfl, h.bel.trans hk.bel, fun x hx => ?_, h.apart⟩
  have hok := h.ok x hx
  refine hok.same fun b hb => ?_
  obtain ⟨o, ho⟩ : ∃ o, w.heap[b]? = some o := ⟨_, Array.getElem?_eq_getElem (hok.lt hb).2⟩
  rw [ho]
  exact hk.same b o (hn x hx b hb) ho (hok.cells (hL x hx) hb ho)
/-- Such a thing may be said where all its blocks lie below. -/
theorem St.up {w0 w w' : World} {n B : Nat} {L : List Item} (h : St w0 w n L) {row : Option Nat} (hg : w.grownBy w' row) (hr : ∀ r, row = some r → B ≤ r) (hB : w0.heap.size ≤ B) (hL : ∀ x ∈ L, ∀ b, x.blk = some b → b < B) : St w0 w' w'.heap.size L := by
  refine ⟨rfl, h.bel.trans ⟨hg.os, hg.tape, hg.output, hg.size, fun k hk => hg.block k (by have := h.bel.size; omega) (fun e => by have := hr k e.symm; omega)⟩, fun x hx => ?_, h.apart⟩
  have hok := h.ok x hx
  exact hok.same fun b hb => hg.block b (hok.lt hb).2 (fun e => by have := hr b e.symm; have := hL x hx b hb; omega)
end Go.Proofs.Ytldcehhhndlhdaa
/- The gate's turns: an iterator without an end of its own, told of a caller that ends it. -/
namespace Go.Proofs.Ytldcehhhndlhdaa
open Go.RowKit Go.Sort
attribute [local go_sem] Oper.semAt_some

def encT (b : MBox) (x : Nat) : Array Value := #[I (x : Nat), I (nextM b (hasM b 5 x))]
def gateV (A1 A2 : Option Addr) (c1 c2 : Nat) (b : MBox) : Value := .agg #[.slice A1 b.sh.length c1, .slice A2 b.mo.length c2, I 0, I 0, I 0, I 0, I 0]
def gateC (A1 A2 : Option Addr) (c1 c2 : Nat) (b : MBox) (has : List Int) : List Value := [.slice A1 b.sh.length c1, .slice A2 b.mo.length c2] ++ has.map I
theorem gateC_set (A1 A2 : Option Addr) (c1 c2 : Nat) (b : MBox) (has : List Int) (i : Nat) (x : Int) : (gateC A1 A2 c1 c2 b has).set (2 + i) (I x) = gateC A1 A2 c1 c2 b (has.set i x) := by
  unfold gateC
  rw [List.set_append_right _ _ (by simp), List.map_set]
  congr 2
  simp
theorem gateC_at (A1 A2 : Option Addr) (c1 c2 : Nat) (b : MBox) {has : List Int} {i : Nat} (h : i < has.length) : (gateC A1 A2 c1 c2 b has)[2 + i]? = some (I (mAt has (i : Int))) := by
  unfold gateC
  rw [List.getElem?_append_right (by simp)]
  simp [mAt, List.getElem?_eq_getElem h]
theorem hasM_all {b : MBox} (hok : MOk b) (k : Nat) : ∀ x ∈ hasM b 5 k, 0 ≤ x ∧ x ≤ 20 := by
  intro x hx
  obtain ⟨j, hj, rfl⟩ := List.getElem_of_mem hx
  have hmo : ∀ j : Nat, 0 ≤ mAt b.mo j ∧ mAt b.mo j ≤ 20 := fun j => by
    unfold mAt
    rw [List.getD_eq_getElem?_getD, Int.toNat_natCast]
    by_cases h : j < b.mo.length
    · rw [List.getElem?_eq_getElem h]
      exact hok.mx _ (List.getElem_mem h)
    · rw [List.getElem?_eq_none (by omega)]
      exact ⟨by simp, by simp⟩
  have h1 := hasM_bd b 5 (fun j => (hmo j).1) k j
  have h2 := (hmo j).2
  have e : mAt (hasM b 5 k) (j : Int) = (hasM b 5 k)[j] := by simp [mAt, List.getElem?_eq_getElem hj]
  rw [e] at h1
  omega

set_option maxRecDepth 100000 in
set_option maxHeartbeats 4000000 in
theorem turns_in (l flow B0 : Nat) (Ks : List Nat) (A1 A2 : Option Addr) (c1 c2 : Nat) (b : MBox) (hok : MOk b) (hfl : flow ≤ 40) (w0 : World) (hB0 : w0.heap.size = B0) (J Jx : List Nat → World → Prop) (W : World) (hbW : Below w0.heap.size w0 W) (hKW : ∀ k ∈ Ks, k < W.heap.size) (hJ : UpFrom W.heap.size J)
    (hC : ∀ pre W, J pre W → pre.length ≤ flow)
    (hY : ∀ pre x W1, J pre W1 → x = pre.length → YieldAt Fence.wide 3 Try.prog l (encT b x) W1 fun e W' =>
      (e = .returned (.bool true) ∧ J (pre ++ [x]) W' ∧ KpX B0 Ks W1 W') ∨ (e = .returned (.bool false) ∧ Jx (pre ++ [x]) W'))
    (hs : Ints w0 (.slice A1 b.sh.length c1) b.sh) (hm : Ints w0 (.slice A2 b.mo.length c2) b.mo) (h0 : J [] W) :
    CallsIn Fence.wide 4 Try.prog 58 #[gateV A1 A2 c1 c2 b, .func (.yield l) #[] #[]] W fun e W' => (∃ v, e = .returned v) ∧
      ((∃ ys, (ys = ys ∧ False) ∧ J ys W') ∨ (∃ pre, True ∧ Jx pre W')) := by
  refine callsIn_of_wp Try.func58 rfl trivial ?_ rfl
  simp only [Try.ntmps58, List.size_toArray, List.length_cons, List.length_nil, Nat.reduceAdd, Nat.reduceSub, Array.replicate_succ, Array.replicate_zero, List.push_toArray, List.append_toArray, List.nil_append, List.cons_append]
  have SW := Lib.hid (show St w0 W W.heap.size [] from ⟨rfl, hbW, by simp, by simp⟩)
  have S0 := Lib.hid (SW.out.alloc (gateC A1 A2 c1 c2 b (hasM b 5 0)) 98)
  have HS := Lib.hid hs
  have HM := Lib.hid hm
  have HJ := Lib.hid hJ
  have HC := Lib.hid hC
  have HOK := Lib.hid hok
  have HKW := Lib.hid hKW
  have HB0 := Lib.hid hB0
  clear hs hm hJ hok hC hbW hKW hB0
  have HJ0 := Lib.hid (show J [] (W.alloc (.cells (gateC A1 A2 c1 c2 b (hasM b 5 0)).toArray 98)) from HJ.out _ _ _ none h0 (grown_of_below ((Below.refl _ W).alloc (Nat.le_refl _) _) none) (by simp))
  clear h0
  unfold gateV
  gi_wp2_with fail
  gi_loopw [4] (fun i wr => ∃ k : Nat, i = I k ∧ J (List.range k) wr ∧ Hid (St w0 wr wr.heap.size [.box W.heap.size (gateC A1 A2 c1 c2 b (hasM b 5 k))])) (fun i _ => flow + 1 - (intOf i).toNat)
  case atStart => exact ⟨0, rfl, HJ0.out, Lib.hid S0.out.fix⟩
  case round =>
    obtain ⟨k, rfl, hJs, S⟩ := hrel
    have HKF := Lib.hid (show k ≤ flow by have := HC.out _ _ hJs; simpa using this)
    clear HJ0 S0
    gi_wp2_with fail
    refine ⟨trivial, ?_⟩
    refine (callsIn_wide.2 (gateNext_any W.heap.size A1 A2 c1 c2 b (hasM b 5 k) wr (HS.out.below S.out.bel) (HM.out.below S.out.bel) HOK.out (hasM_len b 5 k) (hasM_all HOK.out k) (fun i u hu => S.out.get 0 i rfl hu))).mono ?_
    rintro e w2 ⟨rfl, hbw⟩
    have hJ2 := HJ.out _ _ _ none hJs (grown_of_below hbw none) (by simp)
    have S := Lib.hid (S.out.call hbw)
    obtain ⟨fn, tmps, assign, body, hy, hR⟩ := hY _ k w2 hJ2 (by simp)
    dsimp only [encT] at hy
    clear hbw
    gi_wp2_with fail
    refine hR.mono ?_
    rintro e W3 (⟨rfl, hJ3, hk3⟩ | ⟨rfl, hJx3⟩)
    · have S := Lib.hid (S.out.kpX (by rw [HB0.out]; exact hk3) (by simp [Item.cel]) (by
        intro x hx c hc hm
        simp only [List.mem_singleton] at hx
        subst hx
        injection hc with hc
        have := HKW.out c hm
        omega))
      clear hk3
      obtain ⟨nx, hnx⟩ : ∃ x, nextM b (hasM b 5 k) = x := ⟨_, rfl⟩
      have hnb := nextTo_bd b (hasM b 5 k) b.sh.length
      rw [show nextTo b (hasM b 5 k) b.sh.length = nx from hnx] at hnb
      have hst : hasM b 5 (k + 1) = if 0 ≤ nx then (hasM b 5 k).set nx.toNat (mAt (hasM b 5 k) nx + 1) else hasM b 5 k := by
        show stepM b (hasM b 5 k) = _
        unfold stepM
        rw [hnx]
      have hsl := HOK.out.sl
      rw [hnx]
      have hJ3 : J (List.range (k + 1)) W3 := by rw [List.range_succ]; exact hJ3
      by_cases hn : nx < 0
      · rw [if_neg (by omega)] at hst
        have S := Lib.hid (show St w0 W3 W3.heap.size [.box W.heap.size (gateC A1 A2 c1 c2 b (hasM b 5 (k + 1)))] by rw [hst]; exact S.out)
        clear hst
        have hkf := HKF.out
        gi_wp2_with fail
        go_roundw
        case rel => exact ⟨k + 1, by go_num, hJ3, S⟩
        case measure => have := HKF.out; first | (simp [intOf]; done) | (simp [intOf]; omega)
      · obtain ⟨q, rfl⟩ := Int.eq_ofNat_of_zero_le (show 0 ≤ nx by omega)
        rw [if_pos (by omega), Int.toNat_natCast] at hst
        have hq5 : q < (hasM b 5 k).length := by rw [hasM_len]; omega
        have hqi : (q : Int) < 5 := by omega
        have y0 := S.out.get 0 (2 + q) rfl (gateC_at A1 A2 c1 c2 b hq5)
        have z0 := S.out.free 0 (2 + q) rfl
        have S2 := Lib.hid (S.out.set 0 (2 + q) (I (mAt (hasM b 5 k) (q : Int) + 1)) rfl)
        dsimp only [List.set_cons_zero] at S2
        rw [gateC_set, ← hst] at S2
        have hbd : 0 ≤ mAt (hasM b 5 k) (q : Int) ∧ mAt (hasM b 5 k) (q : Int) ≤ 20 := by
          have := hasM_all HOK.out k _ (List.getElem_mem hq5)
          rw [show mAt (hasM b 5 k) (q : Int) = (hasM b 5 k)[q] by simp [mAt, List.getElem?_eq_getElem hq5]]
          exact this
        obtain ⟨hq, hhq⟩ : ∃ x, mAt (hasM b 5 k) (q : Int) = x := ⟨_, rfl⟩
        rw [hhq] at y0 S2 hbd
        have HJ4 := Lib.hid (show J (List.range (k + 1)) (W3.setCell ⟨W.heap.size, 2 + q, none⟩ (I (hq + 1))) from HJ.out _ _ _ _ hJ3 (grown_setCell _ _ _) (by intro r e; injection e with e; exact Nat.le_of_eq e))
        clear hst hhq
        have hkf := HKF.out
        gi_wp2_with fail
        go_roundw
        case rel => exact ⟨k + 1, by go_num, HJ4.out, Lib.hid S2.out.fix⟩
        case measure => have := HKF.out; first | (simp [intOf]; done) | (simp [intOf]; omega)
    · gi_wp2
      refine bodyPost_ret (results_none rfl _ _ _) rfl ?_
      exact ⟨⟨_, rfl⟩, .inr ⟨_, trivial, hJx3⟩⟩

/-- The contract, for a caller that ends it at a flow, or before. -/
theorem turns_seq (w : World) (flow B0 : Nat) (Ks : List Nat) (A1 A2 : Option Addr) (c1 c2 : Nat) (b : MBox) (hok : MOk b) (hfl : flow ≤ 40) (w0 : World) (hB0 : w0.heap.size = B0) (hw : Below w0.heap.size w0 w) (hKw : ∀ k ∈ Ks, k < w.heap.size)
    (hs : Ints w0 (.slice A1 b.sh.length c1) b.sh) (hm : Ints w0 (.slice A2 b.mo.length c2) b.mo) :
    SeqRP Fence.wide 4 Try.prog 58 #[gateV A1 A2 c1 c2 b] #[] (encT b) (KpX B0 Ks) (fun ys => ys = ys ∧ False) (fun _ => True) (fun J => ∀ pre W, J pre W → pre.length ≤ flow) (fun pre x _ => x = pre.length) w := fun l J Jx W hW hJ _ hC hY h0 =>
  turns_in l flow B0 Ks A1 A2 c1 c2 b hok hfl w0 hB0 J Jx W (hw.trans (hW.mono hw.size)) (fun k hk => Nat.lt_of_lt_of_le (hKw k hk) hW.size) hJ hC hY hs hm h0
end Go.Proofs.Ytldcehhhndlhdaa
/- Walks: within, isFlow of both sides; Far, Check of the reference. -/
namespace Go.Proofs.Ytldcehhhndlhdaa
open Go.RowKit Go.Sort

def inM (n lo hi : Int) : Bool := decide (lo ≤ n) && decide (n ≤ hi)
/-- A box where it lies. -/
def MBoxAt (w : World) (v : Value) (b : MBox) : Prop := ∃ sv mv, v = .agg #[sv, mv] ∧ Ints w sv b.sh ∧ Ints w mv b.mo
theorem MBoxAt.below {w w' : World} {v : Value} {b : MBox} (h : MBoxAt w v b) (hb : Below w.heap.size w w') : MBoxAt w' v b := by
  obtain ⟨sv, mv, e, h1, h2⟩ := h
  exact ⟨sv, mv, e, h1.below hb, h2.below hb⟩
def farM (b : MBox) : Bool := decide ((40 : Int) < (b.sh.length : Int)) || decide ((40 : Int) < (b.mo.length : Int))
def chkM (b : MBox) : Int := if mValid b then 0 else 70
/-- A quarter that is not valid. -/
def badQ (b : MBox) (k : Nat) : Bool := !inM (mAt b.sh k) 0 20 || !inM (mAt b.mo k) 0 20
theorem mValid_bad {b : MBox} (h1 : b.sh.length ≤ 5) (h2 : b.mo.length = b.sh.length) : mValid b = (List.range b.sh.length).all fun k => !badQ b k := by
  rw [Bool.eq_iff_iff, mValid_iff, List.all_eq_true]
  constructor
  · intro h k hk
    have hk := List.mem_range.1 hk
    have a := h.so _ (List.getElem_mem hk)
    have c := h.mx _ (List.getElem_mem (show k < b.mo.length by omega))
    have e1 : mAt b.sh (k : Int) = b.sh[k] := by simp [mAt, List.getElem?_eq_getElem hk]
    have e2 : mAt b.mo (k : Int) = b.mo[k] := by simp [mAt, List.getElem?_eq_getElem (show k < b.mo.length by omega)]
    unfold badQ inM
    rw [e1, e2]
    simp [a, c]
  · intro h
    refine ⟨h1, h2, fun x hx => ?_, fun x hx => ?_⟩
    · obtain ⟨k, hk, rfl⟩ := List.mem_iff_getElem.1 hx
      have := h k (List.mem_range.2 hk)
      have e1 : mAt b.sh (k : Int) = b.sh[k] := by simp [mAt, List.getElem?_eq_getElem hk]
      unfold badQ inM at this
      rw [e1] at this
      simp at this
      omega
    · obtain ⟨k, hk, rfl⟩ := List.mem_iff_getElem.1 hx
      have := h k (List.mem_range.2 (by omega))
      have e2 : mAt b.mo (k : Int) = b.mo[k] := by simp [mAt, List.getElem?_eq_getElem hk]
      unfold badQ inM at this
      rw [e2] at this
      simp at this
      omega

set_option maxRecDepth 20000 in
set_option maxHeartbeats 400000 in
theorem mWithin_any (n lo hi : Int) (w : World) :
    Calls Try.prog 57 #[I n, I lo, I hi] w fun e w' => e = .returned (.bool (inM n lo hi)) ∧ w = w' := by
  by_cases h1 : lo ≤ n
  · by_cases h2 : n ≤ hi
    · go_enter Try.func57, Try.ntmps57
      go_wp2
      go_ret
      exact ⟨by simp [inM, *] <;> omega, rfl⟩
    · go_enter Try.func57, Try.ntmps57
      go_wp2
      go_ret
      exact ⟨by simp [inM, *] <;> omega, rfl⟩
  · go_enter Try.func57, Try.ntmps57
    go_wp2
    go_ret
    exact ⟨by simp [inM, *] <;> omega, rfl⟩

set_option maxRecDepth 20000 in
set_option maxHeartbeats 400000 in
theorem mWithin1_any (n lo hi : Int) (w : World) :
    Calls Try.prog 26 #[I n, I lo, I hi] w fun e w' => e = .returned (.bool (inM n lo hi)) ∧ w = w' := by
  by_cases h1 : lo ≤ n
  · by_cases h2 : n ≤ hi
    · go_enter Try.func26, Try.ntmps26
      go_wp2
      go_ret
      exact ⟨by simp [inM, *] <;> omega, rfl⟩
    · go_enter Try.func26, Try.ntmps26
      go_wp2
      go_ret
      exact ⟨by simp [inM, *] <;> omega, rfl⟩
  · go_enter Try.func26, Try.ntmps26
    go_wp2
    go_ret
    exact ⟨by simp [inM, *] <;> omega, rfl⟩

set_option maxRecDepth 20000 in
set_option maxHeartbeats 400000 in
theorem rWithin7_any (n lo hi : Int) (w : World) :
    Calls Try.prog 28 #[I n, I lo, I hi] w fun e w' => e = .returned (.bool (inM n lo hi)) ∧ w = w' := by
  go_enter Try.func28, Try.ntmps28
  go_wp2_with fail
  refine (mWithin1_any _ _ _ _).mono ?_
  rintro e w' ⟨rfl, rfl⟩
  go_wp2_with fail
  go_ret
  exact ⟨rfl, rfl⟩

set_option maxRecDepth 20000 in
set_option maxHeartbeats 400000 in
theorem mIsFlow_any (n : Int) (w : World) :
    Calls Try.prog 37 #[I n] w fun e w' => e = .returned (.bool (inM n 0 40)) ∧ w = w' := by
  go_enter Try.func37, Try.ntmps37
  go_wp2_with fail
  refine (mWithin_any _ _ _ _).mono ?_
  rintro e w' ⟨rfl, rfl⟩
  go_wp2_with fail
  go_ret
  exact ⟨rfl, rfl⟩

set_option maxRecDepth 20000 in
set_option maxHeartbeats 400000 in
theorem rIsFlow7_any (n : Int) (w : World) :
    Calls Try.prog 34 #[I n] w fun e w' => e = .returned (.bool (inM n 0 40)) ∧ w = w' := by
  go_enter Try.func34, Try.ntmps34
  go_wp2_with fail
  refine (rWithin7_any _ _ _ _).mono ?_
  rintro e w' ⟨rfl, rfl⟩
  go_wp2_with fail
  go_ret
  exact ⟨rfl, rfl⟩

set_option maxRecDepth 20000 in
set_option maxHeartbeats 1000000 in
theorem far7_any (v : Value) (b : MBox) (w : World) (hv : MBoxAt w v b) :
    Calls Try.prog 7 #[v] w fun e w' => e = .returned (.bool (farM b)) ∧ Below w.heap.size w w' := by
  obtain ⟨sv, mv, rfl, hs, hm⟩ := hv
  obtain ⟨A1, c1, rfl, hs1, hs2, hsc⟩ := id hs.open_
  obtain ⟨A2, c2, rfl, hm1, hm2, hmc⟩ := id hm.open_
  have HS := Lib.hid hs
  have HM := Lib.hid hm
  have HSC := Lib.hid hsc
  have HMC := Lib.hid hmc
  clear hs hm hsc hmc
  have S := Lib.hid (show St w (w.alloc (.cells #[.slice A1 b.sh.length c1, .slice A2 b.mo.length c2] 27)) (w.heap.size + 1) [.box w.heap.size [.slice A1 b.sh.length c1, .slice A2 b.mo.length c2]] from (St.init w).alloc [.slice A1 b.sh.length c1, .slice A2 b.mo.length c2] 27)
  have q0 := S.out.get 0 0 rfl rfl
  have q1 := S.out.get 0 1 rfl rfl
  by_cases h1 : 40 < b.sh.length
  · have h1' : (40 : Int) < (b.sh.length : Int) := by omega
    go_enter Try.func7, Try.ntmps7
    go_wp2_with fail
    go_ret
    exact ⟨by unfold farM; rw [decide_eq_true h1']; rfl, S.out.bel⟩
  · have h1' : ¬ (40 : Int) < (b.sh.length : Int) := by omega
    go_enter Try.func7, Try.ntmps7
    go_wp2_with fail
    go_ret
    exact ⟨by unfold farM; rw [show decide ((40 : Int) < (b.sh.length : Int)) = false from decide_eq_false (by omega)]; rfl, S.out.bel⟩

end Go.Proofs.Ytldcehhhndlhdaa

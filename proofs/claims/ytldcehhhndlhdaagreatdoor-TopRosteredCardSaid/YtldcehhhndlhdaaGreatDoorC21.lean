/- Walks: the town of a roster. -/
import Derived.Test.YtldcehhhndlhdaaGreatDoorC20
import Derived.Test.YtldcehhhndlhdaaGreatDoorC12
import Derived.Test.YtldcehhhndlhdaaGreatDoorC11
namespace Go.Proofs.YtldcehhhndlhdaaGreatDoor
open Go.RowKit Go.Sort Go.Shelf

theorem spCells_snoc3 (ys : List Sp) (a b : Int) : spCells (ys ++ [⟨a, b⟩]) = spCells ys ++ [I a, I b] := by simp [spCells]
theorem one_sp (a b : Int) : ∀ u ∈ [I a, I b], u.oneCell' = true := fun u hu => by
  simp at hu
  rcases hu with rfl | rfl <;> rfl

set_option maxRecDepth 100000 in
set_option maxHeartbeats 8000000 in
theorem streets_any (v : Value) (r : Hr.Ros) (w : World) (hv : Hr.RosAt w v r) (hr : Hr.ROk r) :
    Calls Tryz.prog 7 #[v] w fun e w' => ∃ v', e = .returned v' ∧ BAt w' v' (streetsT r) ∧ Below w.heap.size w w' := by
  obtain ⟨rv, sv, rfl, hrm, hst⟩ := hv
  obtain ⟨A1, c1, rfl, -, -, -⟩ := id hrm.open_
  obtain ⟨A2, c2, rfl, -, -, hcs⟩ := hst.open_
  have hl8 := hr.rl
  have hs6 := hr.sl
  have HRM := Lib.hid hrm
  have HCS := Lib.hid hcs
  have HR := Lib.hid hr
  clear hrm hst hcs hr
  obtain ⟨i0, hi, hz0, hz1, hz2⟩ := info_parts (P := Tryz.prog) (e := 3) (z := .int .i64 0) (size := 1) (bytes := 8) (by kernel_rfl)
  obtain ⟨j0, ki, kz0, kz1, kz2⟩ := info_parts (P := Tryz.prog) (e := 47) (z := .agg #[.int .i64 0, .int .i64 0]) (size := 2) (bytes := 16) (by kernel_rfl)
  have h01 : 0 < 1 := by decide
  have h02 : 0 < 2 := by decide
  have S := Lib.hid (((St.init w).alloc [.slice A1 r.room.length c1, .slice A2 r.strs.length c2] 25).alloc [.slice none 0 0, .slice none 0 0, .slice none 0 0] 32)
  go_enter Tryz.func7, Tryz.ntmps7
  have hm0 : (0 : Nat) ≤ maxLen := by omega
  have h63 : 0 + r.room.length ≤ maxLen := by simp only [maxLen]; omega
  have hby : (0 + r.room.length) * 8 ≤ 140737488355328 := by omega
  have q0 := S.out.get 1 0 rfl rfl
  have T0 := S.out.take ((Below.refl _ _).alloc (Nat.le_refl _) _) (World.ownsRow_made (e := 3) (size := 1) _ #[] 0 (Nat.le_refl _) hm0 rfl)
  rw [S.out.size] at T0
  have T := Lib.hid T0
  clear T0
  go_wp2_with (at_builtin; refine wpList_append_St T.out 0 rfl _ _ 22 rfl 3 i0 (.int .i64 0) 1 8 Tryz.underlying22 hi hz0 hz1 hz2 rfl h01 rfl rfl _ r.room.length (r.room.map I) rfl (HRM.out.below T.out.bel) (ints_one _) h63 hby ?_; intro v5 w5 hS5; rw [Nat.zero_add, List.nil_append] at hS5; obtain ⟨AR, cR, rfl⟩ := own_shape (hS5.own 0 rfl); have S := Lib.hid hS5; clear hS5 q0 T)
  clear h63 hby
  obtain ⟨b3, hb3⟩ : ∃ b, w5.heap.size = b := ⟨_, rfl⟩
  replace S := Lib.hid (((S.out.alloc [.slice none 0 0, .slice AR r.room.length cR, .slice none 0 0] 32).nil 3 1).nil 47 2)
  rw [hb3] at S ⊢
  clear hb3
  go_loopw [4] (fun i wr => ∃ (k : Nat) (AH : Option Addr) (cH : Nat) (AY : Option Addr) (cY : Nat), k ≤ r.strs.length ∧ i = I k ∧ Hid (St w wr wr.heap.size [.own 47 2 (.slice AY (waysTo r.strs k).length cY) (waysTo r.strs k).length (spCells (waysTo r.strs k)), .own 3 1 (.slice AH k cH) k ((List.replicate k (1 : Int)).map I), .box b3 [.slice AH k cH, .slice AR r.room.length cR, .slice AY (waysTo r.strs k).length cY], .own 3 1 (.slice AR r.room.length cR) r.room.length (r.room.map I), .box (w.heap.size + 1) [.slice none 0 0, .slice none 0 0, .slice none 0 0], .box w.heap.size [.slice A1 r.room.length c1, .slice A2 r.strs.length c2]])) (fun i _ => r.strs.length - (intOf i).toNat)
  case atStart => exact ⟨0, none, 0, none, 0, by omega, rfl, Lib.hid S.out.fix⟩
  case round =>
    clear S
    obtain ⟨k, AH, cH, AY, cY, hk, rfl, S⟩ := hrel
    by_cases hlt : k < r.strs.length
    · have hki : (k : Int) < (r.strs.length : Int) := by omega
      obtain ⟨b, o, rfl, hbl, hcell⟩ := HCS.out (by omega)
      have x0 := hcell k hlt
      have HF := Lib.hid x0.2.1
      have HTO := Lib.hid x0.2.2.1
      clear hcell hbl x0
      have hsk := HR.out.strs _ (List.getElem_mem hlt)
      have hf0 := hsk.frm0
      have hft := hsk.ft
      have ht7 := hsk.to1
      have HWT := Lib.hid (waysTo_succ hlt)
      have hyl := waysTo_le (ss := r.strs) (fun s hs => by have := (HR.out.strs s hs).frm0; have := (HR.out.strs s hs).to1; unfold Hr.wide; omega) k (by omega)
      obtain ⟨s, hs⟩ : ∃ s, r.strs[k] = s := ⟨_, rfl⟩
      rw [hs] at HF HTO hf0 hft ht7 HWT
      clear hs hsk
      have h63 : k + 1 ≤ maxLen := by simp only [maxLen]; omega
      have hby : (k + 1) * 8 ≤ 140737488355328 := by omega
      have q0 := S.out.get 2 0 rfl rfl
      have q1 := S.out.get 5 1 rfl rfl
      have T := Lib.hid (S.out.alloc [I 1] 3)
      go_wp2_with (at_builtin; refine wpList_append_St T.out 2 rfl _ _ 22 rfl 3 i0 (.int .i64 0) 1 8 Tryz.underlying22 hi hz0 hz1 hz2 rfl h01 rfl rfl _ 1 [I 1] rfl (reads_box1 (T.out.get 0 0 rfl rfl)) (ints_one [1]) h63 hby ?_; intro v6 w6 hS6; obtain ⟨AH2, cH2, rfl⟩ := own_shape (hS6.own 2 rfl); have S := Lib.hid (hS6.fix.tail); clear hS6 q0 q1 T; have u1 := S.out.free 2 0 rfl; have u2 := S.out.get 2 0 rfl rfl; have S := Lib.hid (S.out.set 2 0 (.slice AH2 (k + 1) cH2) rfl); have q1 := S.out.get 5 1 rfl rfl; have x1 := keep_cell S.out.bel HF.out)
      clear q1 x1 u1 u2 h63 hby
      have hrep : (List.replicate k (1 : Int)).map I ++ [I 1] = (List.replicate (k + 1) (1 : Int)).map I := by rw [List.replicate_succ', List.map_append]; rfl
      replace S := Lib.hid (show St w (w6.setCell ⟨b3, 0, none⟩ (.slice AH2 (k + 1) cH2)) _ [.own 47 2 (.slice AY (waysTo r.strs k).length cY) (waysTo r.strs k).length (spCells (waysTo r.strs k)), .own 3 1 (.slice AH2 (k + 1) cH2) (k + 1) ((List.replicate (k + 1) (1 : Int)).map I), .box b3 [.slice AH2 (k + 1) cH2, .slice AR r.room.length cR, .slice AY (waysTo r.strs k).length cY], .own 3 1 (.slice AR r.room.length cR) r.room.length (r.room.map I), .box (w.heap.size + 1) [.slice none 0 0, .slice none 0 0, .slice none 0 0], .box w.heap.size [.slice A1 r.room.length c1, .slice (some ⟨b, o, none⟩) r.strs.length c2]] from by rw [← hrep]; exact S.out.fix)
      obtain ⟨w7, hw7⟩ : ∃ x, w6.setCell ⟨b3, 0, none⟩ (.slice AH2 (k + 1) cH2) = x := ⟨_, rfl⟩
      rw [hw7] at S ⊢
      clear hw7 hrep
      go_loopw [5] (fun u wq => ∃ (j : Nat) (AY : Option Addr) (cY : Nat), j ≤ Hr.wide s ∧ u = I (s.frm + (j : Int)) ∧ Hid (St w wq wq.heap.size [.own 47 2 (.slice AY (waysTo r.strs k ++ waysFrom s k j).length cY) (waysTo r.strs k ++ waysFrom s k j).length (spCells (waysTo r.strs k ++ waysFrom s k j)), .own 3 1 (.slice AH2 (k + 1) cH2) (k + 1) ((List.replicate (k + 1) (1 : Int)).map I), .box b3 [.slice AH2 (k + 1) cH2, .slice AR r.room.length cR, .slice AY (waysTo r.strs k ++ waysFrom s k j).length cY], .own 3 1 (.slice AR r.room.length cR) r.room.length (r.room.map I), .box (w.heap.size + 1) [.slice none 0 0, .slice none 0 0, .slice none 0 0], .box w.heap.size [.slice A1 r.room.length c1, .slice (some ⟨b, o, none⟩) r.strs.length c2]])) (fun u _ => (s.to + 1 - intOf u).toNat)
      case atStart => exact ⟨0, AY, cY, by omega, by simp, Lib.hid (by rw [waysFrom_zero, List.append_nil]; exact S.out.fix)⟩
      case round =>
        clear S
        obtain ⟨j, AY2, cY2, hj, rfl, S⟩ := hrel
        have q1 := S.out.get 5 1 rfl rfl
        have x2 := keep_cell S.out.bel HTO.out
        by_cases hjt : s.frm + (j : Int) ≤ s.to
        · have uj : IntKind.i64.wrap (s.frm + (j : Int) + 1) = s.frm + (j : Int) + 1 := IntWalk.i64_in _ (by omega)
          obtain ⟨ys, hys⟩ : ∃ l, waysTo r.strs k ++ waysFrom s k j = l := ⟨_, rfl⟩
          have hyn : ys.length ≤ 100 := by rw [← hys, List.length_append, waysFrom_len]; unfold Hr.wide at hj; omega
          have HWY := Lib.hid (show waysTo r.strs k ++ waysFrom s k (j + 1) = ys ++ [⟨(k : Int), s.frm + (j : Int)⟩] by rw [waysFrom_succ, ← List.append_assoc, hys])
          rw [hys] at S
          clear hys
          have h63 : ys.length + 1 ≤ maxLen := by simp only [maxLen]; omega
          have hby : (ys.length + 1) * 16 ≤ 140737488355328 := by omega
          have q3 := S.out.get 2 2 rfl rfl
          have T := Lib.hid (S.out.alloc [I (k : Nat), I (s.frm + (j : Int))] 47)
          go_wp2_with (at_builtin; refine wpList_append_St T.out 1 rfl _ _ 30 rfl 47 j0 (.agg #[.int .i64 0, .int .i64 0]) 2 16 Tryz.underlying30 ki kz0 kz1 kz2 rfl h02 rfl rfl _ 1 [I (k : Nat), I (s.frm + (j : Int))] rfl (T.out.boxReads 0 rfl rfl (by omega)) (one_sp _ _) h63 hby ?_; intro v8 w8 hS8; obtain ⟨AY3, cY3, rfl⟩ := own_shape (hS8.own 1 rfl); have S := Lib.hid (hS8.fix.tail); clear hS8 q1 x2 q3 T; have u1 := S.out.free 2 2 rfl; have u2 := S.out.get 2 2 rfl rfl; have S := Lib.hid (S.out.set 2 2 (.slice AY3 (ys.length + 1) cY3) rfl))
          go_roundw
          case rel => exact ⟨j + 1, AY3, cY3, by unfold Hr.wide; omega, by go_num, Lib.hid (by rw [HWY.out, spCells_snoc3, List.length_append, List.length_singleton]; exact S.out.fix)⟩
          case measure => first | (simp [intOf]; done) | (simp [intOf]; omega)
        · obtain rfl : j = Hr.wide s := by unfold Hr.wide at hj ⊢; omega
          have hjt' : s.to < s.frm + (Hr.wide s : Int) := by omega
          clear hjt
          go_wp2_with fail
          go_roundw
          case rel => exact ⟨k + 1, AH2, cH2, AY2, cY2, by omega, by go_num, Lib.hid (by rw [HWT.out]; exact S.out.fix)⟩
          case measure => first | (simp [intOf]; done) | (simp [intOf]; omega)
    · obtain rfl : k = r.strs.length := by omega
      have q1 := S.out.get 5 1 rfl rfl
      have u2 := S.out.get 2 0 rfl rfl
      have u3 := S.out.get 2 1 rfl rfl
      have u4 := S.out.get 2 2 rfl rfl
      have u5 := S.out.get 4 0 rfl rfl
      have u6 := S.out.get 4 1 rfl rfl
      have u7 := S.out.get 4 2 rfl rfl
      have u8 := S.out.free 4 0 rfl
      have u9 := S.out.free 4 1 rfl
      have ua := S.out.free 4 2 rfl
      have S3 := Lib.hid (((S.out.set 4 0 (.slice AH r.strs.length cH) rfl).set 4 1 (.slice AR r.room.length cR) rfl).set 4 2 (.slice AY (waysTo r.strs r.strs.length).length cY) rfl)
      have r0 := S3.out.get 4 0 rfl rfl
      have r1 := S3.out.get 4 1 rfl rfl
      have r2 := S3.out.get 4 2 rfl rfl
      go_wp2_with fail
      refine bodyPost_ret (v := .agg #[.slice AH r.strs.length cH, .slice AR r.room.length cR, .slice AY (waysTo r.strs r.strs.length).length cY]) (by simp [results, Tryz.results7, go_sem, r0, r1, r2]) rfl ⟨_, rfl, ⟨_, _, _, rfl, S3.out.ints 1 rfl, S3.out.ints 3 rfl, S3.out.row 0 rfl⟩, S3.out.bel⟩
end Go.Proofs.YtldcehhhndlhdaaGreatDoor
/- As Range, for a function value that is bound to a receiver: a method value. No function here; no conditions. -/
namespace Go.Proofs.YtldcehhhndlhdaaGreatDoor
open Go.RowKit

/-- What is said holds on, whatever turns at that number or above it. -/
def UpFrom {β : Type} (B : Nat) (I : β → World → Prop) : Prop :=
  ∀ s W W' row, I s W → W.grownBy W' row → (∀ r, row = some r → B ≤ r) → I s W'
theorem UpFrom.own {β : Type} {B : Nat} {I : β → World → Prop} (h : UpFrom B I) : OwnFrom B I := fun s W W' row hs hg hr => h s W W' row hs hg fun r e => (hr r e).1
/-- What an iterator keeps, told of each round what it yields; it may write what it has made itself. -/
def SeqRP {α : Type} (F : Fence) (n : Nat) (P : Program) (g : Nat) (pb lb : Array Value) (encs : α → Array Value) (Kp : World → World → Prop) (S Sp : List α → Prop) (C : (List α → World → Prop) → Prop) (R : List α → α → World → Prop) (w : World) : Prop :=
  ∀ (l : Nat) (J Jx : List α → World → Prop) (W : World), Below w.heap.size w W → UpFrom W.heap.size J → UpFrom W.heap.size Jx → C J →
    (∀ pre x W1, J pre W1 → R pre x W1 → YieldAt F (n - 1) P l (encs x) W1 fun e W' =>
      (e = .returned (.bool true) ∧ J (pre ++ [x]) W' ∧ Kp W1 W') ∨ (e = .returned (.bool false) ∧ Jx (pre ++ [x]) W')) →
    J [] W →
    CallsIn F n P g (pb ++ #[.func (.yield l) #[] #[]] ++ lb) W fun e W' => (∃ v, e = .returned v) ∧ ((∃ xs, S xs ∧ J xs W') ∨ (∃ pre, Sp pre ∧ Jx pre W'))

variable {F : Fence} {n : Nat} {P : Program}
theorem wpIn_rangeFunc_RP {α : Type} {g : Operand} {ps : Array Tmp} {assign body : Code} {Q : Exit → Act → World → Prop} {a : Act} {w : World}
    (hro : F.round = none) (h1 : 1 ≤ n) {gf : Nat} {pb lb : Array Value} (hg : a.eval g = .func (.func gf) pb lb) (hFg : F.fn gf) (eg : ∀ args w, (callFunc gf args).run P w = .ok (.enter gf args) w)
    {encs : α → Array Value} {Kp : World → World → Prop} {S Sp : List α → Prop} {C : (List α → World → Prop) → Prop} {R : List α → α → World → Prop} {w0 : World} (hseq : SeqRP F (n - 1) P gf pb lb encs Kp S Sp C R w0)
    (hKt : ∀ {A B C : World}, Kp A B → Kp B C → Kp A C) (hKb : ∀ (W : World) (l : Nat) (o o' : Obj), w.heap.size ≤ l → W.heap[l]? = some o → o.isCells = false → o.isWalk = false → Kp W (W.putObj l o')) (hb0 : Below w0.heap.size w0 w) (hps : ∀ x, (encs x).size = ps.size)
    (I : List α → World → Prop) (Ix : Code → List α → World → Prop) (hI' : UpFrom w.heap.size I) (hIx' : ∀ c, UpFrom w.heap.size (Ix c)) (hC : ∀ J : List α → World → Prop, (∀ pre W, J pre W → I pre W) → C J) (h0 : I [] w) (Ax : List α → α → Act → World → Prop) (hAx : ∀ pre x a', OwnFrom w.heap.size (fun (_ : Unit) W => Ax pre x a' W))
    (hassign : ∀ (l : Nat) (pre : List α) (x : α) (W : World) (K : Act → World → Prop), I pre W → R pre x W → (∀ a' W', KeepsFrom w.heap.size W W' → Kp W W' → I pre W' → Ax pre x a' W' → K a' W') →
      assign.wpIn (F.inRound l) (n - 1 - 1) P (Exit.then K (fun _ _ _ => False)) { tmps := (ps.zip (encs x)).foldl (fun t (p, v) => t.setIfInBounds p v) a.tmps, defers := [] } W)
    (hbody : ∀ (l : Nat) (pre : List α) (x : α) (a' : Act) (W : World), w.heap.size ≤ l → (∃ r, W.heap[l]? = some (.loop r)) → I pre W → Ax pre x a' W → body.wpIn (F.inRound l) (n - 1 - 1) P (ownPostG w.heap.size Kp I Ix (pre ++ [x]) W) a' W)
    (hdone : ∀ (D : Nat) (xs : List α) (W : World), w.heap.size ≤ D → S xs → I xs W → W.heap[D]? = some (.deferred (some [])) → Q .normal { a with defers := { target := .collected D, args := #[] } :: a.defers } W)
    (hstop : ∀ (D : Nat) (c : Code) (pre : List α) (W : World), w.heap.size ≤ D → Sp pre → Ix c pre W → W.heap[D]? = some (.deferred (some [])) → c.wpIn F n P Q { a with defers := { target := .collected D, args := #[] } :: a.defers } W) :
    (Code.rangeFunc g ps assign body).wpIn F n P Q a w := by
  have hI := hI'.own
  have hIx := fun c => (hIx' c).own
  refine wpIn_rangeFunc fun fn hfn => ?_
  rw [hro]
  obtain ⟨D, hD⟩ : ∃ D, w.heap.size = D := ⟨_, rfl⟩
  obtain ⟨rec, hrec⟩ : ∃ rec : LoopState → Option Code → Go.Loop, rec = fun st pe => { state := st, pending := pe, fn, tmps := a.tmps, params := ps, assign, body, defers := D } := ⟨_, rfl⟩
  obtain ⟨W1, hW1⟩ : ∃ W1, (w.alloc (.deferred (some []))).alloc (.loop (rec .ready none)) = W1 := ⟨_, rfl⟩
  have hsz1 : W1.heap.size = D + 2 := by rw [← hW1, ← hD]; simp
  have hL1 : W1.heap[D + 1]? = some (.loop (rec .ready none)) := by
    have := World.alloc_heap_new (w.alloc (.deferred (some []))) (.loop (rec .ready none))
    rwa [World.size_alloc, hW1, hD] at this
  have hK1 : W1.heap[D]? = some (.deferred (some [])) := by
    rw [← hW1, ← hD]
    exact (Below.heap_alloc _ _ _ (by simp)).trans (World.alloc_heap_new w _)
  have hI1 : I [] W1 := by rw [← hW1]; exact hI.alloc _ (hI.alloc _ h0)
  have hb1 : Below w0.heap.size w0 W1 := by
    rw [← hW1]
    exact hb0.trans ((((Below.refl _ w).alloc (Nat.le_refl _) _).alloc (by simp) _).mono hb0.size)
  rw [hD] at hI hIx hI' hIx' hAx hbody hassign hKb hdone hstop
  refine ⟨D + 1, [{ target := .collected D, args := #[] }], W1, { target := .fn (.func gf) lb, args := pb ++ #[.func (.yield (D + 1)) #[] #[]] }, W1, gf,
    pb ++ #[.func (.yield (D + 1)) #[] #[]] ++ lb, W1, ?_, ?_, ?_, ?_, fun _ => h1, ?_⟩
  · rw [← hW1, hrec, ← hD]; exact run_enterLoop_outer _ _ _ _ _
  · simp only [resolve, hg]
    simp [go_sem]
  · intro f' hf'; simp [Target.leads] at hf'; subst hf'; exact hFg
  · simp [invoke, go_sem, eg]
  · have hst : ∀ {A B : World} {row : Option Nat} {b : Nat} {o : Obj}, A.grownBy B row → (∀ r, row = some r → W1.heap.size ≤ r) → b < W1.heap.size → A.heap[b]? = some o → B.heap[b]? = some o :=
      fun hg hr hb ho => (hg.block _ (Array.getElem?_eq_some_iff.1 ho).1 (fun e => by have := hr _ e.symm; omega)).trans ho
    refine (hseq (D + 1)
      (fun pre W => I pre W ∧ W.heap[D + 1]? = some (.loop (rec .ready none)) ∧ W.heap[D]? = some (.deferred (some [])))
      (fun pre W => ∃ c, Ix c pre W ∧ W.heap[D + 1]? = some (.loop (rec .done (some c))) ∧ W.heap[D]? = some (.deferred (some [])))
      W1 hb1
      (fun s A B row hs hg' hr => ⟨hI' s A B row hs.1 hg' (fun r e => by have := hr r e; omega), hst hg' hr (by omega) hs.2.1, hst hg' hr (by omega) hs.2.2⟩)
      (fun s A B row hs hg' hr => by
        obtain ⟨c, hc, hl, hk⟩ := hs
        exact ⟨c, hIx' c s A B row hc hg' (fun r e => by have := hr r e; omega), hst hg' hr (by omega) hl, hst hg' hr (by omega) hk⟩)
      (hC _ fun _ _ h => h.1) ?_ ⟨hI1, hL1, hK1⟩).mono ?_
    · rintro pre x W ⟨hi, hl, hk⟩ hR
      have hy := run_yield (P := P) (args := encs x) hl (by rw [hrec]; exact hps x)
      rw [hrec] at hy
      refine ⟨fn, _, assign, body, hy, roundIn_of_wpIn hfn (hassign _ pre x W _ hi hR ?_)⟩
      clear hy hR
      intro a' V hkf hkp hi' hax
      have hl' := hkf.same _ _ (by omega) hl rfl
      have hk' := hkf.same _ _ (Nat.le_refl _) hk rfl
      refine ⟨_, run_beginRound hl' (by rw [hrec]), ?_⟩
      have hlt : D + 1 < V.heap.size := (Array.getElem?_eq_some_iff.1 hl').1
      obtain ⟨V2, hV2⟩ : ∃ V2, V.putObj (D + 1) (.loop { rec .ready none with state := .busy }) = V2 := ⟨_, rfl⟩
      have hl2 : V2.heap[D + 1]? = some (.loop { rec .ready none with state := .busy }) := by rw [← hV2]; exact World.putObj_heap_same hlt
      have hk2 : V2.heap[D]? = some (.deferred (some [])) := by rw [← hV2]; exact (World.putObj_heap_other (by omega)).trans hk'
      have hw2 : Kp V V2 := by rw [← hV2]; exact hKb _ _ _ _ (by omega) hl' rfl rfl
      have hi2 : I pre V2 := by rw [← hV2]; exact hI.putObj _ hi' (by omega) hl' rfl
      have hax2 : Ax pre x a' V2 := by rw [← hV2]; exact (hAx pre x a').putObj (s := ()) _ hax (by omega) hl' rfl
      rw [hV2]
      refine wpIn_mono (hbody _ pre x a' _ (by omega) ⟨_, hl2⟩ hi2 hax2) ?_
      have fin : ∀ (jump : Option Code) (U : World), KeepsFrom D V2 U → ∃ U', (Instr.endRound (D + 1) jump).run P U = .ok (.bool jump.isNone) U' ∧
          (∀ (T : List α → World → Prop), OwnFrom D T → ∀ ys, T ys U → T ys U') ∧ Kp U U' ∧ U'.heap[D + 1]? = some (.loop (rec (if jump.isNone then .ready else .done) jump)) ∧ U'.heap[D]? = some (.deferred (some [])) := fun jump U hk3 => by
        have hl3 := hk3.same _ _ (by omega) hl2 rfl
        have hrun := run_endRound (P := P) jump hl3
        rw [hrec] at hrun
        refine ⟨_, hrun, fun T hT ys ht => hT.putObj _ ht (by omega) hl3 rfl, hKb _ _ _ _ (by omega) hl3 rfl rfl, ?_, ?_⟩
        · rw [hrec]; exact World.putObj_heap_same (Array.getElem?_eq_some_iff.1 hl3).1
        · exact (World.putObj_heap_other (by omega)).trans (hk3.same _ _ (Nat.le_refl _) hk2 rfl)
      rintro e a3 U hp
      cases e with
      | normal =>
        obtain ⟨hk3, hkp3, hi3⟩ := hp
        obtain ⟨U', hr, hT, hkp4, hl4, hk4⟩ := fin none U hk3
        exact ⟨_, U', hr, .inl ⟨rfl, ⟨hT _ hI _ hi3, hl4, hk4⟩, hKt hkp (hKt (hKt hw2 hkp3) hkp4)⟩⟩
      | ret =>
        obtain ⟨hk3, hi3⟩ := hp
        obtain ⟨U', hr, hT, _, hl4, hk4⟩ := fin (some .ret) U hk3
        exact ⟨_, U', hr, .inr ⟨rfl, .ret, hT _ (hIx _) _ hi3, hl4, hk4⟩⟩
      | exit id =>
        obtain ⟨hk3, hi3⟩ := hp
        obtain ⟨U', hr, hT, _, hl4, hk4⟩ := fin (some (.exit id)) U hk3
        exact ⟨_, U', hr, .inr ⟨rfl, .exit id, hT _ (hIx _) _ hi3, hl4, hk4⟩⟩
      | goto t =>
        obtain ⟨hk3, hi3⟩ := hp
        obtain ⟨U', hr, hT, _, hl4, hk4⟩ := fin (some (.goto t)) U hk3
        exact ⟨_, U', hr, .inr ⟨rfl, .goto t, hT _ (hIx _) _ hi3, hl4, hk4⟩⟩
      | panic ch => exact hp.elim
      | outgrown => exact hp.elim
    · rintro e U ⟨⟨v, rfl⟩, (⟨xs, hS, hi, hl, hk⟩ | ⟨pre, hSp, c, hi, hl, hk⟩)⟩
      · have hend := run_endLoop (P := P) hl (by rw [hrec]; simp)
        rw [hrec] at hend
        exact ⟨none, _, hend, hdone _ xs _ (Nat.le_refl _) hS (hI.putObj _ hi (by omega) hl rfl) ((World.putObj_heap_other (by omega)).trans hk)⟩
      · have hend := run_endLoop (P := P) hl (by rw [hrec]; simp)
        rw [hrec] at hend
        exact ⟨some c, _, hend, hstop _ c pre _ (Nat.le_refl _) hSp ((hIx c).putObj _ hi (by omega) hl rfl) ((World.putObj_heap_other (by omega)).trans hk)⟩

/-- Below a number nothing has turned; of the cells beside these blocks neither. -/
structure KpX (B : Nat) (Ks : List Nat) (W W' : World) : Prop where
  bel : Below B W W'
  same : ∀ k o, k ∉ Ks → W.heap[k]? = some o → o.isCells = true → W'.heap[k]? = some o
theorem KpX.refl (B : Nat) (Ks : List Nat) (W : World) : KpX B Ks W W := ⟨Below.refl _ _, fun _ _ _ h _ => h⟩
theorem KpX.trans {B : Nat} {Ks : List Nat} {X Y Z : World} (h : KpX B Ks X Y) (k : KpX B Ks Y Z) : KpX B Ks X Z := ⟨h.bel.trans k.bel, fun i o hi ho hc => k.same i o hi (h.same i o hi ho hc) hc⟩
theorem KpX.putObj {B n : Nat} {Ks : List Nat} (hB : B ≤ n) (W : World) (l : Nat) : ∀ (o o' : Obj), n ≤ l → W.heap[l]? = some o → o.isCells = false → o.isWalk = false → KpX B Ks W (W.putObj l o') := fun o o' hl ho hc _ => by
  have hg := grownBy_putObj' W l o'
  refine ⟨⟨hg.os, hg.tape, hg.output, hg.size, fun k hk => hg.block k (by have := (Array.getElem?_eq_some_iff.1 ho).1; omega) (fun e => by injection e with e; omega)⟩, fun k o2 _ hk hc2 => ?_⟩
  by_cases e : k = l
  · subst e
    rw [ho] at hk
    injection hk with hk
    rw [hk, hc2] at hc
    cases hc
  · exact (World.putObj_heap_other e).trans hk
theorem KpX.below {B : Nat} {Ks : List Nat} {W W' : World} (h : Below W.heap.size W W') (hB : B ≤ W.heap.size) : KpX B Ks W W' :=
  ⟨h.mono hB, fun k _ _ hk _ => (h.block k (Array.getElem?_eq_some_iff.1 hk).1).trans hk⟩
theorem KpX.grown {B : Nat} {Ks : List Nat} {W W' : World} {row : Option Nat} (h : W.grownBy W' row) (hB : B ≤ W.heap.size) (hr : ∀ k, row = some k → B ≤ k ∧ k ∈ Ks) : KpX B Ks W W' :=
  ⟨⟨h.os, h.tape, h.output, h.size, fun k hk => h.block k (by omega) (fun e => by have := (hr k e.symm).1; omega)⟩, fun k _ hk ho _ => (h.block k (Array.getElem?_eq_some_iff.1 ho).1 (fun e => hk (hr k e.symm).2)).trans ho⟩
/-- What a call owns, behind something that keeps its things. -/
theorem St.kpX {w0 w w' : World} {n : Nat} {L : List Item} {Ks : List Nat} (h : St w0 w n L) (hk : KpX w0.heap.size Ks w w') (hL : ∀ x ∈ L, x.cel) (hn : ∀ x ∈ L, ∀ b, x.blk = some b → b ∉ Ks) : St w0 w' w'.heap.size L := by
  refine ⟨rfl, h.bel.trans hk.bel, fun x hx => ?_, h.apart⟩
  have hok := h.ok x hx
  refine hok.same fun b hb => ?_
  obtain ⟨o, ho⟩ : ∃ o, w.heap[b]? = some o := ⟨_, Array.getElem?_eq_getElem (hok.lt hb).2⟩
  rw [ho]
  exact hk.same b o (hn x hx b hb) ho (hok.cells (hL x hx) hb ho)
/-- Such a thing may be said where all its blocks lie below. -/
theorem St.up {w0 w w' : World} {n B : Nat} {L : List Item} (h : St w0 w n L) {row : Option Nat} (hg : w.grownBy w' row) (hr : ∀ r, row = some r → B ≤ r) (hB : w0.heap.size ≤ B) (hL : ∀ x ∈ L, ∀ b, x.blk = some b → b < B) : St w0 w' w'.heap.size L := by
  refine ⟨rfl, h.bel.trans ⟨hg.os, hg.tape, hg.output, hg.size, fun k hk => hg.block k (by have := h.bel.size; omega) (fun e => by have := hr k e.symm; omega)⟩, fun x hx => ?_, h.apart⟩
  have hok := h.ok x hx
  exact hok.same fun b hb => hg.block b (hok.lt hb).2 (fun e => by have := hr b e.symm; have := hL x hx b hb; omega)
end Go.Proofs.YtldcehhhndlhdaaGreatDoor

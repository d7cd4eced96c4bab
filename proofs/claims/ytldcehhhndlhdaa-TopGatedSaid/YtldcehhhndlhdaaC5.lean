/- Walk of the gate's next. -/
import Derived.Test.YtldcehhhndlhdaaC4
import Derived.RangeFuncNested
import Derived.RangeFuncBound
import Derived.RangeFuncCalls
import Derived.RangeFuncLeaves
import Derived.Test.YtldcehhhndlhdaaRows
namespace Go.Proofs.Ytldcehhhndlhdaa
open Go.RowKit Go.Sort

set_option maxRecDepth 20000 in
set_option maxHeartbeats 4000000 in
theorem gateNext_any (g : Nat) (A1 A2 : Option Addr) (c1 c2 : Nat) (b : MBox) (has : List Int) (w : World) (hsh : Ints w (.slice A1 b.sh.length c1) b.sh) (hmo : Ints w (.slice A2 b.mo.length c2) b.mo) (hok : MOk b) (hl : has.length = 5) (hbd : ∀ x ∈ has, 0 ≤ x ∧ x ≤ 20) (hg : ∀ i u, ([.slice A1 b.sh.length c1, .slice A2 b.mo.length c2] ++ has.map I)[i]? = some u → w.cell? ⟨g, i, none⟩ = some u) :
    Calls Try.prog 78 #[.pointer (some ⟨g, 0, none⟩)] w fun e w' => e = .returned (I (nextM b has)) ∧ Below w.heap.size w w' := by
  have hc0 := hg 0 _ rfl
  have hc1 := hg 1 _ rfl
  have HG := Lib.hid hg
  have HBD := Lib.hid hbd
  have HOK := Lib.hid hok
  obtain ⟨_, _, e, _, _, hsc⟩ := hsh.open_
  injection e with e1 e2 e3
  subst e1
  have HSC := Lib.hid hsc
  clear e2 e3
  obtain ⟨_, _, e, _, _, hmc⟩ := hmo.open_
  injection e with e1 e2 e3
  subst e1
  have HMC := Lib.hid hmc
  clear e2 e3 hsc hmc
  have hl5 := hok.sl
  have hml := hok.ml
  have HC0 := Lib.hid hc0
  have HC1 := Lib.hid hc1
  clear hg hbd hok hsh hmo hc1
  have HML := Lib.hid hml
  clear hml
  go_enter Try.func78, Try.ntmps78
  go_wp2_with fail
  clear hc0
  go_loopw [3, 12] (fun u i wr => ∃ k : Nat, k ≤ b.sh.length ∧ u = I (nextTo b has k) ∧ i = I k ∧ Hid (Below w.heap.size w wr)) (fun _ i _ => b.sh.length - (intOf i).toNat)
  case atStart => exact ⟨0, by omega, rfl, rfl, Lib.hid (Below.refl _ _)⟩
  case round =>
    obtain ⟨k, hk, rfl, rfl, HB⟩ := hrel
    by_cases hlt : k < b.sh.length
    · have hki : (k : Int) < (b.sh.length : Int) := by omega
      obtain ⟨b1, o1, e, hb1, hcl1⟩ := HSC.out (by omega)
      subst e
      have hkm : k < b.mo.length := by have := HML.out; omega
      have hkmi : (k : Int) < (b.mo.length : Int) := by omega
      obtain ⟨b2, o2, e, hb2, hcl2⟩ := HMC.out (by omega)
      subst e
      have hk5 : k < has.length := by omega
      have hk5i : (k : Int) < 5 := by omega
      have y0 := hcl1 k hlt
      have y1 := hcl2 k hkm
      have y2 := HG.out (2 + k) (I has[k]) (by rw [List.getElem?_append_right (by simp)]; simp [List.getElem?_eq_getElem hk5])
      have hs0 := HOK.out.so _ (List.getElem_mem hlt)
      have hm0 := HOK.out.mx _ (List.getElem_mem hkm)
      have hh0 := HBD.out _ (List.getElem_mem hk5)
      have es : mAt b.sh (k : Int) = b.sh[k] := by simp [mAt, List.getElem?_eq_getElem hlt]
      have em : mAt b.mo (k : Int) = b.mo[k] := by simp [mAt, List.getElem?_eq_getElem hkm]
      have eh : mAt has (k : Int) = has[k] := by simp [mAt, List.getElem?_eq_getElem hk5]
      have hnx : nextTo b has (k + 1) = if mAt b.sh k = 0 ∨ mAt b.mo k ≤ mAt has k then nextTo b has k else if nextTo b has k < 0 ∨ mAt b.sh (nextTo b has k) * (2 * mAt has k + 1) < mAt b.sh k * (2 * mAt has (nextTo b has k) + 1) then (k : Int) else nextTo b has k := rfl
      rw [es, em, eh] at hnx
      have hnb := nextTo_bd b has k
      obtain ⟨s, hs⟩ : ∃ x, b.sh[k] = x := ⟨_, rfl⟩
      obtain ⟨m, hm⟩ : ∃ x, b.mo[k] = x := ⟨_, rfl⟩
      obtain ⟨h, hh⟩ : ∃ x, has[k] = x := ⟨_, rfl⟩
      rw [hs] at y0 hs0 hnx
      rw [hm] at y1 hm0 hnx
      rw [hh] at y2 hh0 hnx
      obtain ⟨nb, hnbe⟩ : ∃ x, nextTo b has k = x := ⟨_, rfl⟩
      rw [hnbe] at hnx hnb
      rw [hnbe]
      have Y1 := Lib.hid y1
      have Y2 := Lib.hid y2
      have HCL1 := Lib.hid hcl1
      have HNX := Lib.hid hnx
      clear hcl1 hcl2 y1 y2 es em eh hs hm hh hnx hb1 hb2 hnbe
      have y0 := keep_cell HB.out y0
      by_cases hz : s = 0
      · have hzq : (s == 0) = true := by simp [hz]
        have HN := Lib.hid (HNX.out.trans (if_pos (.inl hz)))
        clear hz
        go_wp2_with fail
        clear y0
        refine wp_region_quiet_below (by kernel_rfl) (by kernel_rfl) ?_
        repeat (first | go_big_quiet_step (fail) | quiet_step (fail))
        refine wpQuiet_nil ?_
        rintro w1 ⟨p1, hp1⟩
        have HB := Lib.hid (show Below w.heap.size w w1 from (by rw [hp1]; exact bto HB.out (below_regrown _ _ _)))
        clear hp1
        go_wp2_with fail
        try go_frame
        go_roundw
        case rel => exact ⟨k + 1, by omega, by rw [HN.out], by go_num, HB⟩
        case measure => first | (simp [intOf]; done) | (simp [intOf]; omega)
      · have hzq : (s == 0) = false := by simp [hz]
        have HZ := Lib.hid hz
        clear hz
        by_cases hmh : m ≤ h
        · have HN := Lib.hid (HNX.out.trans (if_pos (.inr hmh)))
          go_wp2_with fail
          clear y0
          have c1' := cell_regrown (keep_cell HB.out HC1.out)
          have y1 := cell_regrown (keep_cell HB.out Y1.out)
          have y2 := cell_regrown (keep_cell HB.out Y2.out)
          refine wp_region_quiet_below (by kernel_rfl) (by kernel_rfl) ?_
          repeat (first | go_big_quiet_step (fail) | quiet_step (fail))
          refine wpQuiet_nil ?_
          rintro w1 ⟨p1, hp1⟩
          have HB := Lib.hid (show Below w.heap.size w w1 from (by rw [hp1]; exact bto HB.out (below_regrown _ _ _)))
          clear hp1 c1' y1 y2
          go_wp2_with fail
          try go_frame
          go_roundw
          case rel => exact ⟨k + 1, by omega, by rw [HN.out], by go_num, HB⟩
          case measure => first | (simp [intOf]; done) | (simp [intOf]; omega)
        · have HMH := Lib.hid hmh
          have hmhx : h < m := by omega
          have HN0 := Lib.hid (HNX.out.trans (if_neg (fun e => by rcases e with e | e; exact HZ.out e; exact HMH.out e)))
          clear hmh
          go_wp2_with fail
          clear y0
          have hmh3 : ¬ m ≤ h := by omega
          have c1' := cell_regrown (keep_cell HB.out HC1.out)
          have y1 := cell_regrown (keep_cell HB.out Y1.out)
          have y2 := cell_regrown (keep_cell HB.out Y2.out)
          refine wp_region_quiet_below (by kernel_rfl) (by kernel_rfl) ?_
          repeat (first | go_big_quiet_step (fail) | quiet_step (fail))
          refine wpQuiet_nil ?_
          rintro w1 ⟨p1, hp1⟩
          have HB := Lib.hid (show Below w.heap.size w w1 from (by rw [hp1]; exact bto HB.out (below_regrown _ _ _)))
          clear hp1 c1' y1 y2 hmh3
          go_wp2_with fail
          by_cases hn0 : nb < 0
          · have HN := Lib.hid (HN0.out.trans (if_pos (.inl hn0)))
            refine wp_region_quiet_below (by kernel_rfl) (by kernel_rfl) ?_
            repeat (first | go_big_quiet_step (fail) | quiet_step (fail))
            refine wpQuiet_nil ?_
            rintro w2 ⟨p2, hp2⟩
            have HB := Lib.hid (show Below w.heap.size w w2 from (by rw [hp2]; exact bto HB.out (below_regrown _ _ _)))
            clear hp2
            go_wp2_with fail
            try go_frame
            go_roundw
            case rel => exact ⟨k + 1, by omega, by rw [HN.out], by go_num, HB⟩
            case measure => first | (simp [intOf]; done) | (simp [intOf]; omega)
          · have HN0' := Lib.hid hn0
            obtain ⟨q, rfl⟩ := Int.eq_ofNat_of_zero_le (show 0 ≤ nb by omega)
            have hq1 : q < b.sh.length := by omega
            have hq1i : (q : Int) < (b.sh.length : Int) := by omega
            have hq5 : q < has.length := by omega
            have hq5i : (q : Int) < 5 := by omega
            have y3 := HCL1.out q hq1
            have y4 := HG.out (2 + q) (I has[q]) (by rw [List.getElem?_append_right (by simp)]; simp [List.getElem?_eq_getElem hq5])
            have hs1 := HOK.out.so _ (List.getElem_mem hq1)
            have hh1 := HBD.out _ (List.getElem_mem hq5)
            have es : mAt b.sh (q : Int) = b.sh[q] := by simp [mAt, List.getElem?_eq_getElem hq1]
            have eh : mAt has (q : Int) = has[q] := by simp [mAt, List.getElem?_eq_getElem hq5]
            have HN1 := HN0.out
            rw [es, eh] at HN1
            obtain ⟨sq, hsq⟩ : ∃ x, b.sh[q] = x := ⟨_, rfl⟩
            obtain ⟨hq, hhq⟩ : ∃ x, has[q] = x := ⟨_, rfl⟩
            rw [hsq] at y3 hs1 HN1
            rw [hhq] at y4 hh1 HN1
            have HN2 := Lib.hid HN1
            have Y3 := Lib.hid y3
            have Y4 := Lib.hid y4
            have m1 := Int.mul_le_mul hs0.2 (show 2 * hq + 1 ≤ 41 by omega) (by omega) (by omega)
            have m2 := Int.mul_le_mul hs1.2 (show 2 * h + 1 ≤ 41 by omega) (by omega) (by omega)
            have m3 := Int.mul_nonneg hs0.1 (show 0 ≤ 2 * hq + 1 by omega)
            have m4 := Int.mul_nonneg hs1.1 (show 0 ≤ 2 * h + 1 by omega)
            have w1 : IntKind.i64.wrap (2 * hq) = 2 * hq := IntWalk.i64_in _ (by omega)
            have w2 : IntKind.i64.wrap (2 * hq + 1) = 2 * hq + 1 := IntWalk.i64_in _ (by omega)
            have w3 : IntKind.i64.wrap (s * (2 * hq + 1)) = s * (2 * hq + 1) := IntWalk.i64_in _ (by omega)
            have w4 : IntKind.i64.wrap (2 * h) = 2 * h := IntWalk.i64_in _ (by omega)
            have w5 : IntKind.i64.wrap (2 * h + 1) = 2 * h + 1 := IntWalk.i64_in _ (by omega)
            have w6 : IntKind.i64.wrap (sq * (2 * h + 1)) = sq * (2 * h + 1) := IntWalk.i64_in _ (by omega)
            have hqn : ¬ (q : Int) < 0 := by omega
            clear y3 y4 es eh HN1 hsq hhq m1 m2 m3 m4 hn0
            have c0' := cell_regrown (keep_cell HB.out HC0.out)
            have y3 := cell_regrown (keep_cell HB.out Y3.out)
            have y4 := cell_regrown (keep_cell HB.out Y4.out)
            have y2 := cell_regrown (keep_cell HB.out Y2.out)
            refine wp_region_quiet_below (by kernel_rfl) (by kernel_rfl) ?_
            repeat (first | go_big_quiet_step (fail) | quiet_step (fail))
            refine wpQuiet_nil ?_
            rintro w2 ⟨p2, hp2⟩
            have HB := Lib.hid (show Below w.heap.size w w2 from (by rw [hp2]; exact bto HB.out (below_regrown _ _ _)))
            clear hp2 c0' y3 y4 y2
            by_cases hgt : sq * (2 * h + 1) < s * (2 * hq + 1)
            · have HN := Lib.hid (HN2.out.trans (if_pos (.inr hgt)))
              go_wp2_with fail
              try go_frame
              go_roundw
              case rel => exact ⟨k + 1, by omega, by rw [HN.out], by go_num, HB⟩
              case measure => first | (simp [intOf]; done) | (simp [intOf]; omega)
            · have HN := Lib.hid (HN2.out.trans (if_neg (fun e => by rcases e with e | e; exact HN0'.out e; exact hgt e)))
              go_wp2_with fail
              try go_frame
              go_roundw
              case rel => exact ⟨k + 1, by omega, by rw [HN.out], by go_num, HB⟩
              case measure => first | (simp [intOf]; done) | (simp [intOf]; omega)
    · obtain rfl : k = b.sh.length := by omega
      go_wp2_with fail
      go_ret
      exact ⟨rfl, HB.out⟩

end Go.Proofs.Ytldcehhhndlhdaa
/- A range over a function whose iterator tells of each thing that it yields what is so in the world in which it yields it (R), and that may ask of the caller's invariant what it needs (C). No function here; no conditions. -/
namespace Go.Proofs.Ytldcehhhndlhdaa
open Go.RowKit

/-- What an iterator keeps, told of each round what it yields. -/
def SeqR {α : Type} (F : Fence) (n : Nat) (P : Program) (g : Nat) (lb : Array Value) (encs : α → Array Value) (Kp : World → World → Prop) (S Sp : List α → Prop) (C : (List α → World → Prop) → Prop) (R : List α → α → World → Prop) (w : World) : Prop :=
  ∀ (l : Nat) (J Jx : List α → World → Prop) (W : World), Below w.heap.size w W → AbidesFrom W.heap.size J → AbidesFrom W.heap.size Jx → C J →
    (∀ pre x W1, J pre W1 → R pre x W1 → YieldAt F (n - 1) P l (encs x) W1 fun e W' =>
      (e = .returned (.bool true) ∧ J (pre ++ [x]) W' ∧ Kp W1 W') ∨ (e = .returned (.bool false) ∧ Jx (pre ++ [x]) W')) →
    J [] W →
    CallsIn F n P g (#[.func (.yield l) #[] #[]] ++ lb) W fun e W' => (∃ v, e = .returned v) ∧ ((∃ xs, S xs ∧ J xs W') ∨ (∃ pre, Sp pre ∧ Jx pre W'))

variable {F : Fence} {n : Nat} {P : Program}
theorem wpIn_rangeFunc_R {α : Type} {g : Operand} {ps : Array Tmp} {assign body : Code} {Q : Exit → Act → World → Prop} {a : Act} {w : World}
    (hro : F.round = none) (h1 : 1 ≤ n) {gf : Nat} {lb : Array Value} (hg : a.eval g = .func (.func gf) #[] lb) (hFg : F.fn gf) (eg : ∀ args w, (callFunc gf args).run P w = .ok (.enter gf args) w)
    {encs : α → Array Value} {Kp : World → World → Prop} {S Sp : List α → Prop} {C : (List α → World → Prop) → Prop} {R : List α → α → World → Prop} {w0 : World} (hseq : SeqR F (n - 1) P gf lb encs Kp S Sp C R w0)
    (hKt : ∀ {A B C : World}, Kp A B → Kp B C → Kp A C) (hKb : ∀ (W : World) (l : Nat) (o o' : Obj), w.heap.size ≤ l → W.heap[l]? = some o → o.isCells = false → o.isWalk = false → Kp W (W.putObj l o')) (hb0 : Below w0.heap.size w0 w) (hps : ∀ x, (encs x).size = ps.size)
    (I : List α → World → Prop) (Ix : Code → List α → World → Prop) (hI : OwnFrom w.heap.size I) (hIx : ∀ c, OwnFrom w.heap.size (Ix c)) (hC : ∀ J : List α → World → Prop, (∀ pre W, J pre W → I pre W) → C J) (h0 : I [] w) (Ax : List α → α → Act → World → Prop) (hAx : ∀ pre x a', OwnFrom w.heap.size (fun (_ : Unit) W => Ax pre x a' W))
    (hassign : ∀ (l : Nat) (pre : List α) (x : α) (W : World) (K : Act → World → Prop), I pre W → R pre x W → (∀ a' W', KeepsFrom w.heap.size W W' → Kp W W' → I pre W' → Ax pre x a' W' → K a' W') →
      assign.wpIn (F.inRound l) (n - 1 - 1) P (Exit.then K (fun _ _ _ => False)) { tmps := (ps.zip (encs x)).foldl (fun t (p, v) => t.setIfInBounds p v) a.tmps, defers := [] } W)
    (hbody : ∀ (l : Nat) (pre : List α) (x : α) (a' : Act) (W : World), w.heap.size ≤ l → (∃ r, W.heap[l]? = some (.loop r)) → I pre W → Ax pre x a' W → body.wpIn (F.inRound l) (n - 1 - 1) P (ownPostG w.heap.size Kp I Ix (pre ++ [x]) W) a' W)
    (hdone : ∀ (D : Nat) (xs : List α) (W : World), w.heap.size ≤ D → S xs → I xs W → W.heap[D]? = some (.deferred (some [])) → Q .normal { a with defers := { target := .collected D, args := #[] } :: a.defers } W)
    (hstop : ∀ (D : Nat) (c : Code) (pre : List α) (W : World), w.heap.size ≤ D → Sp pre → Ix c pre W → W.heap[D]? = some (.deferred (some [])) → c.wpIn F n P Q { a with defers := { target := .collected D, args := #[] } :: a.defers } W) :
    (Code.rangeFunc g ps assign body).wpIn F n P Q a w := by
  refine wpIn_rangeFunc fun fn hfn => ?_
  rw [hro]
  obtain ⟨D, hD⟩ : ∃ D, w.heap.size = D := ⟨_, rfl⟩
  obtain ⟨rec, hrec⟩ : ∃ rec : LoopState → Option Code → Loop, rec = fun st pe => { state := st, pending := pe, fn, tmps := a.tmps, params := ps, assign, body, defers := D } := ⟨_, rfl⟩
  obtain ⟨W1, hW1⟩ : ∃ W1, (w.alloc (.deferred (some []))).alloc (.loop (rec .ready none)) = W1 := ⟨_, rfl⟩
  have hsz1 : W1.heap.size = D + 2 := by rw [← hW1, ← hD]; simp
  have hL1 : W1.heap[D + 1]? = some (.loop (rec .ready none)) := by
    have := World.alloc_heap_new (w.alloc (.deferred (some []))) (.loop (rec .ready none))
    rwa [World.size_alloc, hW1, hD] at this
  have hK1 : W1.heap[D]? = some (.deferred (some [])) := by
    rw [← hW1, ← hD]
    exact (Below.heap_alloc _ _ _ (by simp)).trans (World.alloc_heap_new w _)
  have hI1 : I [] W1 := by rw [← hW1]; exact hI.alloc _ (hI.alloc _ h0)
  have hb1 : Below w0.heap.size w0 W1 := by
    rw [← hW1]
    exact hb0.trans ((((Below.refl _ w).alloc (Nat.le_refl _) _).alloc (by simp) _).mono hb0.size)
  rw [hD] at hI hIx hAx hbody hassign hKb hdone hstop
  refine ⟨D + 1, [{ target := .collected D, args := #[] }], W1, { target := .fn (.func gf) lb, args := #[.func (.yield (D + 1)) #[] #[]] }, W1, gf,
    #[.func (.yield (D + 1)) #[] #[]] ++ lb, W1, ?_, ?_, ?_, ?_, fun _ => h1, ?_⟩
  · rw [← hW1, hrec, ← hD]; exact run_enterLoop_outer _ _ _ _ _
  · simp only [resolve, hg]
    simp [go_sem]
  · intro f' hf'; simp [Target.leads] at hf'; subst hf'; exact hFg
  · simp [invoke, go_sem, eg]
  · have hab : ∀ {A : World} {row : Option Nat}, (∀ r, row = some r → W1.heap.size ≤ r ∧ ∃ o : Obj, A.heap[r]? = some o ∧ o.isWalk = true) → (∀ r, row = some r → D ≤ r ∧ ∃ o : Obj, A.heap[r]? = some o ∧ o.isCells = false) :=
      fun hr r e => by
        obtain ⟨hB, o, ho, hw⟩ := hr r e
        exact ⟨by omega, o, ho, Obj.not_cells_of_walk hw⟩
    refine (hseq (D + 1)
      (fun pre W => I pre W ∧ W.heap[D + 1]? = some (.loop (rec .ready none)) ∧ W.heap[D]? = some (.deferred (some [])))
      (fun pre W => ∃ c, Ix c pre W ∧ W.heap[D + 1]? = some (.loop (rec .done (some c))) ∧ W.heap[D]? = some (.deferred (some [])))
      W1 hb1
      (fun s A B row hs hg' hr => ⟨hI s A B row hs.1 hg' (hab hr), (grownBy_keeps hg' (fun r e => (hr r e).2) hs.2.1 rfl).trans hs.2.1, (grownBy_keeps hg' (fun r e => (hr r e).2) hs.2.2 rfl).trans hs.2.2⟩)
      (fun s A B row hs hg' hr => by
        obtain ⟨c, hc, hl, hk⟩ := hs
        exact ⟨c, hIx c s A B row hc hg' (hab hr), (grownBy_keeps hg' (fun r e => (hr r e).2) hl rfl).trans hl, (grownBy_keeps hg' (fun r e => (hr r e).2) hk rfl).trans hk⟩)
      (hC _ fun _ _ h => h.1) ?_ ⟨hI1, hL1, hK1⟩).mono ?_
    · rintro pre x W ⟨hi, hl, hk⟩ hR
      have hy := run_yield (P := P) (args := encs x) hl (by rw [hrec]; exact hps x)
      rw [hrec] at hy
      refine ⟨fn, _, assign, body, hy, roundIn_of_wpIn hfn (hassign _ pre x W _ hi hR ?_)⟩
      clear hy hR
      intro a' V hkf hkp hi' hax
      have hl' := hkf.same _ _ (by omega) hl rfl
      have hk' := hkf.same _ _ (Nat.le_refl _) hk rfl
      refine ⟨_, run_beginRound hl' (by rw [hrec]), ?_⟩
      have hlt : D + 1 < V.heap.size := (Array.getElem?_eq_some_iff.1 hl').1
      obtain ⟨V2, hV2⟩ : ∃ V2, V.putObj (D + 1) (.loop { rec .ready none with state := .busy }) = V2 := ⟨_, rfl⟩
      have hl2 : V2.heap[D + 1]? = some (.loop { rec .ready none with state := .busy }) := by rw [← hV2]; exact World.putObj_heap_same hlt
      have hk2 : V2.heap[D]? = some (.deferred (some [])) := by rw [← hV2]; exact (World.putObj_heap_other (by omega)).trans hk'
      have hw2 : Kp V V2 := by rw [← hV2]; exact hKb _ _ _ _ (by omega) hl' rfl rfl
      have hi2 : I pre V2 := by rw [← hV2]; exact hI.putObj _ hi' (by omega) hl' rfl
      have hax2 : Ax pre x a' V2 := by rw [← hV2]; exact (hAx pre x a').putObj (s := ()) _ hax (by omega) hl' rfl
      rw [hV2]
      refine wpIn_mono (hbody _ pre x a' _ (by omega) ⟨_, hl2⟩ hi2 hax2) ?_
      have fin : ∀ (jump : Option Code) (U : World), KeepsFrom D V2 U → ∃ U', (Instr.endRound (D + 1) jump).run P U = .ok (.bool jump.isNone) U' ∧
          (∀ (T : List α → World → Prop), OwnFrom D T → ∀ ys, T ys U → T ys U') ∧ Kp U U' ∧ U'.heap[D + 1]? = some (.loop (rec (if jump.isNone then .ready else .done) jump)) ∧ U'.heap[D]? = some (.deferred (some [])) := fun jump U hk3 => by
        have hl3 := hk3.same _ _ (by omega) hl2 rfl
        have hrun := run_endRound (P := P) jump hl3
        rw [hrec] at hrun
        refine ⟨_, hrun, fun T hT ys ht => hT.putObj _ ht (by omega) hl3 rfl, hKb _ _ _ _ (by omega) hl3 rfl rfl, ?_, ?_⟩
        · rw [hrec]; exact World.putObj_heap_same (Array.getElem?_eq_some_iff.1 hl3).1
        · exact (World.putObj_heap_other (by omega)).trans (hk3.same _ _ (Nat.le_refl _) hk2 rfl)
      rintro e a3 U hp
      cases e with
      | normal =>
        obtain ⟨hk3, hkp3, hi3⟩ := hp
        obtain ⟨U', hr, hT, hkp4, hl4, hk4⟩ := fin none U hk3
        exact ⟨_, U', hr, .inl ⟨rfl, ⟨hT _ hI _ hi3, hl4, hk4⟩, hKt hkp (hKt (hKt hw2 hkp3) hkp4)⟩⟩
      | ret =>
        obtain ⟨hk3, hi3⟩ := hp
        obtain ⟨U', hr, hT, _, hl4, hk4⟩ := fin (some .ret) U hk3
        exact ⟨_, U', hr, .inr ⟨rfl, .ret, hT _ (hIx _) _ hi3, hl4, hk4⟩⟩
      | exit id =>
        obtain ⟨hk3, hi3⟩ := hp
        obtain ⟨U', hr, hT, _, hl4, hk4⟩ := fin (some (.exit id)) U hk3
        exact ⟨_, U', hr, .inr ⟨rfl, .exit id, hT _ (hIx _) _ hi3, hl4, hk4⟩⟩
      | goto t =>
        obtain ⟨hk3, hi3⟩ := hp
        obtain ⟨U', hr, hT, _, hl4, hk4⟩ := fin (some (.goto t)) U hk3
        exact ⟨_, U', hr, .inr ⟨rfl, .goto t, hT _ (hIx _) _ hi3, hl4, hk4⟩⟩
      | panic ch => exact hp.elim
      | outgrown => exact hp.elim
    · rintro e U ⟨⟨v, rfl⟩, (⟨xs, hS, hi, hl, hk⟩ | ⟨pre, hSp, c, hi, hl, hk⟩)⟩
      · have hend := run_endLoop (P := P) hl (by rw [hrec]; simp)
        rw [hrec] at hend
        exact ⟨none, _, hend, hdone _ xs _ (Nat.le_refl _) hS (hI.putObj _ hi (by omega) hl rfl) ((World.putObj_heap_other (by omega)).trans hk)⟩
      · have hend := run_endLoop (P := P) hl (by rw [hrec]; simp)
        rw [hrec] at hend
        exact ⟨some c, _, hend, hstop _ c pre _ (Nat.le_refl _) hSp ((hIx c).putObj _ hi (by omega) hl rfl) ((World.putObj_heap_other (by omega)).trans hk)⟩
end Go.Proofs.Ytldcehhhndlhdaa
/- What a call owns while a range over a function of its own runs. No function here; no conditions. -/
namespace Go.Proofs.Ytldcehhhndlhdaa
open Go.RowKit Go.Sort

/-- These blocks lie as they lay. -/
structure KpK (Ks : List Nat) (W W' : World) : Prop where
  size : W.heap.size ≤ W'.heap.size
  same : ∀ k ∈ Ks, W'.heap[k]? = W.heap[k]?
theorem KpK.refl (Ks : List Nat) (W : World) : KpK Ks W W := ⟨Nat.le_refl _, fun _ _ => rfl⟩
theorem KpK.trans {Ks : List Nat} {A B C : World} (h : KpK Ks A B) (k : KpK Ks B C) : KpK Ks A C := ⟨Nat.le_trans h.size k.size, fun i hi => (k.same i hi).trans (h.same i hi)⟩
theorem KpK.putObj {Ks : List Nat} {n : Nat} (hK : ∀ k ∈ Ks, k < n) (W : World) (l : Nat) : ∀ (o o' : Obj), n ≤ l → W.heap[l]? = some o → o.isCells = false → o.isWalk = false → KpK Ks W (W.putObj l o') := fun _ _ hl _ _ _ =>
  ⟨by simp, fun k hk => World.putObj_heap_other (by have := hK k hk; omega)⟩
theorem KpK.below {Ks : List Nat} {W W' : World} (h : Below W.heap.size W W') (hK : ∀ k ∈ Ks, k < W.heap.size) : KpK Ks W W' := ⟨h.size, fun k hk => h.block k (hK k hk)⟩
theorem KpK.grown {Ks : List Nat} {W W' : World} {row : Option Nat} (h : W.grownBy W' row) (hK : ∀ k ∈ Ks, k < W.heap.size) (hr : ∀ k ∈ Ks, row ≠ some k) : KpK Ks W W' := ⟨h.size, fun k hk => h.block k (hK k hk) (fun e => hr k hk e.symm)⟩
theorem KpK.setCell {Ks : List Nat} {W : World} {a : Addr} {v : Value} (hK : ∀ k ∈ Ks, k ≠ a.block) : KpK Ks W (W.setCell a v) := ⟨by simp [World.setCell], fun k hk => Below.heap_setCell _ _ _ k (hK k hk)⟩
theorem ko_below {W W' : World} (h : Below W.heap.size W W') : KeepsOthers W W' := ⟨h.size, fun k _ hk _ => (h.block k (Array.getElem?_eq_some_iff.1 hk).1).trans hk⟩

/-- A thing of the call's own that is cells. -/
def Item.cel : Item → Prop
  | .any _ p => ∀ o, p o → o.isCells = true
  | _ => True
theorem Item.ok.cells {base : Nat} {w : World} {x : Item} (h : x.ok base w) (hc : x.cel) {b : Nat} (hb : x.blk = some b) {o : Obj} (ho : w.heap[b]? = some o) : o.isCells = true := by
  cases x with
  | box b' cs =>
    obtain ⟨_, T, h2⟩ := h
    injection hb with hb
    subst hb
    rw [ho] at h2
    cases h2
    rfl
  | own e size v m xs =>
    rcases h.2 with ⟨rfl, _⟩ | ⟨g, cap, cur, rfl, _, hh, _⟩
    · cases hb
    · cases hb
      rw [ho] at hh
      cases hh
      rfl
  | any b' p =>
    obtain ⟨_, o', h2, h3⟩ := h
    injection hb with hb
    subst hb
    rw [ho] at h2
    cases h2
    exact hc _ h3
section
variable {w0 w w' : World} {n : Nat} {L : List Item}
theorem St.other (h : St w0 w n L) {row : Option Nat} {B : Nat} (hg : w.grownBy w' row) (hr : ∀ r, row = some r → B ≤ r ∧ ∃ o : Obj, w.heap[r]? = some o ∧ o.isCells = false) (hB : w0.heap.size ≤ B) (hL : ∀ x ∈ L, x.cel) : St w0 w' w'.heap.size L := by
  refine ⟨rfl, h.bel.trans ⟨hg.os, hg.tape, hg.output, hg.size, fun k hk => hg.block k (by have := h.bel.size; omega) (fun e => ?_)⟩, fun x hx => ?_, h.apart⟩
  · have := (hr k e.symm).1
    omega
  · have hok := h.ok x hx
    refine hok.same fun b hb => hg.block b (hok.lt hb).2 (fun e => ?_)
    obtain ⟨_, o, ho, hc⟩ := hr b e.symm
    rw [hok.cells (hL x hx) hb ho] at hc
    cases hc
/-- Such a thing may be said between two rounds. -/
theorem St.ownFrom {β : Type} {w0 : World} {B : Nat} (L : β → List Item) (hB : w0.heap.size ≤ B) (hL : ∀ s, ∀ x ∈ L s, x.cel) : OwnFrom B (fun (s : β) W => St w0 W W.heap.size (L s)) :=
  fun s _ _ _ hs hg hr => hs.other hg hr hB (hL s)
theorem St.ownFrom' {β : Type} {w0 : World} {B m : Nat} (L : β → List Item) (hB : w0.heap.size ≤ B) (hL : ∀ s, ∀ x ∈ L s, x.cel) : OwnFrom B (fun (s : β) W => St w0 W W.heap.size (L s) ∧ m ≤ W.heap.size) :=
  fun s _ _ _ hs hg hr => ⟨hs.1.other hg hr hB (hL s), Nat.le_trans hs.2 hg.size⟩
/-- Behind a step in which one of its things turned, what is no cells lies as it lay. -/
theorem St.ko (h : St w0 w n L) (i : Nat) {x : Item} (hi : L[i]? = some x) (hc : x.cel) (hg : w.grownBy w' x.blk) : KeepsOthers w w' :=
  KeepsOthers.of_grownBy hg fun _ _ hj ho => (h.ok x (List.mem_of_getElem? hi)).cells hc hj ho
theorem St.apart' (h : St w0 w n L) (i j : Nat) {x y : Item} (hi : L[i]? = some x) (hj : L[j]? = some y) (hij : i ≠ j) {b : Nat} (hb : y.blk = some b) : x.blk ≠ some b := fun e =>
  hij (nodup_fm Item.blk L i j x y b h.apart hi hj e hb)
/-- What was at the start, behind the marks of the loop that has ended. -/
theorem St.putD (h : St w0 w n L) {D : Nat} {o : Obj} (hD : w0.heap.size ≤ D) (hk : w.heap[D]? = some o) (ho : o.isCells = false) (o' : Obj) (hL : ∀ x ∈ L, x.cel) : St w0 (w.putObj D o') (w.putObj D o').heap.size L :=
  h.other (B := D) (grownBy_putObj' w D o') (fun r e => by cases e; exact ⟨Nat.le_refl _, _, hk, ho⟩) hD hL
end

/-- A call's walk, in the form that lets it range over a function. -/
theorem calls_of_marks {P : Program} {f : FuncId} {fn : Func} {c : Code} {args : Array Value} {w : World} {R : Ending → World → Prop}
    (hf : P.funcs[f]? = some fn) (hb : fn.body = some c)
    (h : c.wp P (bodyPostM Fence.wide 5 P fn R) { tmps := args ++ Array.replicate (fn.ntmps - args.size) undef, defers := [] } w) : Calls P f args w R :=
  callsIn_wide.1 (callsIn_of_wp_marks (n := 5) hf hb trivial (wpIn_wide.2 h) rfl)
end Go.Proofs.Ytldcehhhndlhdaa

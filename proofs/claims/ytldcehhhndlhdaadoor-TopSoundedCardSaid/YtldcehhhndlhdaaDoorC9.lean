/- What a call owns while a range over a function of its own runs. No function here; no conditions. -/
import Derived.Test.YtldcehhhndlhdaaDoorC8
import Derived.Test.YtldcehhhndlhdaaDoorC3
namespace Go.Proofs.YtldcehhhndlhdaaDoor
open Go.RowKit Go.Sort

/-- These blocks lie as they lay. -/
structure KpK (Ks : List Nat) (W W' : World) : Prop where
  size : W.heap.size ≤ W'.heap.size
  same : ∀ k ∈ Ks, W'.heap[k]? = W.heap[k]?
theorem KpK.refl (Ks : List Nat) (W : World) : KpK Ks W W := ⟨Nat.le_refl _, fun _ _ => rfl⟩
theorem KpK.trans {Ks : List Nat} {A B C : World} (h : KpK Ks A B) (k : KpK Ks B C) : KpK Ks A C := ⟨Nat.le_trans h.size k.size, fun i hi => (k.same i hi).trans (h.same i hi)⟩
theorem KpK.putObj {Ks : List Nat} {n : Nat} (hK : ∀ k ∈ Ks, k < n) (W : World) (l : Nat) : ∀ (o o' : Obj), n ≤ l → W.heap[l]? = some o → o.isCells = false → o.isWalk = false → KpK Ks W (W.putObj l o') := fun _ _ hl _ _ _ =>
  ⟨by simp, fun k hk => World.putObj_heap_other (by have := hK k hk; omega)⟩
theorem KpK.below {Ks : List Nat} {W W' : World} (h : Below W.heap.size W W') (hK : ∀ k ∈ Ks, k < W.heap.size) : KpK Ks W W' := ⟨h.size, fun k hk => h.block k (hK k hk)⟩
theorem KpK.grown {Ks : List Nat} {W W' : World} {row : Option Nat} (h : W.grownBy W' row) (hK : ∀ k ∈ Ks, k < W.heap.size) (hr : ∀ k ∈ Ks, row ≠ some k) : KpK Ks W W' := ⟨h.size, fun k hk => h.block k (hK k hk) (fun e => hr k hk e.symm)⟩
theorem KpK.setCell {Ks : List Nat} {W : World} {a : Addr} {v : Value} (hK : ∀ k ∈ Ks, k ≠ a.block) : KpK Ks W (W.setCell a v) := ⟨by simp [World.setCell], fun k hk => Below.heap_setCell _ _ _ k (hK k hk)⟩
theorem ko_below {W W' : World} (h : Below W.heap.size W W') : KeepsOthers W W' := ⟨h.size, fun k _ hk _ => (h.block k (Array.getElem?_eq_some_iff.1 hk).1).trans hk⟩

/-- A thing of the call's own that is cells. -/
def Item.cel : Item → Prop
  | .any _ p => ∀ o, p o → o.isCells = true
  | _ => True
theorem Item.ok.cells {base : Nat} {w : World} {x : Item} (h : x.ok base w) (hc : x.cel) {b : Nat} (hb : x.blk = some b) {o : Obj} (ho : w.heap[b]? = some o) : o.isCells = true := by
  cases x with
  | box b' cs =>
    obtain ⟨_, T, h2⟩ := h
    injection hb with hb
    subst hb
    rw [ho] at h2
    cases h2
    rfl
  | own e size v m xs =>
    rcases h.2 with ⟨rfl, _⟩ | ⟨g, cap, cur, rfl, _, hh, _⟩
    · cases hb
    · cases hb
      rw [ho] at hh
      cases hh
      rfl
  | any b' p =>
    obtain ⟨_, o', h2, h3⟩ := h
    injection hb with hb
    subst hb
    rw [ho] at h2
    cases h2
    exact hc _ h3
section
variable {w0 w w' : World} {n : Nat} {L : List Item}
theorem St.other (h : St w0 w n L) {row : Option Nat} {B : Nat} (hg : w.grownBy w' row) (hr : ∀ r, row = some r → B ≤ r ∧ ∃ o : Obj, w.heap[r]? = some o ∧ o.isCells = false) (hB : w0.heap.size ≤ B) (hL : ∀ x ∈ L, x.cel) : St w0 w' w'.heap.size L := by
  refine ⟨rfl, h.bel.trans ⟨hg.os, hg.tape, hg.output, hg.size, fun k hk => hg.block k (by have := h.bel.size; omega) (fun e => ?_)⟩, fun x hx => ?_, h.apart⟩
  · have := (hr k e.symm).1
    omega
  · have hok := h.ok x hx
    refine hok.same fun b hb => hg.block b (hok.lt hb).2 (fun e => ?_)
    obtain ⟨_, o, ho, hc⟩ := hr b e.symm
    rw [hok.cells (hL x hx) hb ho] at hc
    cases hc
/-- Such a thing may be said between two rounds. -/
theorem St.ownFrom {β : Type} {w0 : World} {B : Nat} (L : β → List Item) (hB : w0.heap.size ≤ B) (hL : ∀ s, ∀ x ∈ L s, x.cel) : OwnFrom B (fun (s : β) W => St w0 W W.heap.size (L s)) :=
  fun s _ _ _ hs hg hr => hs.other hg hr hB (hL s)
theorem St.ownFrom' {β : Type} {w0 : World} {B m : Nat} (L : β → List Item) (hB : w0.heap.size ≤ B) (hL : ∀ s, ∀ x ∈ L s, x.cel) : OwnFrom B (fun (s : β) W => St w0 W W.heap.size (L s) ∧ m ≤ W.heap.size) :=
  fun s _ _ _ hs hg hr => ⟨hs.1.other hg hr hB (hL s), Nat.le_trans hs.2 hg.size⟩
/-- Behind a step in which one of its things turned, what is no cells lies as it lay. -/
theorem St.ko (h : St w0 w n L) (i : Nat) {x : Item} (hi : L[i]? = some x) (hc : x.cel) (hg : w.grownBy w' x.blk) : KeepsOthers w w' :=
  KeepsOthers.of_grownBy hg fun _ _ hj ho => (h.ok x (List.mem_of_getElem? hi)).cells hc hj ho
theorem St.apart' (h : St w0 w n L) (i j : Nat) {x y : Item} (hi : L[i]? = some x) (hj : L[j]? = some y) (hij : i ≠ j) {b : Nat} (hb : y.blk = some b) : x.blk ≠ some b := fun e =>
  hij (nodup_fm Item.blk L i j x y b h.apart hi hj e hb)
/-- What was at the start, behind the marks of the loop that has ended. -/
theorem St.putD (h : St w0 w n L) {D : Nat} {o : Obj} (hD : w0.heap.size ≤ D) (hk : w.heap[D]? = some o) (ho : o.isCells = false) (o' : Obj) (hL : ∀ x ∈ L, x.cel) : St w0 (w.putObj D o') (w.putObj D o').heap.size L :=
  h.other (B := D) (grownBy_putObj' w D o') (fun r e => by cases e; exact ⟨Nat.le_refl _, _, hk, ho⟩) hD hL
end

/-- A call's walk, in the form that lets it range over a function. -/
theorem calls_of_marks {P : Program} {f : FuncId} {fn : Func} {c : Code} {args : Array Value} {w : World} {R : Ending → World → Prop}
    (hf : P.funcs[f]? = some fn) (hb : fn.body = some c)
    (h : c.wp P (bodyPostM Fence.wide 5 P fn R) { tmps := args ++ Array.replicate (fn.ntmps - args.size) undef, defers := [] } w) : Calls P f args w R :=
  callsIn_wide.1 (callsIn_of_wp_marks (n := 5) hf hb trivial (wpIn_wide.2 h) rfl)
end Go.Proofs.YtldcehhhndlhdaaDoor
/- One more number behind a slice that has no room: 'append(l[:len(l):len(l)], n)'. No function here; no conditions. -/
namespace Go.Proofs.YtldcehhhndlhdaaDoor
open Go.RowKit Go.Sort

theorem run_append_full {P : Program} (w : World) (t ty e : TypeId) (i : TypeInfo) (z : Value) (bytes : Nat) (ht : P.underlying t = some (.slice e)) (hi : P.info? e = some i) (hz : i.zero = some z)
    (hsize : i.size = 1) (hby : i.bytes = bytes) (hzs : z.cells.size = 1) (A : Option Addr) (n : Nat) (xs : List Value) (hr : Reads w 1 (.slice A n n) n xs) (hnil : A = none → n = 0)
    (sv : Value) (u : Value) (hs : Reads w 1 sv 1 [u]) (h1 : u.oneCell' = true) (h63 : n + 1 ≤ maxLen) (hbytes : (n + 1) * bytes ≤ 140737488355328) :
    ∃ v' w', (Builtin.append_ #[t, t] ty #[.slice A n n, sv]).run P w = .ok v' w' ∧ w'.ownsRow w.heap.size e 1 v' (n + 1) (xs ++ [u]) ∧ Below w.heap.size w w' := by
  cases A with
  | none =>
    obtain rfl := hnil rfl
    have hx : xs = [] := List.eq_nil_of_length_eq_zero (by simpa using hr.1)
    subst hx
    obtain ⟨v', w', h, h2, h3, h4⟩ := run_append_src (P := P) w w.heap.size t ty e i z 1 bytes ht hi hz hsize hby hzs (by omega) (.slice none 0 0) 0 [] (World.ownsRow_nil _ _ _ _) sv 1 [u] hs (fun x hx => by rw [List.mem_singleton.1 hx]; exact h1) (by omega) (by omega) (Nat.le_refl _)
    exact ⟨v', w', h, by simpa using h2, ⟨h3.os, h3.tape, h3.output, h3.size, fun k hk => h3.block k hk (by simp [Value.ownBlock])⟩⟩
  | some ad =>
    obtain ⟨hl, _, _, e, _, _, hc⟩ := hr
    injection e with e1 e2 e3
    subst e1
    obtain ⟨sl, B, c, rfl, _, _, hn⟩ := hs
    obtain ⟨b, o, rfl, hcn⟩ := hn (by omega)
    subst hby
    have hsmall : n + 1 ≤ 9223372036854775807 := by simp only [maxLen] at h63; omega
    have hold : ∀ j v, xs[j]? = some v → w.cell? (ad.add j) = some v := by
      intro j v hv
      rcases Nat.eq_zero_or_pos n with h0 | h0
      · subst h0
        have hx : xs = [] := List.eq_nil_of_length_eq_zero (by simpa using hl)
        subst hx
        simp at hv
      · obtain ⟨b', o', h, hc'⟩ := hc h0
        injection h with h
        subst h
        rw [add_plain]
        exact hc' j v hv
    have hrun := run_append_grow (P := P) w t ty e i z ht hi hz ad n n xs (by rw [hl, hsize]) hold ⟨b, o, none⟩ 1 c [u] (by simp [hsize]) (fun j v hv => by rw [add_plain]; exact hcn j v hv) (by omega) (by omega) (growslice_fits (by omega) hbytes)
    have hge := grownCap_ge w (n + 1) n e
    have hcm : grownCap w (n + 1) n e ≤ maxLen := grownCap_le_maxLen w (n + 1) n e h63
    have hl' : xs.length = n := by simpa using hl
    refine ⟨_, _, hrun, ⟨by simp [hl'], .inr ⟨w.heap.size, _, _, rfl, Nat.le_refl _, heap_alloc_new w.drew _, hge, hcm, ?_, ?_⟩⟩, ⟨rfl, rfl, rfl, by simp, fun k hk => Below.heap_alloc w.drew _ k hk⟩⟩
    · simp only [Array.size_append, List.size_toArray, size_zeroCells, hzs, hl', List.length_singleton, Nat.mul_one]
      omega
    · simp only [Array.toList_append, Nat.mul_one]
      have : n + 1 = (xs ++ [u]).length := by simp [hl']
      rw [this]
      exact List.take_left
theorem wp_append_full {P : Program} (w : World) {o : Oper} {a : Act} {K : Act → World → Prop} {Q : Exit → Act → World → Prop} (s x : Operand) (t : TypeId)
    (ho : o.op = .call { callee := .builtin .append, args := #[s, x], argTypes := #[t, t] })
    (e : TypeId) (i : TypeInfo) (z : Value) (bytes : Nat) (ht : P.underlying t = some (.slice e)) (hi : P.info? e = some i) (hz : i.zero = some z)
    (hsize : i.size = 1) (hby : i.bytes = bytes) (hzs : z.cells.size = 1) (A : Option Addr) (n : Nat) (xs : List Value) (hse : a.eval s = .slice A n n) (hr : Reads w 1 (.slice A n n) n xs) (hnil : A = none → n = 0)
    (sv : Value) (u : Value) (hx : a.eval x = sv) (hs : Reads w 1 sv 1 [u]) (h1 : u.oneCell' = true) (h63 : n + 1 ≤ maxLen) (hbytes : (n + 1) * bytes ≤ 140737488355328)
    (h : ∀ v' w', w'.ownsRow w.heap.size e 1 v' (n + 1) (xs ++ [u]) → Below w.heap.size w w' → K (a.put o.dst v') w') : o.wp P a w K Q := by
  obtain ⟨v', w', hrun, h2, h3⟩ := run_append_full (P := P) w t o.type e i z bytes ht hi hz hsize hby hzs A n xs hr hnil sv u hs h1 h63 hbytes
  unfold Oper.wp execOp
  simp only [ho, resolve, invoke, builtin, Sem.run_bind, Sem.run_pure, Result.andThen_ok, List.map_toArray, List.map_cons, List.map_nil, hse, hx, hrun]
  exact h v' w' h2 h3
theorem run_store_func (P : Program) (w : World) (a : Addr) (m : Mode) (fn : Fn) (first caps : Array Value) : (store a (.func fn first caps) m).run P w = stored P w a (.func fn first caps) m := run_store P w a _ m rfl
/-- What is cells lies as it lay. -/
structure KpC (W W' : World) : Prop where
  size : W.heap.size ≤ W'.heap.size
  same : ∀ (k : Nat) (o : Obj), W.heap[k]? = some o → o.isCells = true → W'.heap[k]? = some o
theorem KpC.refl (W : World) : KpC W W := ⟨Nat.le_refl _, fun _ _ h _ => h⟩
theorem KpC.trans {A B C : World} (h : KpC A B) (k : KpC B C) : KpC A C := ⟨Nat.le_trans h.size k.size, fun i o hi ho => k.same i o (h.same i o hi ho) ho⟩
theorem KpC.below {W W' : World} (h : Below W.heap.size W W') : KpC W W' := ⟨h.size, fun k _ hk _ => (h.block k (Array.getElem?_eq_some_iff.1 hk).1).trans hk⟩
theorem KpC.putObj (W : World) (l : Nat) : ∀ (o o' : Obj), W.heap[l]? = some o → o.isCells = false → KpC W (W.putObj l o') := fun o _ hl ho =>
  ⟨by simp, fun k x hk hx => (World.putObj_heap_other (by rintro rfl; rw [hl] at hk; cases hk; rw [ho] at hx; cases hx)).trans hk⟩
theorem KpC.cell {W W' : World} (h : KpC W W') {a : Addr} {v : Value} (hc : W.cell? a = some v) : W'.cell? a = some v := by
  obtain ⟨o, ho, hcs⟩ := cells_of_cell hc
  exact (World.cell?_of_block ((h.same _ _ ho hcs).trans ho.symm)).trans hc
theorem KpC.reads {W W' : World} (h : KpC W W') {size n : Nat} {v : Value} {xs : List Value} (hr : Reads W size v n xs) : Reads W' size v n xs := by
  obtain ⟨h1, A, c, h2, h3, h4, h5⟩ := hr
  refine ⟨h1, A, c, h2, h3, h4, fun hn => ?_⟩
  obtain ⟨b, o, rfl, hc⟩ := h5 hn
  exact ⟨b, o, rfl, fun j u hu => h.cell (hc j u hu)⟩
end Go.Proofs.YtldcehhhndlhdaaDoor
/- Walks: Check of quarrels, the rest. -/
namespace Go.Proofs.YtldcehhhndlhdaaDoor
open Go.RowKit Go.Sort
attribute [local go_sem] run_store_func

set_option maxRecDepth 20000 in
set_option maxHeartbeats 1000000 in
theorem qc2_any (v : Value) (ls : List (List Int)) (W : Int) (bx bf : Nat) (w : World) (hr : QWAt w v ls) (hx : w.cell? ⟨bx, 0, none⟩ = some (I W)) (hf : w.cell? ⟨bf, 0, none⟩ = some (.func (.func 83) #[] #[.pointer (some ⟨bx, 0, none⟩)])) :
    Calls Tryd.prog 86 #[v, .pointer (some ⟨bx, 0, none⟩), .pointer (some ⟨bf, 0, none⟩)] w fun e w' => e = .returned (.bool (badWd W ls)) ∧ Below w.heap.size w w' := by
  obtain ⟨fv, rfl, hl⟩ := hr
  obtain ⟨A, c, rfl, -, -, -⟩ := id hl.open_
  have HL := Lib.hid hl
  have HX := Lib.hid hx
  have HF := Lib.hid hf
  have S := Lib.hid (show St w (w.alloc (.cells #[.slice A ls.length c] 80)) (w.heap.size + 1) [.box w.heap.size [.slice A ls.length c]] from (St.init w).alloc [.slice A ls.length c] 80)
  have hlx := World.block_lt_of_cell? w _ hx
  have hlf := World.block_lt_of_cell? w _ hf
  dsimp only at hlx hlf
  clear hl
  by_cases h : (ls.length : Int) = W
  · have HE := Lib.hid (show badWd W ls = ls.any (badRow W) by unfold badWd; rw [decide_eq_false (by simpa using h)]; rfl)
    have hq : ((ls.length : Int) != W) = false := by simp [h]
    clear h
    go_enter Tryd.func86, Tryd.ntmps86
    go_wp2_with fail
    refine (qRowNone_any _ ls W bx _ (HL.out.below S.out.bel) (keep_cell S.out.bel HX.out)).mono ?_
    rintro e w1 ⟨rfl, hb⟩
    have S := Lib.hid (S.out.call hb)
    clear hb hx hf hq hlx hlf
    go_wp2_with fail
    go_ret
    exact ⟨by rw [HE.out]; simp, S.out.bel⟩
  · have HE := Lib.hid (show badWd W ls = true by unfold badWd; rw [decide_eq_true (by simpa using h)]; rfl)
    have hq : ((ls.length : Int) != W) = true := by simp [h]
    clear h
    go_enter Tryd.func86, Tryd.ntmps86
    go_wp2_with fail
    go_ret
    exact ⟨by rw [HE.out]; rfl, S.out.bel⟩

set_option maxRecDepth 20000 in
set_option maxHeartbeats 2000000 in
theorem qWdIx_no (v : Value) (xs : List (List (List Int))) (W : Int) (bx bf : Nat) (w : World) (hr : LW w v xs) (hx : w.cell? ⟨bx, 0, none⟩ = some (I W)) (hf : w.cell? ⟨bf, 0, none⟩ = some (.func (.func 83) #[] #[.pointer (some ⟨bx, 0, none⟩)])) (hn : xs.any (fun l => badWd W l) = false) :
    Calls Tryd.prog 115 #[v, .func (.func 86) #[] #[.pointer (some ⟨bx, 0, none⟩), .pointer (some ⟨bf, 0, none⟩)]] w fun e w' => e = .returned (I (-1)) ∧ Below w.heap.size w w' := by
  obtain ⟨A, c, rfl, hnc, hcm, hc⟩ := hr.open_
  have HC := Lib.hid hc
  have HN := Lib.hid hn
  have HR := Lib.hid hr
  have HX := Lib.hid hx
  have HF := Lib.hid hf
  clear hc hn hr hx hf
  go_enter Tryd.func115, Tryd.ntmps115
  go_wp2_with fail
  go_loopw [8] (fun i wr => ∃ k : Nat, k ≤ xs.length ∧ i = I k ∧ Hid (Below w.heap.size w wr)) (fun i _ => xs.length - (intOf i).toNat)
  case atStart => exact ⟨0, by omega, rfl, Lib.hid (Below.refl _ _)⟩
  case round =>
    obtain ⟨k, hk, rfl, hbw⟩ := hrel
    by_cases hlt : k < xs.length
    · have hb : (fun l => badWd W l) xs[k] = false := by
        have := HN.out
        simp only [List.any_eq_false] at this
        simpa using this _ (List.getElem_mem hlt)
      obtain ⟨b, o, rfl, hbl, hcell⟩ := HC.out (by omega)
      obtain ⟨u, hu, hi⟩ := hcell k hlt
      have y0 := keep_cell hbw.out hu
      have HI := Lib.hid (hi.below hbw.out)
      obtain ⟨l, hl⟩ : ∃ l, xs[k] = l := ⟨_, rfl⟩
      rw [hl] at HI
      rw [hl] at hb
      obtain ⟨A4, c4, rfl, -, -, -⟩ := id HI.out.open_
      clear hcell hl hu hi
      have HB := Lib.hid hb
      clear hb
      have hki : (k : Int) < (xs.length : Int) := by omega
      go_wp2_with fail
      clear y0
      refine (qc2_any _ l W bx bf _ ⟨_, rfl, HI.out⟩ (keep_cell hbw.out HX.out) (keep_cell hbw.out HF.out)).mono ?_
      rintro e w' ⟨rfl, hb1⟩
      rw [HB.out]
      have hbw := Lib.hid (bto hbw.out hb1)
      clear hb1
      go_wp2_with fail
      go_roundw
      case rel => exact ⟨k + 1, by omega, by go_num, hbw⟩
      case measure => first | (simp [intOf]; done) | (simp [intOf]; omega)
    · go_wp2_with fail
      go_ret
      exact ⟨rfl, hbw.out⟩

set_option maxRecDepth 20000 in
set_option maxHeartbeats 2000000 in
theorem qWdIx_yes (v : Value) (xs : List (List (List Int))) (W : Int) (bx bf : Nat) (w : World) (hr : LW w v xs) (hx : w.cell? ⟨bx, 0, none⟩ = some (I W)) (hf : w.cell? ⟨bf, 0, none⟩ = some (.func (.func 83) #[] #[.pointer (some ⟨bx, 0, none⟩)])) (hn : xs.any (fun l => badWd W l) = true) :
    Calls Tryd.prog 115 #[v, .func (.func 86) #[] #[.pointer (some ⟨bx, 0, none⟩), .pointer (some ⟨bf, 0, none⟩)]] w fun e w' => RetNat w e w' := by
  obtain ⟨A, c, rfl, hnc, hcm, hc⟩ := hr.open_
  have HC := Lib.hid hc
  have HN := Lib.hid hn
  have HR := Lib.hid hr
  have HX := Lib.hid hx
  have HF := Lib.hid hf
  clear hc hn hr hx hf
  go_enter Tryd.func115, Tryd.ntmps115
  go_wp2_with fail
  go_loopw [8] (fun i wr => ∃ k : Nat, k ≤ xs.length ∧ i = I k ∧ (xs.drop k).any (fun l => badWd W l) = true ∧ Hid (Below w.heap.size w wr)) (fun i _ => xs.length - (intOf i).toNat)
  case atStart => exact ⟨0, by omega, rfl, HN.out, Lib.hid (Below.refl _ _)⟩
  case round =>
    obtain ⟨k, hk, rfl, hd, hbw⟩ := hrel
    have hlt : k < xs.length := by
      apply Classical.byContradiction
      intro hge
      rw [List.drop_eq_nil_of_le (by omega)] at hd
      simp at hd
    rw [List.drop_eq_getElem_cons hlt, List.any_cons] at hd
    obtain ⟨b, o, rfl, hbl, hcell⟩ := HC.out (by omega)
    obtain ⟨u, hu, hi⟩ := hcell k hlt
    have y0 := keep_cell hbw.out hu
    have HI := Lib.hid (hi.below hbw.out)
    obtain ⟨l, hl⟩ : ∃ l, xs[k] = l := ⟨_, rfl⟩
    rw [hl] at HI
    rw [hl] at hd
    obtain ⟨A4, c4, rfl, -, -, -⟩ := id HI.out.open_
    clear hcell hl hu hi
    have HD := Lib.hid hd
    clear hd
    have hki : (k : Int) < (xs.length : Int) := by omega
    go_wp2_with fail
    clear y0
    refine (qc2_any _ l W bx bf _ ⟨_, rfl, HI.out⟩ (keep_cell hbw.out HX.out) (keep_cell hbw.out HF.out)).mono ?_
    rintro e w' ⟨rfl, hb1⟩
    have hbw := Lib.hid (bto hbw.out hb1)
    clear hb1
    generalize hb : badWd W l = pb
    rw [hb] at HD
    cases pb
    · have HB := Lib.hid hb
      clear hb
      go_wp2_with fail
      go_roundw
      case rel => exact ⟨k + 1, by omega, by go_num, by have := HD.out; simpa using this, hbw⟩
      case measure => first | (simp [intOf]; done) | (simp [intOf]; omega)
    · clear hb HD
      go_wp2_with fail
      go_ret
      exact ⟨k, rfl, hbw.out⟩

set_option maxRecDepth 20000 in
set_option maxHeartbeats 400000 in
theorem qWdCon_any (v : Value) (xs : List (List (List Int))) (W : Int) (bx bf : Nat) (w : World) (hr : LW w v xs) (hx : w.cell? ⟨bx, 0, none⟩ = some (I W)) (hf : w.cell? ⟨bf, 0, none⟩ = some (.func (.func 83) #[] #[.pointer (some ⟨bx, 0, none⟩)])) :
    Calls Tryd.prog 107 #[v, .func (.func 86) #[] #[.pointer (some ⟨bx, 0, none⟩), .pointer (some ⟨bf, 0, none⟩)]] w fun e w' => e = .returned (.bool (xs.any (fun l => badWd W l))) ∧ Below w.heap.size w w' := by
  cases hb : xs.any (fun l => badWd W l)
  · go_enter Tryd.func107, Tryd.ntmps107
    go_wp2_with fail
    refine (qWdIx_no v xs W bx bf _ hr hx hf hb).mono ?_
    rintro e w' ⟨rfl, hw⟩
    go_wp2_with fail
    go_ret
    exact ⟨rfl, hw⟩
  · go_enter Tryd.func107, Tryd.ntmps107
    go_wp2_with fail
    refine (qWdIx_yes v xs W bx bf _ hr hx hf hb).mono ?_
    rintro e w' ⟨k, rfl, hw⟩
    go_wp2_with fail
    go_ret
    exact ⟨rfl, hw⟩

set_option maxRecDepth 20000 in
set_option maxHeartbeats 400000 in
theorem qWdNone_any (v : Value) (xs : List (List (List Int))) (W : Int) (bx bf : Nat) (w : World) (hr : LW w v xs) (hx : w.cell? ⟨bx, 0, none⟩ = some (I W)) (hf : w.cell? ⟨bf, 0, none⟩ = some (.func (.func 83) #[] #[.pointer (some ⟨bx, 0, none⟩)])) :
    Calls Tryd.prog 90 #[v, .func (.func 86) #[] #[.pointer (some ⟨bx, 0, none⟩), .pointer (some ⟨bf, 0, none⟩)]] w fun e w' => e = .returned (.bool (!xs.any (fun l => badWd W l))) ∧ Below w.heap.size w w' := by
  go_enter Tryd.func90, Tryd.ntmps90
  go_wp2_with fail
  refine (qWdCon_any v xs W bx bf _ hr hx hf).mono ?_
  rintro e w' ⟨rfl, hw⟩
  go_wp2_with fail
  go_ret
  exact ⟨rfl, hw⟩

set_option maxRecDepth 20000 in
set_option maxHeartbeats 2000000 in
theorem qc3_any (f : QFact) (W : Int) (bx : Nat) (Aw Af : Option Addr) (mw cw mf cf : Nat) (w : World) (hx0 : w.cell? ⟨bx, 0, none⟩ = some (I W)) (hx1 : w.cell? ⟨bx, 1, none⟩ = some (.slice Aw mw cw)) (hx2 : w.cell? ⟨bx, 2, none⟩ = some (.slice Af mf cf)) (hW0 : 0 ≤ W) (hW6 : W ≤ 1000) :
    Calls Tryd.prog 88 #[f.val, .pointer (some ⟨bx, 0, none⟩)] w fun e w' => e = .returned (.bool (badFct W f)) ∧ Below w.heap.size w w' := by
  have hlx := World.block_lt_of_cell? w _ hx0
  dsimp only at hlx
  have HX0 := Lib.hid hx0
  have HX1 := Lib.hid hx1
  have HX2 := Lib.hid hx2
  have S := Lib.hid (show St w (w.alloc (.cells #[I f.fr, I f.many, I f.to, I f.low, I f.high] 49)) (w.heap.size + 1) [.box w.heap.size [I f.fr, I f.many, I f.to, I f.low, I f.high]] from (St.init w).alloc [I f.fr, I f.many, I f.to, I f.low, I f.high] 49)
  have x0 := keep_cell S.out.bel HX0.out
  have x1 := keep_cell S.out.bel HX1.out
  have x2 := keep_cell S.out.bel HX2.out
  clear hx0 hx1 hx2
  have q0 := S.out.get 0 0 rfl rfl
  have q1 := S.out.get 0 1 rfl rfl
  have q2 := S.out.get 0 2 rfl rfl
  have q3 := S.out.get 0 3 rfl rfl
  have q4 := S.out.get 0 4 rfl rfl
  unfold QFact.val
  go_enter Tryd.func88, Tryd.ntmps88
  go_wp2_with fail
  refine (qIsWell_any W _ _ _ _ ⟨_, _, _, rfl⟩ ⟨_, _, _, rfl⟩ hW0 hW6).mono ?_
  rintro e w1 ⟨rfl, hb⟩
  have S := Lib.hid (S.out.call hb)
  clear hb
  clear x0 x1 x2 q0 q1 q2 q3 q4
  have x0 := keep_cell S.out.bel HX0.out
  have x1 := keep_cell S.out.bel HX1.out
  have x2 := keep_cell S.out.bel HX2.out
  have q0 := S.out.get 0 0 rfl rfl
  have q1 := S.out.get 0 1 rfl rfl
  have q2 := S.out.get 0 2 rfl rfl
  have q3 := S.out.get 0 3 rfl rfl
  have q4 := S.out.get 0 4 rfl rfl
  cases h : inR f.fr 0 (W - 1)
  · have HE := Lib.hid (show badFct W f = true by unfold badFct; rw [h]; simp)
    clear h
    go_wp2_with fail
    go_ret
    exact ⟨by rw [HE.out]; rfl, S.out.bel⟩
  · have H1 := Lib.hid h
    clear h
    go_wp2_with fail
    refine (qIsWell_any W _ _ _ _ ⟨_, _, _, rfl⟩ ⟨_, _, _, rfl⟩ hW0 hW6).mono ?_
    rintro e w1 ⟨rfl, hb⟩
    have S := Lib.hid (S.out.call hb)
    clear hb
    clear x0 x1 x2 q0 q1 q2 q3 q4
    have x0 := keep_cell S.out.bel HX0.out
    have x1 := keep_cell S.out.bel HX1.out
    have x2 := keep_cell S.out.bel HX2.out
    have q0 := S.out.get 0 0 rfl rfl
    have q1 := S.out.get 0 1 rfl rfl
    have q2 := S.out.get 0 2 rfl rfl
    have q3 := S.out.get 0 3 rfl rfl
    have q4 := S.out.get 0 4 rfl rfl
    cases h : inR f.to 0 (W - 1)
    · have HE := Lib.hid (show badFct W f = true by unfold badFct; rw [H1.out, h]; simp)
      clear h
      go_wp2_with fail
      go_ret
      exact ⟨by rw [HE.out]; rfl, S.out.bel⟩
    · have H2 := Lib.hid h
      clear h
      go_wp2_with fail
      refine (qWithin_any _ _ _ _).mono ?_
      rintro e w1 ⟨rfl, hb⟩
      subst hb
      clear x0 x1 x2 q0 q1 q2 q3 q4
      have x0 := keep_cell S.out.bel HX0.out
      have x1 := keep_cell S.out.bel HX1.out
      have x2 := keep_cell S.out.bel HX2.out
      have q0 := S.out.get 0 0 rfl rfl
      have q1 := S.out.get 0 1 rfl rfl
      have q2 := S.out.get 0 2 rfl rfl
      have q3 := S.out.get 0 3 rfl rfl
      have q4 := S.out.get 0 4 rfl rfl
      cases h : inR f.many 1 9
      · have HE := Lib.hid (show badFct W f = true by unfold badFct; rw [H1.out, H2.out, h]; simp)
        clear h
        go_wp2_with fail
        go_ret
        exact ⟨by rw [HE.out]; rfl, S.out.bel⟩
      · have H3 := Lib.hid h
        clear h
        go_wp2_with fail
        refine (qWithin_any _ _ _ _).mono ?_
        rintro e w1 ⟨rfl, hb⟩
        subst hb
        clear x0 x1 x2 q0 q1 q2 q3 q4
        have x0 := keep_cell S.out.bel HX0.out
        have x1 := keep_cell S.out.bel HX1.out
        have x2 := keep_cell S.out.bel HX2.out
        have q0 := S.out.get 0 0 rfl rfl
        have q1 := S.out.get 0 1 rfl rfl
        have q2 := S.out.get 0 2 rfl rfl
        have q3 := S.out.get 0 3 rfl rfl
        have q4 := S.out.get 0 4 rfl rfl
        cases h : inR f.low 0 f.high
        · have HE := Lib.hid (show badFct W f = true by unfold badFct; rw [H1.out, H2.out, H3.out, h]; simp)
          clear h
          go_wp2_with fail
          go_ret
          exact ⟨by rw [HE.out]; rfl, S.out.bel⟩
        · have H4 := Lib.hid h
          clear h
  
          have HE := Lib.hid (show badFct W f = decide (99 < f.high) by unfold badFct; rw [H1.out, H2.out, H3.out, H4.out]; rfl)
          go_wp2_with fail
          go_ret
          exact ⟨by rw [HE.out]; rfl, S.out.bel⟩

set_option maxRecDepth 20000 in
set_option maxHeartbeats 2000000 in
theorem qFIx_no (v : Value) (xs : List QFact) (W : Int) (bx : Nat) (Aw Af : Option Addr) (mw cw mf cf : Nat) (w : World) (hr : Fcts w v xs) (hx0 : w.cell? ⟨bx, 0, none⟩ = some (I W)) (hx1 : w.cell? ⟨bx, 1, none⟩ = some (.slice Aw mw cw)) (hx2 : w.cell? ⟨bx, 2, none⟩ = some (.slice Af mf cf)) (hW0 : 0 ≤ W) (hW6 : W ≤ 1000) (hn : xs.any (fun f => badFct W f) = false) :
    Calls Tryd.prog 108 #[v, .func (.func 88) #[] #[.pointer (some ⟨bx, 0, none⟩)]] w fun e w' => e = .returned (I (-1)) ∧ Below w.heap.size w w' := by
  obtain ⟨A, c, rfl, hnc, hcm, hc⟩ := hr.open_
  have HC := Lib.hid hc
  have HN := Lib.hid hn
  have HR := Lib.hid hr
  have HX0 := Lib.hid hx0
  have HX1 := Lib.hid hx1
  have HX2 := Lib.hid hx2
  clear hc hn hr hx0 hx1 hx2
  go_enter Tryd.func108, Tryd.ntmps108
  go_wp2_with fail
  go_loopw [8] (fun i wr => ∃ k : Nat, k ≤ xs.length ∧ i = I k ∧ Hid (Below w.heap.size w wr)) (fun i _ => xs.length - (intOf i).toNat)
  case atStart => exact ⟨0, by omega, rfl, Lib.hid (Below.refl _ _)⟩
  case round =>
    obtain ⟨k, hk, rfl, hbw⟩ := hrel
    by_cases hlt : k < xs.length
    · have hb : (fun f => badFct W f) xs[k] = false := by
        have := HN.out
        simp only [List.any_eq_false] at this
        simpa using this _ (List.getElem_mem hlt)
      obtain ⟨b, o, rfl, hbl, hcell⟩ := HC.out (by omega)
      obtain ⟨f0, f1, f2, f3, f4⟩ := hcell k hlt
      have y0 := keep_cell hbw.out f0
      have y1 := keep_cell hbw.out f1
      have y2 := keep_cell hbw.out f2
      have y3 := keep_cell hbw.out f3
      have y4 := keep_cell hbw.out f4
      obtain ⟨f, hfe⟩ : ∃ f, xs[k] = f := ⟨_, rfl⟩
      rw [hfe] at y0 y1 y2 y3 y4
      rw [hfe] at hb
      clear hcell hfe f0 f1 f2 f3 f4
      have HB := Lib.hid hb
      clear hb
      have hki : (k : Int) < (xs.length : Int) := by omega
      go_wp2_with fail
      clear y0 y1 y2 y3 y4
      refine (qc3_any f W bx Aw Af mw cw mf cf _ (keep_cell hbw.out HX0.out) (keep_cell hbw.out HX1.out) (keep_cell hbw.out HX2.out) hW0 hW6).mono ?_
      rintro e w' ⟨rfl, hb1⟩
      rw [HB.out]
      have hbw := Lib.hid (bto hbw.out hb1)
      clear hb1
      go_wp2_with fail
      go_roundw
      case rel => exact ⟨k + 1, by omega, by go_num, hbw⟩
      case measure => first | (simp [intOf]; done) | (simp [intOf]; omega)
    · go_wp2_with fail
      go_ret
      exact ⟨rfl, hbw.out⟩

set_option maxRecDepth 20000 in
set_option maxHeartbeats 2000000 in
theorem qFIx_yes (v : Value) (xs : List QFact) (W : Int) (bx : Nat) (Aw Af : Option Addr) (mw cw mf cf : Nat) (w : World) (hr : Fcts w v xs) (hx0 : w.cell? ⟨bx, 0, none⟩ = some (I W)) (hx1 : w.cell? ⟨bx, 1, none⟩ = some (.slice Aw mw cw)) (hx2 : w.cell? ⟨bx, 2, none⟩ = some (.slice Af mf cf)) (hW0 : 0 ≤ W) (hW6 : W ≤ 1000) (hn : xs.any (fun f => badFct W f) = true) :
    Calls Tryd.prog 108 #[v, .func (.func 88) #[] #[.pointer (some ⟨bx, 0, none⟩)]] w fun e w' => RetNat w e w' := by
  obtain ⟨A, c, rfl, hnc, hcm, hc⟩ := hr.open_
  have HC := Lib.hid hc
  have HN := Lib.hid hn
  have HR := Lib.hid hr
  have HX0 := Lib.hid hx0
  have HX1 := Lib.hid hx1
  have HX2 := Lib.hid hx2
  clear hc hn hr hx0 hx1 hx2
  go_enter Tryd.func108, Tryd.ntmps108
  go_wp2_with fail
  go_loopw [8] (fun i wr => ∃ k : Nat, k ≤ xs.length ∧ i = I k ∧ (xs.drop k).any (fun f => badFct W f) = true ∧ Hid (Below w.heap.size w wr)) (fun i _ => xs.length - (intOf i).toNat)
  case atStart => exact ⟨0, by omega, rfl, HN.out, Lib.hid (Below.refl _ _)⟩
  case round =>
    obtain ⟨k, hk, rfl, hd, hbw⟩ := hrel
    have hlt : k < xs.length := by
      apply Classical.byContradiction
      intro hge
      rw [List.drop_eq_nil_of_le (by omega)] at hd
      simp at hd
    rw [List.drop_eq_getElem_cons hlt, List.any_cons] at hd
    obtain ⟨b, o, rfl, hbl, hcell⟩ := HC.out (by omega)
    obtain ⟨f0, f1, f2, f3, f4⟩ := hcell k hlt
    have y0 := keep_cell hbw.out f0
    have y1 := keep_cell hbw.out f1
    have y2 := keep_cell hbw.out f2
    have y3 := keep_cell hbw.out f3
    have y4 := keep_cell hbw.out f4
    obtain ⟨f, hfe⟩ : ∃ f, xs[k] = f := ⟨_, rfl⟩
    rw [hfe] at y0 y1 y2 y3 y4
    rw [hfe] at hd
    clear hcell hfe f0 f1 f2 f3 f4
    have HD := Lib.hid hd
    clear hd
    have hki : (k : Int) < (xs.length : Int) := by omega
    go_wp2_with fail
    clear y0 y1 y2 y3 y4
    refine (qc3_any f W bx Aw Af mw cw mf cf _ (keep_cell hbw.out HX0.out) (keep_cell hbw.out HX1.out) (keep_cell hbw.out HX2.out) hW0 hW6).mono ?_
    rintro e w' ⟨rfl, hb1⟩
    have hbw := Lib.hid (bto hbw.out hb1)
    clear hb1
    generalize hb : badFct W f = pb
    rw [hb] at HD
    cases pb
    · have HB := Lib.hid hb
      clear hb
      go_wp2_with fail
      go_roundw
      case rel => exact ⟨k + 1, by omega, by go_num, by have := HD.out; simpa using this, hbw⟩
      case measure => first | (simp [intOf]; done) | (simp [intOf]; omega)
    · clear hb HD
      go_wp2_with fail
      go_ret
      exact ⟨k, rfl, hbw.out⟩

set_option maxRecDepth 20000 in
set_option maxHeartbeats 400000 in
theorem qFCon_any (v : Value) (xs : List QFact) (W : Int) (bx : Nat) (Aw Af : Option Addr) (mw cw mf cf : Nat) (w : World) (hr : Fcts w v xs) (hx0 : w.cell? ⟨bx, 0, none⟩ = some (I W)) (hx1 : w.cell? ⟨bx, 1, none⟩ = some (.slice Aw mw cw)) (hx2 : w.cell? ⟨bx, 2, none⟩ = some (.slice Af mf cf)) (hW0 : 0 ≤ W) (hW6 : W ≤ 1000) :
    Calls Tryd.prog 91 #[v, .func (.func 88) #[] #[.pointer (some ⟨bx, 0, none⟩)]] w fun e w' => e = .returned (.bool (xs.any (fun f => badFct W f))) ∧ Below w.heap.size w w' := by
  cases hb : xs.any (fun f => badFct W f)
  · go_enter Tryd.func91, Tryd.ntmps91
    go_wp2_with fail
    refine (qFIx_no v xs W bx Aw Af mw cw mf cf _ hr hx0 hx1 hx2 hW0 hW6 hb).mono ?_
    rintro e w' ⟨rfl, hw⟩
    go_wp2_with fail
    go_ret
    exact ⟨rfl, hw⟩
  · go_enter Tryd.func91, Tryd.ntmps91
    go_wp2_with fail
    refine (qFIx_yes v xs W bx Aw Af mw cw mf cf _ hr hx0 hx1 hx2 hW0 hW6 hb).mono ?_
    rintro e w' ⟨k, rfl, hw⟩
    go_wp2_with fail
    go_ret
    exact ⟨rfl, hw⟩

set_option maxRecDepth 20000 in
set_option maxHeartbeats 400000 in
theorem qFNone_any (v : Value) (xs : List QFact) (W : Int) (bx : Nat) (Aw Af : Option Addr) (mw cw mf cf : Nat) (w : World) (hr : Fcts w v xs) (hx0 : w.cell? ⟨bx, 0, none⟩ = some (I W)) (hx1 : w.cell? ⟨bx, 1, none⟩ = some (.slice Aw mw cw)) (hx2 : w.cell? ⟨bx, 2, none⟩ = some (.slice Af mf cf)) (hW0 : 0 ≤ W) (hW6 : W ≤ 1000) :
    Calls Tryd.prog 61 #[v, .func (.func 88) #[] #[.pointer (some ⟨bx, 0, none⟩)]] w fun e w' => e = .returned (.bool (!xs.any (fun f => badFct W f))) ∧ Below w.heap.size w w' := by
  go_enter Tryd.func61, Tryd.ntmps61
  go_wp2_with fail
  refine (qFCon_any v xs W bx Aw Af mw cw mf cf _ hr hx0 hx1 hx2 hW0 hW6).mono ?_
  rintro e w' ⟨rfl, hw⟩
  go_wp2_with fail
  go_ret
  exact ⟨rfl, hw⟩

def qValid (t : QTown) : Bool := inR t.wells 0 4 && decide (t.wds.length ≤ 6) && !t.wds.any (fun l => badWd t.wells l) && decide (t.fcs.length ≤ 6) && !t.fcs.any (fun f => badFct t.wells f)
def qChk (t : QTown) : Int := if qValid t then 0 else 50
set_option maxRecDepth 20000 in
set_option maxHeartbeats 4000000 in
theorem qCheck_any (v : Value) (t : QTown) (w : World) (hv : QAt w v t) :
    Calls Tryd.prog 60 #[v] w fun e w' => e = .returned (I (qChk t)) ∧ Below w.heap.size w w' := by
  obtain ⟨wv, fv, rfl, hw, hf⟩ := hv
  obtain ⟨A1, c1, rfl, -, -, -⟩ := id hw.open_
  obtain ⟨A2, c2, rfl, -, -, -⟩ := id hf.open_
  have HW := Lib.hid hw
  have HF := Lib.hid hf
  have S := Lib.hid (show St w ((w.alloc (.cells #[I t.wells, .slice A1 t.wds.length c1, .slice A2 t.fcs.length c2] 29)).alloc (.cells #[.func (.func 83) #[] #[.pointer (some ⟨w.heap.size, 0, none⟩)]] 133)) (w.heap.size + 1 + 1) [.box (w.heap.size + 1) [.func (.func 83) #[] #[.pointer (some ⟨w.heap.size, 0, none⟩)]], .box w.heap.size [I t.wells, .slice A1 t.wds.length c1, .slice A2 t.fcs.length c2]] from ((St.init w).alloc [I t.wells, .slice A1 t.wds.length c1, .slice A2 t.fcs.length c2] 29).alloc [.func (.func 83) #[] #[.pointer (some ⟨w.heap.size, 0, none⟩)]] 133)
  clear hw hf
  have q0 := S.out.get 1 0 rfl rfl
  have q1 := S.out.get 1 1 rfl rfl
  have q2 := S.out.get 1 2 rfl rfl
  have r0 := S.out.get 0 0 rfl rfl
  go_enter Tryd.func60, Tryd.ntmps60
  go_wp2_with fail
  refine (qWithin_any _ _ _ _).mono ?_
  rintro e w1 ⟨rfl, hb⟩
  subst hb
  cases h : inR t.wells 0 4
  · have HE := Lib.hid (show qChk t = 50 by unfold qChk qValid; rw [h]; rfl)
    clear h
    go_wp2_with fail
    go_ret
    exact ⟨by rw [HE.out]; rfl, S.out.bel⟩
  · have H1 := Lib.hid h
    have hW0 : 0 ≤ t.wells := by unfold inR at h; simp at h; omega
    have hW6 : t.wells ≤ 1000 := by unfold inR at h; simp at h; omega
    clear h
    by_cases h6 : (6 : Int) < (t.wds.length : Int)
    · have HE := Lib.hid (show qChk t = 50 by unfold qChk qValid; rw [H1.out, decide_eq_false (show ¬ t.wds.length ≤ 6 by omega)]; simp)
      go_wp2_with fail
      go_ret
      exact ⟨by rw [HE.out]; rfl, S.out.bel⟩
    · have H2 := Lib.hid (show decide (t.wds.length ≤ 6) = true by rw [decide_eq_true (by omega)])
      go_wp2_with fail
      clear q0 q1 q2 r0
      refine (qWdNone_any _ t.wds t.wells w.heap.size (w.heap.size + 1) _ (HW.out.below S.out.bel) (S.out.get 1 0 rfl rfl) (S.out.get 0 0 rfl rfl)).mono ?_
      rintro e w2 ⟨rfl, hb⟩
      have S := Lib.hid (S.out.call hb)
      clear hb
      have q0 := S.out.get 1 0 rfl rfl
      have q1 := S.out.get 1 1 rfl rfl
      have q2 := S.out.get 1 2 rfl rfl
      have r0 := S.out.get 0 0 rfl rfl
      cases h3 : t.wds.any (fun l => badWd t.wells l)
      · have H3 := Lib.hid h3
        clear h3
        by_cases h8 : (6 : Int) < (t.fcs.length : Int)
        · have HE := Lib.hid (show qChk t = 50 by unfold qChk qValid; rw [H1.out, H2.out, H3.out, decide_eq_false (show ¬ t.fcs.length ≤ 6 by omega)]; simp)
          go_wp2_with fail
          go_ret
          exact ⟨by rw [HE.out]; rfl, S.out.bel⟩
        · have H4 := Lib.hid (show decide (t.fcs.length ≤ 6) = true by rw [decide_eq_true (by omega)])
          go_wp2_with fail
          clear q0 q1 q2 r0
          refine (qFNone_any _ t.fcs t.wells w.heap.size _ _ _ _ _ _ _ (HF.out.below S.out.bel) (S.out.get 1 0 rfl rfl) (S.out.get 1 1 rfl rfl) (S.out.get 1 2 rfl rfl) hW0 hW6).mono ?_
          rintro e w3 ⟨rfl, hb⟩
          have S := Lib.hid (S.out.call hb)
          clear hb
          cases h5 : t.fcs.any (fun f => badFct t.wells f)
          · have HE := Lib.hid (show qChk t = 0 by unfold qChk qValid; rw [H1.out, H2.out, H3.out, H4.out, h5]; rfl)
            clear h5
            go_wp2_with fail
            go_ret
            exact ⟨by rw [HE.out]; rfl, S.out.bel⟩
          · have HE := Lib.hid (show qChk t = 50 by unfold qChk qValid; rw [H1.out, H2.out, H3.out, H4.out, h5]; rfl)
            clear h5
            go_wp2_with fail
            go_ret
            exact ⟨by rw [HE.out]; rfl, S.out.bel⟩
      · have HE := Lib.hid (show qChk t = 50 by unfold qChk qValid; rw [H1.out, H2.out, h3]; rfl)
        clear h3
        go_wp2_with fail
        go_ret
        exact ⟨by rw [HE.out]; rfl, S.out.bel⟩

end Go.Proofs.YtldcehhhndlhdaaDoor

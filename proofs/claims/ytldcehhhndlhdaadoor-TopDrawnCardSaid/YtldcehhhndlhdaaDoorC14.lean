/- One more number behind a slice that has no room: 'append(l[:len(l):len(l)], n)'. No function here; no conditions. -/
import Derived.Test.YtldcehhhndlhdaaDoorC10
import Derived.Test.YtldcehhhndlhdaaDoorC13
import Derived.Test.YtldcehhhndlhdaaDoorC11
import Derived.Shelf.Abstract
namespace Go.Proofs.YtldcehhhndlhdaaDoor
open Go.RowKit Go.Sort

theorem run_append_full {P : Program} (w : World) (t ty e : TypeId) (i : TypeInfo) (z : Value) (bytes : Nat) (ht : P.underlying t = some (.slice e)) (hi : P.info? e = some i) (hz : i.zero = some z)
    (hsize : i.size = 1) (hby : i.bytes = bytes) (hzs : z.cells.size = 1) (A : Option Addr) (n : Nat) (xs : List Value) (hr : Reads w 1 (.slice A n n) n xs) (hnil : A = none → n = 0)
    (sv : Value) (u : Value) (hs : Reads w 1 sv 1 [u]) (h1 : u.oneCell' = true) (h63 : n + 1 ≤ maxLen) (hbytes : (n + 1) * bytes ≤ 140737488355328) :
    ∃ v' w', (Builtin.append_ #[t, t] ty #[.slice A n n, sv]).run P w = .ok v' w' ∧ w'.ownsRow w.heap.size e 1 v' (n + 1) (xs ++ [u]) ∧ Below w.heap.size w w' := by
  cases A with
  | none =>
    obtain rfl := hnil rfl
    have hx : xs = [] := List.eq_nil_of_length_eq_zero (by simpa using hr.1)
    subst hx
    obtain ⟨v', w', h, h2, h3, h4⟩ := run_append_src (P := P) w w.heap.size t ty e i z 1 bytes ht hi hz hsize hby hzs (by omega) (.slice none 0 0) 0 [] (World.ownsRow_nil _ _ _ _) sv 1 [u] hs (fun x hx => by rw [List.mem_singleton.1 hx]; exact h1) (by omega) (by omega) (Nat.le_refl _)
    exact ⟨v', w', h, by simpa using h2, ⟨h3.os, h3.tape, h3.output, h3.size, fun k hk => h3.block k hk (by simp [Value.ownBlock])⟩⟩
  | some ad =>
    obtain ⟨hl, _, _, e, _, _, hc⟩ := hr
    injection e with e1 e2 e3
    subst e1
    obtain ⟨sl, B, c, rfl, _, _, hn⟩ := hs
    obtain ⟨b, o, rfl, hcn⟩ := hn (by omega)
    subst hby
    have hsmall : n + 1 ≤ 9223372036854775807 := by simp only [maxLen] at h63; omega
    have hold : ∀ j v, xs[j]? = some v → w.cell? (ad.add j) = some v := by
      intro j v hv
      rcases Nat.eq_zero_or_pos n with h0 | h0
      · subst h0
        have hx : xs = [] := List.eq_nil_of_length_eq_zero (by simpa using hl)
        subst hx
        simp at hv
      · obtain ⟨b', o', h, hc'⟩ := hc h0
        injection h with h
        subst h
        rw [add_plain]
        exact hc' j v hv
    have hrun := run_append_grow (P := P) w t ty e i z ht hi hz ad n n xs (by rw [hl, hsize]) hold ⟨b, o, none⟩ 1 c [u] (by simp [hsize]) (fun j v hv => by rw [add_plain]; exact hcn j v hv) (by omega) (by omega) (growslice_fits (by omega) hbytes)
    have hge := grownCap_ge w (n + 1) n e
    have hcm : grownCap w (n + 1) n e ≤ maxLen := grownCap_le_maxLen w (n + 1) n e h63
    have hl' : xs.length = n := by simpa using hl
    refine ⟨_, _, hrun, ⟨by simp [hl'], .inr ⟨w.heap.size, _, _, rfl, Nat.le_refl _, heap_alloc_new w.drew _, hge, hcm, ?_, ?_⟩⟩, ⟨rfl, rfl, rfl, by simp, fun k hk => Below.heap_alloc w.drew _ k hk⟩⟩
    · simp only [Array.size_append, List.size_toArray, size_zeroCells, hzs, hl', List.length_singleton, Nat.mul_one]
      omega
    · simp only [Array.toList_append, Nat.mul_one]
      have : n + 1 = (xs ++ [u]).length := by simp [hl']
      rw [this]
      exact List.take_left
theorem wp_append_full {P : Program} (w : World) {o : Oper} {a : Act} {K : Act → World → Prop} {Q : Exit → Act → World → Prop} (s x : Operand) (t : TypeId)
    (ho : o.op = .call { callee := .builtin .append, args := #[s, x], argTypes := #[t, t] })
    (e : TypeId) (i : TypeInfo) (z : Value) (bytes : Nat) (ht : P.underlying t = some (.slice e)) (hi : P.info? e = some i) (hz : i.zero = some z)
    (hsize : i.size = 1) (hby : i.bytes = bytes) (hzs : z.cells.size = 1) (A : Option Addr) (n : Nat) (xs : List Value) (hse : a.eval s = .slice A n n) (hr : Reads w 1 (.slice A n n) n xs) (hnil : A = none → n = 0)
    (sv : Value) (u : Value) (hx : a.eval x = sv) (hs : Reads w 1 sv 1 [u]) (h1 : u.oneCell' = true) (h63 : n + 1 ≤ maxLen) (hbytes : (n + 1) * bytes ≤ 140737488355328)
    (h : ∀ v' w', w'.ownsRow w.heap.size e 1 v' (n + 1) (xs ++ [u]) → Below w.heap.size w w' → K (a.put o.dst v') w') : o.wp P a w K Q := by
  obtain ⟨v', w', hrun, h2, h3⟩ := run_append_full (P := P) w t o.type e i z bytes ht hi hz hsize hby hzs A n xs hr hnil sv u hs h1 h63 hbytes
  unfold Oper.wp execOp
  simp only [ho, resolve, invoke, builtin, Sem.run_bind, Sem.run_pure, Result.andThen_ok, List.map_toArray, List.map_cons, List.map_nil, hse, hx, hrun]
  exact h v' w' h2 h3
theorem run_store_func (P : Program) (w : World) (a : Addr) (m : Mode) (fn : Fn) (first caps : Array Value) : (store a (.func fn first caps) m).run P w = stored P w a (.func fn first caps) m := run_store P w a _ m rfl
/-- What is cells lies as it lay. -/
structure KpC (W W' : World) : Prop where
  size : W.heap.size ≤ W'.heap.size
  same : ∀ (k : Nat) (o : Obj), W.heap[k]? = some o → o.isCells = true → W'.heap[k]? = some o
theorem KpC.refl (W : World) : KpC W W := ⟨Nat.le_refl _, fun _ _ h _ => h⟩
theorem KpC.trans {A B C : World} (h : KpC A B) (k : KpC B C) : KpC A C := ⟨Nat.le_trans h.size k.size, fun i o hi ho => k.same i o (h.same i o hi ho) ho⟩
theorem KpC.below {W W' : World} (h : Below W.heap.size W W') : KpC W W' := ⟨h.size, fun k _ hk _ => (h.block k (Array.getElem?_eq_some_iff.1 hk).1).trans hk⟩
theorem KpC.putObj (W : World) (l : Nat) : ∀ (o o' : Obj), W.heap[l]? = some o → o.isCells = false → KpC W (W.putObj l o') := fun o _ hl ho =>
  ⟨by simp, fun k x hk hx => (World.putObj_heap_other (by rintro rfl; rw [hl] at hk; cases hk; rw [ho] at hx; cases hx)).trans hk⟩
theorem KpC.cell {W W' : World} (h : KpC W W') {a : Addr} {v : Value} (hc : W.cell? a = some v) : W'.cell? a = some v := by
  obtain ⟨o, ho, hcs⟩ := cells_of_cell hc
  exact (World.cell?_of_block ((h.same _ _ ho hcs).trans ho.symm)).trans hc
theorem KpC.reads {W W' : World} (h : KpC W W') {size n : Nat} {v : Value} {xs : List Value} (hr : Reads W size v n xs) : Reads W' size v n xs := by
  obtain ⟨h1, A, c, h2, h3, h4, h5⟩ := hr
  refine ⟨h1, A, c, h2, h3, h4, fun hn => ?_⟩
  obtain ⟨b, o, rfl, hc⟩ := h5 hn
  exact ⟨b, o, rfl, fun j u hu => h.cell (hc j u hu)⟩
end Go.Proofs.YtldcehhhndlhdaaDoor
/- Layer 1: all lists of so many numbers below a number, ascending. No program here. -/
namespace Go.Proofs.YtldcehhhndlhdaaDoor
def nextN (l : List Nat) : Nat := match l.getLast? with | none => 0 | some x => x + 1
/-- The lists that begin with one, and have so many numbers more. -/
def listsD (below : Nat) : Nat → List Nat → List (List Nat)
  | 0, l => [l]
  | d + 1, l => (List.range' (nextN l) (below - nextN l)).flatMap fun n => listsD below d (l ++ [n])
/-- The same, of the first k numbers that may come next. -/
def listsK (below d : Nat) (l : List Nat) (k : Nat) : List (List Nat) := (List.range' (nextN l) k).flatMap fun n => listsD below d (l ++ [n])
theorem listsK_all (below d : Nat) (l : List Nat) : listsK below d l (below - nextN l) = listsD below (d + 1) l := rfl
theorem listsK_succ (below d : Nat) (l : List Nat) (k : Nat) : listsK below d l (k + 1) = listsK below d l k ++ listsD below d (l ++ [nextN l + k]) := by
  unfold listsK
  rw [List.range'_concat, List.flatMap_append]
  simp
theorem listsK_prefix (below d : Nat) (l : List Nat) (k : Nat) (h : k ≤ below - nextN l) : listsK below d l k <+: listsD below (d + 1) l := by
  rw [← listsK_all]
  unfold listsK
  obtain ⟨m, hm⟩ : ∃ m, below - nextN l = k + m := ⟨below - nextN l - k, by omega⟩
  rw [hm, ← List.range'_append_1, List.flatMap_append]
  exact List.prefix_append _ _
theorem listsD_len {below : Nat} : ∀ (d : Nat) (l x : List Nat), x ∈ listsD below d l → x.length = l.length + d
  | 0, l, x, h => by
    have : x = l := by simpa [listsD] using h
    rw [this]; rfl
  | d + 1, l, x, h => by
    obtain ⟨n, _, hx⟩ := List.mem_flatMap.1 h
    have := listsD_len d (l ++ [n]) x hx
    simp at this
    omega
theorem nextN_snoc (l : List Nat) (x : Nat) : nextN (l ++ [x]) = x + 1 := by simp [nextN]
end Go.Proofs.YtldcehhhndlhdaaDoor
/- The iterator over the lists of words: its contract. -/
namespace Go.Proofs.YtldcehhhndlhdaaDoor
open Go.RowKit Go.Sort Go.Shelf
attribute [local go_sem] Oper.semAt_some

theorem yield_any {m m' l : Nat} {args : Array Value} {W : World} {R : Ending → World → Prop} (h : YieldAt Fence.wide m Tryd.prog l args W R) : YieldAt Fence.wide m' Tryd.prog l args W R := by
  obtain ⟨fn, tmps, assign, body, hy, hR⟩ := h
  exact ⟨fn, tmps, assign, body, hy, hR.1, fun c cs _ => hR.2 c cs (room_wide _)⟩
/-- A list that is yielded: its value, and its numbers. -/
abbrev YL := Value × List Nat
def encY (x : YL) : Array Value := #[x.1]
/-- What is so of each list, when it is yielded. -/
structure RY (all : List (List Nat)) (pre : List YL) (x : YL) (W : World) : Prop where
  reads : Ints W x.1 (ofN x.2)
  pre : (pre.map Prod.snd ++ [x.2]) <+: all
/-- How the recursive function ends. -/
def FromPost (J Jx : List YL → World → Prop) (pre : List YL) (new : List (List Nat)) (w : World) (e : Ending) (w' : World) : Prop :=
  (e = .returned (.bool true) ∧ ∃ q : List YL, q.map Prod.snd = new ∧ J (pre ++ q) w' ∧ KpC w w') ∨ (e = .returned (.bool false) ∧ ∃ q : List YL, Jx q w')
theorem ofN_snoc (l : List Nat) (x : Nat) : ofN (l ++ [x]) = ofN l ++ [(x : Int)] := by simp [ofN]
theorem ofN_len (l : List Nat) : (ofN l).length = l.length := by simp [ofN]

theorem reads_full {w : World} {A : Option Addr} {m c : Nat} {xs : List Value} (h : Reads w 1 (.slice A m c) m xs) : Reads w 1 (.slice A m m) m xs := by
  obtain ⟨h1, A', c', e, h2, h3, h4⟩ := h
  injection e with e1 e2 e3
  subst e1
  exact ⟨h1, A, m, rfl, Nat.le_refl _, by omega, h4⟩

end Go.Proofs.YtldcehhhndlhdaaDoor
/- The iterator over the lists of words: its contract. -/
namespace Go.Proofs.YtldcehhhndlhdaaDoor
open Go.RowKit Go.Sort Go.Shelf
attribute [local go_sem] Oper.semAt_some run_store_func

end Go.Proofs.YtldcehhhndlhdaaDoor
/- A range over a function within a loop: the marks that each of them leaves among the deferred calls. No function here; no conditions. -/
namespace Go.Proofs.YtldcehhhndlhdaaDoor
open Go.RowKit Go.Sort

/-- The mark that a loop leaves, and its block as a thing of the call's own. -/
def markD (D : Nat) : Deferred := { target := .collected D, args := #[] }
def markI (D : Nat) : Item := .any D (fun o => o = .deferred (some []))
section
variable {w0 w w' : World} {n : Nat} {L : List Item}
theorem St.other2 (h : St w0 w n L) {row : Option Nat} {B : Nat} (hg : w.grownBy w' row) (hr : ∀ r, row = some r → B ≤ r ∧ ∃ o : Obj, w.heap[r]? = some o ∧ o.isCells = false) (hB : w0.heap.size ≤ B) (hL : ∀ x ∈ L, x.cel ∨ ∀ b, x.blk = some b → b < B) : St w0 w' w'.heap.size L := by
  refine ⟨rfl, h.bel.trans ⟨hg.os, hg.tape, hg.output, hg.size, fun k hk => hg.block k (by have := h.bel.size; omega) (fun e => ?_)⟩, fun x hx => ?_, h.apart⟩
  · have := (hr k e.symm).1
    omega
  · have hok := h.ok x hx
    refine hok.same fun b hb => hg.block b (hok.lt hb).2 (fun e => ?_)
    obtain ⟨hBb, o, ho, hc⟩ := hr b e.symm
    rcases hL x hx with h' | h'
    · rw [hok.cells h' hb ho] at hc
      cases hc
    · have := h' b hb
      omega
theorem St.mark (h : St w0 w n L) {D : Nat} (hD : w0.heap.size ≤ D) (hk : w.heap[D]? = some (.deferred (some []))) (hne : ∀ x ∈ L, ∀ b, x.blk = some b → b ≠ D) : St w0 w n (markI D :: L) := by
  refine ⟨h.size, h.bel, fun x hx => ?_, ?_⟩
  · rcases List.mem_cons.1 hx with hx | hx
    · rw [hx]; exact ⟨hD, _, hk, rfl⟩
    · exact h.ok x hx
  · have e0 : (markI D).blk = some D := rfl
    rw [List.filterMap_cons, e0]
    refine List.nodup_cons.2 ⟨fun hm => ?_, h.apart⟩
    obtain ⟨x, hx, hb⟩ := List.mem_filterMap.1 hm
    exact hne x hx D hb rfl
/-- The marks are taken up, one behind the other; what is said in T stays. -/
theorem leaves_marks {F : Fence} {m : Nat} {P : Program} {fn : Func} {tmps : Array Value} {R : Ending → World → Prop} (F1 : List Item) (hF : ∀ x ∈ F1, x.cel) :
    ∀ (Ds : List Nat) (w : World), St w0 w w.heap.size (F1 ++ Ds.map markI) → (∀ w', St w0 w' w'.heap.size F1 → LeavesInM F m P fn tmps R [] .returning w') → LeavesInM F m P fn tmps R (Ds.map markD) .returning w
  | [], w, h, hR => hR w (by simpa using h)
  | D :: Ds, w, h, hR => by
    have hm : markI D ∈ F1 ++ (D :: Ds).map markI := List.mem_append_right _ (by simp)
    obtain ⟨hD, o, hk, rfl⟩ := h.ok _ hm
    refine ⟨by simp, .inl ⟨D, _, rfl, run_takeDeferred hk, ?_⟩⟩
    refine leaves_marks F1 hF Ds _ ?_ hR
    have h2 : St w0 w w.heap.size (markI D :: (F1 ++ Ds.map markI)) := h.perm (by
      rw [List.map_cons]
      exact List.perm_middle)
    have h3 := h2.apart
    have e0 : (markI D).blk = some D := rfl
    rw [List.filterMap_cons, e0] at h3
    have hnd := (List.nodup_cons.1 h3).1
    have hg := grownBy_putObj' w D (.deferred none)
    refine ⟨rfl, ?_, fun x hx => ?_, (List.nodup_cons.1 h3).2⟩
    · exact h.bel.trans ⟨hg.os, hg.tape, hg.output, hg.size, fun k hk' => hg.block k (by have := h.bel.size; omega) (fun e => by injection e with e; omega)⟩
    · have hok := h2.ok x (List.mem_cons_of_mem _ hx)
      refine hok.same fun b hb => hg.block b (hok.lt hb).2 (fun e => ?_)
      injection e with e
      subst e
      exact hnd (List.mem_filterMap.2 ⟨x, hx, hb⟩)
end
end Go.Proofs.YtldcehhhndlhdaaDoor
/- Walks: Clash. -/
namespace Go.Proofs.YtldcehhhndlhdaaDoor
open Go.RowKit Go.Sort Go.Shelf
attribute [local go_sem] Oper.semAt_some run_store_func

def badW (t : Twn) (l : List Nat) : Bool := !diagOk (closeM (baseM (sub t (hasW l))))
/-- The first list of words, of fewer than k, that leaves no truth. -/
def clashTo (t : Twn) (M : Nat) : Nat → Option (List Nat)
  | 0 => none
  | k + 1 => match clashTo t M k with | some l => some l | none => (listsD M k []).find? (badW t)
def clashP (t : Twn) : List Nat × Int := if valid t = true then (if diagOk (closeM (baseM t)) = true then ([], 3) else match clashTo t (t.snd.length + t.slp.length) (t.snd.length + t.slp.length + 1) with | some l => (l, 0) | none => ([], 3)) else ([], 10)
/-- A reading of cells stays, when what is no cells turns. -/
theorem ints_kept {W W' : World} {row : Option Nat} {v : Value} {xs : List Int} (h : Ints W v xs) (hg : W.grownBy W' row) (hr : ∀ r, row = some r → ∃ o : Obj, W.heap[r]? = some o ∧ o.isCells = false) : Ints W' v xs := by
  obtain ⟨h1, A, c, h2, h3, h4, h5⟩ := h
  refine ⟨h1, A, c, h2, h3, h4, fun hn => ?_⟩
  obtain ⟨b, o, rfl, hc⟩ := h5 hn
  exact ⟨b, o, rfl, fun j u hu => cell_kept (hc j u hu) hg hr⟩
theorem find_prefix {p : List Nat → Bool} {pre : List (List Nat)} {x : List Nat} {all : List (List Nat)} (h : pre ++ [x] <+: all) (h1 : ∀ y ∈ pre, p y = false) (h2 : p x = true) : all.find? p = some x := by
  obtain ⟨r, rfl⟩ := h
  rw [List.append_assoc, List.find?_append, List.find?_eq_none.2 (fun y hy => by rw [h1 y hy]; simp)]
  simp [h2]
theorem clashTo_some {t : Twn} {M k : Nat} {l : List Nat} (h : clashTo t M k = some l) : ∀ d, clashTo t M (k + d) = some l
  | 0 => h
  | d + 1 => by rw [show k + (d + 1) = (k + d) + 1 from rfl, clashTo, clashTo_some h d]

end Go.Proofs.YtldcehhhndlhdaaDoor
/- Walks: the recursive function of Why. -/
namespace Go.Proofs.YtldcehhhndlhdaaDoor
open Go.RowKit Go.Sort Go.Shelf
attribute [local go_sem] run_store_func

def lastW (l : List Nat) : Nat := match l.getLast? with | none => 6 | some x => x
/-- The first list of so many wells more that is asked for: 'step' at one more well. -/
def findW (own bs : List Int) (N well : Nat) : Nat → List Nat → Int → Option (List Nat)
  | 0, l, sum => if lastW l = well ∧ sum = at_ bs 6 well then some l else none
  | d + 1, l, sum => (List.range N).findSome? fun w => if w ∈ l ∨ at_ own (lastW l) w = 1048576 then none else findW own bs N well d (l ++ [w]) (sum + at_ own (lastW l) w)
/-- The same, of the first k wells. -/
def findK (own bs : List Int) (N well d : Nat) (l : List Nat) (sum : Int) (k : Nat) : Option (List Nat) := (List.range k).findSome? fun w => if w ∈ l ∨ at_ own (lastW l) w = 1048576 then none else findW own bs N well d (l ++ [w]) (sum + at_ own (lastW l) w)
theorem findK_succ (own bs : List Int) (N well d : Nat) (l : List Nat) (sum : Int) (k : Nat) (h : findK own bs N well d l sum k = none) :
    findK own bs N well d l sum (k + 1) = if k ∈ l ∨ at_ own (lastW l) k = 1048576 then none else findW own bs N well d (l ++ [k]) (sum + at_ own (lastW l) k) := by
  unfold findK at h ⊢
  rw [List.range_succ, List.findSome?_append, h]
  simp only [List.findSome?_cons, List.findSome?_nil, Option.none_or]
  split <;> simp_all
theorem findSome_range {α : Type} (g : Nat → Option α) {k : Nat} {r : α} (h : (List.range k).findSome? g = some r) : ∀ d, (List.range (k + d)).findSome? g = some r
  | 0 => h
  | d + 1 => by rw [show k + (d + 1) = (k + d) + 1 from rfl, List.range_succ, List.findSome?_append, findSome_range g h d]; rfl
/-- Nothing, or a list in memory. -/
def RetFind (res : Option (List Nat)) (w : World) (e : Ending) (w' : World) : Prop := Below w.heap.size w w' ∧
  ((res = none ∧ e = .returned (.slice none 0 0)) ∨ (∃ r a c, res = some r ∧ e = .returned (.slice (some a) r.length c) ∧ Ints w' (.slice (some a) r.length c) (ofN r)))

end Go.Proofs.YtldcehhhndlhdaaDoor
/- Walks: Why. -/
namespace Go.Proofs.YtldcehhhndlhdaaDoor
open Go.RowKit Go.Sort Go.Shelf
attribute [local go_sem] run_store_func

theorem cut_laterH {p q : Prop} (h1 : Hid p → q) (h2 : p) : q := h1 (Lib.hid h2)
/-- The first list of at most k wells by which the greatest level is known. -/
def whyTo (own bs : List Int) (N well : Nat) (k : Nat) : Option (List Nat) := (List.range k).findSome? fun many => findW own bs N well (many + 1) [] 0
def whyP (t : Twn) (well : Int) : List Nat × Int := if openE t (isWell t.wells well) = 0 then (match whyTo (baseM t) (closeM (baseM t)) t.wells.toNat well.toNat t.wells.toNat with | some l => (l, 0) | none => ([], 3)) else ([], openE t (isWell t.wells well))
theorem whyTo_succ (own bs : List Int) (N well k : Nat) (h : whyTo own bs N well k = none) : whyTo own bs N well (k + 1) = findW own bs N well (k + 1) [] 0 := by
  unfold whyTo at h ⊢
  rw [List.range_succ, List.findSome?_append, h]
  simp

end Go.Proofs.YtldcehhhndlhdaaDoor
/- Walks: Far, ready, works. -/
namespace Go.Proofs.YtldcehhhndlhdaaDoor
open Go.RowKit Go.Sort

theorem ex_level : levelP exT 2 = (⟨20, 25⟩, 0) := by decide +kernel
theorem ex_differ : differP exT 0 2 = (⟨8, 13⟩, 0) := by decide +kernel
theorem ex_low : endsP exT Sp.low = ([10, 13, 20], 0) := by decide +kernel
theorem ex_ask : askP exT = (1, 0) := by decide +kernel
theorem ex_clash : clashP exQ = ([0, 2, 3], 0) := by decide +kernel
theorem ex_why : whyP exT 2 = ([0, 1, 2], 0) := by decide +kernel
def farB (t : Twn) : Bool := hugeB t || ((decide (5 < t.wells) || decide ((8 : Int) < ((t.snd.length + t.slp.length : Nat) : Int))) && valid t)
def readyB (t : Twn) : Bool := !farB t && valid t
theorem hugeB_false {t : Twn} (h : hugeB t = false) : t.snd.length ≤ 40 ∧ t.slp.length ≤ 40 := by simp [hugeB] at h; omega
theorem farB_false {t : Twn} (h : farB t = false) : t.snd.length ≤ 40 ∧ t.slp.length ≤ 40 ∧ (valid t = true → t.wells ≤ 5 ∧ t.snd.length + t.slp.length ≤ 8) := by
  simp only [farB, Bool.or_eq_false_iff, Bool.and_eq_false_iff, decide_eq_false_iff_not] at h
  obtain ⟨h1, h2⟩ := h
  have := hugeB_false h1
  refine ⟨this.1, this.2, fun hv => ?_⟩
  rcases h2 with h2 | h2
  · omega
  · rw [hv] at h2; cases h2
theorem readyB_true {t : Twn} (h : readyB t = true) : valid t = true ∧ t.wells ≤ 5 ∧ t.snd.length + t.slp.length ≤ 8 ∧ t.snd.length ≤ 40 ∧ t.slp.length ≤ 40 := by
  simp only [readyB, Bool.and_eq_true, Bool.not_eq_true'] at h
  have := farB_false h.1
  exact ⟨h.2, (this.2.2 h.2).1, (this.2.2 h.2).2, this.1, this.2.1⟩

set_option maxRecDepth 20000 in
set_option maxHeartbeats 4000000 in
theorem far_any (v : Value) (t : Twn) (w : World) (hv : TwnAt w v t) :
    Calls Tryd.prog 5 #[v] w fun e w' => e = .returned (.bool (farB t)) ∧ Below w.heap.size w w' := by
  obtain ⟨sv, pv, rfl, hs, hp⟩ := hv
  have HSN := Lib.hid hs
  have HSP := Lib.hid hp
  obtain ⟨A1, c1, rfl, -, -, -⟩ := id hs.open_
  obtain ⟨A2, c2, rfl, -, -, -⟩ := id hp.open_
  clear hs hp
  have S := Lib.hid (show St w (w.alloc (.cells #[I t.wells, .slice A1 t.snd.length c1, .slice A2 t.slp.length c2] 25)) (w.heap.size + 1) [.box w.heap.size [I t.wells, .slice A1 t.snd.length c1, .slice A2 t.slp.length c2]] from (St.init w).alloc [I t.wells, .slice A1 t.snd.length c1, .slice A2 t.slp.length c2] 25)
  have q0 := S.out.get 0 0 rfl rfl
  have q1 := S.out.get 0 1 rfl rfl
  have q2 := S.out.get 0 2 rfl rfl
  cases hh : hugeB t
  · have HH := Lib.hid hh
    have hl := hugeB_false hh
    obtain ⟨hl1, hl2⟩ := hl
    by_cases h5 : 5 < t.wells
    · cases hv : valid t
      · have HC := Lib.hid (show chk t = 10 by simp [chk, hv])
        have HE := Lib.hid (show farB t = false by simp [farB, hh, hv])
        clear hv hh
        go_enter Tryd.func5, Tryd.ntmps5
        go_wp2_with fail
        refine (huge_any _ t _ ⟨_, _, rfl, HSN.out.below S.out.bel, HSP.out.below S.out.bel⟩).mono ?_
        rintro e w1 ⟨rfl, hb⟩
        rw [HH.out]
        have S := Lib.hid (S.out.call hb)
        clear hb q0 q1 q2
        have q0 := S.out.get 0 0 rfl rfl
        have q1 := S.out.get 0 1 rfl rfl
        have q2 := S.out.get 0 2 rfl rfl
        go_wp2_with fail
        refine (rCheck_any _ t _ ⟨_, _, rfl, HSN.out.below S.out.bel, HSP.out.below S.out.bel⟩).mono ?_
        rintro e w3 ⟨rfl, hb⟩
        rw [HC.out]
        have S := Lib.hid (S.out.call hb)
        clear hb q0 q1 q2
        go_wp2_with fail
        go_ret
        exact ⟨by rw [HE.out]; try rfl, S.out.bel⟩
      · have HC := Lib.hid (show chk t = 0 by simp [chk, hv])
        have HE := Lib.hid (show farB t = true by simp [farB, h5, hv])
        clear hv hh
        go_enter Tryd.func5, Tryd.ntmps5
        go_wp2_with fail
        refine (huge_any _ t _ ⟨_, _, rfl, HSN.out.below S.out.bel, HSP.out.below S.out.bel⟩).mono ?_
        rintro e w1 ⟨rfl, hb⟩
        rw [HH.out]
        have S := Lib.hid (S.out.call hb)
        clear hb q0 q1 q2
        have q0 := S.out.get 0 0 rfl rfl
        have q1 := S.out.get 0 1 rfl rfl
        have q2 := S.out.get 0 2 rfl rfl
        go_wp2_with fail
        refine (rCheck_any _ t _ ⟨_, _, rfl, HSN.out.below S.out.bel, HSP.out.below S.out.bel⟩).mono ?_
        rintro e w3 ⟨rfl, hb⟩
        rw [HC.out]
        have S := Lib.hid (S.out.call hb)
        clear hb q0 q1 q2
        go_wp2_with fail
        go_ret
        exact ⟨by rw [HE.out]; try rfl, S.out.bel⟩
    · by_cases hm : 8 < t.snd.length + t.slp.length
      · have hm' : (8 : Int) < ((t.snd.length + t.slp.length : Nat) : Int) := by omega
        cases hv : valid t
        · have HC := Lib.hid (show chk t = 10 by simp [chk, hv])
          have HE := Lib.hid (show farB t = false by simp [farB, hh, hv])
          clear hv hh hm
          have hm := hm'
          clear hm'
          go_enter Tryd.func5, Tryd.ntmps5
          go_wp2_with fail
          refine (huge_any _ t _ ⟨_, _, rfl, HSN.out.below S.out.bel, HSP.out.below S.out.bel⟩).mono ?_
          rintro e w1 ⟨rfl, hb⟩
          rw [HH.out]
          have S := Lib.hid (S.out.call hb)
          clear hb q0 q1 q2
          have q0 := S.out.get 0 0 rfl rfl
          have q1 := S.out.get 0 1 rfl rfl
          have q2 := S.out.get 0 2 rfl rfl
          go_wp2_with fail
          refine (many_any _ t _ ⟨_, _, rfl, HSN.out.below S.out.bel, HSP.out.below S.out.bel⟩ (by omega) (by omega)).mono ?_
          rintro e w2 ⟨rfl, hb⟩
          have S := Lib.hid (S.out.call hb)
          clear hb q0 q1 q2
          obtain ⟨M, hM⟩ : ∃ M, t.snd.length + t.slp.length = M := ⟨_, rfl⟩
          rw [hM] at hm ⊢
          clear hM
          have q0 := S.out.get 0 0 rfl rfl
          have q1 := S.out.get 0 1 rfl rfl
          have q2 := S.out.get 0 2 rfl rfl
          go_wp2_with fail
          refine (rCheck_any _ t _ ⟨_, _, rfl, HSN.out.below S.out.bel, HSP.out.below S.out.bel⟩).mono ?_
          rintro e w3 ⟨rfl, hb⟩
          rw [HC.out]
          have S := Lib.hid (S.out.call hb)
          clear hb q0 q1 q2
          go_wp2_with fail
          go_ret
          exact ⟨by rw [HE.out]; try rfl, S.out.bel⟩
        · have HC := Lib.hid (show chk t = 0 by simp [chk, hv])
          have HE := Lib.hid (show farB t = true by simp only [farB, hv, decide_eq_true hm', Bool.or_true, Bool.and_true])
          clear hv hh hm
          have hm := hm'
          clear hm'
          go_enter Tryd.func5, Tryd.ntmps5
          go_wp2_with fail
          refine (huge_any _ t _ ⟨_, _, rfl, HSN.out.below S.out.bel, HSP.out.below S.out.bel⟩).mono ?_
          rintro e w1 ⟨rfl, hb⟩
          rw [HH.out]
          have S := Lib.hid (S.out.call hb)
          clear hb q0 q1 q2
          have q0 := S.out.get 0 0 rfl rfl
          have q1 := S.out.get 0 1 rfl rfl
          have q2 := S.out.get 0 2 rfl rfl
          go_wp2_with fail
          refine (many_any _ t _ ⟨_, _, rfl, HSN.out.below S.out.bel, HSP.out.below S.out.bel⟩ (by omega) (by omega)).mono ?_
          rintro e w2 ⟨rfl, hb⟩
          have S := Lib.hid (S.out.call hb)
          clear hb q0 q1 q2
          obtain ⟨M, hM⟩ : ∃ M, t.snd.length + t.slp.length = M := ⟨_, rfl⟩
          rw [hM] at hm ⊢
          clear hM
          have q0 := S.out.get 0 0 rfl rfl
          have q1 := S.out.get 0 1 rfl rfl
          have q2 := S.out.get 0 2 rfl rfl
          go_wp2_with fail
          refine (rCheck_any _ t _ ⟨_, _, rfl, HSN.out.below S.out.bel, HSP.out.below S.out.bel⟩).mono ?_
          rintro e w3 ⟨rfl, hb⟩
          rw [HC.out]
          have S := Lib.hid (S.out.call hb)
          clear hb q0 q1 q2
          go_wp2_with fail
          go_ret
          exact ⟨by rw [HE.out]; try rfl, S.out.bel⟩
      · have hm' : ¬ (8 : Int) < ((t.snd.length + t.slp.length : Nat) : Int) := by omega
        have HE := Lib.hid (show farB t = false by simp only [farB, hh, decide_eq_false hm', decide_eq_false h5, Bool.or_false, Bool.false_and])
        clear hh hm
        have hm := hm'
        clear hm'
        go_enter Tryd.func5, Tryd.ntmps5
        go_wp2_with fail
        refine (huge_any _ t _ ⟨_, _, rfl, HSN.out.below S.out.bel, HSP.out.below S.out.bel⟩).mono ?_
        rintro e w1 ⟨rfl, hb⟩
        rw [HH.out]
        have S := Lib.hid (S.out.call hb)
        clear hb q0 q1 q2
        have q0 := S.out.get 0 0 rfl rfl
        have q1 := S.out.get 0 1 rfl rfl
        have q2 := S.out.get 0 2 rfl rfl
        go_wp2_with fail
        refine (many_any _ t _ ⟨_, _, rfl, HSN.out.below S.out.bel, HSP.out.below S.out.bel⟩ (by omega) (by omega)).mono ?_
        rintro e w2 ⟨rfl, hb⟩
        have S := Lib.hid (S.out.call hb)
        clear hb q0 q1 q2
        obtain ⟨M, hM⟩ : ∃ M, t.snd.length + t.slp.length = M := ⟨_, rfl⟩
        rw [hM] at hm ⊢
        clear hM
        have q0 := S.out.get 0 0 rfl rfl
        have q1 := S.out.get 0 1 rfl rfl
        have q2 := S.out.get 0 2 rfl rfl
        go_wp2_with fail
        go_ret
        exact ⟨by rw [HE.out]; try rfl, S.out.bel⟩
  · have HH := Lib.hid hh
    have HE := Lib.hid (show farB t = true by simp [farB, hh])
    clear hh
    go_enter Tryd.func5, Tryd.ntmps5
    go_wp2_with fail
    refine (huge_any _ t _ ⟨_, _, rfl, HSN.out.below S.out.bel, HSP.out.below S.out.bel⟩).mono ?_
    rintro e w1 ⟨rfl, hb⟩
    rw [HH.out]
    have S := Lib.hid (S.out.call hb)
    clear hb q0 q1 q2
    have q0 := S.out.get 0 0 rfl rfl
    have q1 := S.out.get 0 1 rfl rfl
    have q2 := S.out.get 0 2 rfl rfl
    go_wp2_with fail
    go_ret
    exact ⟨by rw [HE.out]; try rfl, S.out.bel⟩

end Go.Proofs.YtldcehhhndlhdaaDoor

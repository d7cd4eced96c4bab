/- One more number behind a slice that has no room: 'append(l[:len(l):len(l)], n)'. No function here; no conditions. -/
import Derived.Test.YtplbaijdnpfdgaaRange2
namespace Go.Proofs.Ytplbaijdnpfdgaa
open Go.RowKit Go.Sort

theorem run_append_full {P : Program} (w : World) (t ty e : TypeId) (i : TypeInfo) (z : Value) (bytes : Nat) (ht : P.underlying t = some (.slice e)) (hi : P.info? e = some i) (hz : i.zero = some z)
    (hsize : i.size = 1) (hby : i.bytes = bytes) (hzs : z.cells.size = 1) (A : Option Addr) (n : Nat) (xs : List Value) (hr : Reads w 1 (.slice A n n) n xs) (hnil : A = none → n = 0)
    (sv : Value) (u : Value) (hs : Reads w 1 sv 1 [u]) (h1 : u.oneCell' = true) (h63 : n + 1 ≤ maxLen) (hbytes : (n + 1) * bytes ≤ 140737488355328) :
    ∃ v' w', (Builtin.append_ #[t, t] ty #[.slice A n n, sv]).run P w = .ok v' w' ∧ w'.ownsRow w.heap.size e 1 v' (n + 1) (xs ++ [u]) ∧ Below w.heap.size w w' := by
  cases A with
  | none =>
    obtain rfl := hnil rfl
    have hx : xs = [] := List.eq_nil_of_length_eq_zero (by simpa using hr.1)
    subst hx
    obtain ⟨v', w', h, h2, h3, h4⟩ := run_append_src (P := P) w w.heap.size t ty e i z 1 bytes ht hi hz hsize hby hzs (by omega) (.slice none 0 0) 0 [] (World.ownsRow_nil _ _ _ _) sv 1 [u] hs (fun x hx => by rw [List.mem_singleton.1 hx]; exact h1) (by omega) (by omega) (Nat.le_refl _)
    exact ⟨v', w', h, by simpa using h2, ⟨h3.os, h3.tape, h3.output, h3.size, fun k hk => h3.block k hk (by simp [Value.ownBlock])⟩⟩
  | some ad =>
    obtain ⟨hl, _, _, e, _, _, hc⟩ := hr
    injection e with e1 e2 e3
    subst e1
    obtain ⟨sl, B, c, rfl, _, _, hn⟩ := hs
    obtain ⟨b, o, rfl, hcn⟩ := hn (by omega)
    subst hby
    have hsmall : n + 1 ≤ 9223372036854775807 := by simp only [maxLen] at h63; omega
    have hold : ∀ j v, xs[j]? = some v → w.cell? (ad.add j) = some v := by
      intro j v hv
      rcases Nat.eq_zero_or_pos n with h0 | h0
      · subst h0
        have hx : xs = [] := List.eq_nil_of_length_eq_zero (by simpa using hl)
        subst hx
        simp at hv
      · obtain ⟨b', o', h, hc'⟩ := hc h0
        injection h with h
        subst h
        rw [add_plain]
        exact hc' j v hv
    have hrun := run_append_grow (P := P) w t ty e i z ht hi hz ad n n xs (by rw [hl, hsize]) hold ⟨b, o, none⟩ 1 c [u] (by simp [hsize]) (fun j v hv => by rw [add_plain]; exact hcn j v hv) (by omega) (by omega) (growslice_fits (by omega) hbytes)
    have hge := grownCap_ge w (n + 1) n e
    have hcm : grownCap w (n + 1) n e ≤ maxLen := grownCap_le_maxLen w (n + 1) n e h63
    have hl' : xs.length = n := by simpa using hl
    refine ⟨_, _, hrun, ⟨by simp [hl'], .inr ⟨w.heap.size, _, _, rfl, Nat.le_refl _, heap_alloc_new w.drew _, hge, hcm, ?_, ?_⟩⟩, ⟨rfl, rfl, rfl, by simp, fun k hk => Below.heap_alloc w.drew _ k hk⟩⟩
    · simp only [Array.size_append, List.size_toArray, size_zeroCells, hzs, hl', List.length_singleton, Nat.mul_one]
      omega
    · simp only [Array.toList_append, Nat.mul_one]
      have : n + 1 = (xs ++ [u]).length := by simp [hl']
      rw [this]
      exact List.take_left
theorem wp_append_full {P : Program} (w : World) {o : Oper} {a : Act} {K : Act → World → Prop} {Q : Exit → Act → World → Prop} (s x : Operand) (t : TypeId)
    (ho : o.op = .call { callee := .builtin .append, args := #[s, x], argTypes := #[t, t] })
    (e : TypeId) (i : TypeInfo) (z : Value) (bytes : Nat) (ht : P.underlying t = some (.slice e)) (hi : P.info? e = some i) (hz : i.zero = some z)
    (hsize : i.size = 1) (hby : i.bytes = bytes) (hzs : z.cells.size = 1) (A : Option Addr) (n : Nat) (xs : List Value) (hse : a.eval s = .slice A n n) (hr : Reads w 1 (.slice A n n) n xs) (hnil : A = none → n = 0)
    (sv : Value) (u : Value) (hx : a.eval x = sv) (hs : Reads w 1 sv 1 [u]) (h1 : u.oneCell' = true) (h63 : n + 1 ≤ maxLen) (hbytes : (n + 1) * bytes ≤ 140737488355328)
    (h : ∀ v' w', w'.ownsRow w.heap.size e 1 v' (n + 1) (xs ++ [u]) → Below w.heap.size w w' → K (a.put o.dst v') w') : o.wp P a w K Q := by
  obtain ⟨v', w', hrun, h2, h3⟩ := run_append_full (P := P) w t o.type e i z bytes ht hi hz hsize hby hzs A n xs hr hnil sv u hs h1 h63 hbytes
  unfold Oper.wp execOp
  simp only [ho, resolve, invoke, builtin, Sem.run_bind, Sem.run_pure, Result.andThen_ok, List.map_toArray, List.map_cons, List.map_nil, hse, hx, hrun]
  exact h v' w' h2 h3
theorem run_store_func (P : Program) (w : World) (a : Addr) (m : Mode) (fn : Fn) (first caps : Array Value) : (store a (.func fn first caps) m).run P w = stored P w a (.func fn first caps) m := run_store P w a _ m rfl
/-- What is cells lies as it lay. -/
structure KpC (W W' : World) : Prop where
  size : W.heap.size ≤ W'.heap.size
  same : ∀ (k : Nat) (o : Obj), W.heap[k]? = some o → o.isCells = true → W'.heap[k]? = some o
theorem KpC.refl (W : World) : KpC W W := ⟨Nat.le_refl _, fun _ _ h _ => h⟩
theorem KpC.trans {A B C : World} (h : KpC A B) (k : KpC B C) : KpC A C := ⟨Nat.le_trans h.size k.size, fun i o hi ho => k.same i o (h.same i o hi ho) ho⟩
theorem KpC.below {W W' : World} (h : Below W.heap.size W W') : KpC W W' := ⟨h.size, fun k _ hk _ => (h.block k (Array.getElem?_eq_some_iff.1 hk).1).trans hk⟩
theorem KpC.putObj (W : World) (l : Nat) : ∀ (o o' : Obj), W.heap[l]? = some o → o.isCells = false → KpC W (W.putObj l o') := fun o _ hl ho =>
  ⟨by simp, fun k x hk hx => (World.putObj_heap_other (by rintro rfl; rw [hl] at hk; cases hk; rw [ho] at hx; cases hx)).trans hk⟩
theorem KpC.cell {W W' : World} (h : KpC W W') {a : Addr} {v : Value} (hc : W.cell? a = some v) : W'.cell? a = some v := by
  obtain ⟨o, ho, hcs⟩ := cells_of_cell hc
  exact (World.cell?_of_block ((h.same _ _ ho hcs).trans ho.symm)).trans hc
theorem KpC.reads {W W' : World} (h : KpC W W') {size n : Nat} {v : Value} {xs : List Value} (hr : Reads W size v n xs) : Reads W' size v n xs := by
  obtain ⟨h1, A, c, h2, h3, h4, h5⟩ := hr
  refine ⟨h1, A, c, h2, h3, h4, fun hn => ?_⟩
  obtain ⟨b, o, rfl, hc⟩ := h5 hn
  exact ⟨b, o, rfl, fun j u hu => h.cell (hc j u hu)⟩
end Go.Proofs.Ytplbaijdnpfdgaa

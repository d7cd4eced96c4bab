/- What a call owns while it runs: appends. No function here; no conditions. -/
import Derived.Test.YtplbaijdnpfdgaaSt
namespace Go.Proofs.Ytplbaijdnpfdgaa
open Go.RowKit Go.Sort
section
variable {w0 w w' : World} {n : Nat} {L : List Item}
/-- An append to a row of the call's own, whatever the source. -/
theorem wpList_append_St {P : Program} (S : St w0 w n L) (i : Nat) {ops : Array Oper} {rest : List Oper} {o : Oper} {a : Act} {Q : Exit → Act → World → Prop} (hgd : o.guard = none) (s x : Operand) (t : TypeId)
    (ho : o.op = .call { callee := .builtin .append, args := #[s, x], argTypes := #[t, t] })
    (e : TypeId) (inf : TypeInfo) (z : Value) (size bytes : Nat) (ht : P.underlying t = some (.slice e)) (hinf : P.info? e = some inf) (hz : inf.zero = some z)
    (hsize : inf.size = size) (hby : inf.bytes = bytes) (hzs : z.cells.size = size) (hsz : 0 < size)
    {v : Value} {len : Nat} {xs : List Value} (hi : L[i]? = some (.own e size v len xs)) (hs : a.eval s = v)
    (sv : Value) (m : Nat) (news : List Value) (hx : a.eval x = sv) (hr : Reads w size sv m news) (h1 : ∀ u ∈ news, u.oneCell' = true)
    (h63 : len + m ≤ maxLen) (hbytes : (len + m) * bytes ≤ 140737488355328)
    (h : ∀ v' w', St w0 w' w'.heap.size (L.set i (.own e size v' (len + m) (xs ++ news))) → wpList P ops Q rest (a.put o.dst v') w') : wpList P ops Q (o :: rest) a w :=
  wpList_append_src w hgd s x t ho w0.heap.size e inf z size bytes ht hinf hz hsize hby hzs hsz v len xs hs (S.own i hi) sv m news hx hr h1 h63 hbytes S.bel.size
    fun v' w' hown hg hv => h v' w' (S.grown i hi hown hg hv)
/-- One number in a box that was just made reads as a list of one. -/
theorem reads_box1 {w : World} {b : Nat} {u : Value} (h : w.cell? ⟨b, 0, none⟩ = some u) : Reads w 1 (.slice (some ⟨b, 0, none⟩) 1 1) 1 [u] :=
  ⟨rfl, _, _, rfl, Nat.le_refl _, by omega, fun _ => ⟨b, 0, rfl, fun j v hv => by
    cases j with
    | zero => simp at hv; subst hv; exact h
    | succ j => simp at hv⟩⟩
theorem grown_setRow {w : World} {g : Nat} (cs : Array Value) : w.grownBy (w.setRow g cs) (some g) := ⟨rfl, rfl, rfl, by simp [World.setRow], fun k _ hk => setRow_other w g k cs (fun e => hk (by rw [e]))⟩
/-- A whole box is read. -/
theorem wpList_load_St {P : Program} (S : St w0 w n L) (i : Nat) {ops : Array Oper} {rest : List Oper} {o : Oper} {a : Act} {Q : Exit → Act → World → Prop} (hgd : o.guard = none) (ty : TypeId) (x : Operand) (ho : o.op = .load ty x)
    {b : Nat} {cs : List Value} (hi : L[i]? = some (.box b cs)) (hx : a.eval x = .pointer (some ⟨b, 0, none⟩)) (d : TypeDesc) (hu : P.underlying ty = some d) (hd : (match d with | .struct _ | .array _ _ => true | _ => false) = true)
    (hsz : (P.info? ty).map (·.size) = some cs.length) (h : wpList P ops Q rest (a.put o.dst (.agg cs.toArray)) w) : wpList P ops Q (o :: rest) a w := by
  obtain ⟨T, hT⟩ := S.row? i hi
  exact wpList_load_row hgd ty x ho b hx T cs.toArray (0, 0) d hT hu hd (by simpa using hsz) h
/-- A whole box is written. -/
theorem wpList_store_St {P : Program} (S : St w0 w n L) (i : Nat) {ops : Array Oper} {rest : List Oper} {o : Oper} {a : Act} {Q : Exit → Act → World → Prop} (hgd : o.guard = none) (ty : TypeId) (x y : Operand) (ho : o.op = .store ty x y)
    {b : Nat} {cs : List Value} (hi : L[i]? = some (.box b cs)) (hx : a.eval x = .pointer (some ⟨b, 0, none⟩)) (cells : List Value) (hy : a.eval y = .agg cells.toArray)
    (hsz : (P.info? ty).map (·.size) = some cells.length) (hlen : cs.length = cells.length) (h1 : ∀ v ∈ cells, v.oneCell' = true)
    (h : ∀ w', St w0 w' w'.heap.size (L.set i (.box b cells)) → wpList P ops Q rest (a.put o.dst undef) w') : wpList P ops Q (o :: rest) a w := by
  obtain ⟨T, hT⟩ := S.row? i hi
  refine wpList_store_row hgd ty x y ho b cells.toArray hx hy T cs.toArray hT (by simpa using hsz) (by simpa using hlen) (by rw [Array.all_eq_true_iff_forall_mem]; intro v hv; exact h1 v (by simpa using hv)) (h _ ?_)
  exact S.turn i (.box b cells) hi (grown_setRow _) ⟨S.base i hi, T, setRow_heap _ _ _ _ _ _ hT⟩ (fun _ e => .inl e)
end
end Go.Proofs.Ytplbaijdnpfdgaa

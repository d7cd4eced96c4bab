/- The memo: a map from states to answers, of which it is known that what it holds is true. -/
import Derived.Test.YtokendenofbnhaaW3
import Derived.Maps.Own
namespace Go.Proofs.Ytokendenofbnhaa
open Go.RowKit Go.Sort Go.WideMaps Go.MapKept

/-- A state's value: the next street, and what is left of the room. -/
def stV (k : Int) (left : List Int) : Value := .agg (I k :: left.map I).toArray
def ansV (a : Int × Int) : Value := .agg #[I a.1, I a.2]
def wfI (n : Int) : Bool := (Lit.int .i64 n).wf
theorem wfI_of {n : Int} (h1 : -9223372036854775808 ≤ n) (h2 : n ≤ 9223372036854775807) : wfI n = true := WalkArith.wf_i64 ⟨h1, h2⟩

theorem int_lits (d : Nat) (n : Int) (h : wfI n = true) : Try.prog.keyLits (d + 1) 3 [I n] = some [.int .i64 n] := by
  have h' : (Lit.int .i64 n).wf = true := h
  simp [Program.keyLits, Try.underlying3, h']
theorem arr_lits (d : Nat) (a b c e f g h i : Int) (w0 : wfI a = true) (w1 : wfI b = true) (w2 : wfI c = true) (w3 : wfI e = true) (w4 : wfI f = true) (w5 : wfI g = true) (w6 : wfI h = true) (w7 : wfI i = true) :
    Try.prog.keyLits (d + 2) 94 [I a, I b, I c, I e, I f, I g, I h, I i] = some [.int .i64 a, .int .i64 b, .int .i64 c, .int .i64 e, .int .i64 f, .int .i64 g, .int .i64 h, .int .i64 i] := by
  have hc : Try.prog.cellsOf 94 = 8 := by kernel_rfl
  have h1 : Try.prog.cellsOf 3 = 1 := by kernel_rfl
  unfold Program.keyLits
  simp only [Try.underlying94, hc, h1]
  rw [if_pos (by rfl)]
  simp [List.range, List.range.loop, int_lits d, w0, w1, w2, w3, w4, w5, w6, w7]
theorem key_ok (k a b c e f g h i : Int) (wk : wfI k = true) (w0 : wfI a = true) (w1 : wfI b = true) (w2 : wfI c = true) (w3 : wfI e = true) (w4 : wfI f = true) (w5 : wfI g = true) (w6 : wfI h = true) (w7 : wfI i = true) :
    ∃ l, keyOf Try.prog 96 (stV k [a, b, c, e, f, g, h, i]) = some l := by
  have hc : Try.prog.cellsOf 96 = 9 := by kernel_rfl
  have hc8 : Try.prog.cellsOf 94 = 8 := by kernel_rfl
  have h1 : Try.prog.cellsOf 3 = 1 := by kernel_rfl
  have hkt : Try.prog.keyType 96 = true := by kernel_rfl
  have hfm : (stV k [a, b, c, e, f, g, h, i]).formed Try.prog 96 = true := by
    simp only [stV, Value.formed, Try.underlying96, hc]
    rfl
  obtain ⟨d, hd⟩ : ∃ d, Try.prog.types.size = d + 2 := ⟨Try.prog.types.size - 2, by have : 2 ≤ Try.prog.types.size := of_decide_eq_true (by kernel_rfl); omega⟩
  unfold keyOf
  simp only [Try.underlying96, hkt, hfm, Bool.and_self, if_true, hd]
  unfold Program.keyLits
  simp only [Try.underlying96, hc, stV, Value.cells]
  rw [if_pos ⟨by rfl, by decide +kernel⟩]
  simp [hc8, h1, int_lits, arr_lits, wk, w0, w1, w2, w3, w4, w5, w6, w7]
theorem Try.laidOut' : laidOutB Try.prog = true := by kernel_rfl
theorem stLaw : KeyLaw Try.prog 96 :=
  deep_law_laid Try.laidOut' (m := 5) (by omega) (of_decide_eq_true (by kernel_rfl)) (by kernel_rfl) (by rw [Try.underlying96])

/-- The numbers of a state are small, and there are eight of them. -/
structure StOk (k : Int) (left : List Int) : Prop where
  len : left.length = 8
  k0 : 0 ≤ k
  k1 : k ≤ 100
  lo : ∀ x ∈ left, -100 ≤ x ∧ x ≤ 100
theorem StOk.key {k : Int} {left : List Int} (h : StOk k left) : ∃ l, keyOf Try.prog 96 (stV k left) = some l := by
  obtain ⟨hl, h0, h1, hb⟩ := h
  match left, hl, hb with
  | [a, b, c, d, e, f, g, i], _, hb =>
    have w : ∀ x ∈ [a, b, c, d, e, f, g, i], wfI x = true := fun x hx => by have := hb x hx; exact wfI_of (by omega) (by omega)
    exact key_ok k a b c d e f g i (wfI_of (by omega) (by omega)) (w _ (by simp)) (w _ (by simp)) (w _ (by simp)) (w _ (by simp)) (w _ (by simp)) (w _ (by simp)) (w _ (by simp)) (w _ (by simp))
theorem stV_inj {k k' : Int} {l l' : List Int} (h : stV k l = stV k' l') : k = k' ∧ l = l' := by
  simp only [stV, Value.agg.injEq] at h
  have h := congrArg Array.toList h
  simp only [List.cons.injEq, Value.int.injEq, true_and] at h
  exact ⟨h.1, (List.map_inj_right (f := I) (fun x y hxy => by simpa [I] using hxy)).1 h.2⟩

/-- What a memo may hold: answers of an oracle. -/
def MemoP (orc : Nat → List Int → Int × Int) (o : Obj) : Prop := ∃ es clock, o = .map es clock ∧ ∀ e ∈ es.toList, ∃ (k : Nat) (left : List Int), StOk k left ∧ e.key = stV k left ∧ e.val = ansV (orc k left)
theorem MemoP.new (orc : Nat → List Int → Int × Int) : MemoP orc (.map #[] 0) := ⟨_, _, rfl, by simp⟩

/-- A lookup in a memo: what the oracle says, or nothing. -/
theorem run_lookup_memo {orc : Nat → List Int → Int × Int} {m : Nat} {o : Obj} (hp : MemoP orc o) {k : Nat} {left : List Int} (hk : StOk k left) :
    (∀ w : World, w.heap[m]? = some o → (Instr.lookup 98 (.map (some m)) (stV k left) true).run Try.prog w = .ok (.tuple #[ansV (orc k left), .bool true]) w) ∨
    (∀ w : World, w.heap[m]? = some o → (Instr.lookup 98 (.map (some m)) (stV k left) true).run Try.prog w = .ok (.tuple #[.agg #[I 0, I 0], .bool false]) w) := by
  obtain ⟨es, clock, rfl, hes⟩ := hp
  obtain ⟨l, hl⟩ := hk.key
  have hall : ∀ e ∈ es.toList, ∃ l, keyOf Try.prog 96 e.key = some l := fun e he => by
    obtain ⟨k', left', h1, h2, _⟩ := hes e he
    rw [h2]; exact h1.key
  by_cases hex : ∃ e ∈ es.toList, e.key = stV k left
  · refine .inl fun w hm => ?_
    have hck := stLaw.check w es.isEmpty hl
    rcases stLaw.find w hl es.toList hall with ⟨_, hno⟩ | ⟨j, e, hf, hj, he⟩
    · obtain ⟨e, he, hk⟩ := hex
      exact absurd hk (hno e he)
    · obtain ⟨k', left', h1, h2, h3⟩ := hes e (List.mem_of_getElem? hj)
      rw [h2] at he
      obtain ⟨e1, e2⟩ := stV_inj he
      have e1 : k' = k := by omega
      subst e1 e2
      simp [Instr.lookup, run_underlying Try.underlying98, Go.MapKept.run_getObj_map hm, hck, hf, h3]
  · refine .inr fun w hm => ?_
    have hck := stLaw.check w es.isEmpty hl
    rcases stLaw.find w hl es.toList hall with ⟨hf, _⟩ | ⟨j, e, hf, hj, he⟩
    · simp [Instr.lookup, run_underlying Try.underlying98, Go.MapKept.run_getObj_map hm, hck, hf]
    · exact absurd ⟨e, List.mem_of_getElem? hj, he⟩ hex

/-- A store into a memo of what the oracle says. -/
theorem run_update_memo {w : World} {orc : Nat → List Int → Int × Int} {m : Nat} {o : Obj} (hm : w.heap[m]? = some o) (hp : MemoP orc o) {k : Nat} {left : List Int} (hk : StOk k left) :
    ∃ w' o', (Instr.mapUpdate 98 (.map (some m)) (stV k left) (ansV (orc k left))).run Try.prog w = .ok () w' ∧ w'.heap[m]? = some o' ∧ MemoP orc o' ∧ w.grownBy w' (some m) ∧ w'.heap.size = w.heap.size := by
  obtain ⟨es, clock, rfl, hes⟩ := hp
  obtain ⟨l, hl⟩ := hk.key
  have hck := stLaw.check w false hl
  have hall : ∀ e ∈ es.toList, ∃ l, keyOf Try.prog 96 e.key = some l := fun e he => by
    obtain ⟨k', left', h1, h2, _⟩ := hes e he
    rw [h2]; exact h1.key
  have hlt := lt_of_block hm
  have hset : ∀ o' : Obj, (setObj m o').run Try.prog w = .ok () { w with heap := w.heap.setIfInBounds m o' } := fun o' => Go.MapKept.run_setObj_map o' hm
  have hgrow : ∀ o' : Obj, w.grownBy { w with heap := w.heap.setIfInBounds m o' } (some m) := fun o' => ⟨rfl, rfl, rfl, by simp, fun q _ hq => by
    show (w.heap.setIfInBounds m o')[q]? = _
    rw [Array.getElem?_setIfInBounds_ne (fun e => hq (by rw [e]))]⟩
  have hat : ∀ o' : Obj, (w.heap.setIfInBounds m o')[m]? = some o' := fun o' => by simp [hlt]
  rcases stLaw.find w hl es.toList hall with ⟨hf, _⟩ | ⟨j, e, hf, hj, he⟩
  · refine ⟨_, .map (es.push { key := stV k left, val := ansV (orc k left), born := clock }) (clock + 1), ?_, hat _, ⟨_, _, rfl, fun e he => ?_⟩, hgrow _, by simp⟩
    · simp [Instr.mapUpdate, run_underlying Try.underlying98, Go.MapKept.run_getObj_map hm, hck, hf, hset]
    · rw [Array.toList_push] at he
      rcases List.mem_append.1 he with he | he
      · exact hes e he
      · have := List.mem_singleton.1 he
        subst this
        exact ⟨k, left, hk, rfl, rfl⟩
  · have hst := stLaw.stays w hl
    have hkey : (es[j]?.map (·.key)).getD (stV k left) = stV k left := by
      have : es[j]? = some e := by simpa using hj
      rw [this]; simpa using he
    refine ⟨_, .map (es.modify j fun e => { e with key := stV k left, val := ansV (orc k left) }) clock, ?_, hat _, ⟨_, _, rfl, fun x hx => ?_⟩, hgrow _, by simp⟩
    · simp [Instr.mapUpdate, run_underlying Try.underlying98, Go.MapKept.run_getObj_map hm, hck, hf, hkey, hst, hset]
    · rw [Array.mem_toList_iff, Array.mem_iff_getElem?] at hx
      obtain ⟨i, hi⟩ := hx
      rw [Array.getElem?_modify] at hi
      split at hi
      · cases hei : es[i]? with
        | none => rw [hei] at hi; simp at hi
        | some y =>
          rw [hei] at hi
          simp at hi
          subst hi
          exact ⟨k, left, hk, rfl, rfl⟩
      · exact hes x (by rw [Array.mem_toList_iff]; exact Array.mem_of_getElem? hi)
theorem wpList_update_memo {ops : Array Oper} {rest : List Oper} {o : Oper} {a : Act} {w : World} {Q : Exit → Act → World → Prop} (hg : o.guard = none) (mm x v : Operand) (hop : o.op = Op.mapUpdate 98 mm x v)
    {orc : Nat → List Int → Int × Int} {m : Nat} {ob : Obj} {k : Nat} {left : List Int} (hm : a.eval mm = .map (some m)) (hx : a.eval x = stV k left) (hv : a.eval v = ansV (orc k left)) (ho : w.heap[m]? = some ob) (hp : MemoP orc ob) (hk : StOk k left)
    (hK : ∀ w' ob', w'.heap[m]? = some ob' → MemoP orc ob' → w.grownBy w' (some m) → wpList Try.prog ops Q rest (a.put o.dst undef) w') : wpList Try.prog ops Q (o :: rest) a w := by
  refine wpList_plain hg fun K' hK' => ?_
  obtain ⟨w', ob', hrun, r1, r2, r3, _⟩ := run_update_memo ho hp hk
  unfold Oper.wp
  simp [execOp, hop, hm, hx, hv, hrun, Result.andThen]
  exact hK' _ _ (hK w' ob' r1 r2 r3)
/-- A cell of a state's box: what is left of an hour. -/
theorem st_cell {k : Int} {left : List Int} (h : Nat) (hl : h < left.length) : (I k :: left.map I)[1 + h]? = some (I (at_ left h)) := by
  rw [Nat.add_comm, List.getElem?_cons_succ, List.getElem?_map, List.getElem?_eq_getElem hl]
  simp [at_, List.getD_eq_getElem?_getD, List.getElem?_eq_getElem hl]
end Go.Proofs.Ytokendenofbnhaa

/- What a call owns while it runs: its boxes, its rows, side by side; carried as one fact. No function here; no conditions. -/
import Derived.Test.YtldcehhhndlhdaaGreatDoorC6
import Derived.Test.YtldcehhhndlhdaaGreatDoorC7
namespace Go.Proofs.YtldcehhhndlhdaaGreatDoor
open Go.RowKit Go.Sort

/-- A thing of the call's own: a box of cells; a row (a slice that may be appended to); any block of which something is known. -/
inductive Item where
  | box (b : Nat) (cs : List Value)
  | own (e size : Nat) (v : Value) (n : Nat) (xs : List Value)
  | any (b : Nat) (p : Obj → Prop)
def Item.blk : Item → Option Nat
  | .box b _ => some b
  | .own _ _ v _ _ => v.ownBlock
  | .any b _ => some b
def Item.ok (base : Nat) (w : World) : Item → Prop
  | .box b cs => base ≤ b ∧ ∃ T, w.heap[b]? = some (.cells cs.toArray T (0, 0))
  | .own e size v n xs => w.ownsRow base e size v n xs
  | .any b p => base ≤ b ∧ ∃ o, w.heap[b]? = some o ∧ p o
/-- Since w0 the call has come to w, which has n blocks; of what was there nothing has turned; these things are its own, and lie apart. -/
structure St (w0 w : World) (n : Nat) (L : List Item) : Prop where
  size : w.heap.size = n
  bel : Below w0.heap.size w0 w
  ok : ∀ x ∈ L, x.ok w0.heap.size w
  apart : (L.filterMap Item.blk).Nodup

section
variable {w0 w w' : World} {n : Nat} {L : List Item}
theorem Item.ok.lt {base : Nat} {x : Item} (h : x.ok base w) {b : Nat} (hb : x.blk = some b) : base ≤ b ∧ b < w.heap.size := by
  cases x with
  | box b' cs =>
    obtain ⟨h1, T, h2⟩ := h
    injection hb with hb
    subst hb
    exact ⟨h1, lt_of_block h2⟩
  | own e size v m xs => exact World.ownsRow.lt h b hb
  | any b' p =>
    obtain ⟨h1, o, h2, _⟩ := h
    injection hb with hb
    subst hb
    exact ⟨h1, lt_of_block h2⟩
theorem Item.ok.same {base : Nat} {x : Item} (h : x.ok base w) (hs : ∀ b, x.blk = some b → w'.heap[b]? = w.heap[b]?) : x.ok base w' := by
  cases x with
  | box b' cs =>
    obtain ⟨h1, T, h2⟩ := h
    exact ⟨h1, T, by rw [hs b' rfl]; exact h2⟩
  | own e size v m xs =>
    refine ⟨h.1, h.2.imp id ?_⟩
    rintro ⟨g, cap, cur, rfl, hb, hh, r⟩
    exact ⟨g, cap, cur, rfl, hb, by rw [hs g rfl]; exact hh, r⟩
  | any b' p =>
    obtain ⟨h1, o, h2, h3⟩ := h
    exact ⟨h1, o, by rw [hs b' rfl]; exact h2, h3⟩
theorem St.init (w : World) : St w w w.heap.size [] := ⟨rfl, Below.refl _ _, by simp, by simp⟩
theorem St.call (h : St w0 w n L) (hb : Below w.heap.size w w') : St w0 w' w'.heap.size L :=
  ⟨rfl, bto h.bel hb, fun x hx => (h.ok x hx).same fun b hbl => hb.block b ((h.ok x hx).lt hbl).2, h.apart⟩
theorem St.drew (h : St w0 w n L) : St w0 w.drew n L := ⟨h.size, h.bel.drew, fun x hx => (h.ok x hx).same fun _ _ => rfl, h.apart⟩
theorem St.lt_of (h : St w0 w n L) {b : Nat} (hb : b ∈ L.filterMap Item.blk) : w0.heap.size ≤ b ∧ b < n := by
  obtain ⟨x, hx, hxb⟩ := List.mem_filterMap.1 hb
  have := (h.ok x hx).lt hxb
  rw [h.size] at this
  exact this
theorem St.push (h : St w0 w n L) (o : Obj) (x : Item) (hx : x.ok w0.heap.size (w.alloc o)) (hb : x.blk = some n) : St w0 (w.alloc o) (n + 1) (x :: L) := by
  refine ⟨by rw [World.size_alloc, h.size], h.bel.alloc h.bel.size _, fun y hy => ?_, ?_⟩
  · rcases List.mem_cons.1 hy with hy | hy
    · rw [hy]; exact hx
    · exact (h.ok y hy).same fun b hbl => Below.heap_alloc _ _ _ ((h.ok y hy).lt hbl).2
  · rw [List.filterMap_cons, hb]
    exact List.nodup_cons.2 ⟨fun hm => by have := (h.lt_of hm).2; omega, h.apart⟩
theorem St.alloc (h : St w0 w n L) (cs : List Value) (T : TypeId) : St w0 (w.alloc (.cells cs.toArray T)) (n + 1) (.box n cs :: L) :=
  h.push _ _ ⟨by have := h.bel.size; have := h.size; omega, T, by rw [← h.size]; exact heap_alloc_new w _⟩ rfl
theorem St.allocO (h : St w0 w n L) (o : Obj) (p : Obj → Prop) (hp : p o) : St w0 (w.alloc o) (n + 1) (.any n p :: L) :=
  h.push _ _ ⟨by have := h.bel.size; have := h.size; omega, o, by rw [← h.size]; exact heap_alloc_new w _, hp⟩ rfl
theorem St.alloc' (h : St w0 w n L) (o : Obj) : St w0 (w.alloc o) (n + 1) L :=
  ⟨by rw [World.size_alloc, h.size], h.bel.alloc h.bel.size _, fun y hy => (h.ok y hy).same fun b hbl => Below.heap_alloc _ _ _ ((h.ok y hy).lt hbl).2, h.apart⟩

theorem nodup_fm {α β : Type} (f : α → Option β) : ∀ (l : List α) (i j : Nat) (x y : α) (b : β), (l.filterMap f).Nodup → l[i]? = some x → l[j]? = some y → f x = some b → f y = some b → i = j
  | [], i, _, _, _, _, _, h, _, _, _ => by simp at h
  | z :: l, 0, 0, _, _, _, _, _, _, _, _ => rfl
  | z :: l, 0, j + 1, x, y, b, hn, hx, hy, h1, h2 => by
    simp at hx
    subst hx
    rw [List.filterMap_cons, h1] at hn
    have := (List.nodup_cons.1 hn).1
    exact absurd (List.mem_filterMap.2 ⟨y, List.mem_of_getElem? (by simpa using hy), h2⟩) this
  | z :: l, i + 1, 0, x, y, b, hn, hx, hy, h1, h2 => by
    simp at hy
    subst hy
    rw [List.filterMap_cons, h2] at hn
    have := (List.nodup_cons.1 hn).1
    exact absurd (List.mem_filterMap.2 ⟨x, List.mem_of_getElem? (by simpa using hx), h1⟩) this
  | z :: l, i + 1, j + 1, x, y, b, hn, hx, hy, h1, h2 => by
    have hn' : (l.filterMap f).Nodup := by
      rw [List.filterMap_cons] at hn
      split at hn
      · exact hn
      · exact (List.nodup_cons.1 hn).2
    have := nodup_fm f l i j x y b hn' (by simpa using hx) (by simpa using hy) h1 h2
    omega
theorem nodup_set {α β : Type} (f : α → Option β) (x y : α) (P : β → Prop) (hP : ∀ b, P b → f x = some b ∨ True) : ∀ (l : List α) (i : Nat), (l.filterMap f).Nodup → l[i]? = some x → (∀ b, f y = some b → f x = some b ∨ b ∉ l.filterMap f) → ((l.set i y).filterMap f).Nodup
  | [], _, _, h, _ => by simp at h
  | z :: l, 0, hn, hx, hy => by
    simp at hx
    subst hx
    simp only [List.set_cons_zero]
    have hn' : (l.filterMap f).Nodup := by
      rw [List.filterMap_cons] at hn
      split at hn
      · exact hn
      · exact (List.nodup_cons.1 hn).2
    rw [List.filterMap_cons]
    split
    · exact hn'
    · rename_i b hb
      refine List.nodup_cons.2 ⟨fun hm => ?_, hn'⟩
      rcases hy b hb with h | h
      · rw [List.filterMap_cons, h] at hn
        exact (List.nodup_cons.1 hn).1 hm
      · refine h ?_
        rw [List.filterMap_cons]
        split
        · exact hm
        · exact List.mem_cons_of_mem _ hm
  | z :: l, i + 1, hn, hx, hy => by
    simp only [List.set_cons_succ]
    have hx' : l[i]? = some x := by simpa using hx
    rw [List.filterMap_cons] at hn ⊢
    split at hn
    · rename_i hz
      refine nodup_set f x y P hP l i hn hx' (fun b hb => ?_)
      have := hy b hb
      rw [List.filterMap_cons, hz] at this
      exact this
    · rename_i c hz
      obtain ⟨h1, h2⟩ := List.nodup_cons.1 hn
      refine List.nodup_cons.2 ⟨fun hm => ?_, nodup_set f x y P hP l i h2 hx' (fun b hb => ?_)⟩
      · obtain ⟨u, hu, hub⟩ := List.mem_filterMap.1 hm
        rcases List.mem_or_eq_of_mem_set hu with hu | rfl
        · exact h1 (List.mem_filterMap.2 ⟨u, hu, hub⟩)
        · rcases hy c hub with h | h
          · exact h1 (List.mem_filterMap.2 ⟨x, List.mem_of_getElem? hx', h⟩)
          · exact h (by rw [List.filterMap_cons, hz]; exact List.mem_cons_self ..)
      · rcases hy b hb with h | h
        · exact .inl h
        · refine .inr fun hm => h ?_
          rw [List.filterMap_cons, hz]
          exact List.mem_cons_of_mem _ hm

/-- One thing of the call's own has turned: its block was written, or it lies in a new one. -/
theorem St.turn (h : St w0 w n L) (i : Nat) {x : Item} (y : Item) (hi : L[i]? = some x) (hg : w.grownBy w' x.blk) (hy : y.ok w0.heap.size w') (hb : ∀ b, y.blk = some b → x.blk = some b ∨ n ≤ b) : St w0 w' w'.heap.size (L.set i y) := by
  have hx := h.ok x (List.mem_of_getElem? hi)
  refine ⟨rfl, ?_, fun z hz => ?_, ?_⟩
  · refine h.bel.trans ⟨hg.os, hg.tape, hg.output, hg.size, fun k hk => hg.block k (by have := h.bel.size; omega) (fun e => ?_)⟩
    have := (hx.lt e.symm).1
    omega
  · rw [List.mem_iff_getElem?] at hz
    obtain ⟨j, hj⟩ := hz
    by_cases hij : i = j
    · subst hij
      rw [List.getElem?_set_self (by exact (List.getElem?_eq_some_iff.1 hi).1)] at hj
      injection hj with hj
      subst hj
      exact hy
    · rw [List.getElem?_set_ne hij] at hj
      have hzk := h.ok z (List.mem_of_getElem? hj)
      refine hzk.same fun b hzb => hg.block b (hzk.lt hzb).2 (fun e => ?_)
      exact hij (nodup_fm Item.blk L i j x z b h.apart hi hj e.symm hzb)
  · refine nodup_set Item.blk x y (fun _ => False) (fun _ h => h.elim) L i h.apart hi (fun b hyb => ?_)
    rcases hb b hyb with e | e
    · exact .inl e
    · refine .inr fun hm => ?_
      have := (h.lt_of hm).2
      omega
theorem grown_setCell (w : World) (a : Addr) (u : Value) : w.grownBy (w.setCell a u) (some a.block) := ⟨rfl, rfl, rfl, by simp [World.setCell], fun k _ hk => Below.heap_setCell _ _ _ k (fun e => hk (by rw [e]))⟩
/-- A store into a box. -/
theorem St.set (h : St w0 w n L) (i : Nat) {b : Nat} {cs : List Value} (o : Nat) (v : Value) (hi : L[i]? = some (.box b cs)) : St w0 (w.setCell ⟨b, o, none⟩ v) n (L.set i (.box b (cs.set o v))) := by
  obtain ⟨h1, T, h2⟩ := h.ok _ (List.mem_of_getElem? hi)
  have key := h.turn i (w' := w.setCell ⟨b, o, none⟩ v) (.box b (cs.set o v)) hi (grown_setCell w ⟨b, o, none⟩ v) ⟨h1, T, ?_⟩ (fun _ e => .inl e)
  · have e : (w.setCell ⟨b, o, none⟩ v).heap.size = n := by rw [← h.size]; simp [World.setCell]
    rw [e] at key
    exact key
  · have hlt := lt_of_block h2
    have h' : w.heap[b] = .cells cs.toArray T (0, 0) := by simpa [Array.getElem?_eq_getElem hlt] using h2
    show (w.heap.modify b _)[b]? = _
    rw [Array.getElem?_eq_getElem (by simpa using hlt), Array.getElem_modify_self, h']
    simp
/-- A store into a row. -/
theorem St.put (h : St w0 w n L) (i : Nat) {e size g m cap : Nat} {xs : List Value} (o : Nat) (v : Value) (hi : L[i]? = some (.own e size (.slice (some ⟨g, 0, none⟩) m cap) m xs)) : St w0 (w.setCell ⟨g, o, none⟩ v) n (L.set i (.own e size (.slice (some ⟨g, 0, none⟩) m cap) m (xs.set o v))) := by
  have hx : w.ownsRow w0.heap.size e size (.slice (some ⟨g, 0, none⟩) m cap) m xs := h.ok _ (List.mem_of_getElem? hi)
  have key := h.turn i (w' := w.setCell ⟨g, o, none⟩ v) (.own e size (.slice (some ⟨g, 0, none⟩) m cap) m (xs.set o v)) hi (grown_setCell w ⟨g, o, none⟩ v) (hx.stored o v).1 (fun _ e => .inl e)
  have e : (w.setCell ⟨g, o, none⟩ v).heap.size = n := by rw [← h.size]; simp [World.setCell]
  rw [e] at key
  exact key
/-- An append to a row. -/
theorem St.grown (h : St w0 w n L) (i : Nat) {e size m : Nat} {v : Value} {xs : List Value} (hi : L[i]? = some (.own e size v m xs)) {m' : Nat} {v' : Value} {xs' : List Value} (ho : w'.ownsRow w0.heap.size e size v' m' xs') (hg : w.grownBy w' v.ownBlock) (hv : v'.ownBlock = v.ownBlock ∨ v'.ownBlock = some w.heap.size) : St w0 w' w'.heap.size (L.set i (.own e size v' m' xs')) :=
  h.turn i _ hi hg ho fun b hb => hv.imp (fun e => e.symm.trans hb) (fun e => by have : v'.ownBlock = some b := hb; rw [e] at this; injection this with this; have := h.size; omega)
/-- What a call hands back in new memory. -/
theorem St.take (h : St w0 w n L) (hb : Below w.heap.size w w') {e size m : Nat} {v : Value} {xs : List Value} (ho : w'.ownsRow w.heap.size e size v m xs) : St w0 w' w'.heap.size (.own e size v m xs :: L) := by
  have h2 := h.call hb
  refine ⟨rfl, h2.bel, fun x hx => ?_, ?_⟩
  · rcases List.mem_cons.1 hx with hx | hx
    · rw [hx]; exact own_base' ho h.bel.size
    · exact h2.ok x hx
  · rw [List.filterMap_cons]
    split
    · exact h.apart
    · rename_i b hb'
      refine List.nodup_cons.2 ⟨fun hm => ?_, h.apart⟩
      have h3 := (ho.lt b hb').1
      have h4 := (h.lt_of hm).2
      have := h.size
      omega
/-- An own row that is nil. -/
theorem St.nil (h : St w0 w n L) (e size : Nat) : St w0 w n (.own e size (.slice none 0 0) 0 [] :: L) := by
  refine ⟨h.size, h.bel, fun x hx => ?_, ?_⟩
  · rcases List.mem_cons.1 hx with hx | hx
    · rw [hx]; exact World.ownsRow_nil _ _ _ _
    · exact h.ok x hx
  · have e0 : (Item.own e size (.slice none 0 0) 0 []).blk = none := rfl
    rw [List.filterMap_cons, e0]
    exact h.apart
/-- Fewer things. -/
theorem St.less (h : St w0 w n L) {M : List Item} (hs : M.Sublist L) : St w0 w n M := ⟨h.size, h.bel, fun x hx => h.ok x (hs.subset hx), h.apart.sublist (hs.filterMap _)⟩
theorem St.fix (h : St w0 w n L) : St w0 w w.heap.size L := ⟨rfl, h.bel, h.ok, h.apart⟩
theorem St.tail {x : Item} (h : St w0 w n (x :: L)) : St w0 w n L := h.less (List.sublist_cons_self _ _)
theorem St.perm (h : St w0 w n L) {M : List Item} (hp : L.Perm M) : St w0 w n M :=
  ⟨h.size, h.bel, fun x hx => h.ok x (hp.mem_iff.2 hx), (hp.filterMap _).nodup_iff.1 h.apart⟩
/-- The two things behind the first ones come to the front, and back. -/
theorem St.rot2 (F : List Item) {x y : Item} {K : List Item} (h : St w0 w n (F ++ x :: y :: K)) : St w0 w n (x :: y :: (F ++ K)) := by
  refine h.perm ?_
  have h1 : (F ++ ([x, y] ++ K)).Perm ([x, y] ++ (F ++ K)) := List.perm_append_comm_assoc F [x, y] K
  exact h1
theorem St.unrot2 (F : List Item) {x y : Item} {K : List Item} (h : St w0 w n (x :: y :: (F ++ K))) : St w0 w n (F ++ x :: y :: K) := by
  refine h.perm ?_
  have h1 : (F ++ ([x, y] ++ K)).Perm ([x, y] ++ (F ++ K)) := List.perm_append_comm_assoc F [x, y] K
  exact h1.symm
theorem St.cut (h : St w0 w n L) (k : Nat) : St w0 w n (L.take k) := h.less (List.take_sublist _ _)
theorem St.drop (h : St w0 w n L) (i : Nat) : St w0 w n (L.eraseIdx i) := h.less (List.eraseIdx_sublist _ _)

/-! What is read. -/
theorem St.get (h : St w0 w n L) (i o : Nat) {b : Nat} {cs : List Value} {v : Value} (hi : L[i]? = some (.box b cs)) (hv : cs[o]? = some v) : w.cell? ⟨b, o, none⟩ = some v := by
  obtain ⟨h1, T, h2⟩ := h.ok _ (List.mem_of_getElem? hi)
  simp [World.cell?, h2, hv]
theorem St.free (h : St w0 w n L) (i o : Nat) {b : Nat} {cs : List Value} (hi : L[i]? = some (.box b cs)) : w.frozen? ⟨b, o, none⟩ = false := by
  obtain ⟨h1, T, h2⟩ := h.ok _ (List.mem_of_getElem? hi)
  simp [World.frozen?, h2]
theorem St.lt (h : St w0 w n L) (i : Nat) {b : Nat} {cs : List Value} (hi : L[i]? = some (.box b cs)) : b < w.heap.size := by
  obtain ⟨h1, T, h2⟩ := h.ok _ (List.mem_of_getElem? hi)
  exact lt_of_block h2
theorem St.own (h : St w0 w n L) (i : Nat) {e size m : Nat} {v : Value} {xs : List Value} (hi : L[i]? = some (.own e size v m xs)) : w.ownsRow w0.heap.size e size v m xs := h.ok _ (List.mem_of_getElem? hi)
theorem St.row (h : St w0 w n L) (i : Nat) {e size m : Nat} {v : Value} {xs : List Value} (hi : L[i]? = some (.own e size v m xs)) : Reads w size v m xs := Reads.of_own (h.own i hi)
theorem St.ints (h : St w0 w n L) (i : Nat) {e m : Nat} {v : Value} {xs : List Int} (hi : L[i]? = some (.own e 1 v m (xs.map I))) : Ints w v xs := Ints.of_own (h.own i hi)
theorem St.obj (h : St w0 w n L) (i : Nat) {b : Nat} {p : Obj → Prop} (hi : L[i]? = some (.any b p)) : ∃ o, w.heap[b]? = some o ∧ p o := (h.ok _ (List.mem_of_getElem? hi)).2
theorem St.row? (h : St w0 w n L) (i : Nat) {b : Nat} {cs : List Value} (hi : L[i]? = some (.box b cs)) : ∃ T, w.heap[b]? = some (.cells cs.toArray T (0, 0)) := (h.ok _ (List.mem_of_getElem? hi)).2
theorem St.baseO (h : St w0 w n L) (i : Nat) {b : Nat} {p : Obj → Prop} (hi : L[i]? = some (.any b p)) : w0.heap.size ≤ b := (h.ok _ (List.mem_of_getElem? hi)).1
theorem St.base (h : St w0 w n L) (i : Nat) {b : Nat} {cs : List Value} (hi : L[i]? = some (.box b cs)) : w0.heap.size ≤ b := (h.ok _ (List.mem_of_getElem? hi)).1
end
end Go.Proofs.YtldcehhhndlhdaaGreatDoor
/- What a call owns while it runs: appends. No function here; no conditions. -/
namespace Go.Proofs.YtldcehhhndlhdaaGreatDoor
open Go.RowKit Go.Sort
section
variable {w0 w w' : World} {n : Nat} {L : List Item}
/-- An append to a row of the call's own, whatever the source. -/
theorem wpList_append_St {P : Program} (S : St w0 w n L) (i : Nat) {ops : Array Oper} {rest : List Oper} {o : Oper} {a : Act} {Q : Exit → Act → World → Prop} (hgd : o.guard = none) (s x : Operand) (t : TypeId)
    (ho : o.op = .call { callee := .builtin .append, args := #[s, x], argTypes := #[t, t] })
    (e : TypeId) (inf : TypeInfo) (z : Value) (size bytes : Nat) (ht : P.underlying t = some (.slice e)) (hinf : P.info? e = some inf) (hz : inf.zero = some z)
    (hsize : inf.size = size) (hby : inf.bytes = bytes) (hzs : z.cells.size = size) (hsz : 0 < size)
    {v : Value} {len : Nat} {xs : List Value} (hi : L[i]? = some (.own e size v len xs)) (hs : a.eval s = v)
    (sv : Value) (m : Nat) (news : List Value) (hx : a.eval x = sv) (hr : Reads w size sv m news) (h1 : ∀ u ∈ news, u.oneCell' = true)
    (h63 : len + m ≤ maxLen) (hbytes : (len + m) * bytes ≤ 140737488355328)
    (h : ∀ v' w', St w0 w' w'.heap.size (L.set i (.own e size v' (len + m) (xs ++ news))) → wpList P ops Q rest (a.put o.dst v') w') : wpList P ops Q (o :: rest) a w :=
  wpList_append_src w hgd s x t ho w0.heap.size e inf z size bytes ht hinf hz hsize hby hzs hsz v len xs hs (S.own i hi) sv m news hx hr h1 h63 hbytes S.bel.size
    fun v' w' hown hg hv => h v' w' (S.grown i hi hown hg hv)
/-- One number in a box that was just made reads as a list of one. -/
theorem reads_box1 {w : World} {b : Nat} {u : Value} (h : w.cell? ⟨b, 0, none⟩ = some u) : Reads w 1 (.slice (some ⟨b, 0, none⟩) 1 1) 1 [u] :=
  ⟨rfl, _, _, rfl, Nat.le_refl _, by omega, fun _ => ⟨b, 0, rfl, fun j v hv => by
    cases j with
    | zero => simp at hv; subst hv; exact h
    | succ j => simp at hv⟩⟩
theorem grown_setRow {w : World} {g : Nat} (cs : Array Value) : w.grownBy (w.setRow g cs) (some g) := ⟨rfl, rfl, rfl, by simp [World.setRow], fun k _ hk => setRow_other w g k cs (fun e => hk (by rw [e]))⟩
/-- A whole box is read. -/
theorem wpList_load_St {P : Program} (S : St w0 w n L) (i : Nat) {ops : Array Oper} {rest : List Oper} {o : Oper} {a : Act} {Q : Exit → Act → World → Prop} (hgd : o.guard = none) (ty : TypeId) (x : Operand) (ho : o.op = .load ty x)
    {b : Nat} {cs : List Value} (hi : L[i]? = some (.box b cs)) (hx : a.eval x = .pointer (some ⟨b, 0, none⟩)) (d : TypeDesc) (hu : P.underlying ty = some d) (hd : (match d with | .struct _ | .array _ _ => true | _ => false) = true)
    (hsz : (P.info? ty).map (·.size) = some cs.length) (h : wpList P ops Q rest (a.put o.dst (.agg cs.toArray)) w) : wpList P ops Q (o :: rest) a w := by
  obtain ⟨T, hT⟩ := S.row? i hi
  exact wpList_load_row hgd ty x ho b hx T cs.toArray (0, 0) d hT hu hd (by simpa using hsz) h
/-- A whole box is written. -/
theorem wpList_store_St {P : Program} (S : St w0 w n L) (i : Nat) {ops : Array Oper} {rest : List Oper} {o : Oper} {a : Act} {Q : Exit → Act → World → Prop} (hgd : o.guard = none) (ty : TypeId) (x y : Operand) (ho : o.op = .store ty x y)
    {b : Nat} {cs : List Value} (hi : L[i]? = some (.box b cs)) (hx : a.eval x = .pointer (some ⟨b, 0, none⟩)) (cells : List Value) (hy : a.eval y = .agg cells.toArray)
    (hsz : (P.info? ty).map (·.size) = some cells.length) (hlen : cs.length = cells.length) (h1 : ∀ v ∈ cells, v.oneCell' = true)
    (h : ∀ w', St w0 w' w'.heap.size (L.set i (.box b cells)) → wpList P ops Q rest (a.put o.dst undef) w') : wpList P ops Q (o :: rest) a w := by
  obtain ⟨T, hT⟩ := S.row? i hi
  refine wpList_store_row hgd ty x y ho b cells.toArray hx hy T cs.toArray hT (by simpa using hsz) (by simpa using hlen) (by rw [Array.all_eq_true_iff_forall_mem]; intro v hv; exact h1 v (by simpa using hv)) (h _ ?_)
  exact S.turn i (.box b cells) hi (grown_setRow _) ⟨S.base i hi, T, setRow_heap _ _ _ _ _ _ hT⟩ (fun _ e => .inl e)
end
end Go.Proofs.YtldcehhhndlhdaaGreatDoor
/- A region that draws its order, whose reads meet a class of worlds of one's own: here, all that differ in one block. -/
namespace Go.Proofs.YtldcehhhndlhdaaGreatDoor
open Go.RowKit Go.Sort
section
variable {P : Program} {ops : Array Oper} {Q : Act → World → Prop} {k : Nat}
def treeRunC (P : Program) (ops : Array Oper) (Q : Act → World → Prop) (C : World → Prop) : Plan → Act → World → Prop
  | .last r t, a, w => wpQuiet P ops C (fun a' => wpList P ops (Exit.then Q (fun _ _ _ => False)) (opsAt ops t) a' w) (opsAt ops r) a
  | .node st ls f, a, w => wpQuiet P ops C (fun a' => ∀ l ∈ ls, ∀ K : Act → World → Prop, (∀ a'' w'', C w'' → treeRunC P ops Q C (f l) a'' w'' → K a'' w'') → wpLoud P ops Q l K a' w) (opsAt ops st) a
theorem tree_anyC {C : World → Prop} (hs : Region.noSelect ops = true) (ht : tailOk ops k = true) : ∀ (p : Plan) (n : Nat) (listed : Array Bool) (a : Act) (w : World), Closed ops listed → C w → treeOk ops k p n listed = true →
    treeRunC P ops Q C p a w → wpAnyG P ops (Exit.then Q (fun _ _ _ => False)) C k n listed a w := by
  intro p
  induction p with
  | last r t =>
    intro n listed a w hcl hC hp h
    simp only [treeOk] at hp
    split at hp
    case h_2 => cases hp
    rename_i l hl
    simp only [Bool.and_eq_true, decide_eq_true_eq] at hp
    obtain ⟨⟨hp, hn⟩, hk⟩ := hp
    subst hn
    have hk' : ∀ i ∈ t, k ≤ i ∧ i < ops.size := fun i hi => by simpa using List.all_eq_true.1 hk i hi
    have := reads_step (Q := Q) hC hs ht r listed l t.length a hcl hl h (fun a' _ ha' => end_step t l a' w hp hk' ha')
    simpa [Nat.add_comm] using this
  | node st ls f ih =>
    intro n listed a w hcl hC hp h
    simp only [treeOk] at hp
    split at hp
    case h_2 => cases hp
    rename_i l' hl
    simp only [Bool.and_eq_true, beq_iff_eq, decide_eq_true_eq, Bool.not_eq_true'] at hp
    obtain ⟨⟨⟨hr, hne⟩, hn⟩, hp⟩ := hp
    obtain ⟨m, rfl⟩ : ∃ m, n = m + 1 + st.length := ⟨n - (st.length + 1), by omega⟩
    have hm : m + 1 + st.length - (st.length + 1) = m := by omega
    rw [hm] at hp
    refine reads_step (Q := Q) hC hs ht st listed l' (m + 1) a hcl hl h (fun a' hcl' ha' => ?_)
    refine ⟨fun h0 => (by rw [hr] at h0; rw [h0] at hne; cases hne), fun i hi => ?_⟩
    have hir := hi
    rw [hr] at hi
    have hpi := List.all_eq_true.1 hp i hi
    simp only [Bool.and_eq_true, Bool.not_eq_true'] at hpi
    obtain ⟨hnp, hpi⟩ := hpi
    have h2 := ha' i hi (fun a' w' => Gd ops C k i w w' ∧ wpAnyG P ops (Exit.then Q (fun _ _ _ => False)) C k m (l'.setIfInBounds i true) a' w')
      (fun a'' w'' hb hh => ⟨fun _ => ⟨fun h => (by rw [hnp] at h; cases h), fun _ => hb⟩, ih i m _ a'' w'' (hcl'.set hir) hb hpi hh⟩)
    unfold wpOp
    unfold wpLoud at h2
    cases ho : ops[i]? with
    | none => rw [ho] at h2; exact h2.elim
    | some o =>
      rw [ho] at h2
      simp only at h2 ⊢
      split
      · rename_i hw; rw [if_pos hw] at h2; exact .inl h2
      · rename_i hw; rw [if_neg hw] at h2; exact h2
theorem wp_region_treeC {id : Nat} {a : Act} {w : World} {R : Exit → Act → World → Prop} (p : Plan) (k : Nat) (hm : P.follows .mixedOrders = true)
    (hp : (Region.noSelect ops && tailOk ops k && treeOk ops k p ops.size (Array.replicate ops.size false)) = true)
    (h : ∀ Q : Act → World → Prop, (∀ a w, R .normal a w → Q a w) → ∀ w', Below w.heap.size w w' → ∃ C : World → Prop, C w' ∧ treeRunC P ops Q C p a w') : (Code.region id ops true).wp P R a w := by
  simp only [Bool.and_eq_true] at hp
  obtain ⟨⟨hs, ht⟩, hp⟩ := hp
  refine Code.wp_mono (Q := Exit.then (fun a w => R .normal a w) (fun _ _ _ => False)) (fun e a w hq => by cases e <;> first | exact hq | exact hq.elim) ?_
  obtain ⟨C, hC, hrun⟩ := h _ (fun _ _ h => h) w.drew (Below.refl _ _).drew
  refine wp_region_any hm (wpAny_of_G (S := C) (k := k) _ _ _ _ ?_)
  exact tree_anyC hs ht p _ _ a w.drew Closed.start hC hp hrun

/-! One block may differ. -/
structure Patch where
  o : Obj
  d : Nat
  os : Array Obj
  deriving Inhabited
def putB (w : World) (g : Nat) (o : Obj) : World := { w with heap := w.heap.setIfInBounds g o }
theorem putB_below (w : World) (g : Nat) (o : Obj) {b c : Nat} (h : b ≠ g) : (putB w g o).cell? ⟨b, c, none⟩ = w.cell? ⟨b, c, none⟩ :=
  World.cell?_of_block (by show (w.heap.setIfInBounds g o)[b]? = _; rw [Array.getElem?_setIfInBounds_ne (Ne.symm h)])
theorem cell_patched {w : World} {g b c : Nat} {v : Value} (h : w.cell? ⟨b, c, none⟩ = some v) (hne : b ≠ g) (o : Obj) (d : Nat) (os : Array Obj) : (grow (redrawn (putB w g o) d) os).cell? ⟨b, c, none⟩ = some v :=
  cell_regrown (by rw [putB_below w g o hne]; exact h) d os
abbrev CP (w : World) (g : Nat) : World → Prop := fun w' => ∃ p : Patch, w' = grow (redrawn (putB w g p.o) p.d) p.os
theorem CP.of {w w' : World} {g : Nat} (h : w.grownBy w' (some g)) (hg : g < w.heap.size) : CP w g w' := by
  have hg' : g < w'.heap.size := Nat.lt_of_lt_of_le hg h.size
  have hb : Below (putB w g (w'.heap[g]'hg')).heap.size (putB w g (w'.heap[g]'hg')) w' := by
    refine ⟨h.os, h.tape, h.output, by show (w.heap.setIfInBounds g _).size ≤ _; simpa using h.size, fun k hk => ?_⟩
    have hk' : k < w.heap.size := by have : k < (w.heap.setIfInBounds g (w'.heap[g]'hg')).size := hk; simpa using this
    show w'.heap[k]? = (w.heap.setIfInBounds g _)[k]?
    by_cases hkg : k = g
    · subst hkg
      rw [Array.getElem?_setIfInBounds_self_of_lt hk', Array.getElem?_eq_getElem hg']
    · rw [Array.getElem?_setIfInBounds_ne (fun e => hkg e.symm)]
      exact h.block k hk' (fun e => hkg (by simpa using e))
  obtain ⟨p, hp⟩ := regrown_of_below hb
  exact ⟨⟨_, p.d, p.os⟩, hp⟩
theorem CP.refl (w : World) {g : Nat} (hg : g < w.heap.size) : CP w g w := CP.of ⟨rfl, rfl, rfl, Nat.le_refl _, fun _ _ _ => rfl⟩ hg
theorem treeC_node {w0 : World} {g : Nat} {st ls : List Nat} {f : Nat → Plan} {a : Act} {w : World}
    (h : wpQuiet P ops (fun w' => ∃ p : Patch, w' = grow (redrawn (putB w0 g p.o) p.d) p.os) (fun a' => ∀ l ∈ ls, ∀ K : Act → World → Prop, (∀ a'' w'', CP w0 g w'' → treeRunC P ops Q (CP w0 g) (f l) a'' w'' → K a'' w'') → wpLoud P ops Q l K a' w) (opsAt ops st) a) :
    treeRunC P ops Q (CP w0 g) (.node st ls f) a w := h
theorem treeC_last {w0 : World} {g : Nat} {r t : List Nat} {a : Act} {w : World} (h : wpQuiet P ops (fun w' => ∃ p : Patch, w' = grow (redrawn (putB w0 g p.o) p.d) p.os) (fun a' => wpList P ops (Exit.then Q (fun _ _ _ => False)) (opsAt ops t) a' w) (opsAt ops r) a) : treeRunC P ops Q (CP w0 g) (.last r t) a w := h
end
end Go.Proofs.YtldcehhhndlhdaaGreatDoor

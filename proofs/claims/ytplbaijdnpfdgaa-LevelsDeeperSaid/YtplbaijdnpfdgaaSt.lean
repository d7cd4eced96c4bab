/- What a call owns while it runs: its boxes, its rows, side by side; carried as one fact. No function here; no conditions. -/
import Derived.Test.YtplbaijdnpfdgaaMem
import Derived.Test.YtplbaijdnpfdgaaSeg
import Derived.Test.YtplbaijdnpfdgaaSegT
import Derived.Test.YtplbaijdnpfdgaaSegK
namespace Go.Proofs.Ytplbaijdnpfdgaa
open Go.RowKit Go.Sort

/-- A thing of the call's own: a box of cells; a row (a slice that may be appended to); any block of which something is known. -/
inductive Item where
  | box (b : Nat) (cs : List Value)
  | own (e size : Nat) (v : Value) (n : Nat) (xs : List Value)
  | any (b : Nat) (p : Obj → Prop)
def Item.blk : Item → Option Nat
  | .box b _ => some b
  | .own _ _ v _ _ => v.ownBlock
  | .any b _ => some b
def Item.ok (base : Nat) (w : World) : Item → Prop
  | .box b cs => base ≤ b ∧ ∃ T, w.heap[b]? = some (.cells cs.toArray T (0, 0))
  | .own e size v n xs => w.ownsRow base e size v n xs
  | .any b p => base ≤ b ∧ ∃ o, w.heap[b]? = some o ∧ p o
/-- Since w0 the call has come to w, which has n blocks; of what was there nothing has turned; these things are its own, and lie apart. -/
structure St (w0 w : World) (n : Nat) (L : List Item) : Prop where
  size : w.heap.size = n
  bel : Below w0.heap.size w0 w
  ok : ∀ x ∈ L, x.ok w0.heap.size w
  apart : (L.filterMap Item.blk).Nodup

section
variable {w0 w w' : World} {n : Nat} {L : List Item}
theorem Item.ok.lt {base : Nat} {x : Item} (h : x.ok base w) {b : Nat} (hb : x.blk = some b) : base ≤ b ∧ b < w.heap.size := by
  cases x with
  | box b' cs =>
    obtain ⟨h1, T, h2⟩ := h
    injection hb with hb
    subst hb
    exact ⟨h1, lt_of_block h2⟩
  | own e size v m xs => exact World.ownsRow.lt h b hb
  | any b' p =>
    obtain ⟨h1, o, h2, _⟩ := h
    injection hb with hb
    subst hb
    exact ⟨h1, lt_of_block h2⟩
theorem Item.ok.same {base : Nat} {x : Item} (h : x.ok base w) (hs : ∀ b, x.blk = some b → w'.heap[b]? = w.heap[b]?) : x.ok base w' := by
  cases x with
  | box b' cs =>
    obtain ⟨h1, T, h2⟩ := h
    exact ⟨h1, T, by rw [hs b' rfl]; exact h2⟩
  | own e size v m xs =>
    refine ⟨h.1, h.2.imp id ?_⟩
    rintro ⟨g, cap, cur, rfl, hb, hh, r⟩
    exact ⟨g, cap, cur, rfl, hb, by rw [hs g rfl]; exact hh, r⟩
  | any b' p =>
    obtain ⟨h1, o, h2, h3⟩ := h
    exact ⟨h1, o, by rw [hs b' rfl]; exact h2, h3⟩
theorem St.init (w : World) : St w w w.heap.size [] := ⟨rfl, Below.refl _ _, by simp, by simp⟩
theorem St.call (h : St w0 w n L) (hb : Below w.heap.size w w') : St w0 w' w'.heap.size L :=
  ⟨rfl, bto h.bel hb, fun x hx => (h.ok x hx).same fun b hbl => hb.block b ((h.ok x hx).lt hbl).2, h.apart⟩
theorem St.drew (h : St w0 w n L) : St w0 w.drew n L := ⟨h.size, h.bel.drew, fun x hx => (h.ok x hx).same fun _ _ => rfl, h.apart⟩
theorem St.lt_of (h : St w0 w n L) {b : Nat} (hb : b ∈ L.filterMap Item.blk) : w0.heap.size ≤ b ∧ b < n := by
  obtain ⟨x, hx, hxb⟩ := List.mem_filterMap.1 hb
  have := (h.ok x hx).lt hxb
  rw [h.size] at this
  exact this
theorem St.push (h : St w0 w n L) (o : Obj) (x : Item) (hx : x.ok w0.heap.size (w.alloc o)) (hb : x.blk = some n) : St w0 (w.alloc o) (n + 1) (x :: L) := by
  refine ⟨by rw [World.size_alloc, h.size], h.bel.alloc h.bel.size _, fun y hy => ?_, ?_⟩
  · rcases List.mem_cons.1 hy with hy | hy
    · rw [hy]; exact hx
    · exact (h.ok y hy).same fun b hbl => Below.heap_alloc _ _ _ ((h.ok y hy).lt hbl).2
  · rw [List.filterMap_cons, hb]
    exact List.nodup_cons.2 ⟨fun hm => by have := (h.lt_of hm).2; omega, h.apart⟩
theorem St.alloc (h : St w0 w n L) (cs : List Value) (T : TypeId) : St w0 (w.alloc (.cells cs.toArray T)) (n + 1) (.box n cs :: L) :=
  h.push _ _ ⟨by have := h.bel.size; have := h.size; omega, T, by rw [← h.size]; exact heap_alloc_new w _⟩ rfl
theorem St.allocO (h : St w0 w n L) (o : Obj) (p : Obj → Prop) (hp : p o) : St w0 (w.alloc o) (n + 1) (.any n p :: L) :=
  h.push _ _ ⟨by have := h.bel.size; have := h.size; omega, o, by rw [← h.size]; exact heap_alloc_new w _, hp⟩ rfl
theorem St.alloc' (h : St w0 w n L) (o : Obj) : St w0 (w.alloc o) (n + 1) L :=
  ⟨by rw [World.size_alloc, h.size], h.bel.alloc h.bel.size _, fun y hy => (h.ok y hy).same fun b hbl => Below.heap_alloc _ _ _ ((h.ok y hy).lt hbl).2, h.apart⟩

theorem nodup_fm {α β : Type} (f : α → Option β) : ∀ (l : List α) (i j : Nat) (x y : α) (b : β), (l.filterMap f).Nodup → l[i]? = some x → l[j]? = some y → f x = some b → f y = some b → i = j
  | [], i, _, _, _, _, _, h, _, _, _ => by simp at h
  | z :: l, 0, 0, _, _, _, _, _, _, _, _ => rfl
  | z :: l, 0, j + 1, x, y, b, hn, hx, hy, h1, h2 => by
    simp at hx
    subst hx
    rw [List.filterMap_cons, h1] at hn
    have := (List.nodup_cons.1 hn).1
    exact absurd (List.mem_filterMap.2 ⟨y, List.mem_of_getElem? (by simpa using hy), h2⟩) this
  | z :: l, i + 1, 0, x, y, b, hn, hx, hy, h1, h2 => by
    simp at hy
    subst hy
    rw [List.filterMap_cons, h2] at hn
    have := (List.nodup_cons.1 hn).1
    exact absurd (List.mem_filterMap.2 ⟨x, List.mem_of_getElem? (by simpa using hx), h1⟩) this
  | z :: l, i + 1, j + 1, x, y, b, hn, hx, hy, h1, h2 => by
    have hn' : (l.filterMap f).Nodup := by
      rw [List.filterMap_cons] at hn
      split at hn
      · exact hn
      · exact (List.nodup_cons.1 hn).2
    have := nodup_fm f l i j x y b hn' (by simpa using hx) (by simpa using hy) h1 h2
    omega
theorem nodup_set {α β : Type} (f : α → Option β) (x y : α) (P : β → Prop) (hP : ∀ b, P b → f x = some b ∨ True) : ∀ (l : List α) (i : Nat), (l.filterMap f).Nodup → l[i]? = some x → (∀ b, f y = some b → f x = some b ∨ b ∉ l.filterMap f) → ((l.set i y).filterMap f).Nodup
  | [], _, _, h, _ => by simp at h
  | z :: l, 0, hn, hx, hy => by
    simp at hx
    subst hx
    simp only [List.set_cons_zero]
    have hn' : (l.filterMap f).Nodup := by
      rw [List.filterMap_cons] at hn
      split at hn
      · exact hn
      · exact (List.nodup_cons.1 hn).2
    rw [List.filterMap_cons]
    split
    · exact hn'
    · rename_i b hb
      refine List.nodup_cons.2 ⟨fun hm => ?_, hn'⟩
      rcases hy b hb with h | h
      · rw [List.filterMap_cons, h] at hn
        exact (List.nodup_cons.1 hn).1 hm
      · refine h ?_
        rw [List.filterMap_cons]
        split
        · exact hm
        · exact List.mem_cons_of_mem _ hm
  | z :: l, i + 1, hn, hx, hy => by
    simp only [List.set_cons_succ]
    have hx' : l[i]? = some x := by simpa using hx
    rw [List.filterMap_cons] at hn ⊢
    split at hn
    · rename_i hz
      refine nodup_set f x y P hP l i hn hx' (fun b hb => ?_)
      have := hy b hb
      rw [List.filterMap_cons, hz] at this
      exact this
    · rename_i c hz
      obtain ⟨h1, h2⟩ := List.nodup_cons.1 hn
      refine List.nodup_cons.2 ⟨fun hm => ?_, nodup_set f x y P hP l i h2 hx' (fun b hb => ?_)⟩
      · obtain ⟨u, hu, hub⟩ := List.mem_filterMap.1 hm
        rcases List.mem_or_eq_of_mem_set hu with hu | rfl
        · exact h1 (List.mem_filterMap.2 ⟨u, hu, hub⟩)
        · rcases hy c hub with h | h
          · exact h1 (List.mem_filterMap.2 ⟨x, List.mem_of_getElem? hx', h⟩)
          · exact h (by rw [List.filterMap_cons, hz]; exact List.mem_cons_self ..)
      · rcases hy b hb with h | h
        · exact .inl h
        · refine .inr fun hm => h ?_
          rw [List.filterMap_cons, hz]
          exact List.mem_cons_of_mem _ hm

/-- One thing of the call's own has turned: its block was written, or it lies in a new one. -/
theorem St.turn (h : St w0 w n L) (i : Nat) {x : Item} (y : Item) (hi : L[i]? = some x) (hg : w.grownBy w' x.blk) (hy : y.ok w0.heap.size w') (hb : ∀ b, y.blk = some b → x.blk = some b ∨ n ≤ b) : St w0 w' w'.heap.size (L.set i y) := by
  have hx := h.ok x (List.mem_of_getElem? hi)
  refine ⟨rfl, ?_, fun z hz => ?_, ?_⟩
  · refine h.bel.trans ⟨hg.os, hg.tape, hg.output, hg.size, fun k hk => hg.block k (by have := h.bel.size; omega) (fun e => ?_)⟩
    have := (hx.lt e.symm).1
    omega
  · rw [List.mem_iff_getElem?] at hz
    obtain ⟨j, hj⟩ := hz
    by_cases hij : i = j
    · subst hij
      rw [List.getElem?_set_self (by exact (List.getElem?_eq_some_iff.1 hi).1)] at hj
      injection hj with hj
      subst hj
      exact hy
    · rw [List.getElem?_set_ne hij] at hj
      have hzk := h.ok z (List.mem_of_getElem? hj)
      refine hzk.same fun b hzb => hg.block b (hzk.lt hzb).2 (fun e => ?_)
      exact hij (nodup_fm Item.blk L i j x z b h.apart hi hj e.symm hzb)
  · refine nodup_set Item.blk x y (fun _ => False) (fun _ h => h.elim) L i h.apart hi (fun b hyb => ?_)
    rcases hb b hyb with e | e
    · exact .inl e
    · refine .inr fun hm => ?_
      have := (h.lt_of hm).2
      omega
theorem grown_setCell (w : World) (a : Addr) (u : Value) : w.grownBy (w.setCell a u) (some a.block) := ⟨rfl, rfl, rfl, by simp [World.setCell], fun k _ hk => Below.heap_setCell _ _ _ k (fun e => hk (by rw [e]))⟩
/-- A store into a box. -/
theorem St.set (h : St w0 w n L) (i : Nat) {b : Nat} {cs : List Value} (o : Nat) (v : Value) (hi : L[i]? = some (.box b cs)) : St w0 (w.setCell ⟨b, o, none⟩ v) n (L.set i (.box b (cs.set o v))) := by
  obtain ⟨h1, T, h2⟩ := h.ok _ (List.mem_of_getElem? hi)
  have key := h.turn i (w' := w.setCell ⟨b, o, none⟩ v) (.box b (cs.set o v)) hi (grown_setCell w ⟨b, o, none⟩ v) ⟨h1, T, ?_⟩ (fun _ e => .inl e)
  · have e : (w.setCell ⟨b, o, none⟩ v).heap.size = n := by rw [← h.size]; simp [World.setCell]
    rw [e] at key
    exact key
  · have hlt := lt_of_block h2
    have h' : w.heap[b] = .cells cs.toArray T (0, 0) := by simpa [Array.getElem?_eq_getElem hlt] using h2
    show (w.heap.modify b _)[b]? = _
    rw [Array.getElem?_eq_getElem (by simpa using hlt), Array.getElem_modify_self, h']
    simp
/-- A store into a row. -/
theorem St.put (h : St w0 w n L) (i : Nat) {e size g m cap : Nat} {xs : List Value} (o : Nat) (v : Value) (hi : L[i]? = some (.own e size (.slice (some ⟨g, 0, none⟩) m cap) m xs)) : St w0 (w.setCell ⟨g, o, none⟩ v) n (L.set i (.own e size (.slice (some ⟨g, 0, none⟩) m cap) m (xs.set o v))) := by
  have hx : w.ownsRow w0.heap.size e size (.slice (some ⟨g, 0, none⟩) m cap) m xs := h.ok _ (List.mem_of_getElem? hi)
  have key := h.turn i (w' := w.setCell ⟨g, o, none⟩ v) (.own e size (.slice (some ⟨g, 0, none⟩) m cap) m (xs.set o v)) hi (grown_setCell w ⟨g, o, none⟩ v) (hx.stored o v).1 (fun _ e => .inl e)
  have e : (w.setCell ⟨g, o, none⟩ v).heap.size = n := by rw [← h.size]; simp [World.setCell]
  rw [e] at key
  exact key
/-- An append to a row. -/
theorem St.grown (h : St w0 w n L) (i : Nat) {e size m : Nat} {v : Value} {xs : List Value} (hi : L[i]? = some (.own e size v m xs)) {m' : Nat} {v' : Value} {xs' : List Value} (ho : w'.ownsRow w0.heap.size e size v' m' xs') (hg : w.grownBy w' v.ownBlock) (hv : v'.ownBlock = v.ownBlock ∨ v'.ownBlock = some w.heap.size) : St w0 w' w'.heap.size (L.set i (.own e size v' m' xs')) :=
  h.turn i _ hi hg ho fun b hb => hv.imp (fun e => e.symm.trans hb) (fun e => by have : v'.ownBlock = some b := hb; rw [e] at this; injection this with this; have := h.size; omega)
/-- What a call hands back in new memory. -/
theorem St.take (h : St w0 w n L) (hb : Below w.heap.size w w') {e size m : Nat} {v : Value} {xs : List Value} (ho : w'.ownsRow w.heap.size e size v m xs) : St w0 w' w'.heap.size (.own e size v m xs :: L) := by
  have h2 := h.call hb
  refine ⟨rfl, h2.bel, fun x hx => ?_, ?_⟩
  · rcases List.mem_cons.1 hx with hx | hx
    · rw [hx]; exact own_base' ho h.bel.size
    · exact h2.ok x hx
  · rw [List.filterMap_cons]
    split
    · exact h.apart
    · rename_i b hb'
      refine List.nodup_cons.2 ⟨fun hm => ?_, h.apart⟩
      have h3 := (ho.lt b hb').1
      have h4 := (h.lt_of hm).2
      have := h.size
      omega
/-- An own row that is nil. -/
theorem St.nil (h : St w0 w n L) (e size : Nat) : St w0 w n (.own e size (.slice none 0 0) 0 [] :: L) := by
  refine ⟨h.size, h.bel, fun x hx => ?_, ?_⟩
  · rcases List.mem_cons.1 hx with hx | hx
    · rw [hx]; exact World.ownsRow_nil _ _ _ _
    · exact h.ok x hx
  · have e0 : (Item.own e size (.slice none 0 0) 0 []).blk = none := rfl
    rw [List.filterMap_cons, e0]
    exact h.apart
/-- Fewer things. -/
theorem St.less (h : St w0 w n L) {M : List Item} (hs : M.Sublist L) : St w0 w n M := ⟨h.size, h.bel, fun x hx => h.ok x (hs.subset hx), h.apart.sublist (hs.filterMap _)⟩
theorem St.fix (h : St w0 w n L) : St w0 w w.heap.size L := ⟨rfl, h.bel, h.ok, h.apart⟩
theorem St.tail {x : Item} (h : St w0 w n (x :: L)) : St w0 w n L := h.less (List.sublist_cons_self _ _)
theorem St.perm (h : St w0 w n L) {M : List Item} (hp : L.Perm M) : St w0 w n M :=
  ⟨h.size, h.bel, fun x hx => h.ok x (hp.mem_iff.2 hx), (hp.filterMap _).nodup_iff.1 h.apart⟩
/-- The two things behind the first ones come to the front, and back. -/
theorem St.rot2 (F : List Item) {x y : Item} {K : List Item} (h : St w0 w n (F ++ x :: y :: K)) : St w0 w n (x :: y :: (F ++ K)) := by
  refine h.perm ?_
  have h1 : (F ++ ([x, y] ++ K)).Perm ([x, y] ++ (F ++ K)) := List.perm_append_comm_assoc F [x, y] K
  exact h1
theorem St.unrot2 (F : List Item) {x y : Item} {K : List Item} (h : St w0 w n (x :: y :: (F ++ K))) : St w0 w n (F ++ x :: y :: K) := by
  refine h.perm ?_
  have h1 : (F ++ ([x, y] ++ K)).Perm ([x, y] ++ (F ++ K)) := List.perm_append_comm_assoc F [x, y] K
  exact h1.symm
theorem St.cut (h : St w0 w n L) (k : Nat) : St w0 w n (L.take k) := h.less (List.take_sublist _ _)
theorem St.drop (h : St w0 w n L) (i : Nat) : St w0 w n (L.eraseIdx i) := h.less (List.eraseIdx_sublist _ _)

/-! What is read. -/
theorem St.get (h : St w0 w n L) (i o : Nat) {b : Nat} {cs : List Value} {v : Value} (hi : L[i]? = some (.box b cs)) (hv : cs[o]? = some v) : w.cell? ⟨b, o, none⟩ = some v := by
  obtain ⟨h1, T, h2⟩ := h.ok _ (List.mem_of_getElem? hi)
  simp [World.cell?, h2, hv]
theorem St.free (h : St w0 w n L) (i o : Nat) {b : Nat} {cs : List Value} (hi : L[i]? = some (.box b cs)) : w.frozen? ⟨b, o, none⟩ = false := by
  obtain ⟨h1, T, h2⟩ := h.ok _ (List.mem_of_getElem? hi)
  simp [World.frozen?, h2]
theorem St.lt (h : St w0 w n L) (i : Nat) {b : Nat} {cs : List Value} (hi : L[i]? = some (.box b cs)) : b < w.heap.size := by
  obtain ⟨h1, T, h2⟩ := h.ok _ (List.mem_of_getElem? hi)
  exact lt_of_block h2
theorem St.own (h : St w0 w n L) (i : Nat) {e size m : Nat} {v : Value} {xs : List Value} (hi : L[i]? = some (.own e size v m xs)) : w.ownsRow w0.heap.size e size v m xs := h.ok _ (List.mem_of_getElem? hi)
theorem St.row (h : St w0 w n L) (i : Nat) {e size m : Nat} {v : Value} {xs : List Value} (hi : L[i]? = some (.own e size v m xs)) : Reads w size v m xs := Reads.of_own (h.own i hi)
theorem St.ints (h : St w0 w n L) (i : Nat) {e m : Nat} {v : Value} {xs : List Int} (hi : L[i]? = some (.own e 1 v m (xs.map I))) : Ints w v xs := Ints.of_own (h.own i hi)
theorem St.obj (h : St w0 w n L) (i : Nat) {b : Nat} {p : Obj → Prop} (hi : L[i]? = some (.any b p)) : ∃ o, w.heap[b]? = some o ∧ p o := (h.ok _ (List.mem_of_getElem? hi)).2
theorem St.row? (h : St w0 w n L) (i : Nat) {b : Nat} {cs : List Value} (hi : L[i]? = some (.box b cs)) : ∃ T, w.heap[b]? = some (.cells cs.toArray T (0, 0)) := (h.ok _ (List.mem_of_getElem? hi)).2
theorem St.baseO (h : St w0 w n L) (i : Nat) {b : Nat} {p : Obj → Prop} (hi : L[i]? = some (.any b p)) : w0.heap.size ≤ b := (h.ok _ (List.mem_of_getElem? hi)).1
theorem St.base (h : St w0 w n L) (i : Nat) {b : Nat} {cs : List Value} (hi : L[i]? = some (.box b cs)) : w0.heap.size ≤ b := (h.ok _ (List.mem_of_getElem? hi)).1
end
end Go.Proofs.Ytplbaijdnpfdgaa

/- Memory: readings of slices in memory, boxes, regions that draw; appends whatever the source. No function here; no conditions. -/
import Derived.Test.YtpolipcicfjkiaaRows
import Derived.WalkKit
import Derived.WalkSpells
import Derived.WalkLawsBesides
import Derived.Handy
import Derived.BigQuiet
import Derived.Lib.Hide
import Derived.Lib.QuietBelow
import Derived.Deep.RegionHeld3
import Derived.Maps.AppendAt
import Derived.Lib.LazyBuf
import Derived.Test.YtpolipcicfjkiaaK16
import Derived.Test.YtpolipcicfjkiaaK25
namespace Go.Proofs.Ytpolipcicfjkiaa
open Go.RowKit Go.Sort

abbrev I (n : Int) : Value := .int .i64 n

/-- The slice value 'v' holds the cells xs, n elements of 'size' cells each. -/
def Reads (w : World) (size : Nat) (v : Value) (n : Nat) (xs : List Value) : Prop :=
  xs.length = n * size ∧ ∃ A c, v = .slice A n c ∧ n ≤ c ∧ c ≤ 9223372036854775807 ∧ (0 < n → ∃ b o, A = some ⟨b, o, none⟩ ∧ ∀ j u, xs[j]? = some u → w.cell? ⟨b, o + j, none⟩ = some u)

theorem Reads.below {w w' : World} {size n : Nat} {v : Value} {xs : List Value} (h : Reads w size v n xs) (hb : Below w.heap.size w w') : Reads w' size v n xs := by
  obtain ⟨h1, A, c, h2, h3, h4, h5⟩ := h
  refine ⟨h1, A, c, h2, h3, h4, fun hn => ?_⟩
  obtain ⟨b, o, rfl, hc⟩ := h5 hn
  refine ⟨b, o, rfl, fun j u hu => ?_⟩
  have := hc j u hu
  rw [hb.cell (World.block_lt_of_cell? w _ this)]
  exact this

/-- Behind a world whose old blocks stand: all old cells and marks. -/
theorem bcell {B : Nat} {W w1 : World} (hb : Below B W w1) : (∀ b o, b < B → w1.cell? ⟨b, o, none⟩ = W.cell? ⟨b, o, none⟩) ∧ (∀ b o, b < B → w1.frozen? ⟨b, o, none⟩ = W.frozen? ⟨b, o, none⟩) :=
  ⟨fun b o h => hb.cell (p := ⟨b, o, none⟩) h, fun b o h => hb.frozen (p := ⟨b, o, none⟩) h⟩

theorem bto {a b c : World} (h : Below a.heap.size a b) (k : Below b.heap.size b c) : Below a.heap.size a c :=
  h.trans (k.mono h.size)

/-- A reading of integers, as a list of integers. -/
def Ints (w : World) (v : Value) (xs : List Int) : Prop := Reads w 1 v xs.length (xs.map I)

theorem Ints.below {w w' : World} {v : Value} {xs : List Int} (h : Ints w v xs) (hb : Below w.heap.size w w') : Ints w' v xs := Reads.below h hb

/-- What an 'Ints' gives: the slice's form, and each cell. -/
theorem Ints.open_ {w : World} {v : Value} {xs : List Int} (h : Ints w v xs) :
    ∃ A c, v = .slice A xs.length c ∧ xs.length ≤ c ∧ c ≤ 9223372036854775807 ∧ (0 < xs.length → ∃ b o, A = some ⟨b, o, none⟩ ∧ b < w.heap.size ∧ ∀ j (hj : j < xs.length), w.cell? ⟨b, o + j, none⟩ = some (I xs[j])) := by
  obtain ⟨h1, A, c, h2, h3, h4, h5⟩ := h
  refine ⟨A, c, h2, h3, h4, fun hn => ?_⟩
  obtain ⟨b, o, h6, h7⟩ := h5 hn
  have hc : ∀ j (hj : j < xs.length), w.cell? ⟨b, o + j, none⟩ = some (I xs[j]) := fun j hj => h7 j _ (by simp [List.getElem?_eq_getElem hj])
  exact ⟨b, o, h6, World.block_lt_of_cell? w _ (hc 0 hn), hc⟩

/-- The call returns some natural number, and the world is as it was, but for new blocks. -/
def RetNat (w : World) (e : Ending) (w' : World) : Prop := ∃ k : Nat, e = .returned (I k) ∧ Below w.heap.size w w'
theorem ret_int {k : IntKind} {a b : Int} (h : a = b) : Ending.returned (.int k a) = .returned (.int k b) := by rw [h]

theorem box_cell (w : World) (cs : Array Value) (T : TypeId) (i : Nat) {v : Value} (h : cs[i]? = some v) : (w.alloc (.cells cs T)).cell? ⟨w.heap.size, i, none⟩ = some v := by
  simpa [go_sem] using h
theorem box_old (w : World) (ob : Obj) {b o : Nat} {v : Value} (h : w.cell? ⟨b, o, none⟩ = some v) : (w.alloc ob).cell? ⟨b, o, none⟩ = some v := by
  rw [World.cell?_alloc_lt w ob _ (World.block_lt_of_cell? w _ h)]; exact h

/-- A region that draws its order, whose operations only read and whose callees leave what was there as it was: walked once, in the text's order; behind it the world is a letter. -/
theorem wp_region_ext {P : Program} {id : Nat} {Q : Exit → Act → World → Prop} {a : Act} {w : World} {l : List Oper} (hm : P.follows .mixedOrders = true) (hB : Region.lexB .any l.toArray = true)
    (h : wpQuiet P l.toArray (fun w' => ∃ p : Regrown, w' = grow (redrawn w p.d) p.os) (fun a' => ∀ w', Below w.heap.size w w' → Q .normal a' w') l a) : (Code.region id l.toArray true).wp P Q a w :=
  wp_region_quiet (C := fun w' => ∃ p : Regrown, w' = grow (redrawn w p.d) p.os) hm hB ⟨⟨w.drawn + 1, #[]⟩, by rw [grow_empty]; rfl⟩
    (by
      have key : ∀ (rest : List Oper) (a : Act), wpQuiet P l.toArray (fun w' => ∃ p : Regrown, w' = grow (redrawn w p.d) p.os) (fun a' => ∀ w', Below w.heap.size w w' → Q .normal a' w') rest a →
          wpQuiet P l.toArray (fun w' => ∃ p : Regrown, w' = grow (redrawn w p.d) p.os) (fun a' => ∀ w', (∃ p : Regrown, w' = grow (redrawn w p.d) p.os) → Q .normal a' w') rest a := by
        intro rest
        induction rest with
        | nil => intro a h w' ⟨p, hp⟩; exact h w' (hp ▸ below_regrown w p.d p.os)
        | cons o rest ih =>
          intro a h
          unfold wpQuiet at h ⊢
          split
          · rename_i hw
            rw [if_pos hw] at h
            exact Oper.quiet_mono (fun a h => ih a h) h
          · rename_i hw
            rw [if_neg hw] at h
            exact ih _ h
      simpa using key l a h)

/-- A contract, met in such a region. -/
theorem ext_call {P : Program} {f : FuncId} {args : Array Value} {w : World} {v : Value}
    (h : ∀ W, Below w.heap.size w W → Calls P f args W fun e w' => e = .returned v ∧ Below W.heap.size W w') :
    ∀ d os, Calls P f args (grow (redrawn w d) os) fun e w'' => e = .returned v ∧ ∃ p : Regrown, w'' = grow (redrawn w p.d) p.os :=
  fun d os => Calls.regrown_of (h _ (below_regrown w d os))

theorem keep_cell {W w1 : World} (hb : Below W.heap.size W w1) {b o : Nat} {v : Value} (h : W.cell? ⟨b, o, none⟩ = some v) : w1.cell? ⟨b, o, none⟩ = some v := by
  rw [hb.cell (p := ⟨b, o, none⟩) (World.block_lt_of_cell? W _ h)]; exact h

/-- A row of the call's own reads as a list of integers. -/
theorem Ints.of_own {w : World} {base e : Nat} {v : Value} {n : Nat} {xs : List Int} (h : w.ownsRow base e 1 v n (xs.map I)) : Ints w v xs := by
  have hl : xs.length = n := by have := h.1; simpa using this
  subst hl
  refine ⟨by simp, ?_⟩
  rcases h.2 with ⟨rfl, h0⟩ | ⟨g, cap, cur, rfl, hb, hg, h1, h2, h3, h4⟩
  · exact ⟨none, 0, by rw [h0], by omega, by omega, fun h => by omega⟩
  · refine ⟨some ⟨g, 0, none⟩, cap, rfl, h1, h2, fun hn => ⟨g, 0, rfl, fun j u hu => ?_⟩⟩
    have := h.cells (g := g) rfl j u hu
    have e : (⟨g, 0, none⟩ : Addr).add j = ⟨g, 0 + j, none⟩ := by unfold Addr.add; split <;> simp_all
    rwa [e] at this

theorem run_append_nil' {P : Program} (w : World) (base : Nat) (t ty e : TypeId) (i : TypeInfo) (size : Nat) (ht : P.underlying t = some (.slice e)) (hi : P.info? e = some i)
    (v : Value) (n : Nat) (xs : List Value) (hown : w.ownsRow base e size v n xs) (c : Nat) : (Builtin.append_ #[t, t] ty #[v, .slice none 0 c]).run P w = .ok v w := by
  rcases hown.2 with ⟨rfl, rfl⟩ | ⟨g, cap, cur, rfl, _, _, hnc, _⟩
  · simp [Builtin.append_, run_underlying ht, sizeOf, typeInfo, hi, Builtin.lenOf, Builtin.firstCells]
  · simp [Builtin.append_, run_underlying ht, sizeOf, typeInfo, hi, Builtin.lenOf, Builtin.firstCells, hnc, storeCells]

theorem add_plain (b o j : Nat) : (⟨b, o, none⟩ : Addr).add j = ⟨b, o + j, none⟩ := by unfold Addr.add; split <;> simp_all

theorem run_append_src {P : Program} (w : World) (base : Nat) (t ty e : TypeId) (i : TypeInfo) (z : Value) (size bytes : Nat) (ht : P.underlying t = some (.slice e)) (hi : P.info? e = some i) (hz : i.zero = some z)
    (hsize : i.size = size) (hby : i.bytes = bytes) (hzs : z.cells.size = size) (hsz : 0 < size)
    (v : Value) (n : Nat) (xs : List Value) (hown : w.ownsRow base e size v n xs)
    (sv : Value) (m : Nat) (news : List Value) (hr : Reads w size sv m news) (h1 : ∀ u ∈ news, u.oneCell' = true)
    (h63 : n + m ≤ maxLen) (hbytes : (n + m) * bytes ≤ 140737488355328) (hbase : base ≤ w.heap.size) :
    ∃ v' w', (Builtin.append_ #[t, t] ty #[v, sv]).run P w = .ok v' w' ∧ w'.ownsRow base e size v' (n + m) (xs ++ news) ∧ w.grownBy w' v.ownBlock ∧
      (v'.ownBlock = v.ownBlock ∨ v'.ownBlock = some w.heap.size) := by
  obtain ⟨hl, A, c, rfl, hmc, _, hc⟩ := hr
  have hnil : m = 0 → news = [] := fun h => List.eq_nil_of_length_eq_zero (by rw [hl, h]; simp)
  rcases A with _ | ad
  · have hm : m = 0 := by
      rcases Nat.eq_zero_or_pos m with h0 | h0
      · exact h0
      · obtain ⟨b, o, h, _⟩ := hc h0
        cases h
    have hn := hnil hm
    subst hm
    subst hn
    exact ⟨v, w, run_append_nil' w base t ty e i size ht hi v n xs hown c, by simpa using hown, World.grownBy.refl w _, .inl rfl⟩
  · have hcells : ∀ j u, news[j]? = some u → w.cell? (ad.add j) = some u := by
      intro j u hu
      rcases Nat.eq_zero_or_pos m with h0 | h0
      · rw [hnil h0] at hu; simp at hu
      · obtain ⟨b, o, h, hc'⟩ := hc h0
        injection h with h
        subst h
        rw [add_plain]
        exact hc' j u hu
    obtain ⟨v', w', hrun, h2, h3, _, h5⟩ := run_append_own_at (P := P) w base t ty e i z size bytes ht hi hz hsize hby hzs hsz v n xs hown ad m c news hl hcells h1 h63 hbytes hbase
    exact ⟨v', w', hrun, h2, h3, h5⟩

theorem wp_append_src {P : Program} (w : World) {o : Oper} {a : Act} {K : Act → World → Prop} {Q : Exit → Act → World → Prop} (s x : Operand) (t : TypeId)
    (ho : o.op = .call { callee := .builtin .append, args := #[s, x], argTypes := #[t, t] })
    (base : Nat) (e : TypeId) (i : TypeInfo) (z : Value) (size bytes : Nat) (ht : P.underlying t = some (.slice e)) (hi : P.info? e = some i) (hz : i.zero = some z)
    (hsize : i.size = size) (hby : i.bytes = bytes) (hzs : z.cells.size = size) (hsz : 0 < size)
    (v : Value) (n : Nat) (xs : List Value) (hs : a.eval s = v) (hown : w.ownsRow base e size v n xs)
    (sv : Value) (m : Nat) (news : List Value) (hx : a.eval x = sv) (hr : Reads w size sv m news) (h1 : ∀ u ∈ news, u.oneCell' = true)
    (h63 : n + m ≤ maxLen) (hbytes : (n + m) * bytes ≤ 140737488355328) (hbase : base ≤ w.heap.size)
    (h : ∀ v' w', w'.ownsRow base e size v' (n + m) (xs ++ news) → w.grownBy w' v.ownBlock → (v'.ownBlock = v.ownBlock ∨ v'.ownBlock = some w.heap.size) → K (a.put o.dst v') w') : o.wp P a w K Q := by
  obtain ⟨v', w', hrun, h2, h3, h4⟩ := run_append_src (P := P) w base t o.type e i z size bytes ht hi hz hsize hby hzs hsz v n xs hown sv m news hr h1 h63 hbytes hbase
  unfold Oper.wp execOp
  simp only [ho, resolve, invoke, builtin, Sem.run_bind, Sem.run_pure, Result.andThen_ok, List.map_toArray, List.map_cons, List.map_nil, hs, hx, hrun]
  exact h v' w' h2 h3 h4

theorem wpList_append_src {P : Program} (w : World) {ops : Array Oper} {rest : List Oper} {o : Oper} {a : Act} {Q : Exit → Act → World → Prop} (hgd : o.guard = none) (s x : Operand) (t : TypeId)
    (ho : o.op = .call { callee := .builtin .append, args := #[s, x], argTypes := #[t, t] })
    (base : Nat) (e : TypeId) (i : TypeInfo) (z : Value) (size bytes : Nat) (ht : P.underlying t = some (.slice e)) (hi : P.info? e = some i) (hz : i.zero = some z)
    (hsize : i.size = size) (hby : i.bytes = bytes) (hzs : z.cells.size = size) (hsz : 0 < size)
    (v : Value) (n : Nat) (xs : List Value) (hs : a.eval s = v) (hown : w.ownsRow base e size v n xs)
    (sv : Value) (m : Nat) (news : List Value) (hx : a.eval x = sv) (hr : Reads w size sv m news) (h1 : ∀ u ∈ news, u.oneCell' = true)
    (h63 : n + m ≤ maxLen) (hbytes : (n + m) * bytes ≤ 140737488355328) (hbase : base ≤ w.heap.size)
    (h : ∀ v' w', w'.ownsRow base e size v' (n + m) (xs ++ news) → w.grownBy w' v.ownBlock → (v'.ownBlock = v.ownBlock ∨ v'.ownBlock = some w.heap.size) → wpList P ops Q rest (a.put o.dst v') w') : wpList P ops Q (o :: rest) a w :=
  wpList_plain hgd fun _ hK => wp_append_src w s x t ho base e i z size bytes ht hi hz hsize hby hzs hsz v n xs hs hown sv m news hx hr h1 h63 hbytes hbase fun v' w' h2 h3 h4 => hK _ _ (h v' w' h2 h3 h4)

/-- append onto an empty slice that was just made: nothing older is written. -/
theorem run_append_fresh {P : Program} (w : World) (base : Nat) (t ty e : TypeId) (i : TypeInfo) (z : Value) (size bytes : Nat) (ht : P.underlying t = some (.slice e)) (hi : P.info? e = some i) (hz : i.zero = some z)
    (hsize : i.size = size) (hby : i.bytes = bytes) (hzs : z.cells.size = size) (hsz : 0 < size)
    (g : Nat) (hg : w.heap[g]? = some (.cells #[] e (0, 0))) (hbg : base ≤ g)
    (sv : Value) (m : Nat) (news : List Value) (hr : Reads w size sv m news) (h1 : ∀ u ∈ news, u.oneCell' = true)
    (h63 : m ≤ maxLen) (hbytes : m * bytes ≤ 140737488355328) (hbase : base ≤ w.heap.size) :
    ∃ v' w', (Builtin.append_ #[t, t] ty #[.slice (some ⟨g, 0, none⟩) 0 0, sv]).run P w = .ok v' w' ∧ w'.ownsRow base e size v' m news ∧ Below w.heap.size w w' := by
  have hown : w.ownsRow base e size (.slice (some ⟨g, 0, none⟩) 0 0) 0 [] := ⟨by simp, .inr ⟨g, 0, #[], rfl, hbg, hg, by omega, by simp [maxLen], by simp, by simp⟩⟩
  obtain ⟨hl, A, c, rfl, hmc, _, hc⟩ := hr
  subst hsize
  subst hby
  have hsmall : m ≤ 9223372036854775807 := by simp only [maxLen] at h63; omega
  rcases Nat.eq_zero_or_pos m with h0 | h0
  · subst h0
    have hn : news = [] := List.eq_nil_of_length_eq_zero (by simpa using hl)
    subst hn
    rcases A with _ | ad
    · exact ⟨_, w, run_append_nil' w base t ty e i i.size ht hi _ 0 [] hown c, hown, Below.refl _ _⟩
    · have hrun := run_append_room (P := P) w t ty e i ht hi g 0 0 #[] hg ad 0 c [] (by simp) (by simp) (by simp) (by omega) (by simp)
      refine ⟨_, _, hrun, ⟨by simp, .inr ⟨g, 0, #[], rfl, hbg, ?_, by omega, by simp [maxLen], by simp, by simp⟩⟩, ⟨rfl, rfl, rfl, by simp, fun k hk => ?_⟩⟩
      · exact (setRow_heap w g #[] _ e _ hg).trans (by simp)
      · by_cases hkg : k = g
        · subst hkg
          rw [hg]
          exact (setRow_heap w k #[] _ e _ hg).trans (by simp)
        · exact setRow_other w g k _ (fun e => hkg (by simp [e]))
  · obtain ⟨b, o, rfl, hcell⟩ := hc h0
    have hnews : ∀ j u, news[j]? = some u → w.cell? ((⟨b, o, none⟩ : Addr).add j) = some u := fun j u hu => by rw [add_plain]; exact hcell j u hu
    have hrun := run_append_grow (P := P) w t ty e i z ht hi hz ⟨g, 0, none⟩ 0 0 [] hown.1 (hown.cells (g := g) rfl) ⟨b, o, none⟩ m c news hl hnews (by omega) (by omega) (growslice_fits (by omega) (by simpa using hbytes))
    have hge := grownCap_ge w (0 + m) 0 e
    have hcm : grownCap w (0 + m) 0 e ≤ maxLen := grownCap_le_maxLen w (0 + m) 0 e (by simpa using h63)
    refine ⟨_, _, hrun, ⟨hl, .inr ⟨w.heap.size, _, _, by simp only [Nat.zero_add], hbase, heap_alloc_new w.drew _, ?_, hcm, ?_, ?_⟩⟩, ⟨rfl, rfl, rfl, by simp, fun k hk => heap_alloc_old w.drew _ hk⟩⟩
    · simpa using hge
    · simp only [Array.size_append, List.size_toArray, size_zeroCells, hzs, hl, List.length_nil, Nat.zero_add, ← Nat.add_mul]
      congr 1
      simp at hge ⊢
      omega
    · simp only [Array.toList_append, List.nil_append, ← hl]
      exact List.take_left

theorem wp_append_fresh {P : Program} (w : World) {o : Oper} {a : Act} {K : Act → World → Prop} {Q : Exit → Act → World → Prop} (s x : Operand) (t : TypeId)
    (ho : o.op = .call { callee := .builtin .append, args := #[s, x], argTypes := #[t, t] })
    (base : Nat) (e : TypeId) (i : TypeInfo) (z : Value) (size bytes : Nat) (ht : P.underlying t = some (.slice e)) (hi : P.info? e = some i) (hz : i.zero = some z)
    (hsize : i.size = size) (hby : i.bytes = bytes) (hzs : z.cells.size = size) (hsz : 0 < size)
    (g : Nat) (hs : a.eval s = .slice (some ⟨g, 0, none⟩) 0 0) (hg : w.heap[g]? = some (.cells #[] e (0, 0))) (hbg : base ≤ g)
    (sv : Value) (m : Nat) (news : List Value) (hx : a.eval x = sv) (hr : Reads w size sv m news) (h1 : ∀ u ∈ news, u.oneCell' = true)
    (h63 : m ≤ maxLen) (hbytes : m * bytes ≤ 140737488355328) (hbase : base ≤ w.heap.size)
    (h : ∀ v' w', w'.ownsRow base e size v' m news → Below w.heap.size w w' → K (a.put o.dst v') w') : o.wp P a w K Q := by
  obtain ⟨v', w', hrun, h2, h3⟩ := run_append_fresh (P := P) w base t o.type e i z size bytes ht hi hz hsize hby hzs hsz g hg hbg sv m news hr h1 h63 hbytes hbase
  unfold Oper.wp execOp
  simp only [ho, resolve, invoke, builtin, Sem.run_bind, Sem.run_pure, Result.andThen_ok, List.map_toArray, List.map_cons, List.map_nil, hs, hx, hrun]
  exact h v' w' h2 h3

theorem one_I (n : Int) : (I n).oneCell' = true := rfl
theorem ints_one (xs : List Int) : ∀ u ∈ xs.map I, u.oneCell' = true := fun u hu => by
  obtain ⟨x, _, rfl⟩ := List.mem_map.1 hu
  rfl
theorem Reads.of_own {w : World} {base e size : Nat} {v : Value} {n : Nat} {xs : List Value} (h : w.ownsRow base e size v n xs) : Reads w size v n xs := by
  refine ⟨h.1, ?_⟩
  rcases h.2 with ⟨rfl, h0⟩ | ⟨g, cap, cur, rfl, hb, hg, h1, h2, h3, h4⟩
  · exact ⟨none, 0, by rw [h0], by omega, by omega, fun h => by omega⟩
  · refine ⟨some ⟨g, 0, none⟩, cap, rfl, h1, h2, fun hn => ⟨g, 0, rfl, fun j u hu => ?_⟩⟩
    have := h.cells (g := g) rfl j u hu
    rwa [add_plain] at this
theorem grown_of_below {w w' : World} (hb : Below w.heap.size w w') (row : Option Nat) : w.grownBy w' row := ⟨hb.os, hb.tape, hb.output, hb.size, fun k hk _ => hb.block k hk⟩
theorem own_below {w w' : World} {base e size n : Nat} {v : Value} {xs : List Value} (h : w.ownsRow base e size v n xs) (hb : Below w.heap.size w w') : w'.ownsRow base e size v n xs := h.kept (grown_of_below hb none) (by rcases hq : v.ownBlock with _ | q <;> simp)

theorem own_base' {w : World} {B B' e size n : Nat} {v : Value} {xs : List Value} (h : w.ownsRow B' e size v n xs) (hB : B ≤ B') : w.ownsRow B e size v n xs :=
  ⟨h.1, h.2.imp id (fun ⟨g, cap, cur, a, b, c⟩ => ⟨g, cap, cur, a, Nat.le_trans hB b, c⟩)⟩
theorem own_setCell {W : World} {base e size n : Nat} {v : Value} {xs : List Value} (h : W.ownsRow base e size v n xs) (q : Addr) (u : Value) (hq : q.block < base) : (W.setCell q u).ownsRow base e size v n xs :=
  h.kept (row := some q.block) ⟨rfl, rfl, rfl, by simp, fun k _ hk => Below.heap_setCell _ _ _ k (fun e => hk (by rw [e]))⟩ (.inr fun e => by have := h.lt _ e; omega)
theorem own_shape {w : World} {B e size n : Nat} {v : Value} {xs : List Value} (h : w.ownsRow B e size v n xs) : ∃ A c, v = .slice A n c := by
  rcases h.2 with ⟨rfl, rfl⟩ | ⟨g, cap, cur, rfl, _⟩
  · exact ⟨_, _, rfl⟩
  · exact ⟨_, _, rfl⟩
theorem own_shape_pos {w : World} {B e size n : Nat} {v : Value} {xs : List Value} (h : w.ownsRow B e size v n xs) (hn : 0 < n) : ∃ g cap, v = .slice (some ⟨g, 0, none⟩) n cap ∧ B ≤ g ∧ g < w.heap.size := by
  rcases h.2 with ⟨rfl, rfl⟩ | ⟨g, cap, cur, rfl, hb, hh, _⟩
  · omega
  · exact ⟨g, cap, rfl, hb, (Array.getElem?_eq_some_iff.1 hh).1⟩
theorem own_cell {w : World} {B e n g cap : Nat} {xs : List Int} (h : w.ownsRow B e 1 (.slice (some ⟨g, 0, none⟩) n cap) n (xs.map I)) (i : Nat) (x : Int) (hx : xs[i]? = some x) : w.cell? ⟨g, i, none⟩ = some (I x) := by
  have hl := h.1
  rw [List.length_map] at hl
  have hi := (List.getElem?_eq_some_iff.1 hx).1
  rw [h.cellAt i (by omega)]
  rw [List.getElem?_map, hx]; rfl

theorem Try.info3 : (Try.prog.info? 3).map (fun i => (i.zero, i.size, i.bytes)) = some (some (.int .i64 0), 1, 8) := by kernel_rfl
end Go.Proofs.Ytpolipcicfjkiaa
/- Readings of slices of integers and of points in memory, the data of a line, and small lemmas on them. Plain; no conditions. -/
namespace Go.Proofs.Ytpolipcicfjkiaa
open Go.RowKit

def Pt.cells (p : Pt) : List Value := [I p.lo, I p.hi, I p.cost]
def ptCells (ps : List Pt) : List Value := ps.flatMap Pt.cells
theorem ptCells_length (ps : List Pt) : (ptCells ps).length = ps.length * 3 := by
  induction ps with
  | nil => rfl
  | cons p ps ih => simp [ptCells, Pt.cells] at ih ⊢; omega
theorem ptCells_at : ∀ (ps : List Pt) (i : Nat) (h : i < ps.length), (ptCells ps)[i * 3]? = some (I ps[i].lo) ∧ (ptCells ps)[i * 3 + 1]? = some (I ps[i].hi) ∧ (ptCells ps)[i * 3 + 2]? = some (I ps[i].cost)
  | [], i, h => absurd h (by simp)
  | p :: ps, 0, _ => ⟨rfl, rfl, rfl⟩
  | p :: ps, i + 1, h => by
    have := ptCells_at ps i (by simpa using h)
    have e : ptCells (p :: ps) = I p.lo :: I p.hi :: I p.cost :: ptCells ps := rfl
    rw [e, show (i + 1) * 3 = i * 3 + 3 from by omega]
    simpa using this

def Pts (w : World) (v : Value) (ps : List Pt) : Prop := Reads w 3 v ps.length (ptCells ps)
theorem Pts.below {w w' : World} {v : Value} {ps : List Pt} (h : Pts w v ps) (hb : Below w.heap.size w w') : Pts w' v ps := Reads.below h hb
theorem Pts.open_ {w : World} {v : Value} {ps : List Pt} (h : Pts w v ps) :
    ∃ A c, v = .slice A ps.length c ∧ ps.length ≤ c ∧ c ≤ 9223372036854775807 ∧ (0 < ps.length → ∃ b o, A = some ⟨b, o, none⟩ ∧ b < w.heap.size ∧
      ∀ j (hj : j < ps.length), w.cell? ⟨b, o + j * 3, none⟩ = some (I ps[j].lo) ∧ w.cell? ⟨b, o + j * 3 + 1, none⟩ = some (I ps[j].hi) ∧ w.cell? ⟨b, o + j * 3 + 2, none⟩ = some (I ps[j].cost)) := by
  obtain ⟨h1, A, c, h2, h3, h4, h5⟩ := h
  refine ⟨A, c, h2, h3, h4, fun hn => ?_⟩
  obtain ⟨b, o, h6, h7⟩ := h5 hn
  have hc : ∀ j (hj : j < ps.length), w.cell? ⟨b, o + j * 3, none⟩ = some (I ps[j].lo) ∧ w.cell? ⟨b, o + j * 3 + 1, none⟩ = some (I ps[j].hi) ∧ w.cell? ⟨b, o + j * 3 + 2, none⟩ = some (I ps[j].cost) := fun j hj => by
    obtain ⟨e1, e2, e3⟩ := ptCells_at ps j hj
    exact ⟨h7 _ _ e1, by have := h7 _ _ e2; simpa [Nat.add_assoc] using this, by have := h7 _ _ e3; simpa [Nat.add_assoc] using this⟩
  exact ⟨b, o, h6, World.block_lt_of_cell? w _ (hc 0 hn).1, hc⟩

def LineAt (w : World) (v : Value) (d : DLine) : Prop := ∃ pv ov, v = .agg #[pv, ov] ∧ Pts w pv d.pts ∧ Ints w ov d.odds
theorem LineAt.below {w w' : World} {v : Value} {d : DLine} (h : LineAt w v d) (hb : Below w.heap.size w w') : LineAt w' v d := by
  obtain ⟨pv, ov, h1, h2, h3⟩ := h
  exact ⟨pv, ov, h1, h2.below hb, h3.below hb⟩

end Go.Proofs.Ytpolipcicfjkiaa
/- Walks of the smallest functions of the program: within, Check and what it calls, ask, areStretches, isStretch, isPoint, odds. -/
namespace Go.Proofs.Ytpolipcicfjkiaa
open Go.RowKit

set_option maxHeartbeats 400000 in
theorem within_any (n lo hi : Int) (w : World) :
    Calls PA.prog 57 #[I n, I lo, I hi] w fun e w' => e = .returned (.bool (inR n lo hi)) ∧ w = w' := by
  by_cases h1 : lo ≤ n
  · by_cases h2 : n ≤ hi
    · go_enter PA.func57, Try.ntmps57
      go_wp2
      go_ret
      exact ⟨by simp [inR, *], rfl⟩
    · go_enter PA.func57, Try.ntmps57
      go_wp2
      go_ret
      exact ⟨by simp [inR, *], rfl⟩
  · go_enter PA.func57, Try.ntmps57
    go_wp2
    go_ret
    exact ⟨by simp [inR]; omega, rfl⟩

set_option maxHeartbeats 400000 in
theorem badOdds_any (n : Int) (w : World) :
    Calls PA.prog 87 #[I n] w fun e w' => e = .returned (.bool (badOdds n)) ∧ w = w' := by
  go_enter PA.func87, Try.ntmps87
  go_wp2_with (go_at_call 57; refine (within_any _ _ _ _).mono ?_; rintro e w' ⟨rfl, rfl⟩)
  go_ret
  exact ⟨rfl, rfl⟩

set_option maxHeartbeats 400000 in
theorem badPt_any (p : Pt) (w : World) :
    Calls PA.prog 88 #[.agg #[I p.lo, I p.hi, I p.cost]] w fun e w' => e = .returned (.bool (badPt p)) ∧ Below w.heap.size w w' := by
  rcases p with ⟨lo, hi, cost⟩
  show Calls PA.prog 88 #[.agg #[I lo, I hi, I cost]] w _
  cases h1 : inR hi 0 99
  · go_enter PA.func88, Try.ntmps88
    go_wp2_with (go_at_call 57; refine (within_any _ _ _ _).mono ?_; rintro e w' ⟨rfl, rfl⟩)
    go_ret
    exact ⟨by simp [badPt, h1], (Below.refl _ _).alloc (Nat.le_refl _) _⟩
  · cases h2 : inR lo 0 hi
    · go_enter PA.func88, Try.ntmps88
      go_wp2_with (go_at_call 57; refine (within_any _ _ _ _).mono ?_; rintro e w' ⟨rfl, rfl⟩)
      go_ret
      exact ⟨by simp [badPt, h1, h2], (Below.refl _ _).alloc (Nat.le_refl _) _⟩
    · go_enter PA.func88, Try.ntmps88
      go_wp2_with (go_at_call 57; refine (within_any _ _ _ _).mono ?_; rintro e w' ⟨rfl, rfl⟩)
      go_ret
      exact ⟨by simp [badPt, h1, h2], (Below.refl _ _).alloc (Nat.le_refl _) _⟩

set_option maxHeartbeats 400000 in
theorem indexOdds_no (ov : Value) (xs : List Int) (w : World) (hr : Ints w ov xs) (hn : xs.any badOdds = false) :
    Calls PA.prog 91 #[ov, .func (.func 87) #[] #[]] w fun e w' => e = .returned (I (-1)) ∧ w = w' := by
  obtain ⟨A, c, rfl, hnc, hcm, hc⟩ := hr.open_
  have HC := Lib.hid hc; clear hc
  have HN := Lib.hid hn; clear hn hr
  go_enter PA.func91, Try.ntmps91
  go_wp2_with fail
  go_loop [8] (fun i => ∃ k : Nat, k ≤ xs.length ∧ i = I k) (fun i => xs.length - (intOf i).toNat)
  case atStart => exact ⟨0, by omega, rfl⟩
  case round =>
    obtain ⟨k, hk, rfl⟩ := hrel
    by_cases hlt : k < xs.length
    · obtain ⟨b, o, rfl, _, hcell⟩ := HC.out (by omega)
      have hcell := hcell k hlt
      have hb : badOdds xs[k] = false := by
        have := HN.out
        simp only [List.any_eq_false] at this
        simpa using this _ (List.getElem_mem hlt)
      go_wp2_with (go_at_call 87; refine (badOdds_any _ _).mono ?_; rintro e w' ⟨rfl, rfl⟩)
      go_round
      case rel => exact ⟨k + 1, by omega, by go_num⟩
      case measure => simp [intOf]; omega
    · go_wp2_with fail
      go_ret
      exact ⟨rfl, rfl⟩

set_option maxHeartbeats 400000 in
theorem indexOdds_yes (ov : Value) (xs : List Int) (w : World) (hr : Ints w ov xs) (hn : xs.any badOdds = true) :
    Calls PA.prog 91 #[ov, .func (.func 87) #[] #[]] w (RetNat w) := by
  obtain ⟨A, c, rfl, hnc, hcm, hc⟩ := hr.open_
  have HC := Lib.hid hc; clear hc
  have HN := Lib.hid hn; clear hn hr
  go_enter PA.func91, Try.ntmps91
  go_wp2_with fail
  go_loop [8] (fun i => ∃ k : Nat, k ≤ xs.length ∧ i = I k ∧ (xs.drop k).any badOdds = true) (fun i => xs.length - (intOf i).toNat)
  case atStart => exact ⟨0, by omega, rfl, HN.out⟩
  case round =>
    obtain ⟨k, hk, rfl, hd⟩ := hrel
    have hlt : k < xs.length := by
      apply Classical.byContradiction
      intro hge
      rw [List.drop_eq_nil_of_le (by omega)] at hd
      simp at hd
    rw [List.drop_eq_getElem_cons hlt, List.any_cons] at hd
    obtain ⟨b, o, rfl, _, hcell⟩ := HC.out (by omega)
    have hcell := hcell k hlt
    have HD := Lib.hid hd; clear hd
    cases hb : badOdds xs[k]
    · go_wp2_with (go_at_call 87; refine (badOdds_any _ _).mono ?_; rintro e w' ⟨rfl, rfl⟩)
      go_round
      case rel => exact ⟨k + 1, by omega, by go_num, by have := HD.out; simpa [hb] using this⟩
      case measure => simp [intOf]; omega
    · go_wp2_with (go_at_call 87; refine (badOdds_any _ _).mono ?_; rintro e w' ⟨rfl, rfl⟩)
      go_ret
      exact ⟨k, rfl, Below.refl _ _⟩

set_option maxHeartbeats 400000 in
theorem containsOdds_any (ov : Value) (xs : List Int) (w : World) (hr : Ints w ov xs) :
    Calls PA.prog 89 #[ov, .func (.func 87) #[] #[]] w fun e w' => e = .returned (.bool (xs.any badOdds)) ∧ Below w.heap.size w w' := by
  cases hb : xs.any badOdds
  · go_enter PA.func89, Try.ntmps89
    go_wp2_with (go_at_call 91; refine (indexOdds_no _ _ _ hr hb).mono ?_; rintro e w' ⟨rfl, rfl⟩)
    go_ret
    exact ⟨rfl, Below.refl _ _⟩
  · go_enter PA.func89, Try.ntmps89
    go_wp2_with (go_at_call 91; refine (indexOdds_yes _ _ _ hr hb).mono ?_; rintro e w' ⟨k, rfl, hw⟩)
    go_ret
    exact ⟨by simp, hw⟩

set_option maxHeartbeats 400000 in
theorem indexPts_no (pv : Value) (ps : List Pt) (w : World) (hr : Pts w pv ps) (hn : ps.any badPt = false) :
    Calls PA.prog 92 #[pv, .func (.func 88) #[] #[]] w fun e w' => e = .returned (I (-1)) ∧ Below w.heap.size w w' := by
  obtain ⟨A, c, rfl, hnc, hcm, hc⟩ := hr.open_
  have HC := Lib.hid hc; clear hc
  have HN := Lib.hid hn; clear hn hr
  go_enter PA.func92, Try.ntmps92
  go_wp2_with fail
  go_loopw [8] (fun i wr => ∃ k : Nat, k ≤ ps.length ∧ i = I k ∧ Below w.heap.size w wr) (fun i _ => ps.length - (intOf i).toNat)
  case atStart => exact ⟨0, by omega, rfl, Below.refl _ _⟩
  case round =>
    obtain ⟨k, hk, rfl, hbw⟩ := hrel
    by_cases hlt : k < ps.length
    · obtain ⟨b, o, rfl, hbl, hcell⟩ := HC.out (by omega)
      obtain ⟨h1, h2, h3⟩ := hcell k hlt
      rw [← hbw.cell (p := ⟨b, _, none⟩) hbl] at h1 h2 h3
      have hb : badPt ps[k] = false := by
        have := HN.out
        simp only [List.any_eq_false] at this
        simpa using this _ (List.getElem_mem hlt)
      go_wp2_with (go_at_call 88; refine (badPt_any _ _).mono ?_; rintro e w' ⟨rfl, hw'⟩)
      go_roundw
      case rel => exact ⟨k + 1, by omega, by go_num, bto hbw hw'⟩
      case measure => simp [intOf]; omega
    · go_wp2_with fail
      go_ret
      exact ⟨rfl, hbw⟩

set_option maxHeartbeats 400000 in
theorem indexPts_yes (pv : Value) (ps : List Pt) (w : World) (hr : Pts w pv ps) (hn : ps.any badPt = true) :
    Calls PA.prog 92 #[pv, .func (.func 88) #[] #[]] w (RetNat w) := by
  obtain ⟨A, c, rfl, hnc, hcm, hc⟩ := hr.open_
  have HC := Lib.hid hc; clear hc
  have HN := Lib.hid hn; clear hn hr
  go_enter PA.func92, Try.ntmps92
  go_wp2_with fail
  go_loopw [8] (fun i wr => ∃ k : Nat, k ≤ ps.length ∧ i = I k ∧ (ps.drop k).any badPt = true ∧ Below w.heap.size w wr) (fun i _ => ps.length - (intOf i).toNat)
  case atStart => exact ⟨0, by omega, rfl, HN.out, Below.refl _ _⟩
  case round =>
    obtain ⟨k, hk, rfl, hd, hbw⟩ := hrel
    have hlt : k < ps.length := by
      apply Classical.byContradiction
      intro hge
      rw [List.drop_eq_nil_of_le (by omega)] at hd
      simp at hd
    rw [List.drop_eq_getElem_cons hlt, List.any_cons] at hd
    obtain ⟨b, o, rfl, hbl, hcell⟩ := HC.out (by omega)
    obtain ⟨h1, h2, h3⟩ := hcell k hlt
    rw [← hbw.cell (p := ⟨b, _, none⟩) hbl] at h1 h2 h3
    have HD := Lib.hid hd; clear hd
    cases hb : badPt ps[k]
    · go_wp2_with (go_at_call 88; refine (badPt_any _ _).mono ?_; rintro e w' ⟨rfl, hw'⟩)
      go_roundw
      case rel => exact ⟨k + 1, by omega, by go_num, by have := HD.out; simpa [hb] using this, bto hbw hw'⟩
      case measure => simp [intOf]; omega
    · go_wp2_with (go_at_call 88; refine (badPt_any _ _).mono ?_; rintro e w' ⟨rfl, hw'⟩)
      go_ret
      exact ⟨k, rfl, bto hbw hw'⟩

set_option maxHeartbeats 400000 in
theorem containsPts_any (pv : Value) (ps : List Pt) (w : World) (hr : Pts w pv ps) :
    Calls PA.prog 90 #[pv, .func (.func 88) #[] #[]] w fun e w' => e = .returned (.bool (ps.any badPt)) ∧ Below w.heap.size w w' := by
  cases hb : ps.any badPt
  · go_enter PA.func90, Try.ntmps90
    go_wp2_with (go_at_call 92; refine (indexPts_no _ _ _ hr hb).mono ?_; rintro e w' ⟨rfl, hw⟩)
    go_ret
    exact ⟨rfl, hw⟩
  · go_enter PA.func90, Try.ntmps90
    go_wp2_with (go_at_call 92; refine (indexPts_yes _ _ _ hr hb).mono ?_; rintro e w' ⟨k, rfl, hw⟩)
    go_ret
    exact ⟨by simp, hw⟩
end Go.Proofs.Ytpolipcicfjkiaa
/- The program's Check of a cistern's year, and what it calls. Conditions: none. -/
namespace Go.Proofs.Ytpolipcicfjkiaa
open Go.RowKit

/-- A cistern's year: a day is a point: how much rain at least, at most, how much is wanted. -/
structure CY where
  size : Int
  start : Int
  days : List Pt
def YAt (w : World) (v : Value) (y : CY) : Prop := ∃ pv, v = .agg #[I y.size, I y.start, pv] ∧ Pts w pv y.days
theorem YAt.below {w w' : World} {v : Value} {y : CY} (h : YAt w v y) (hb : Below w.heap.size w w') : YAt w' v y := h.elim fun pv h => ⟨pv, h.1, h.2.below hb⟩
def badCd (p : Pt) : Bool := !inR p.hi 0 20 || !inR p.lo 0 p.hi || !inR p.cost 0 20
def yValid (y : CY) : Bool := inR y.size 0 60 && inR y.start 0 y.size && decide (y.days.length ≤ 8) && !y.days.any badCd
def yChk (y : CY) : Int := if yValid y then 0 else 100

set_option maxHeartbeats 400000 in
theorem cwithin_any (n lo hi : Int) (w : World) :
    Calls PA.prog 42 #[I n, I lo, I hi] w fun e w' => e = .returned (.bool (inR n lo hi)) ∧ w = w' := by
  by_cases h1 : lo ≤ n
  · by_cases h2 : n ≤ hi
    · go_enter PA.func42, Try.ntmps42
      go_wp2
      go_ret
      exact ⟨by simp [inR, *], rfl⟩
    · go_enter PA.func42, Try.ntmps42
      go_wp2
      go_ret
      exact ⟨by simp [inR, *], rfl⟩
  · go_enter PA.func42, Try.ntmps42
    go_wp2
    go_ret
    exact ⟨by simp [inR]; omega, rfl⟩

set_option maxHeartbeats 400000 in
theorem badCd_any (p : Pt) (w : World) :
    Calls PA.prog 41 #[.agg #[I p.lo, I p.hi, I p.cost]] w fun e w' => e = .returned (.bool (badCd p)) ∧ Below w.heap.size w w' := by
  rcases p with ⟨lo, hi, cost⟩
  show Calls PA.prog 41 #[.agg #[I lo, I hi, I cost]] w _
  cases h1 : inR hi 0 20
  · go_enter PA.func41, Try.ntmps41
    go_wp2_with (go_at_call 42; refine (cwithin_any _ _ _ _).mono ?_; rintro e w' ⟨rfl, rfl⟩)
    go_ret
    exact ⟨by simp [badCd, h1], (Below.refl _ _).alloc (Nat.le_refl _) _⟩
  · cases h2 : inR lo 0 hi
    · go_enter PA.func41, Try.ntmps41
      go_wp2_with (go_at_call 42; refine (cwithin_any _ _ _ _).mono ?_; rintro e w' ⟨rfl, rfl⟩)
      go_ret
      exact ⟨by simp [badCd, h1, h2], (Below.refl _ _).alloc (Nat.le_refl _) _⟩
    · go_enter PA.func41, Try.ntmps41
      go_wp2_with (go_at_call 42; refine (cwithin_any _ _ _ _).mono ?_; rintro e w' ⟨rfl, rfl⟩)
      go_ret
      exact ⟨by simp [badCd, h1, h2], (Below.refl _ _).alloc (Nat.le_refl _) _⟩

set_option maxHeartbeats 400000 in
theorem indexCd_no (pv : Value) (ps : List Pt) (w : World) (hr : Pts w pv ps) (hn : ps.any badCd = false) :
    Calls PA.prog 58 #[pv, .func (.func 41) #[] #[]] w fun e w' => e = .returned (I (-1)) ∧ Below w.heap.size w w' := by
  obtain ⟨A, c, rfl, hnc, hcm, hc⟩ := hr.open_
  have HC := Lib.hid hc; clear hc
  have HN := Lib.hid hn; clear hn hr
  go_enter PA.func58, Try.ntmps58
  go_wp2_with fail
  go_loopw [8] (fun i wr => ∃ k : Nat, k ≤ ps.length ∧ i = I k ∧ Below w.heap.size w wr) (fun i _ => ps.length - (intOf i).toNat)
  case atStart => exact ⟨0, by omega, rfl, Below.refl _ _⟩
  case round =>
    obtain ⟨k, hk, rfl, hbw⟩ := hrel
    by_cases hlt : k < ps.length
    · obtain ⟨b, o, rfl, hbl, hcell⟩ := HC.out (by omega)
      obtain ⟨h1, h2, h3⟩ := hcell k hlt
      rw [← hbw.cell (p := ⟨b, _, none⟩) hbl] at h1 h2 h3
      have hb : badCd ps[k] = false := by
        have := HN.out
        simp only [List.any_eq_false] at this
        simpa using this _ (List.getElem_mem hlt)
      go_wp2_with (go_at_call 41; refine (badCd_any _ _).mono ?_; rintro e w' ⟨rfl, hw'⟩)
      go_roundw
      case rel => exact ⟨k + 1, by omega, by go_num, bto hbw hw'⟩
      case measure => simp [intOf]; omega
    · go_wp2_with fail
      go_ret
      exact ⟨rfl, hbw⟩

set_option maxHeartbeats 400000 in
theorem indexCd_yes (pv : Value) (ps : List Pt) (w : World) (hr : Pts w pv ps) (hn : ps.any badCd = true) :
    Calls PA.prog 58 #[pv, .func (.func 41) #[] #[]] w (RetNat w) := by
  obtain ⟨A, c, rfl, hnc, hcm, hc⟩ := hr.open_
  have HC := Lib.hid hc; clear hc
  have HN := Lib.hid hn; clear hn hr
  go_enter PA.func58, Try.ntmps58
  go_wp2_with fail
  go_loopw [8] (fun i wr => ∃ k : Nat, k ≤ ps.length ∧ i = I k ∧ (ps.drop k).any badCd = true ∧ Below w.heap.size w wr) (fun i _ => ps.length - (intOf i).toNat)
  case atStart => exact ⟨0, by omega, rfl, HN.out, Below.refl _ _⟩
  case round =>
    obtain ⟨k, hk, rfl, hd, hbw⟩ := hrel
    have hlt : k < ps.length := by
      apply Classical.byContradiction
      intro hge
      rw [List.drop_eq_nil_of_le (by omega)] at hd
      simp at hd
    rw [List.drop_eq_getElem_cons hlt, List.any_cons] at hd
    obtain ⟨b, o, rfl, hbl, hcell⟩ := HC.out (by omega)
    obtain ⟨h1, h2, h3⟩ := hcell k hlt
    rw [← hbw.cell (p := ⟨b, _, none⟩) hbl] at h1 h2 h3
    have HD := Lib.hid hd; clear hd
    cases hb : badCd ps[k]
    · go_wp2_with (go_at_call 41; refine (badCd_any _ _).mono ?_; rintro e w' ⟨rfl, hw'⟩)
      go_roundw
      case rel => exact ⟨k + 1, by omega, by go_num, by have := HD.out; simpa [hb] using this, bto hbw hw'⟩
      case measure => simp [intOf]; omega
    · go_wp2_with (go_at_call 41; refine (badCd_any _ _).mono ?_; rintro e w' ⟨rfl, hw'⟩)
      go_ret
      exact ⟨k, rfl, bto hbw hw'⟩

set_option maxHeartbeats 400000 in
theorem containsCd_any (pv : Value) (ps : List Pt) (w : World) (hr : Pts w pv ps) :
    Calls PA.prog 43 #[pv, .func (.func 41) #[] #[]] w fun e w' => e = .returned (.bool (ps.any badCd)) ∧ Below w.heap.size w w' := by
  cases hb : ps.any badCd
  · go_enter PA.func43, Try.ntmps43
    go_wp2_with (go_at_call 58; refine (indexCd_no _ _ _ hr hb).mono ?_; rintro e w' ⟨rfl, hw⟩)
    go_ret
    exact ⟨rfl, hw⟩
  · go_enter PA.func43, Try.ntmps43
    go_wp2_with (go_at_call 58; refine (indexCd_yes _ _ _ hr hb).mono ?_; rintro e w' ⟨k, rfl, hw⟩)
    go_ret
    exact ⟨by simp, hw⟩
end Go.Proofs.Ytpolipcicfjkiaa

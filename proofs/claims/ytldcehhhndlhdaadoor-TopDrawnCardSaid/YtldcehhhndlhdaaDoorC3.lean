/- The cheapest paths, as the program keeps them: bounds, rows, what is told of each step. No program here; no conditions. -/
import Derived.Test.YtldcehhhndlhdaaDoorC2
import Derived.Test.YtldcehhhndlhdaaDoorRows
import Derived.WalkKit
import Derived.WalkSpells
import Derived.WalkLawsBesides
import Derived.Handy
import Derived.BigQuiet
import Derived.Lib.Hide
import Derived.Lib.QuietBelow
import Derived.Deep.RegionHeld3
import Derived.Maps.AppendAt
import Derived.Lib.LazyBuf
namespace Go.Proofs.YtldcehhhndlhdaaDoor.Bk
theorem relax_lo {S : BS} {a : Arc} {B M : Int} (hM : 0 ≤ M) (h : ∀ v, -B ≤ S.c v) (ha : -M ≤ a.cost) (v : Nat) : -(B + M) ≤ (relax S a).c v := by
  unfold relax
  have hv := h v
  have hf := h a.fr
  split
  · show -(B + M) ≤ updF S.c a.to (S.c a.fr + a.cost) v
    unfold updF
    split <;> omega
  · omega
theorem fold_lo {M : Int} (hM : 0 ≤ M) : ∀ (l : List Arc) (S : BS) (B : Int), 0 ≤ B → (∀ v, -B ≤ S.c v) → (∀ a ∈ l, -M ≤ a.cost) → ∀ v, -(B + l.length * M) ≤ (l.foldl relax S).c v
  | [], S, B, _, h, _, v => by have := h v; simp; omega
  | a :: l, S, B, hB, h, ha, v => by
    have := fold_lo hM l (relax S a) (B + M) (by omega) (relax_lo hM h (ha a (by simp))) (fun x hx => ha x (List.mem_cons_of_mem _ hx)) v
    have e : ((a :: l).length : Int) * M = l.length * M + M := by rw [List.length_cons, Int.natCast_add, Int.add_mul]; simp
    rw [e]
    show -(B + (↑l.length * M + M)) ≤ (l.foldl relax (relax S a)).c v
    omega
theorem passes_lo {M : Int} (hM : 0 ≤ M) (A : List Arc) (hA : ∀ a ∈ A, -M ≤ a.cost) (s : Nat) : ∀ (k v : Nat), -((k : Int) * ((A.length : Int) * M)) ≤ (passes A (startS s) k).c v
  | 0, v => by
    show _ ≤ (startS s).c v
    unfold startS
    dsimp only
    simp
    split
    · omega
    · decide
  | k + 1, v => by
    have h0 : (0 : Int) ≤ (k : Int) * ((A.length : Int) * M) := Int.mul_nonneg (by omega) (Int.mul_nonneg (by omega) hM)
    have := fold_lo hM A _ _ h0 (passes_lo hM A hA s k) hA v
    have e : ((k + 1 : Nat) : Int) * ((A.length : Int) * M) = k * ((A.length : Int) * M) + A.length * M := by rw [Int.natCast_add, Int.add_mul]; simp
    rw [e]
    exact this
theorem fold_hi : ∀ (l : List Arc) (S : BS) (v : Nat), S.c v ≤ farI → (l.foldl relax S).c v ≤ farI := fun l S v h => Int.le_trans (pass_mono l S v) h
theorem passes_hi (A : List Arc) (s : Nat) : ∀ (k v : Nat), (passes A (startS s) k).c v ≤ farI
  | 0, v => by
    show (startS s).c v ≤ farI
    unfold startS
    dsimp only
    split
    · decide
    · omega
  | k + 1, v => fold_hi A _ v (passes_hi A s k v)
theorem fm_len {f : Nat → List Arc} {c : Nat} (h : ∀ i, (f i).length ≤ c) : ∀ n, ((List.range n).flatMap f).length ≤ n * c
  | 0 => by simp
  | n + 1 => by
    have h1 := fm_len h n
    have h2 := h n
    have e : (List.range (n + 1)).flatMap f = (List.range n).flatMap f ++ f n := by rw [List.range_succ, List.flatMap_append]; simp
    rw [e, List.length_append, Nat.add_mul]
    omega
theorem arcsW_len (t : BT) (d : Nat → Int) (i : Nat) : (arcsW t d i).length ≤ 2 := by unfold arcsW; split <;> split <;> simp
theorem arcsH_len (t : BT) (d : Nat → Int) (i : Nat) : (arcsH t d i).length ≤ 2 := by unfold arcsH; split <;> split <;> simp
theorem arcsY_len (t : BT) (d : Nat → Int) (i : Nat) : (arcsY t d i).length ≤ 2 := by unfold arcsY; split <;> simp
theorem arcs_len (t : BT) (d : Nat → Int) : (arcsB t d).length ≤ 2 * (t.nW + t.nH + t.m) := by
  have h1 := fm_len (arcsW_len t d) t.nW
  have h2 := fm_len (arcsH_len t d) t.nH
  have h3 := fm_len (arcsY_len t d) t.m
  unfold arcsB
  rw [List.length_append, List.length_append]
  omega
/-- No sum of costs is too great for a number of 64 bits. -/
theorem cost_at {t : BT} (hs : BSm t) (hm : t.m ≤ 12) {d : Nat → Int} (hd : Div t d) {k : Nat} (hk : k ≤ 13) {pre : List Arc} (hp : pre <+: arcsB t d) (s v : Nat) :
    -30000000000000 ≤ (pre.foldl relax (passes (arcsB t d) (startS s) k)).c v ∧ (pre.foldl relax (passes (arcsB t d) (startS s) k)).c v ≤ farI := by
  refine ⟨?_, fold_hi _ _ _ (passes_hi _ _ _ _)⟩
  have hM : (0 : Int) ≤ mostB := by decide
  have hc := arcs_cost hs hd
  have hl := arcs_len t d
  have h5 := hs.nW
  have h6 := hs.nH
  have hl2 := hp.length_le
  have h1 := passes_lo hM (arcsB t d) (fun a ha => (hc a ha).1) s k
  have h0 : (0 : Int) ≤ (k : Int) * (((arcsB t d).length : Int) * mostB) := Int.mul_nonneg (by omega) (Int.mul_nonneg (by omega) hM)
  have h2 := fold_lo hM pre _ _ h0 h1 (fun a ha => (hc a (hp.subset ha)).1) v
  have h3 : ((arcsB t d).length : Int) * mostB ≤ 46 * mostB := Int.mul_le_mul_of_nonneg_right (by omega) hM
  have h4 : (pre.length : Int) * mostB ≤ 46 * mostB := Int.mul_le_mul_of_nonneg_right (by omega) hM
  have h7 : (k : Int) * (((arcsB t d).length : Int) * mostB) ≤ 13 * (46 * mostB) := Int.le_trans (Int.mul_le_mul_of_nonneg_left h3 (by omega)) (Int.mul_le_mul_of_nonneg_right (by omega) (by decide))
  have e : (13 : Int) * (46 * mostB) + 46 * mostB ≤ 30000000000000 := by decide
  omega
/-! Which step comes when. -/
def preW (t : BT) (d : Nat → Int) (w : Nat) : List Arc := (List.range w).flatMap (arcsW t d)
def preH (t : BT) (d : Nat → Int) (h : Nat) : List Arc := preW t d t.nW ++ (List.range h).flatMap (arcsH t d)
def preY (t : BT) (d : Nat → Int) (i : Nat) : List Arc := preH t d t.nH ++ (List.range i).flatMap (arcsY t d)
theorem fm_succ (f : Nat → List Arc) (k : Nat) : (List.range (k + 1)).flatMap f = (List.range k).flatMap f ++ f k := by
  rw [List.range_succ, List.flatMap_append]
  simp
theorem fm_pre (f : Nat → List Arc) {k n : Nat} (h : k ≤ n) : (List.range k).flatMap f <+: (List.range n).flatMap f := by
  obtain ⟨j, rfl⟩ : ∃ j, n = k + j := ⟨n - k, by omega⟩
  rw [List.range_add, List.flatMap_append]
  exact List.prefix_append _ _
theorem preW_succ (t : BT) (d : Nat → Int) (w : Nat) : preW t d (w + 1) = preW t d w ++ arcsW t d w := fm_succ _ _
theorem preH_succ (t : BT) (d : Nat → Int) (w : Nat) : preH t d (w + 1) = preH t d w ++ arcsH t d w := by
  unfold preH
  rw [fm_succ, List.append_assoc]
theorem preY_succ (t : BT) (d : Nat → Int) (w : Nat) : preY t d (w + 1) = preY t d w ++ arcsY t d w := by
  unfold preY
  rw [fm_succ, List.append_assoc]
theorem preY_end (t : BT) (d : Nat → Int) : preY t d t.m = arcsB t d := by
  unfold preY preH preW arcsB
  rw [List.append_assoc]
theorem preH_zero (t : BT) (d : Nat → Int) : preH t d 0 = preW t d t.nW := by unfold preH; simp
theorem preY_zero (t : BT) (d : Nat → Int) : preY t d 0 = preH t d t.nH := by unfold preY; simp
theorem preY_le (t : BT) (d : Nat → Int) {i : Nat} (h : i ≤ t.m) : preY t d i <+: arcsB t d := by
  rw [← preY_end]
  unfold preY
  exact (List.prefix_append_right_inj _).2 (fm_pre _ h)
theorem preH_le (t : BT) (d : Nat → Int) {i : Nat} (h : i ≤ t.nH) : preH t d i <+: arcsB t d := by
  refine List.IsPrefix.trans ?_ (preY_le t d (Nat.zero_le _))
  rw [preY_zero]
  unfold preH
  exact (List.prefix_append_right_inj _).2 (fm_pre _ h)
theorem preW_le (t : BT) (d : Nat → Int) {i : Nat} (h : i ≤ t.nW) : preW t d i <+: arcsB t d := by
  refine List.IsPrefix.trans ?_ (preH_le t d (Nat.zero_le _))
  rw [preH_zero]
  exact fm_pre _ h
/-- One more step of a list that begins so. -/
theorem pre_one {p l A : List Arc} {x : Arc} {r : List Arc} (h : p ++ l <+: A) (hl : l = x :: r) : p ++ [x] <+: A := by
  refine List.IsPrefix.trans ?_ h
  rw [hl]
  exact (List.prefix_append_right_inj _).2 ⟨r, rfl⟩
theorem pre_two {p l A : List Arc} {x y : Arc} {r : List Arc} (h : p ++ l <+: A) (hl : l = x :: y :: r) : (p ++ [x]) ++ [y] <+: A := by
  refine List.IsPrefix.trans ?_ h
  rw [hl, List.append_assoc]
  exact (List.prefix_append_right_inj _).2 ⟨r, rfl⟩
/-! Rows. -/
def rowF {α : Type} (n : Nat) (f : Nat → α) : List α := (List.range n).map f
theorem rowF_len {α : Type} (n : Nat) (f : Nat → α) : (rowF n f).length = n := by simp [rowF]
theorem rowF_at {α : Type} {n i : Nat} (f : Nat → α) (h : i < n) : (rowF n f)[i]? = some (f i) := by simp [rowF, List.getElem?_range h]
theorem rowF_upd {α : Type} (n i : Nat) (f : Nat → α) (x : α) : (rowF n f).set i x = rowF n (updF f i x) := by
  apply List.ext_getElem
  · simp [rowF]
  · intro j h1 h2
    simp only [rowF, List.getElem_set, List.getElem_map, List.getElem_range, updF]
    by_cases e : i = j
    · subst e; simp
    · rw [if_neg e, if_neg (fun h => e h.symm)]
theorem rowF_congr {α : Type} {n : Nat} {f g : Nat → α} (h : ∀ i, i < n → f i = g i) : rowF n f = rowF n g := List.map_congr_left fun i hi => h i (List.mem_range.1 hi)
theorem relax_yes {S : BS} {a : Arc} (h1 : S.c a.fr < farI) (h2 : S.c a.fr + a.cost < S.c a.to) : relax S a = ⟨updF S.c a.to (S.c a.fr + a.cost), updF S.src a.to a⟩ := if_pos ⟨h1, h2⟩
theorem relax_no {S : BS} {a : Arc} (h : ¬ (S.c a.fr < farI ∧ S.c a.fr + a.cost < S.c a.to)) : relax S a = S := if_neg h
/-! A division that a path turns. -/
theorem gain_snoc : ∀ (p : List Arc) (a : Arc) (i : Nat), gain (p ++ [a]) i = gain p i + if a.way = (i : Int) then a.more else 0
  | [], a, i => by simp [gain]
  | b :: p, a, i => by
    show (if b.way = (i : Int) then b.more else 0) + gain (p ++ [a]) i = _ + gain p i + _
    rw [gain_snoc p a i]
    omega
theorem aug_nil (d : Nat → Int) : augB d [] = d := by
  funext i
  simp [augB, gain]
theorem aug_skip (d : Nat → Int) (p : List Arc) {a : Arc} (h : a.way < 0) : augB d (p ++ [a]) = augB d p := by
  funext i
  unfold augB
  rw [gain_snoc, if_neg (by omega)]
  omega
theorem aug_step (d : Nat → Int) (p : List Arc) {a : Arc} {j : Nat} (h : a.way = (j : Int)) : augB d (p ++ [a]) = updF (augB d p) j (augB d p j + a.more) := by
  funext i
  unfold augB updF
  rw [gain_snoc, h]
  by_cases e : i = j
  · subst e
    rw [if_pos rfl, if_pos rfl]
    omega
  · rw [if_neg (by omega), if_neg e]
    show d i + (gain p i + 0) = d i + gain p i
    omega
theorem gain_bd : ∀ (p : List Arc) (i : Nat), (∀ a ∈ p, -1 ≤ a.more ∧ a.more ≤ 1) → -(p.length : Int) ≤ gain p i ∧ gain p i ≤ p.length
  | [], i, _ => by simp [gain]
  | a :: p, i, h => by
    have h1 := h a (by simp)
    have h2 := gain_bd p i (fun x hx => h x (List.mem_cons_of_mem _ hx))
    show _ ≤ (if a.way = (i : Int) then a.more else 0) + gain p i ∧ (if a.way = (i : Int) then a.more else 0) + gain p i ≤ _
    rw [List.length_cons]
    split <;> omega
theorem arcs_way {t : BT} {d : Nat → Int} : ∀ a ∈ arcsB t d, (-1 ≤ a.more ∧ a.more ≤ 1) ∧ (a.way = -1 ∨ ∃ j : Nat, j < t.m ∧ a.way = (j : Int)) := by
  intro a ha
  rcases mem_arcs.1 ha with ⟨w, hw, ⟨_, rfl⟩ | ⟨_, rfl⟩⟩ | ⟨h, hh, ⟨h1, rfl⟩ | ⟨h1, rfl⟩⟩ | ⟨i, hi, rfl | ⟨_, rfl⟩⟩
  · exact ⟨by dsimp only; omega, .inl rfl⟩
  · exact ⟨by dsimp only; omega, .inl rfl⟩
  · exact ⟨by dsimp only; omega, .inl rfl⟩
  · exact ⟨by dsimp only; omega, .inl rfl⟩
  · exact ⟨by dsimp only; omega, .inr ⟨i, hi, rfl⟩⟩
  · exact ⟨by dsimp only; omega, .inr ⟨i, hi, rfl⟩⟩
theorem div_small {t : BT} (hs : BSm t) {d : Nat → Int} (hd : Div t d) {i : Nat} (hi : i < t.m) : 0 ≤ d i ∧ d i ≤ 9 := by
  refine ⟨hd.pos i hi, ?_⟩
  have h1 := hd.lack _ (hs.ok.hh i hi)
  have h2 := (hs.hs _ (hs.ok.hh i hi)).2
  have h3 : (if t.hh i = t.hh i then d i else 0) ≤ drawH t d (t.hh i) := sumR_get (f := fun j => if t.hh j = t.hh i then d j else 0) (fun j hj => by
    split
    · exact hd.pos j hj
    · exact Int.le_refl _) hi
  rw [if_pos rfl] at h3
  unfold lackH at h1
  omega
theorem chain_fr {src : Nat → Arc} {s v : Nat} {a : Arc} {p : List Arc} (h : Chain src s v (a :: p)) : v ≠ s ∧ a = src v ∧ Chain src s a.fr p := by
  cases h with
  | cons h1 h2 => exact ⟨h1, rfl, h2⟩
theorem chain_end {src : Nat → Arc} {s v : Nat} (h : Chain src s v []) : v = s := by
  cases h with
  | nil => rfl
end Go.Proofs.YtldcehhhndlhdaaDoor.Bk
/- Memory: readings of slices in memory, boxes, regions that draw; appends whatever the source. No function here; no conditions. -/
namespace Go.Proofs.YtldcehhhndlhdaaDoor
open Go.RowKit Go.Sort

abbrev I (n : Int) : Value := .int .i64 n

/-- The slice value 'v' holds the cells xs, n elements of 'size' cells each. -/
def Reads (w : World) (size : Nat) (v : Value) (n : Nat) (xs : List Value) : Prop :=
  xs.length = n * size ∧ ∃ A c, v = .slice A n c ∧ n ≤ c ∧ c ≤ 9223372036854775807 ∧ (0 < n → ∃ b o, A = some ⟨b, o, none⟩ ∧ ∀ j u, xs[j]? = some u → w.cell? ⟨b, o + j, none⟩ = some u)

theorem Reads.below {w w' : World} {size n : Nat} {v : Value} {xs : List Value} (h : Reads w size v n xs) (hb : Below w.heap.size w w') : Reads w' size v n xs := by
  obtain ⟨h1, A, c, h2, h3, h4, h5⟩ := h
  refine ⟨h1, A, c, h2, h3, h4, fun hn => ?_⟩
  obtain ⟨b, o, rfl, hc⟩ := h5 hn
  refine ⟨b, o, rfl, fun j u hu => ?_⟩
  have := hc j u hu
  rw [hb.cell (World.block_lt_of_cell? w _ this)]
  exact this

/-- Behind a world whose old blocks stand: all old cells and marks. -/
theorem bcell {B : Nat} {W w1 : World} (hb : Below B W w1) : (∀ b o, b < B → w1.cell? ⟨b, o, none⟩ = W.cell? ⟨b, o, none⟩) ∧ (∀ b o, b < B → w1.frozen? ⟨b, o, none⟩ = W.frozen? ⟨b, o, none⟩) :=
  ⟨fun b o h => hb.cell (p := ⟨b, o, none⟩) h, fun b o h => hb.frozen (p := ⟨b, o, none⟩) h⟩

theorem bto {a b c : World} (h : Below a.heap.size a b) (k : Below b.heap.size b c) : Below a.heap.size a c :=
  h.trans (k.mono h.size)

/-- A reading of integers, as a list of integers. -/
def Ints (w : World) (v : Value) (xs : List Int) : Prop := Reads w 1 v xs.length (xs.map I)

theorem Ints.below {w w' : World} {v : Value} {xs : List Int} (h : Ints w v xs) (hb : Below w.heap.size w w') : Ints w' v xs := Reads.below h hb

/-- What an 'Ints' gives: the slice's form, and each cell. -/
theorem Ints.open_ {w : World} {v : Value} {xs : List Int} (h : Ints w v xs) :
    ∃ A c, v = .slice A xs.length c ∧ xs.length ≤ c ∧ c ≤ 9223372036854775807 ∧ (0 < xs.length → ∃ b o, A = some ⟨b, o, none⟩ ∧ b < w.heap.size ∧ ∀ j (hj : j < xs.length), w.cell? ⟨b, o + j, none⟩ = some (I xs[j])) := by
  obtain ⟨h1, A, c, h2, h3, h4, h5⟩ := h
  refine ⟨A, c, h2, h3, h4, fun hn => ?_⟩
  obtain ⟨b, o, h6, h7⟩ := h5 hn
  have hc : ∀ j (hj : j < xs.length), w.cell? ⟨b, o + j, none⟩ = some (I xs[j]) := fun j hj => h7 j _ (by simp [List.getElem?_eq_getElem hj])
  exact ⟨b, o, h6, World.block_lt_of_cell? w _ (hc 0 hn), hc⟩

/-- The call returns some natural number, and the world is as it was, but for new blocks. -/
def RetNat (w : World) (e : Ending) (w' : World) : Prop := ∃ k : Nat, e = .returned (I k) ∧ Below w.heap.size w w'
theorem ret_int {k : IntKind} {a b : Int} (h : a = b) : Ending.returned (.int k a) = .returned (.int k b) := by rw [h]

theorem box_cell (w : World) (cs : Array Value) (T : TypeId) (i : Nat) {v : Value} (h : cs[i]? = some v) : (w.alloc (.cells cs T)).cell? ⟨w.heap.size, i, none⟩ = some v := by
  simpa [go_sem] using h
theorem box_old (w : World) (ob : Obj) {b o : Nat} {v : Value} (h : w.cell? ⟨b, o, none⟩ = some v) : (w.alloc ob).cell? ⟨b, o, none⟩ = some v := by
  rw [World.cell?_alloc_lt w ob _ (World.block_lt_of_cell? w _ h)]; exact h

/-- A region that draws its order, whose operations only read and whose callees leave what was there as it was: walked once, in the text's order; behind it the world is a letter. -/
theorem wp_region_ext {P : Program} {id : Nat} {Q : Exit → Act → World → Prop} {a : Act} {w : World} {l : List Oper} (hm : P.follows .mixedOrders = true) (hB : Region.lexB .any l.toArray = true)
    (h : wpQuiet P l.toArray (fun w' => ∃ p : Regrown, w' = grow (redrawn w p.d) p.os) (fun a' => ∀ w', Below w.heap.size w w' → Q .normal a' w') l a) : (Code.region id l.toArray true).wp P Q a w :=
  wp_region_quiet (C := fun w' => ∃ p : Regrown, w' = grow (redrawn w p.d) p.os) hm hB ⟨⟨w.drawn + 1, #[]⟩, by rw [grow_empty]; rfl⟩
    (by
      have key : ∀ (rest : List Oper) (a : Act), wpQuiet P l.toArray (fun w' => ∃ p : Regrown, w' = grow (redrawn w p.d) p.os) (fun a' => ∀ w', Below w.heap.size w w' → Q .normal a' w') rest a →
          wpQuiet P l.toArray (fun w' => ∃ p : Regrown, w' = grow (redrawn w p.d) p.os) (fun a' => ∀ w', (∃ p : Regrown, w' = grow (redrawn w p.d) p.os) → Q .normal a' w') rest a := by
        intro rest
        induction rest with
        | nil => intro a h w' ⟨p, hp⟩; exact h w' (hp ▸ below_regrown w p.d p.os)
        | cons o rest ih =>
          intro a h
          unfold wpQuiet at h ⊢
          split
          · rename_i hw
            rw [if_pos hw] at h
            exact Oper.quiet_mono (fun a h => ih a h) h
          · rename_i hw
            rw [if_neg hw] at h
            exact ih _ h
      simpa using key l a h)

/-- A contract, met in such a region. -/
theorem ext_call {P : Program} {f : FuncId} {args : Array Value} {w : World} {v : Value}
    (h : ∀ W, Below w.heap.size w W → Calls P f args W fun e w' => e = .returned v ∧ Below W.heap.size W w') :
    ∀ d os, Calls P f args (grow (redrawn w d) os) fun e w'' => e = .returned v ∧ ∃ p : Regrown, w'' = grow (redrawn w p.d) p.os :=
  fun d os => Calls.regrown_of (h _ (below_regrown w d os))

theorem keep_cell {W w1 : World} (hb : Below W.heap.size W w1) {b o : Nat} {v : Value} (h : W.cell? ⟨b, o, none⟩ = some v) : w1.cell? ⟨b, o, none⟩ = some v := by
  rw [hb.cell (p := ⟨b, o, none⟩) (World.block_lt_of_cell? W _ h)]; exact h

/-- A row of the call's own reads as a list of integers. -/
theorem Ints.of_own {w : World} {base e : Nat} {v : Value} {n : Nat} {xs : List Int} (h : w.ownsRow base e 1 v n (xs.map I)) : Ints w v xs := by
  have hl : xs.length = n := by have := h.1; simpa using this
  subst hl
  refine ⟨by simp, ?_⟩
  rcases h.2 with ⟨rfl, h0⟩ | ⟨g, cap, cur, rfl, hb, hg, h1, h2, h3, h4⟩
  · exact ⟨none, 0, by rw [h0], by omega, by omega, fun h => by omega⟩
  · refine ⟨some ⟨g, 0, none⟩, cap, rfl, h1, h2, fun hn => ⟨g, 0, rfl, fun j u hu => ?_⟩⟩
    have := h.cells (g := g) rfl j u hu
    have e : (⟨g, 0, none⟩ : Addr).add j = ⟨g, 0 + j, none⟩ := by unfold Addr.add; split <;> simp_all
    rwa [e] at this

theorem run_append_nil' {P : Program} (w : World) (base : Nat) (t ty e : TypeId) (i : TypeInfo) (size : Nat) (ht : P.underlying t = some (.slice e)) (hi : P.info? e = some i)
    (v : Value) (n : Nat) (xs : List Value) (hown : w.ownsRow base e size v n xs) (c : Nat) : (Builtin.append_ #[t, t] ty #[v, .slice none 0 c]).run P w = .ok v w := by
  rcases hown.2 with ⟨rfl, rfl⟩ | ⟨g, cap, cur, rfl, _, _, hnc, _⟩
  · simp [Builtin.append_, run_underlying ht, sizeOf, typeInfo, hi, Builtin.lenOf, Builtin.firstCells]
  · simp [Builtin.append_, run_underlying ht, sizeOf, typeInfo, hi, Builtin.lenOf, Builtin.firstCells, hnc, storeCells]

theorem add_plain (b o j : Nat) : (⟨b, o, none⟩ : Addr).add j = ⟨b, o + j, none⟩ := by unfold Addr.add; split <;> simp_all

theorem run_append_src {P : Program} (w : World) (base : Nat) (t ty e : TypeId) (i : TypeInfo) (z : Value) (size bytes : Nat) (ht : P.underlying t = some (.slice e)) (hi : P.info? e = some i) (hz : i.zero = some z)
    (hsize : i.size = size) (hby : i.bytes = bytes) (hzs : z.cells.size = size) (hsz : 0 < size)
    (v : Value) (n : Nat) (xs : List Value) (hown : w.ownsRow base e size v n xs)
    (sv : Value) (m : Nat) (news : List Value) (hr : Reads w size sv m news) (h1 : ∀ u ∈ news, u.oneCell' = true)
    (h63 : n + m ≤ maxLen) (hbytes : (n + m) * bytes ≤ 140737488355328) (hbase : base ≤ w.heap.size) :
    ∃ v' w', (Builtin.append_ #[t, t] ty #[v, sv]).run P w = .ok v' w' ∧ w'.ownsRow base e size v' (n + m) (xs ++ news) ∧ w.grownBy w' v.ownBlock ∧
      (v'.ownBlock = v.ownBlock ∨ v'.ownBlock = some w.heap.size) := by
  obtain ⟨hl, A, c, rfl, hmc, _, hc⟩ := hr
  have hnil : m = 0 → news = [] := fun h => List.eq_nil_of_length_eq_zero (by rw [hl, h]; simp)
  rcases A with _ | ad
  · have hm : m = 0 := by
      rcases Nat.eq_zero_or_pos m with h0 | h0
      · exact h0
      · obtain ⟨b, o, h, _⟩ := hc h0
        cases h
    have hn := hnil hm
    subst hm
    subst hn
    exact ⟨v, w, run_append_nil' w base t ty e i size ht hi v n xs hown c, by simpa using hown, World.grownBy.refl w _, .inl rfl⟩
  · have hcells : ∀ j u, news[j]? = some u → w.cell? (ad.add j) = some u := by
      intro j u hu
      rcases Nat.eq_zero_or_pos m with h0 | h0
      · rw [hnil h0] at hu; simp at hu
      · obtain ⟨b, o, h, hc'⟩ := hc h0
        injection h with h
        subst h
        rw [add_plain]
        exact hc' j u hu
    obtain ⟨v', w', hrun, h2, h3, _, h5⟩ := run_append_own_at (P := P) w base t ty e i z size bytes ht hi hz hsize hby hzs hsz v n xs hown ad m c news hl hcells h1 h63 hbytes hbase
    exact ⟨v', w', hrun, h2, h3, h5⟩

theorem wp_append_src {P : Program} (w : World) {o : Oper} {a : Act} {K : Act → World → Prop} {Q : Exit → Act → World → Prop} (s x : Operand) (t : TypeId)
    (ho : o.op = .call { callee := .builtin .append, args := #[s, x], argTypes := #[t, t] })
    (base : Nat) (e : TypeId) (i : TypeInfo) (z : Value) (size bytes : Nat) (ht : P.underlying t = some (.slice e)) (hi : P.info? e = some i) (hz : i.zero = some z)
    (hsize : i.size = size) (hby : i.bytes = bytes) (hzs : z.cells.size = size) (hsz : 0 < size)
    (v : Value) (n : Nat) (xs : List Value) (hs : a.eval s = v) (hown : w.ownsRow base e size v n xs)
    (sv : Value) (m : Nat) (news : List Value) (hx : a.eval x = sv) (hr : Reads w size sv m news) (h1 : ∀ u ∈ news, u.oneCell' = true)
    (h63 : n + m ≤ maxLen) (hbytes : (n + m) * bytes ≤ 140737488355328) (hbase : base ≤ w.heap.size)
    (h : ∀ v' w', w'.ownsRow base e size v' (n + m) (xs ++ news) → w.grownBy w' v.ownBlock → (v'.ownBlock = v.ownBlock ∨ v'.ownBlock = some w.heap.size) → K (a.put o.dst v') w') : o.wp P a w K Q := by
  obtain ⟨v', w', hrun, h2, h3, h4⟩ := run_append_src (P := P) w base t o.type e i z size bytes ht hi hz hsize hby hzs hsz v n xs hown sv m news hr h1 h63 hbytes hbase
  unfold Oper.wp execOp
  simp only [ho, resolve, invoke, builtin, Sem.run_bind, Sem.run_pure, Result.andThen_ok, List.map_toArray, List.map_cons, List.map_nil, hs, hx, hrun]
  exact h v' w' h2 h3 h4

theorem wpList_append_src {P : Program} (w : World) {ops : Array Oper} {rest : List Oper} {o : Oper} {a : Act} {Q : Exit → Act → World → Prop} (hgd : o.guard = none) (s x : Operand) (t : TypeId)
    (ho : o.op = .call { callee := .builtin .append, args := #[s, x], argTypes := #[t, t] })
    (base : Nat) (e : TypeId) (i : TypeInfo) (z : Value) (size bytes : Nat) (ht : P.underlying t = some (.slice e)) (hi : P.info? e = some i) (hz : i.zero = some z)
    (hsize : i.size = size) (hby : i.bytes = bytes) (hzs : z.cells.size = size) (hsz : 0 < size)
    (v : Value) (n : Nat) (xs : List Value) (hs : a.eval s = v) (hown : w.ownsRow base e size v n xs)
    (sv : Value) (m : Nat) (news : List Value) (hx : a.eval x = sv) (hr : Reads w size sv m news) (h1 : ∀ u ∈ news, u.oneCell' = true)
    (h63 : n + m ≤ maxLen) (hbytes : (n + m) * bytes ≤ 140737488355328) (hbase : base ≤ w.heap.size)
    (h : ∀ v' w', w'.ownsRow base e size v' (n + m) (xs ++ news) → w.grownBy w' v.ownBlock → (v'.ownBlock = v.ownBlock ∨ v'.ownBlock = some w.heap.size) → wpList P ops Q rest (a.put o.dst v') w') : wpList P ops Q (o :: rest) a w :=
  wpList_plain hgd fun _ hK => wp_append_src w s x t ho base e i z size bytes ht hi hz hsize hby hzs hsz v n xs hs hown sv m news hx hr h1 h63 hbytes hbase fun v' w' h2 h3 h4 => hK _ _ (h v' w' h2 h3 h4)

/-- append onto an empty slice that was just made: nothing older is written. -/
theorem run_append_fresh {P : Program} (w : World) (base : Nat) (t ty e : TypeId) (i : TypeInfo) (z : Value) (size bytes : Nat) (ht : P.underlying t = some (.slice e)) (hi : P.info? e = some i) (hz : i.zero = some z)
    (hsize : i.size = size) (hby : i.bytes = bytes) (hzs : z.cells.size = size) (hsz : 0 < size)
    (g : Nat) (hg : w.heap[g]? = some (.cells #[] e (0, 0))) (hbg : base ≤ g)
    (sv : Value) (m : Nat) (news : List Value) (hr : Reads w size sv m news) (h1 : ∀ u ∈ news, u.oneCell' = true)
    (h63 : m ≤ maxLen) (hbytes : m * bytes ≤ 140737488355328) (hbase : base ≤ w.heap.size) :
    ∃ v' w', (Builtin.append_ #[t, t] ty #[.slice (some ⟨g, 0, none⟩) 0 0, sv]).run P w = .ok v' w' ∧ w'.ownsRow base e size v' m news ∧ Below w.heap.size w w' := by
  have hown : w.ownsRow base e size (.slice (some ⟨g, 0, none⟩) 0 0) 0 [] := ⟨by simp, .inr ⟨g, 0, #[], rfl, hbg, hg, by omega, by simp [maxLen], by simp, by simp⟩⟩
  obtain ⟨hl, A, c, rfl, hmc, _, hc⟩ := hr
  subst hsize
  subst hby
  have hsmall : m ≤ 9223372036854775807 := by simp only [maxLen] at h63; omega
  rcases Nat.eq_zero_or_pos m with h0 | h0
  · subst h0
    have hn : news = [] := List.eq_nil_of_length_eq_zero (by simpa using hl)
    subst hn
    rcases A with _ | ad
    · exact ⟨_, w, run_append_nil' w base t ty e i i.size ht hi _ 0 [] hown c, hown, Below.refl _ _⟩
    · have hrun := run_append_room (P := P) w t ty e i ht hi g 0 0 #[] hg ad 0 c [] (by simp) (by simp) (by simp) (by omega) (by simp)
      refine ⟨_, _, hrun, ⟨by simp, .inr ⟨g, 0, #[], rfl, hbg, ?_, by omega, by simp [maxLen], by simp, by simp⟩⟩, ⟨rfl, rfl, rfl, by simp, fun k hk => ?_⟩⟩
      · exact (setRow_heap w g #[] _ e _ hg).trans (by simp)
      · by_cases hkg : k = g
        · subst hkg
          rw [hg]
          exact (setRow_heap w k #[] _ e _ hg).trans (by simp)
        · exact setRow_other w g k _ (fun e => hkg (by simp [e]))
  · obtain ⟨b, o, rfl, hcell⟩ := hc h0
    have hnews : ∀ j u, news[j]? = some u → w.cell? ((⟨b, o, none⟩ : Addr).add j) = some u := fun j u hu => by rw [add_plain]; exact hcell j u hu
    have hrun := run_append_grow (P := P) w t ty e i z ht hi hz ⟨g, 0, none⟩ 0 0 [] hown.1 (hown.cells (g := g) rfl) ⟨b, o, none⟩ m c news hl hnews (by omega) (by omega) (growslice_fits (by omega) (by simpa using hbytes))
    have hge := grownCap_ge w (0 + m) 0 e
    have hcm : grownCap w (0 + m) 0 e ≤ maxLen := grownCap_le_maxLen w (0 + m) 0 e (by simpa using h63)
    refine ⟨_, _, hrun, ⟨hl, .inr ⟨w.heap.size, _, _, by simp only [Nat.zero_add], hbase, heap_alloc_new w.drew _, ?_, hcm, ?_, ?_⟩⟩, ⟨rfl, rfl, rfl, by simp, fun k hk => heap_alloc_old w.drew _ hk⟩⟩
    · simpa using hge
    · simp only [Array.size_append, List.size_toArray, size_zeroCells, hzs, hl, List.length_nil, Nat.zero_add, ← Nat.add_mul]
      congr 1
      simp at hge ⊢
      omega
    · simp only [Array.toList_append, List.nil_append, ← hl]
      exact List.take_left

theorem wp_append_fresh {P : Program} (w : World) {o : Oper} {a : Act} {K : Act → World → Prop} {Q : Exit → Act → World → Prop} (s x : Operand) (t : TypeId)
    (ho : o.op = .call { callee := .builtin .append, args := #[s, x], argTypes := #[t, t] })
    (base : Nat) (e : TypeId) (i : TypeInfo) (z : Value) (size bytes : Nat) (ht : P.underlying t = some (.slice e)) (hi : P.info? e = some i) (hz : i.zero = some z)
    (hsize : i.size = size) (hby : i.bytes = bytes) (hzs : z.cells.size = size) (hsz : 0 < size)
    (g : Nat) (hs : a.eval s = .slice (some ⟨g, 0, none⟩) 0 0) (hg : w.heap[g]? = some (.cells #[] e (0, 0))) (hbg : base ≤ g)
    (sv : Value) (m : Nat) (news : List Value) (hx : a.eval x = sv) (hr : Reads w size sv m news) (h1 : ∀ u ∈ news, u.oneCell' = true)
    (h63 : m ≤ maxLen) (hbytes : m * bytes ≤ 140737488355328) (hbase : base ≤ w.heap.size)
    (h : ∀ v' w', w'.ownsRow base e size v' m news → Below w.heap.size w w' → K (a.put o.dst v') w') : o.wp P a w K Q := by
  obtain ⟨v', w', hrun, h2, h3⟩ := run_append_fresh (P := P) w base t o.type e i z size bytes ht hi hz hsize hby hzs hsz g hg hbg sv m news hr h1 h63 hbytes hbase
  unfold Oper.wp execOp
  simp only [ho, resolve, invoke, builtin, Sem.run_bind, Sem.run_pure, Result.andThen_ok, List.map_toArray, List.map_cons, List.map_nil, hs, hx, hrun]
  exact h v' w' h2 h3

theorem one_I (n : Int) : (I n).oneCell' = true := rfl
theorem ints_one (xs : List Int) : ∀ u ∈ xs.map I, u.oneCell' = true := fun u hu => by
  obtain ⟨x, _, rfl⟩ := List.mem_map.1 hu
  rfl
theorem Reads.of_own {w : World} {base e size : Nat} {v : Value} {n : Nat} {xs : List Value} (h : w.ownsRow base e size v n xs) : Reads w size v n xs := by
  refine ⟨h.1, ?_⟩
  rcases h.2 with ⟨rfl, h0⟩ | ⟨g, cap, cur, rfl, hb, hg, h1, h2, h3, h4⟩
  · exact ⟨none, 0, by rw [h0], by omega, by omega, fun h => by omega⟩
  · refine ⟨some ⟨g, 0, none⟩, cap, rfl, h1, h2, fun hn => ⟨g, 0, rfl, fun j u hu => ?_⟩⟩
    have := h.cells (g := g) rfl j u hu
    rwa [add_plain] at this
theorem grown_of_below {w w' : World} (hb : Below w.heap.size w w') (row : Option Nat) : w.grownBy w' row := ⟨hb.os, hb.tape, hb.output, hb.size, fun k hk _ => hb.block k hk⟩
theorem own_below {w w' : World} {base e size n : Nat} {v : Value} {xs : List Value} (h : w.ownsRow base e size v n xs) (hb : Below w.heap.size w w') : w'.ownsRow base e size v n xs := h.kept (grown_of_below hb none) (by rcases hq : v.ownBlock with _ | q <;> simp)

theorem own_base' {w : World} {B B' e size n : Nat} {v : Value} {xs : List Value} (h : w.ownsRow B' e size v n xs) (hB : B ≤ B') : w.ownsRow B e size v n xs :=
  ⟨h.1, h.2.imp id (fun ⟨g, cap, cur, a, b, c⟩ => ⟨g, cap, cur, a, Nat.le_trans hB b, c⟩)⟩
theorem own_setCell {W : World} {base e size n : Nat} {v : Value} {xs : List Value} (h : W.ownsRow base e size v n xs) (q : Addr) (u : Value) (hq : q.block < base) : (W.setCell q u).ownsRow base e size v n xs :=
  h.kept (row := some q.block) ⟨rfl, rfl, rfl, by simp, fun k _ hk => Below.heap_setCell _ _ _ k (fun e => hk (by rw [e]))⟩ (.inr fun e => by have := h.lt _ e; omega)
theorem own_shape {w : World} {B e size n : Nat} {v : Value} {xs : List Value} (h : w.ownsRow B e size v n xs) : ∃ A c, v = .slice A n c := by
  rcases h.2 with ⟨rfl, rfl⟩ | ⟨g, cap, cur, rfl, _⟩
  · exact ⟨_, _, rfl⟩
  · exact ⟨_, _, rfl⟩
theorem own_shape_pos {w : World} {B e size n : Nat} {v : Value} {xs : List Value} (h : w.ownsRow B e size v n xs) (hn : 0 < n) : ∃ g cap, v = .slice (some ⟨g, 0, none⟩) n cap ∧ B ≤ g ∧ g < w.heap.size := by
  rcases h.2 with ⟨rfl, rfl⟩ | ⟨g, cap, cur, rfl, hb, hh, _⟩
  · omega
  · exact ⟨g, cap, rfl, hb, (Array.getElem?_eq_some_iff.1 hh).1⟩
theorem own_cell {w : World} {B e n g cap : Nat} {xs : List Int} (h : w.ownsRow B e 1 (.slice (some ⟨g, 0, none⟩) n cap) n (xs.map I)) (i : Nat) (x : Int) (hx : xs[i]? = some x) : w.cell? ⟨g, i, none⟩ = some (I x) := by
  have hl := h.1
  rw [List.length_map] at hl
  have hi := (List.getElem?_eq_some_iff.1 hx).1
  rw [h.cellAt i (by omega)]
  rw [List.getElem?_map, hx]; rfl

theorem Tryd.info3 : (Tryd.prog.info? 3).map (fun i => (i.zero, i.size, i.bytes)) = some (some (.int .i64 0), 1, 8) := by kernel_rfl
end Go.Proofs.YtldcehhhndlhdaaDoor

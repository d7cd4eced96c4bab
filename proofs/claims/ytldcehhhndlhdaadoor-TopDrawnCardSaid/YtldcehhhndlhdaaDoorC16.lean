/- Walks: the reference's cut, Spans, IsOne, ask, known. -/
import Derived.Test.YtldcehhhndlhdaaDoorC15
namespace Go.Proofs.YtldcehhhndlhdaaDoor
open Go.RowKit Go.Sort

theorem St.made {w0 w w' : World} {n : Nat} {L : List Item} (h : St w0 w n L) (hg : w.grownBy w' none) {e size m cap : Nat} {xs : List Value} (ho : w'.ownsRow w0.heap.size e size (.slice (some ⟨w.heap.size, 0, none⟩) m cap) m xs) : St w0 w' w'.heap.size (.own e size (.slice (some ⟨n, 0, none⟩) m cap) m xs :: L) := by
  have hb : Below w.heap.size w w' := ⟨hg.os, hg.tape, hg.output, hg.size, fun k hk => hg.block k hk (by simp)⟩
  have h2 := h.call hb
  rw [h.size] at ho
  refine ⟨rfl, h2.bel, fun x hx => ?_, ?_⟩
  · rcases List.mem_cons.1 hx with hx | hx
    · rw [hx]; exact ho
    · exact h2.ok x hx
  · have e0 : (Item.own e size (.slice (some ⟨n, 0, none⟩) m cap) m xs).blk = some n := rfl
    rw [List.filterMap_cons, e0]
    refine List.nodup_cons.2 ⟨fun hm => ?_, h.apart⟩
    have h4 := (h.lt_of hm).2
    omega
/-! A row of spans. -/
def initS (N k : Nat) : List Sp := (List.range N).map fun i => if i < k then ⟨0, 99⟩ else ⟨0, 0⟩
theorem initS_len (N k : Nat) : (initS N k).length = N := by simp [initS]
theorem initS_all (N : Nat) : initS N N = List.replicate N ⟨0, 99⟩ := by
  apply List.ext_getElem (by simp [initS])
  intro i h1 h2
  have : i < N := by simpa [initS] using h1
  simp [initS, this]
theorem initS_zero (N : Nat) : initS N 0 = List.replicate N ⟨0, 0⟩ := by
  apply List.ext_getElem (by simp [initS])
  intro i h1 h2
  simp [initS]
theorem initS_at {N k i : Nat} (h : i < N) : spAt (initS N k) i = if i < k then ⟨0, 99⟩ else ⟨0, 0⟩ := by
  rw [spAt_len _ _ (by rw [initS_len]; exact h)]
  simp [initS]
theorem initS_succ {N k : Nat} (h : k < N) : initS N (k + 1) = (initS N k).set k ⟨(spAt (initS N k) k).low, 99⟩ := by
  refine list_ext_spAt (by simp [initS_len]) fun i hi => ?_
  rw [List.length_set, initS_len] at hi
  rw [initS_at hi, spAt_set _ _ _ _ (by rw [initS_len]; exact h), initS_at hi, initS_at h]
  by_cases e : i = k
  · subst e; simp
  · rw [if_neg e]
    by_cases e2 : i < k
    · rw [if_pos e2, if_pos (by omega)]
    · rw [if_neg e2, if_neg (by omega)]
theorem spCells_replicate (N : Nat) : spCells (List.replicate N ⟨0, 0⟩) = List.replicate (N * 2) (I 0) := by
  induction N with
  | zero => rfl
  | succ n ih => rw [List.replicate_succ, show spCells (⟨0, 0⟩ :: List.replicate n ⟨0, 0⟩) = I 0 :: I 0 :: spCells (List.replicate n ⟨0, 0⟩) from rfl, ih, show (n + 1) * 2 = n * 2 + 1 + 1 by omega, List.replicate_succ, List.replicate_succ]
theorem spCells_get {l : List Sp} {m : Nat} (h : m < l.length) : (spCells l)[m * 2]? = some (I (spAt l m).low) ∧ (spCells l)[m * 2 + 1]? = some (I (spAt l m).high) := by
  rw [spAt_len _ _ h]
  exact spCells_at l m h
theorem spCells_set : ∀ (l : List Sp) (m : Nat) (v : Sp), m < l.length → ((spCells l).set (m * 2) (I v.low)).set (m * 2 + 1) (I v.high) = spCells (l.set m v)
  | [], m, v, h => absurd h (by simp)
  | s :: l, 0, v, _ => rfl
  | s :: l, m + 1, v, h => by
    have ih := spCells_set l m v (by simpa using h)
    have e : spCells (s :: l) = I s.low :: I s.high :: spCells l := rfl
    rw [e, show (m + 1) * 2 = m * 2 + 1 + 1 by omega]
    simp only [List.set_cons_succ]
    rw [ih]
    rfl
theorem spCells_high (l : List Sp) (m : Nat) (b : Int) (h : m < l.length) : (spCells l).set (m * 2 + 1) (I b) = spCells (l.set m ⟨(spAt l m).low, b⟩) := by
  rw [← spCells_set _ _ _ h]
  congr 1
  have hg := (spCells_get h).1
  apply List.ext_getElem?
  intro i
  rw [List.getElem?_set]
  split
  · rename_i e; subst e
    split
    · exact hg
    · rename_i hn; rw [List.getElem?_eq_none (by omega)]
  · rfl
theorem own_at2 {w : World} {B e s n g cap : Nat} {xs : List Value} (h : w.ownsRow B e s (.slice (some ⟨g, 0, none⟩) n cap) n xs) {i : Nat} {v : Value} (hx : xs[i]? = some v) : w.cell? ⟨g, i, none⟩ = some v := by
  obtain ⟨h1, A, c, h2, _, _, h5⟩ := Reads.of_own h
  injection h2 with h2 _ _
  subst h2
  have hl := (List.getElem?_eq_some_iff.1 hx).1
  have hn : 0 < n := by
    rw [h1] at hl
    exact Nat.pos_of_ne_zero fun e => by rw [e, Nat.zero_mul] at hl; omega
  obtain ⟨b, o, e, h6⟩ := h5 hn
  injection e with e
  injection e with e1 e2 _
  subst e1
  subst e2
  have := h6 i v hx
  rwa [Nat.zero_add] at this
/-- The width of a row, read in memory. -/
def rowW (w : World) (g N : Nat) : Int := ((List.range N).map fun i => intOf ((w.cell? ⟨g, i * 2 + 1, none⟩).getD undef) - intOf ((w.cell? ⟨g, i * 2, none⟩).getD undef)).sum
theorem rowW_own {w : World} {B e g cap : Nat} {l : List Sp} (h : w.ownsRow B e 2 (.slice (some ⟨g, 0, none⟩) l.length cap) l.length (spCells l)) : rowW w g l.length = wid l := by
  unfold rowW wid
  congr 1
  apply List.ext_getElem (by simp)
  intro i h1 h2
  have hi : i < l.length := by simpa using h2
  obtain ⟨c1, c2⟩ := spCells_get hi
  simp only [List.getElem_map, List.getElem_range]
  rw [own_at2 h c1, own_at2 h c2, spAt_len _ _ hi]
  simp [intOf]
def msrS (u : Value) (w : World) (g N : Nat) : Nat := match u with | .bool true => (rowW w g N + 1).toNat + 1 | _ => 0
/-- Within a round no span is far away. -/
def Bnd (k : Nat) (l : List Sp) : Prop := ∀ w, w < l.length → 0 ≤ (spAt l w).low ∧ (spAt l w).low ≤ 99 + 99 * k ∧ -99 * k ≤ (spAt l w).high ∧ (spAt l w).high ≤ 99
theorem Bnd.step {k : Nat} {l : List Sp} {s : Slp} (h : Bnd k l) (ha : s.a.toNat < l.length) (hb : s.b.toNat < l.length) (h1 : -99 ≤ s.low) (h2 : s.low ≤ s.high) (h3 : s.high ≤ 99) : Bnd (k + 1) (slpS l s) := by
  intro w hw
  rw [slpS_len] at hw
  rw [slpS_at ha hb]
  have a := h _ ha
  have b := h _ hb
  have c := h w hw
  split
  · simp only [cutS]; omega
  · split
    · simp only [cutS]; omega
    · omega
theorem stepS_succ {t : Twn} {l l' : List Sp} {c : Bool} {k : Nat} (hk : k < t.slp.length) (h : (t.slp.take k).foldl stepS (l, false) = (l', c)) : (t.slp.take (k + 1)).foldl stepS (l, false) = (slpS l' t.slp[k], c || slpC l' t.slp[k]) := by
  rw [List.take_succ_eq_append_getElem hk, List.foldl_append, h]
  rfl
theorem sndS_succ {t : Twn} {l : List Sp} {k : Nat} (hk : k < t.snd.length) : (t.snd.take (k + 1)).foldl sndS l = sndS ((t.snd.take k).foldl sndS l) t.snd[k] := by
  rw [List.take_succ_eq_append_getElem hk, List.foldl_append]
  rfl
theorem sndsTo_len (l : List Sp) : ∀ ss : List Snd, (ss.foldl sndS l).length = l.length := by
  intro ss
  induction ss generalizing l with
  | nil => rfl
  | cons s ss ih => rw [List.foldl_cons, ih, sndS_len]
/-- The loop of the reference. -/
structure Loop (t : Twn) (l : List Sp) (c : Bool) : Prop where
  inv : Inv t l
  go : c = true → ∃ f, spansR t = spansF t f l ∧ (wid l + 1).toNat < f
  stop : c = false → spansR t = some l
theorem Loop.start {t : Twn} (hv : Vl t) : Loop t (span0 t) true := ⟨Inv.start hv, fun _ => ⟨1000, rfl, by have := (Inv.start hv).wid hv; omega⟩, fun h => by cases h⟩
theorem Loop.none {t : Twn} {l : List Sp} (h : Loop t l true) (he : emptyS l = true) : spansR t = none := by
  obtain ⟨f, h1, h2⟩ := h.go rfl
  obtain ⟨f, rfl⟩ : ∃ n, f = n + 1 := ⟨f - 1, by omega⟩
  rw [h1, spansF, if_pos he]
theorem Loop.next {t : Twn} (hv : Vl t) {l l' : List Sp} {c : Bool} (h : Loop t l true) (he : emptyS l = false) (hr : roundS t l = (l', c)) : Loop t l' c ∧ (c = true → wid l' < wid l) := by
  obtain ⟨f, h1, h2⟩ := h.go rfl
  obtain ⟨f, rfl⟩ : ∃ n, f = n + 1 := ⟨f - 1, by omega⟩
  have hi := h.inv.round hv
  rw [hr] at hi
  have hw := fun hc => h.inv.lt hv (show (roundS t l).2 = true by rw [hr]; exact hc)
  rw [hr] at hw
  have hn := wid_nonneg he
  rw [spansF, if_neg (by rw [he]; simp), hr] at h1
  dsimp only at h1 hw
  refine ⟨⟨hi, fun hc => ⟨f, by rw [h1, if_pos hc], by have := hw hc; omega⟩, fun hc => by rw [h1, hc]; rfl⟩, hw⟩
theorem msr_true {w : World} {B e g cap N : Nat} {l : List Sp} (h : w.ownsRow B e 2 (.slice (some ⟨g, 0, none⟩) N cap) N (spCells l)) (hl : l.length = N) : msrS (.bool true) w g N = (wid l + 1).toNat + 1 := by
  subst hl
  show (rowW w g l.length + 1).toNat + 1 = _
  rw [rowW_own h]
theorem bnd_start {t : Twn} (hv : Vl t) {l : List Sp} (h : Inv t l) (he : emptyS l = false) : Bnd 0 l := by
  intro w hw
  have a := h.bd hv w hw
  have b := emptyS_iff.1 he w hw
  omega
theorem madeSp (N : Nat) : (madeCells (Value.cells (.agg #[.int .i64 0, .int .i64 0])) (N * 2)).toList = spCells (List.replicate N ⟨0, 0⟩) := by
  rw [spCells_replicate]
  apply List.ext_getElem
  · simp [madeCells]
  · intro i h1 h2
    simp [madeCells, Value.cells]
    have : i % 2 = 0 ∨ i % 2 = 1 := by omega
    rcases this with h | h <;> simp [h]

set_option maxRecDepth 20000 in
set_option maxHeartbeats 2000000 in
theorem cut_any (a b : Sp) (w : World) :
    Calls Tryd.prog 40 #[a.val, b.val] w fun e w' => e = .returned (cutS a b).val ∧ Below w.heap.size w w' := by
  obtain ⟨a1, a2⟩ := a
  obtain ⟨b1, b2⟩ := b
  have S := Lib.hid ((((St.init w).alloc [I a1, I a2] 47).alloc [I b1, I b2] 47).alloc [I (max a1 b1), I (min a2 b2)] 47)
  go_enter Tryd.func40, Tryd.ntmps40
  go_wp2_with fail
  all_goals
    refine bodyPost_ret (v := .agg #[I (max a1 b1), I (min a2 b2)]) (by simp [results, Tryd.results40, go_sem]; try omega) rfl ⟨rfl, ?_⟩
    repeat (first | exact Below.refl _ _ | refine Below.setCell ?_ (by simp) _ | exact (Below.refl _ _).alloc (Nat.le_refl _) _ | refine Below.alloc ?_ (by simp <;> omega) _)

/-- The spans of a town, in new memory, or that there is no truth. -/
def RetSpans (t : Twn) (w : World) (e : Ending) (w' : World) : Prop :=
  (∃ l v, spansR t = some l ∧ e = .returned (.tuple #[v, .bool true]) ∧ w'.ownsRow w.heap.size 47 2 v l.length (spCells l) ∧ Below w.heap.size w w') ∨ (spansR t = none ∧ e = .returned (.tuple #[.slice none 0 0, .bool false]) ∧ Below w.heap.size w w')

set_option maxRecDepth 100000 in
set_option maxHeartbeats 16000000 in
theorem spans_any (v : Value) (t : Twn) (w : World) (hv : TwnAt w v t) (hvl : Vl t) (hl1 : t.snd.length ≤ 1000) (hl2 : t.slp.length ≤ 1000) :
    Calls Tryd.prog 13 #[v] w fun e w' => RetSpans t w e w' := by
  obtain ⟨sv, pv, rfl, hs, hp⟩ := hv
  obtain ⟨A1, c1, rfl, hsl1, hsl2, hc1⟩ := hs.open_
  obtain ⟨A2, c2, rfl, hpl1, hpl2, hc2⟩ := hp.open_
  have HSN := Lib.hid hs
  have HSP := Lib.hid hp
  have HC1 := Lib.hid hc1
  have HC2 := Lib.hid hc2
  clear hc1 hc2 hs hp
  have S := Lib.hid (show St w (w.alloc (.cells #[I t.wells, .slice A1 t.snd.length c1, .slice A2 t.slp.length c2] 25)) (w.heap.size + 1) [.box w.heap.size [I t.wells, .slice A1 t.snd.length c1, .slice A2 t.slp.length c2]] from (St.init w).alloc [I t.wells, .slice A1 t.snd.length c1, .slice A2 t.slp.length c2] 25)
  have HVL := Lib.hid hvl
  obtain ⟨N, hN⟩ := Int.eq_ofNat_of_zero_le hvl.w0
  have hN6 : N ≤ 6 := by have := hvl.w6; omega
  have HN := Lib.hid hN
  obtain ⟨i0, hi, hz0, hz1, hz2⟩ := info_parts (P := Tryd.prog) (e := 47) (z := .agg #[.int .i64 0, .int .i64 0]) (size := 2) (bytes := 16) (by kernel_rfl)
  have hb1 : i0.bytes * N ≤ 281474976710656 := by rw [hz2]; omega
  have hb2 : N ≤ maxLen := by simp only [maxLen]; omega
  have hb3 := S.out.bel.size
  have H0 := Lib.hid (sndsTo_len (initS N N) t.snd)
  have HSL := Lib.hid (hvl.sndL (n := N) (by omega))
  clear hvl hN
  have q0 := S.out.get 0 0 rfl rfl
  have q1 := S.out.get 0 1 rfl rfl
  have q2 := S.out.get 0 2 rfl rfl
  go_enter Tryd.func13, Tryd.ntmps13
  go_wp2_with (refine wpList_make_full _ rfl (.tmp 15) (.tmp 15) 42 rfl w.heap.size 47 i0 (.agg #[.int .i64 0, .int .i64 0]) 2 Tryd.underlying42 hi hz0 hz1 .i64 .i64 _ _ N rfl rfl HN.out HN.out hb1 hb2 hb3 ?_; intro w1 hown hgr)
  have S := Lib.hid (S.out.made hgr hown)
  rw [madeSp, ← initS_zero] at S
  clear q0 q1 q2 hown hgr hb1 hb2 hb3
  go_loopw [5] (fun i wr => ∃ k : Nat, k ≤ N ∧ i = I k ∧ Hid (St w wr wr.heap.size [.own 47 2 (.slice (some ⟨w.heap.size + 1, 0, none⟩) N N) N (spCells (initS N k)), .box w.heap.size [I t.wells, .slice A1 t.snd.length c1, .slice A2 t.slp.length c2]])) (fun i _ => N - (intOf i).toNat)
  case atStart => exact ⟨0, by omega, rfl, S⟩
  case round =>
    clear S
    obtain ⟨k, hk, rfl, S⟩ := hrel
    by_cases hlt : k < N
    · have hki : (k : Int) < (N : Int) := by omega
      have hc := spCells_get (l := initS N k) (m := k) (by rw [initS_len]; exact hlt)
      have y1 := own_at2 (S.out.own 0 rfl) hc.2
      have y2 := (S.out.own 0 rfl).frozenAt (k * 2 + 1)
      have S := Lib.hid (S.out.put 0 (k * 2 + 1) (I 99) rfl)
      rw [spCells_high _ _ _ (by rw [initS_len]; exact hlt), ← initS_succ hlt] at S
      obtain ⟨v1, hv1⟩ : ∃ x, (spAt (initS N k) k).high = x := ⟨_, rfl⟩
      rw [hv1] at y1
      clear hc hv1
      go_wp2_with fail
      go_roundw
      case rel => exact ⟨k + 1, by omega, by go_num, Lib.hid S.out.fix⟩
      case measure => first | (simp [intOf]; done) | (simp [intOf]; omega)
    · have hkn : k = N := by omega
      rw [hkn] at S
      clear hkn
      go_wp2_with fail
      clear hlt hk
      go_loopw [6] (fun i wr => ∃ k : Nat, k ≤ t.snd.length ∧ i = I k ∧ Hid (St w wr wr.heap.size [.own 47 2 (.slice (some ⟨w.heap.size + 1, 0, none⟩) N N) N (spCells ((t.snd.take k).foldl sndS (initS N N))), .box w.heap.size [I t.wells, .slice A1 t.snd.length c1, .slice A2 t.slp.length c2]])) (fun i _ => t.snd.length - (intOf i).toNat)
      case atStart => exact ⟨0, by omega, rfl, Lib.hid S.out.fix⟩
      case round =>
        clear S
        obtain ⟨k, hk, rfl, S⟩ := hrel
        have q0 := S.out.get 1 0 rfl rfl
        have q1 := S.out.get 1 1 rfl rfl
        have q2 := S.out.get 1 2 rfl rfl
        by_cases hlt : k < t.snd.length
        · obtain ⟨b1, o1, rfl, hb1, hcell1⟩ := HC1.out (by omega)
          obtain ⟨x0, x1, x2⟩ := hcell1 k hlt
          have x0 := keep_cell S.out.bel x0
          have x1 := keep_cell S.out.bel x1
          have x2 := keep_cell S.out.bel x2
          have hsl := HSL.out t.snd[k] (List.getElem_mem hlt)
          have hs1 := sndS_succ (l := initS N N) hlt
          have hs2 := HVL.out.snd t.snd[k] (List.getElem_mem hlt)
          clear hcell1
          obtain ⟨⟨sw, sl, sh⟩, hs⟩ : ∃ s, t.snd[k] = s := ⟨_, rfl⟩
          rw [hs] at x0 x1 x2 hsl hs1 hs2
          clear hs
          dsimp only at x0 x1 x2 hsl hs2
          obtain ⟨m, rfl⟩ := Int.eq_ofNat_of_zero_le hs2.1
          rw [Int.toNat_natCast] at hsl
          have hmi : (m : Int) < (N : Int) := by omega
          obtain ⟨L, hL⟩ : ∃ L, (t.snd.take k).foldl sndS (initS N N) = L := ⟨_, rfl⟩
          have hLl : L.length = N := by rw [← hL, sndsTo_len, initS_len]
          rw [hL] at S hs1
          have HS1 := Lib.hid hs1
          have HLL := Lib.hid hLl
          clear hL hLl hs1 hs2
          have hlt0 := S.out.lt 1 rfl
          go_wp2_with fail
          have S := Lib.hid (S.out.alloc [I (m : Int), I sl, I sh] 31)
          clear hlt0 q0 q1 q2 x0 x1 x2
          refine wp_region_treeB (.node [0, 1, 2, 3, 4, 5, 6, 7, 8, 9, 10, 11, 12] [13] (fun _ => .last [14] [15])) 15 (by kernel_rfl) (by kernel_rfl) ?_
          intro KQ hKQ w2 hb
          have S := Lib.hid (S.out.call hb)
          clear hb
          have p0 := cell_regrown (S.out.get 0 0 rfl rfl)
          have p1 := cell_regrown (S.out.get 0 1 rfl rfl)
          have p2 := cell_regrown (S.out.get 0 2 rfl rfl)
          have hc1 := spCells_get (l := L) (m := m) (by rw [HLL.out]; omega)
          have y1 := own_at2 (S.out.own 1 rfl) hc1.1
          have z1 := own_at2 (S.out.own 1 rfl) hc1.2
          obtain ⟨⟨lo, hi'⟩, hsp⟩ : ∃ s, spAt L m = s := ⟨_, rfl⟩
          rw [hsp] at y1 z1
          have HSPN := Lib.hid hsp
          clear hc1 hsp
          dsimp only at y1 z1
          have y1 := cell_regrown y1
          have z1 := cell_regrown z1
          refine treeB_node ?_
          simp only [opsAt, List.filterMap_cons, List.filterMap_nil, List.getElem?_toArray, List.getElem?_cons_succ, List.getElem?_cons_zero]
          repeat (first | go_big_quiet_step (fail) | quiet_step (fail))
          refine wpQuiet_nil ?_
          refine all_one ?_
          intro K hK
          refine loud_op rfl rfl ?_
          go_simp
          refine (cut_any ⟨lo, hi'⟩ ⟨sl, sh⟩ _).mono ?_
          rintro e w3 ⟨rfl, hb⟩
          have S := Lib.hid (S.out.call hb)
          refine hK _ _ hb ?_
          clear hK K hb p0 p1 p2 y1 z1
          refine treeB_last ?_
          simp only [opsAt, List.filterMap_cons, List.filterMap_nil, List.getElem?_toArray, List.getElem?_cons_succ, List.getElem?_cons_zero]
          repeat (first | go_big_quiet_step (fail) | quiet_step (fail))
          refine wpQuiet_nil ?_
          obtain ⟨⟨d1, d2⟩, hd⟩ : ∃ s, cutS ⟨lo, hi'⟩ ⟨sl, sh⟩ = s := ⟨_, rfl⟩
          have hnext : sndS L ⟨(m : Nat), sl, sh⟩ = L.set m ⟨d1, d2⟩ := by
            unfold sndS
            dsimp only
            rw [Int.toNat_natCast, HSPN.out, hd]
          rw [hnext] at HS1
          rw [hd]
          clear hd hnext
          have hc1 := spCells_get (l := L) (m := m) (by rw [HLL.out]; omega)
          have y1 := own_at2 (S.out.own 1 rfl) hc1.1
          have z1 := own_at2 (S.out.own 1 rfl) hc1.2
          have u1 := (S.out.own 1 rfl).frozenAt (m * 2)
          have u2 := (S.out.own 1 rfl).frozenAt (m * 2 + 1)
          have S2 := Lib.hid ((S.out.put 1 (m * 2) (I d1) rfl).put 1 (m * 2 + 1) (I d2) rfl)
          have hset := spCells_set L m ⟨d1, d2⟩ (by rw [HLL.out]; omega)
          dsimp only at hset
          dsimp only [List.set_cons_zero, List.set_cons_succ] at S2
          rw [hset] at S2
          rw [HSPN.out] at y1 z1
          dsimp only at y1 z1
          clear hset hc1
          go_wp2_with fail
          go_roundw
          case rel => exact ⟨k + 1, by omega, by go_num, Lib.hid (by rw [HS1.out]; exact S2.out.tail.fix)⟩
          case measure => first | (simp [intOf]; done) | (simp [intOf]; omega)
        · have hkn : k = t.snd.length := by omega
          rw [hkn, List.take_length, initS_all, show N = t.wells.toNat by have := HN.out; omega] at S
          have S := Lib.hid (show St w _ _ [.own 47 2 (.slice (some ⟨w.heap.size + 1, 0, none⟩) N N) N (spCells (span0 t)), .box w.heap.size [I t.wells, .slice A1 t.snd.length c1, .slice A2 t.slp.length c2]] from (by have h := S.out; rw [show t.wells.toNat = N by have := HN.out; omega] at h; unfold span0; rw [show t.wells.toNat = N by have := HN.out; omega]; exact h))
          clear hkn
          have HLP := Lib.hid (Loop.start HVL.out)
          go_wp2_with fail
          clear hlt hk
          go_loopw [8] (fun u wr => ∃ (L : List Sp) (c : Bool), u = .bool c ∧ Hid (Loop t L c) ∧ Hid (St w wr wr.heap.size [.own 47 2 (.slice (some ⟨w.heap.size + 1, 0, none⟩) N N) N (spCells L), .box w.heap.size [I t.wells, .slice A1 t.snd.length c1, .slice A2 t.slp.length c2]])) (fun u wr => msrS u wr (w.heap.size + 1) N)
          case atStart => exact ⟨_, true, rfl, HLP, Lib.hid S.out.fix⟩
          case round =>
            clear S HLP
            obtain ⟨L, c, rfl, HLP, S⟩ := hrel
            obtain ⟨wo, rfl⟩ : ∃ wo : World, wo = wr := ⟨_, rfl⟩
            have HLL := Lib.hid (show L.length = N by have := HLP.out.inv.len; have := HN.out; omega)
            have q0 := S.out.get 1 0 rfl rfl
            have q1 := S.out.get 1 1 rfl rfl
            have q2 := S.out.get 1 2 rfl rfl
            cases c
            · have HSS := Lib.hid (HLP.out.stop rfl)
              go_wp2_with fail
              go_ret2
              refine Or.inl ⟨L, _, HSS.out, rfl, ?_, S.out.bel⟩
              rw [HLL.out]
              exact S.out.own 0 rfl
            · have HMS := Lib.hid (msr_true (S.out.own 0 rfl) HLL.out)
              go_wp2_with fail
              go_loopw [9] (fun i wr => ∃ k : Nat, k ≤ N ∧ i = I k ∧ Hid (∀ j, j < k → (spAt L j).low ≤ (spAt L j).high) ∧ Hid (St w wr wr.heap.size [.own 47 2 (.slice (some ⟨w.heap.size + 1, 0, none⟩) N N) N (spCells L), .box w.heap.size [I t.wells, .slice A1 t.snd.length c1, .slice A2 t.slp.length c2]])) (fun i _ => N - (intOf i).toNat)
              case atStart => exact ⟨0, by omega, rfl, Lib.hid (fun j hj => by omega), Lib.hid S.out.fix⟩
              case round =>
                clear S q0 q1 q2
                obtain ⟨k, hk, rfl, HA, S⟩ := hrel
                by_cases hlt : k < N
                · have hki : (k : Int) < (N : Int) := by omega
                  have hc1 := spCells_get (l := L) (m := k) (by rw [HLL.out]; omega)
                  have y1 := own_at2 (S.out.own 0 rfl) hc1.1
                  have z1 := own_at2 (S.out.own 0 rfl) hc1.2
                  obtain ⟨⟨lo, hi'⟩, hsp⟩ : ∃ s, spAt L k = s := ⟨_, rfl⟩
                  rw [hsp] at y1 z1
                  have HSPN := Lib.hid hsp
                  clear hc1 hsp
                  dsimp only at y1 z1
                  have y1 := cell_regrown y1
                  have z1 := cell_regrown z1
                  by_cases hbad : hi' < lo
                  · have HE := Lib.hid (HLP.out.none (by
                      cases he : emptyS L
                      · have := emptyS_iff.1 he k (by rw [HLL.out]; exact hlt)
                        rw [HSPN.out] at this
                        dsimp only at this
                        omega
                      · rfl))
                    go_wp2_with fail
                    refine wp_region_ext (by kernel_rfl) (by kernel_rfl) ?_
                    repeat (first | go_big_quiet_step (fail) | quiet_step (fail))
                    refine wpQuiet_nil ?_
                    clear y1 z1
                    intro w2 hb2
                    have S := Lib.hid (S.out.call hb2)
                    go_wp2_with fail
                    go_ret2
                    exact Or.inr ⟨HE.out, rfl, S.out.bel⟩
                  · have HA2 := Lib.hid (show ∀ j, j < k + 1 → (spAt L j).low ≤ (spAt L j).high from fun j hj => by
                      by_cases e : j = k
                      · subst e; rw [HSPN.out]; dsimp only; omega
                      · exact HA.out j (by omega))
                    go_wp2_with fail
                    refine wp_region_ext (by kernel_rfl) (by kernel_rfl) ?_
                    repeat (first | go_big_quiet_step (fail) | quiet_step (fail))
                    refine wpQuiet_nil ?_
                    clear y1 z1
                    intro w2 hb2
                    have S := Lib.hid (S.out.call hb2)
                    go_wp2_with fail
                    go_roundw
                    case rel => exact ⟨k + 1, by omega, by go_num, HA2, S⟩
                    case measure => first | (simp [intOf]; done) | (simp [intOf]; omega)
                · have HEM := Lib.hid (emptyS_iff.2 fun j hj => HA.out j (by have := HLL.out; omega))
                  have HB0 := Lib.hid (bnd_start HVL.out HLP.out.inv HEM.out)
                  go_wp2_with fail
                  clear HA hlt hk
                  go_loopw [8, 10] (fun u i wr => ∃ (k : Nat) (K : List Sp) (c : Bool), k ≤ t.slp.length ∧ u = .bool c ∧ i = I k ∧ Hid ((t.slp.take k).foldl stepS (L, false) = (K, c)) ∧ Hid (K.length = N) ∧ Hid (Bnd k K) ∧ Hid (St w wr wr.heap.size [.own 47 2 (.slice (some ⟨w.heap.size + 1, 0, none⟩) N N) N (spCells K), .box w.heap.size [I t.wells, .slice A1 t.snd.length c1, .slice A2 t.slp.length c2]])) (fun _ i _ => t.slp.length - (intOf i).toNat)
                  case atStart => exact ⟨0, L, false, by omega, rfl, rfl, Lib.hid rfl, HLL, HB0, Lib.hid S.out.fix⟩
                  case round =>
                    clear S
                    obtain ⟨k, K, c, hk, rfl, rfl, HST, HKL, HBD, S⟩ := hrel
                    have q0 := S.out.get 1 0 rfl rfl
                    have q1 := S.out.get 1 1 rfl rfl
                    have q2 := S.out.get 1 2 rfl rfl
                    by_cases hlt : k < t.slp.length
                    · obtain ⟨b1, o1, rfl, hb1, hcell1⟩ := HC2.out (by omega)
                      obtain ⟨x0, x1, x2, x3⟩ := hcell1 k hlt
                      have x0 := keep_cell S.out.bel x0
                      have x1 := keep_cell S.out.bel x1
                      have x2 := keep_cell S.out.bel x2
                      have x3 := keep_cell S.out.bel x3
                      have hs2 := HVL.out.slp t.slp[k] (List.getElem_mem hlt)
                      have hst := stepS_succ hlt HST.out
                      have hbd := HBD.out.step (s := t.slp[k]) (by rw [HKL.out]; have := HN.out; omega) (by rw [HKL.out]; have := HN.out; omega) (by omega) (by omega) (by omega)
                      clear hcell1
                      obtain ⟨⟨sa, sb, sl, sh⟩, hs⟩ : ∃ s, t.slp[k] = s := ⟨_, rfl⟩
                      rw [hs] at x0 x1 x2 x3 hs2 hst hbd
                      clear hs
                      dsimp only at x0 x1 x2 x3 hs2
                      obtain ⟨m, rfl⟩ := Int.eq_ofNat_of_zero_le hs2.1
                      obtain ⟨p, rfl⟩ := Int.eq_ofNat_of_zero_le hs2.2.2.1
                      have hmi : (m : Int) < (N : Int) := by have := HN.out; omega
                      have hpi : (p : Int) < (N : Int) := by have := HN.out; omega
                      have hmp : m ≠ p := fun e => hs2.2.2.2.2.1 (by rw [e])
                      have b1 := HBD.out m (by rw [HKL.out]; omega)
                      have b2 := HBD.out p (by rw [HKL.out]; omega)
                      obtain ⟨⟨al, ah⟩, hsa⟩ : ∃ s, spAt K m = s := ⟨_, rfl⟩
                      obtain ⟨⟨bl, bh⟩, hsb⟩ : ∃ s, spAt K p = s := ⟨_, rfl⟩
                      have HSA := Lib.hid hsa
                      have HSB := Lib.hid hsb
                      rw [hsa] at b1
                      rw [hsb] at b2
                      dsimp only at b1 b2
                      have hkb : (k : Int) ≤ 1000 := by omega
                      have B := Lib.hid (And.intro b1 (And.intro b2 (And.intro hs2 hkb)))
                      have HSX := Lib.hid hst
                      have HBX := Lib.hid hbd
                      have HMP := Lib.hid hmp
                      clear hst hbd hsa hsb b1 b2 hs2 hmp hkb
                      have hlt0 := S.out.lt 1 rfl
                      go_wp2_with fail
                      have S := Lib.hid (S.out.alloc [I (m : Int), I (p : Int), I sl, I sh] 77)
                      clear hlt0 q0 q1 q2 x0 x1 x2 x3
                      refine wp_region_treeB (.node [0, 1, 2, 3, 4, 5, 6, 7, 8, 9] [10, 11] (fun l => if l = 10 then .node [] [11] (fun _ => .node [] [12] (fun _ => .node [] [13] (fun _ => .last [] []))) else .node [] [10] (fun _ => .node [] [12] (fun _ => .node [] [13] (fun _ => .last [] []))))) 14 (by kernel_rfl) (by kernel_rfl) ?_
                      intro KQ hKQ w2 hb
                      have S := Lib.hid (S.out.call hb)
                      clear hb
                      have p0 := cell_regrown (S.out.get 0 0 rfl rfl)
                      have p1 := cell_regrown (S.out.get 0 1 rfl rfl)
                      have hc1 := spCells_get (l := K) (m := m) (by rw [HKL.out]; omega)
                      have y1 := own_at2 (S.out.own 1 rfl) hc1.1
                      have z1 := own_at2 (S.out.own 1 rfl) hc1.2
                      rw [HSA.out] at y1 z1
                      dsimp only at y1 z1
                      clear hc1
                      have y1 := cell_regrown y1
                      have z1 := cell_regrown z1
                      have hc2 := spCells_get (l := K) (m := p) (by rw [HKL.out]; omega)
                      have y2 := own_at2 (S.out.own 1 rfl) hc2.1
                      have z2 := own_at2 (S.out.own 1 rfl) hc2.2
                      rw [HSB.out] at y2 z2
                      dsimp only at y2 z2
                      clear hc2
                      have y2 := cell_regrown y2
                      have z2 := cell_regrown z2
                      have HB := Lib.hid (Below.refl w2.heap.size w2)
                      refine treeB_node ?_
                      simp only [opsAt, List.filterMap_cons, List.filterMap_nil, List.getElem?_toArray, List.getElem?_cons_succ, List.getElem?_cons_zero]
                      repeat (first | go_big_quiet_step (fail) | quiet_step (fail))
                      refine wpQuiet_nil ?_
                      clear p0 p1 y1 z1 y2 z2
                      apply cut_laterH
                      · intro key
                        refine all_two ?_ ?_
                        · intro K' hK
                          refine loud_op rfl rfl ?_
                          go_simp
                          have hb := (Below.refl w2.heap.size w2).alloc (Nat.le_refl _) (.cells #[I 0, I 0] 47)
                          have hle := HB.out.size
                          replace S := Lib.hid (S.out.alloc [I 0, I 0] 47)
                          replace HB := Lib.hid (bto HB.out hb)
                          refine hK _ _ HB.out ?_
                          clear hK K' hb
                          obtain ⟨w3, hwa⟩ : ∃ x, w2.alloc (.cells #[I 0, I 0] 47) = x := ⟨_, rfl⟩
                          obtain ⟨pA, hp⟩ : ∃ x, w2.heap.size = x := ⟨_, rfl⟩
                          rw [hwa, hp] at S
                          rw [hwa] at HB
                          have HPpA := Lib.hid (show w2.heap.size ≤ _ from Nat.le_trans hle (Nat.le_of_eq hp))
                          rw [hwa, hp]
                          replace S := Lib.hid S.out.fix
                          clear hwa hp hle
                          refine treeB_node ?_
                          simp only [opsAt, List.filterMap_nil]
                          refine wpQuiet_nil ?_
                          refine all_one ?_
                          intro K' hK
                          refine loud_op rfl rfl ?_
                          go_simp
                          have hb := (Below.refl w3.heap.size w3).alloc (Nat.le_refl _) (.cells #[I 0, I 0] 47)
                          have hle := HB.out.size
                          replace S := Lib.hid (S.out.alloc [I 0, I 0] 47)
                          replace HB := Lib.hid (bto HB.out hb)
                          refine hK _ _ HB.out ?_
                          clear hK K' hb
                          obtain ⟨w4, hwa⟩ : ∃ x, w3.alloc (.cells #[I 0, I 0] 47) = x := ⟨_, rfl⟩
                          obtain ⟨pB, hp⟩ : ∃ x, w3.heap.size = x := ⟨_, rfl⟩
                          rw [hwa, hp] at S
                          rw [hwa] at HB
                          have HPpB := Lib.hid (show w2.heap.size ≤ _ from Nat.le_trans hle (Nat.le_of_eq hp))
                          rw [hwa, hp]
                          replace S := Lib.hid S.out.fix
                          clear hwa hp hle
                          replace S := Lib.hid (S.out.perm (List.Perm.swap ..))
                          revert S
                          revert HB
                          revert w4
                          revert HPpB
                          revert HPpA
                          revert pB
                          revert pA
                          clear w3
                          exact key.out
                        · intro K' hK
                          refine loud_op rfl rfl ?_
                          go_simp
                          have hb := (Below.refl w2.heap.size w2).alloc (Nat.le_refl _) (.cells #[I 0, I 0] 47)
                          have hle := HB.out.size
                          replace S := Lib.hid (S.out.alloc [I 0, I 0] 47)
                          replace HB := Lib.hid (bto HB.out hb)
                          refine hK _ _ HB.out ?_
                          clear hK K' hb
                          obtain ⟨w3, hwa⟩ : ∃ x, w2.alloc (.cells #[I 0, I 0] 47) = x := ⟨_, rfl⟩
                          obtain ⟨pB, hp⟩ : ∃ x, w2.heap.size = x := ⟨_, rfl⟩
                          rw [hwa, hp] at S
                          rw [hwa] at HB
                          have HPpB := Lib.hid (show w2.heap.size ≤ _ from Nat.le_trans hle (Nat.le_of_eq hp))
                          rw [hwa, hp]
                          replace S := Lib.hid S.out.fix
                          clear hwa hp hle
                          refine treeB_node ?_
                          simp only [opsAt, List.filterMap_nil]
                          refine wpQuiet_nil ?_
                          refine all_one ?_
                          intro K' hK
                          refine loud_op rfl rfl ?_
                          go_simp
                          have hb := (Below.refl w3.heap.size w3).alloc (Nat.le_refl _) (.cells #[I 0, I 0] 47)
                          have hle := HB.out.size
                          replace S := Lib.hid (S.out.alloc [I 0, I 0] 47)
                          replace HB := Lib.hid (bto HB.out hb)
                          refine hK _ _ HB.out ?_
                          clear hK K' hb
                          obtain ⟨w4, hwa⟩ : ∃ x, w3.alloc (.cells #[I 0, I 0] 47) = x := ⟨_, rfl⟩
                          obtain ⟨pA, hp⟩ : ∃ x, w3.heap.size = x := ⟨_, rfl⟩
                          rw [hwa, hp] at S
                          rw [hwa] at HB
                          have HPpA := Lib.hid (show w2.heap.size ≤ _ from Nat.le_trans hle (Nat.le_of_eq hp))
                          rw [hwa, hp]
                          replace S := Lib.hid S.out.fix
                          clear hwa hp hle
                          revert S
                          revert HB
                          revert w4
                          revert HPpB
                          revert HPpA
                          revert pB
                          revert pA
                          clear w3
                          exact key.out
                      · clear HB S
                        intro pA pB HPA HPB wz HB S
                        refine treeB_node ?_
                        simp only [opsAt, List.filterMap_nil]
                        refine wpQuiet_nil ?_
                        refine all_one ?_
                        have u0 := S.out.get 0 0 rfl rfl
                        have u1 := S.out.get 0 1 rfl rfl
                        have u2 := S.out.free 0 0 rfl
                        have u3 := S.out.free 0 1 rfl
                        intro K' hK
                        refine loud_op rfl rfl ?_
                        go_simp
                        clear u0 u1 u2 u3
                        replace S := Lib.hid ((S.out.set 0 0 (I al) rfl).set 0 1 (I ah) rfl)
                        replace HB := Lib.hid ((HB.out.setCell (p := ⟨pA, 0, none⟩) HPA.out (I al)).setCell (p := ⟨pA, 1, none⟩) HPA.out (I ah))
                        refine hK _ _ HB.out ?_
                        clear hK K'
                        refine treeB_node ?_
                        simp only [opsAt, List.filterMap_nil]
                        refine wpQuiet_nil ?_
                        refine all_one ?_
                        have u0 := S.out.get 1 0 rfl rfl
                        have u1 := S.out.get 1 1 rfl rfl
                        have u2 := S.out.free 1 0 rfl
                        have u3 := S.out.free 1 1 rfl
                        intro K' hK
                        refine loud_op rfl rfl ?_
                        go_simp
                        clear u0 u1 u2 u3
                        replace S := Lib.hid ((S.out.set 1 0 (I bl) rfl).set 1 1 (I bh) rfl)
                        replace HB := Lib.hid ((HB.out.setCell (p := ⟨pB, 0, none⟩) HPB.out (I bl)).setCell (p := ⟨pB, 1, none⟩) HPB.out (I bh))
                        refine hK _ _ HB.out ?_
                        clear hK K'
                        refine treeB_last ?_
                        simp only [opsAt, List.filterMap_nil]
                        refine wpQuiet_nil ?_
                        clear HB HPA HPB
                        have S := Lib.hid (show St w _ _ [.box pA [I al, I ah], .box pB [I bl, I bh], .box wr.heap.size [I (m : Int), I (p : Int), I sl, I sh], .own 47 2 (.slice (some ⟨w.heap.size + 1, 0, none⟩) N N) N (spCells K), .box w.heap.size _] from S.out.fix)
                        go_wp2_with fail
                        obtain ⟨hb1', hb2', hs2, hkb⟩ := B.out
                        have i1 : IntKind.i64.wrap (al + sl) = al + sl := IntWalk.i64_in _ (by omega)
                        have i2 : IntKind.i64.wrap (ah + sh) = ah + sh := IntWalk.i64_in _ (by omega)
                        have i3 : IntKind.i64.wrap (bl - sh) = bl - sh := IntWalk.i64_in _ (by omega)
                        have i4 : IntKind.i64.wrap (bh - sl) = bh - sl := IntWalk.i64_in _ (by omega)
                        clear hb1' hb2' hs2 hkb
                        refine wp_region_treeB (.node [0, 1, 2, 3, 4, 5, 6, 7, 8, 9, 10, 11, 12, 13, 14] [15] (fun _ => .last [16] [17])) 17 (by kernel_rfl) (by kernel_rfl) ?_
                        intro KQ hKQ w5 hb
                        have S := Lib.hid (S.out.call hb)
                        clear hb
                        have p0 := cell_regrown (S.out.get 2 0 rfl rfl)
                        have p1 := cell_regrown (S.out.get 2 1 rfl rfl)
                        have p2 := cell_regrown (S.out.get 2 2 rfl rfl)
                        have p3 := cell_regrown (S.out.get 2 3 rfl rfl)
                        have a0 := cell_regrown (S.out.get 0 0 rfl rfl)
                        have a1 := cell_regrown (S.out.get 0 1 rfl rfl)
                        have c0 := cell_regrown (S.out.get 1 0 rfl rfl)
                        have c1 := cell_regrown (S.out.get 1 1 rfl rfl)
                        refine treeB_node ?_
                        simp only [opsAt, List.filterMap_cons, List.filterMap_nil, List.getElem?_toArray, List.getElem?_cons_succ, List.getElem?_cons_zero]
                        repeat (first | go_big_quiet_step (fail) | quiet_step (fail))
                        refine wpQuiet_nil ?_
                        refine all_one ?_
                        intro K' hK
                        refine loud_op rfl rfl ?_
                        go_simp
                        refine (cut_any ⟨bl, bh⟩ ⟨al + sl, ah + sh⟩ _).mono ?_
                        rintro e w6 ⟨rfl, hb⟩
                        have S := Lib.hid (S.out.call hb)
                        refine hK _ _ hb ?_
                        clear hK K' hb p0 p1 p2 p3 a0 a1 c0 c1
                        refine treeB_last ?_
                        simp only [opsAt, List.filterMap_cons, List.filterMap_nil, List.getElem?_toArray, List.getElem?_cons_succ, List.getElem?_cons_zero]
                        repeat (first | go_big_quiet_step (fail) | quiet_step (fail))
                        refine wpQuiet_nil ?_
                        obtain ⟨⟨d1, d2⟩, hd⟩ : ∃ s, cutS ⟨bl, bh⟩ ⟨al + sl, ah + sh⟩ = s := ⟨_, rfl⟩
                        have HD := Lib.hid hd
                        rw [hd]
                        clear hd
                        have hc1 := spCells_get (l := K) (m := p) (by rw [HKL.out]; omega)
                        have y1 := own_at2 (S.out.own 3 rfl) hc1.1
                        have z1 := own_at2 (S.out.own 3 rfl) hc1.2
                        rw [HSB.out] at y1 z1
                        dsimp only at y1 z1
                        have u1 := (S.out.own 3 rfl).frozenAt (p * 2)
                        have u2 := (S.out.own 3 rfl).frozenAt (p * 2 + 1)
                        have S2 := Lib.hid ((S.out.put 3 (p * 2) (I d1) rfl).put 3 (p * 2 + 1) (I d2) rfl)
                        have hset := spCells_set K p ⟨d1, d2⟩ (by rw [HKL.out]; omega)
                        dsimp only at hset
                        dsimp only [List.set_cons_zero, List.set_cons_succ] at S2
                        rw [hset] at S2
                        clear hset hc1
                        go_wp2_with fail
                        clear y1 z1 u1 u2
                        have S := Lib.hid S2.out.fix
                        clear S2
                        have HKL1 := Lib.hid (show (K.set p ⟨d1, d2⟩).length = N by rw [List.length_set, HKL.out])
                        refine wp_region_treeB (.node [0, 1, 2, 3, 4, 5, 6, 7, 8, 9, 10, 11, 12, 13, 14] [15] (fun _ => .last [16] [17])) 17 (by kernel_rfl) (by kernel_rfl) ?_
                        intro KQ hKQ w7 hb
                        have S := Lib.hid (S.out.call hb)
                        clear hb
                        have p0 := cell_regrown (S.out.get 2 0 rfl rfl)
                        have p1 := cell_regrown (S.out.get 2 1 rfl rfl)
                        have p2 := cell_regrown (S.out.get 2 2 rfl rfl)
                        have p3 := cell_regrown (S.out.get 2 3 rfl rfl)
                        have a0 := cell_regrown (S.out.get 0 0 rfl rfl)
                        have a1 := cell_regrown (S.out.get 0 1 rfl rfl)
                        have c0 := cell_regrown (S.out.get 1 0 rfl rfl)
                        have c1 := cell_regrown (S.out.get 1 1 rfl rfl)
                        refine treeB_node ?_
                        simp only [opsAt, List.filterMap_cons, List.filterMap_nil, List.getElem?_toArray, List.getElem?_cons_succ, List.getElem?_cons_zero]
                        repeat (first | go_big_quiet_step (fail) | quiet_step (fail))
                        refine wpQuiet_nil ?_
                        refine all_one ?_
                        intro K' hK
                        refine loud_op rfl rfl ?_
                        go_simp
                        refine (cut_any ⟨al, ah⟩ ⟨bl - sh, bh - sl⟩ _).mono ?_
                        rintro e w8 ⟨rfl, hb⟩
                        have S := Lib.hid (S.out.call hb)
                        refine hK _ _ hb ?_
                        clear hK K' hb p0 p1 p2 p3 a0 a1 c0 c1
                        refine treeB_last ?_
                        simp only [opsAt, List.filterMap_cons, List.filterMap_nil, List.getElem?_toArray, List.getElem?_cons_succ, List.getElem?_cons_zero]
                        repeat (first | go_big_quiet_step (fail) | quiet_step (fail))
                        refine wpQuiet_nil ?_
                        obtain ⟨⟨f1, f2⟩, hf⟩ : ∃ s, cutS ⟨al, ah⟩ ⟨bl - sh, bh - sl⟩ = s := ⟨_, rfl⟩
                        have HF := Lib.hid hf
                        rw [hf]
                        clear hf i1 i2 i3 i4
                        have HSA1 := Lib.hid (show spAt (K.set p ⟨d1, d2⟩) m = ⟨al, ah⟩ by rw [spAt_set _ _ _ _ (by rw [HKL.out]; omega), if_neg HMP.out, HSA.out])
                        have hc1 := spCells_get (l := (K.set p ⟨d1, d2⟩)) (m := m) (by rw [HKL1.out]; omega)
                        have y1 := own_at2 (S.out.own 3 rfl) hc1.1
                        have z1 := own_at2 (S.out.own 3 rfl) hc1.2
                        rw [HSA1.out] at y1 z1
                        dsimp only at y1 z1
                        have u1 := (S.out.own 3 rfl).frozenAt (m * 2)
                        have u2 := (S.out.own 3 rfl).frozenAt (m * 2 + 1)
                        have S2 := Lib.hid ((S.out.put 3 (m * 2) (I f1) rfl).put 3 (m * 2 + 1) (I f2) rfl)
                        have hset := spCells_set (K.set p ⟨d1, d2⟩) m ⟨f1, f2⟩ (by rw [HKL1.out]; omega)
                        dsimp only at hset
                        dsimp only [List.set_cons_zero, List.set_cons_succ] at S2
                        rw [hset] at S2
                        clear hset hc1
                        go_wp2_with fail
                        clear y1 z1 u1 u2
                        have S := Lib.hid S2.out.fix
                        clear S2
                        have hK2 : slpS K ⟨(m : Nat), (p : Nat), sl, sh⟩ = (K.set p ⟨d1, d2⟩).set m ⟨f1, f2⟩ := by
                          unfold slpS slpS1
                          dsimp only
                          rw [Int.toNat_natCast, Int.toNat_natCast, HSA.out, HSB.out]
                          dsimp only
                          rw [HD.out, HF.out]
                        have hA2 : spAt ((K.set p ⟨d1, d2⟩).set m ⟨f1, f2⟩) m = ⟨f1, f2⟩ := by rw [spAt_set _ _ _ _ (by rw [HKL1.out]; omega), if_pos rfl]
                        have hB2 : spAt ((K.set p ⟨d1, d2⟩).set m ⟨f1, f2⟩) p = ⟨d1, d2⟩ := by rw [spAt_set _ _ _ _ (by rw [HKL1.out]; omega), if_neg (fun e => HMP.out e.symm), spAt_set _ _ _ _ (by rw [HKL.out]; omega), if_pos rfl]
                        have hC2 : slpC K ⟨(m : Nat), (p : Nat), sl, sh⟩ = (decide ((⟨f1, f2⟩ : Sp) ≠ ⟨al, ah⟩) || decide ((⟨d1, d2⟩ : Sp) ≠ ⟨bl, bh⟩)) := by
                          unfold slpC
                          rw [hK2]
                          dsimp only
                          rw [Int.toNat_natCast, Int.toNat_natCast, HSA.out, HSB.out, hA2, hB2]
                        have HKL2 := Lib.hid (show ((K.set p ⟨d1, d2⟩).set m ⟨f1, f2⟩).length = N by rw [List.length_set, HKL1.out])
                        rw [hK2, hC2] at HSX
                        rw [hK2] at HBX
                        obtain ⟨K2, hk2⟩ : ∃ x, (K.set p ⟨d1, d2⟩).set m ⟨f1, f2⟩ = x := ⟨_, rfl⟩
                        rw [hk2] at HSX HBX HKL2 hA2 hB2 S
                        have HA2 := Lib.hid hA2
                        have HB2 := Lib.hid hB2
                        clear hK2 hA2 hB2 hC2 hk2 HKL1 HSA1
                        cases c
                        · have p0 := cell_regrown (S.out.get 2 0 rfl rfl)
                          have p1 := cell_regrown (S.out.get 2 1 rfl rfl)
                          have p2 := cell_regrown (S.out.get 2 2 rfl rfl)
                          have p3 := cell_regrown (S.out.get 2 3 rfl rfl)
                          have a0 := cell_regrown (S.out.get 0 0 rfl rfl)
                          have a1 := cell_regrown (S.out.get 0 1 rfl rfl)
                          have c0 := cell_regrown (S.out.get 1 0 rfl rfl)
                          have c1 := cell_regrown (S.out.get 1 1 rfl rfl)
                          have hc1 := spCells_get (l := K2) (m := m) (by rw [HKL2.out]; omega)
                          have y1 := own_at2 (S.out.own 3 rfl) hc1.1
                          have z1 := own_at2 (S.out.own 3 rfl) hc1.2
                          rw [HA2.out] at y1 z1
                          dsimp only at y1 z1
                          have y1 := cell_regrown y1
                          have z1 := cell_regrown z1
                          clear hc1
                          have hc2 := spCells_get (l := K2) (m := p) (by rw [HKL2.out]; omega)
                          have y2 := own_at2 (S.out.own 3 rfl) hc2.1
                          have z2 := own_at2 (S.out.own 3 rfl) hc2.2
                          rw [HB2.out] at y2 z2
                          dsimp only at y2 z2
                          have y2 := cell_regrown y2
                          have z2 := cell_regrown z2
                          clear hc2
                          by_cases hfa : (⟨f1, f2⟩ : Sp) = ⟨al, ah⟩
                          · by_cases hdb : (⟨d1, d2⟩ : Sp) = ⟨bl, bh⟩
                            · have HCE := Lib.hid (And.intro hfa hdb)
                              have e1 : ∀ w, (binOp .neq 47 (Sp.val ⟨f1, f2⟩) (Sp.val ⟨al, ah⟩)).run Tryd.prog w = .ok (.bool false) w := fun w => by rw [span_neq]; rw [hfa]; simp
                              have e2 : ∀ w, (binOp .neq 47 (Sp.val ⟨d1, d2⟩) (Sp.val ⟨bl, bh⟩)).run Tryd.prog w = .ok (.bool false) w := fun w => by rw [span_neq]; rw [hdb]; simp
                              clear hfa hdb
                              refine wp_region_quiet_below (by kernel_rfl) (by kernel_rfl) ?_
                              repeat (first | go_big_quiet_step (fail) | quiet_step (fail))
                              refine wpQuiet_nil ?_
                              rintro w9 ⟨p9, hp9⟩
                              have S := Lib.hid (show St w w9 w9.heap.size _ from (by rw [hp9]; exact S.out.call (below_regrown _ _ _)))
                              clear hp9
                              clear p0 p1 p2 p3 a0 a1 c0 c1 y1 z1 y2 z2
                              clear e1 e2
                              go_wp2_with fail
                              go_roundw
                              case rel => exact ⟨k + 1, K2, false, by omega, rfl, by go_num, Lib.hid (by rw [HSX.out]; simp [HCE.out.1, HCE.out.2]), HKL2, Lib.hid (by have := HBX.out; exact this), Lib.hid S.out.fix.tail.tail.tail⟩
                              case measure => first | (simp [intOf]; done) | (simp [intOf]; omega)
                            · have HCE := Lib.hid (And.intro hfa hdb)
                              have e1 : ∀ w, (binOp .neq 47 (Sp.val ⟨f1, f2⟩) (Sp.val ⟨al, ah⟩)).run Tryd.prog w = .ok (.bool false) w := fun w => by rw [span_neq]; rw [hfa]; simp
                              have e2 : ∀ w, (binOp .neq 47 (Sp.val ⟨d1, d2⟩) (Sp.val ⟨bl, bh⟩)).run Tryd.prog w = .ok (.bool true) w := fun w => by rw [span_neq]; rw [beq_eq_false_iff_ne.2 hdb]; rfl
                              clear hfa hdb
                              refine wp_region_quiet_below (by kernel_rfl) (by kernel_rfl) ?_
                              repeat (first | go_big_quiet_step (fail) | quiet_step (fail))
                              refine wpQuiet_nil ?_
                              rintro w9 ⟨p9, hp9⟩
                              have S := Lib.hid (show St w w9 w9.heap.size _ from (by rw [hp9]; exact S.out.call (below_regrown _ _ _)))
                              clear hp9
                              clear p0 p1 p2 p3 a0 a1 c0 c1 y1 z1 y2 z2
                              clear e1 e2
                              go_wp2_with fail
                              go_roundw
                              case rel => exact ⟨k + 1, K2, true, by omega, rfl, by go_num, Lib.hid (by rw [HSX.out]; simp only [HCE.out.1, HCE.out.2, ne_eq, not_false_eq_true, decide_true, Bool.or_true]), HKL2, Lib.hid (by have := HBX.out; exact this), Lib.hid S.out.fix.tail.tail.tail⟩
                              case measure => first | (simp [intOf]; done) | (simp [intOf]; omega)
                          · have HCE := Lib.hid hfa
                            have e1 : ∀ w, (binOp .neq 47 (Sp.val ⟨f1, f2⟩) (Sp.val ⟨al, ah⟩)).run Tryd.prog w = .ok (.bool true) w := fun w => by rw [span_neq]; rw [beq_eq_false_iff_ne.2 hfa]; rfl
                            clear hfa
                            refine wp_region_quiet_below (by kernel_rfl) (by kernel_rfl) ?_
                            repeat (first | go_big_quiet_step (fail) | quiet_step (fail))
                            refine wpQuiet_nil ?_
                            rintro w9 ⟨p9, hp9⟩
                            have S := Lib.hid (show St w w9 w9.heap.size _ from (by rw [hp9]; exact S.out.call (below_regrown _ _ _)))
                            clear hp9
                            clear p0 p1 p2 p3 a0 a1 c0 c1 y1 z1 y2 z2
                            clear e1
                            go_wp2_with fail
                            go_roundw
                            case rel => exact ⟨k + 1, K2, true, by omega, rfl, by go_num, Lib.hid (by rw [HSX.out]; simp only [HCE.out, ne_eq, not_false_eq_true, decide_true, Bool.true_or, Bool.or_true]), HKL2, Lib.hid (by have := HBX.out; exact this), Lib.hid S.out.fix.tail.tail.tail⟩
                            case measure => first | (simp [intOf]; done) | (simp [intOf]; omega)
                        · refine wp_region_quiet_below (by kernel_rfl) (by kernel_rfl) ?_
                          repeat (first | go_big_quiet_step (fail) | quiet_step (fail))
                          refine wpQuiet_nil ?_
                          rintro w9 ⟨p9, hp9⟩
                          have S := Lib.hid (show St w w9 w9.heap.size _ from (by rw [hp9]; exact S.out.call (below_regrown _ _ _)))
                          clear hp9
                          go_wp2_with fail
                          go_roundw
                          case rel => exact ⟨k + 1, K2, true, by omega, rfl, by go_num, Lib.hid (by rw [HSX.out]; rfl), HKL2, Lib.hid (by have := HBX.out; exact this), Lib.hid S.out.fix.tail.tail.tail⟩
                          case measure => first | (simp [intOf]; done) | (simp [intOf]; omega)
                    · have hkn : k = t.slp.length := by omega
                      rw [hkn, List.take_length] at HST
                      have HNX := Lib.hid (HLP.out.next HVL.out HEM.out HST.out)
                      clear hkn
                      go_wp2_with fail
                      go_roundw
                      case rel => exact ⟨K, c, rfl, Lib.hid HNX.out.1, S⟩
                      case measure =>
                        rw [HMS.out]
                        cases c
                        · show 0 < _
                          omega
                        · rw [msr_true (S.out.own 0 rfl) HKL.out]
                          have := HNX.out.2 rfl
                          have := wid_nonneg HEM.out
                          omega

end Go.Proofs.YtldcehhhndlhdaaDoor

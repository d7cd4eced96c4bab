/- Steps in rows; several cells stored into a row of the call's own. -/
import Derived.Test.YtldcehhhndlhdaaDoorC3
import Derived.Test.YtldcehhhndlhdaaDoorC21
import Derived.Deep.MidRow
import Derived.Test.YtldcehhhndlhdaaDoorC13
import Derived.Test.YtldcehhhndlhdaaDoorC10
namespace Go.Proofs.YtldcehhhndlhdaaDoor
open Go.RowKit Go.Sort Go.Shelf

def setsAt : List Value → Nat → List Value → List Value
  | xs, _, [] => xs
  | xs, o, v :: vs => setsAt (xs.set o v) (o + 1) vs
theorem St.puts {w0 : World} {n i e size g m cap : Nat} : ∀ (vs : List Value) (o : Nat) {w : World} {L : List Item} {xs : List Value}, St w0 w n L → L[i]? = some (.own e size (.slice (some ⟨g, 0, none⟩) m cap) m xs) →
    St w0 (w.setCells g o vs) n (L.set i (.own e size (.slice (some ⟨g, 0, none⟩) m cap) m (setsAt xs o vs)))
  | [], o, w, L, xs, h, hi => by
    have eL : L.set i (.own e size (.slice (some ⟨g, 0, none⟩) m cap) m xs) = L := by
      apply List.ext_getElem?
      intro j
      rw [List.getElem?_set]
      split
      · rename_i hj
        subst hj
        rw [hi]
        rw [if_pos (List.getElem?_eq_some_iff.1 hi).1]
      · rfl
    show St w0 w n (L.set i (.own e size (.slice (some ⟨g, 0, none⟩) m cap) m xs))
    rw [eL]
    exact h
  | v :: vs, o, w, L, xs, h, hi => by
    have h1 := h.put i o v hi
    have hl : i < L.length := (List.getElem?_eq_some_iff.1 hi).1
    have h2 := St.puts vs (o + 1) h1 (xs := xs.set o v) (by rw [List.getElem?_set_self hl])
    rw [List.set_set] at h2
    exact h2
theorem grown_setCells {b : Nat} : ∀ (vs : List Value) (o : Nat) (w : World), w.grownBy (w.setCells b o vs) (some b)
  | [], _, w => ⟨rfl, rfl, rfl, Nat.le_refl _, fun _ _ _ => rfl⟩
  | v :: vs, o, w => by
    have h1 := grown_setCell w ⟨b, o, none⟩ v
    have h2 := grown_setCells (b := b) vs (o + 1) (w.setCell ⟨b, o, none⟩ v)
    exact grown_trans' h1 h2
theorem size_setCells {b : Nat} : ∀ (vs : List Value) (o : Nat) (w : World), (w.setCells b o vs).heap.size = w.heap.size
  | [], _, _ => rfl
  | v :: vs, o, w => by
    show ((w.setCell ⟨b, o, none⟩ v).setCells b (o + 1) vs).heap.size = _
    rw [size_setCells vs (o + 1)]
    simp [World.setCell]
theorem setsAt_mid : ∀ (new old pre post : List Value), old.length = new.length → setsAt (pre ++ (old ++ post)) pre.length new = pre ++ (new ++ post)
  | [], old, pre, post, h => by
    have : old = [] := List.eq_nil_of_length_eq_zero (by simpa using h)
    subst this
    rfl
  | v :: new, [], _, _, h => by simp at h
  | v :: new, u :: old, pre, post, h => by
    show setsAt ((pre ++ (u :: old ++ post)).set pre.length v) (pre.length + 1) new = _
    have e : (pre ++ (u :: old ++ post)).set pre.length v = (pre ++ [v]) ++ (old ++ post) := by simp
    rw [e]
    have := setsAt_mid new old (pre ++ [v]) post (by simpa using h)
    rw [List.length_append, List.length_singleton] at this
    rw [this]
    simp
/-! Steps. -/
abbrev arcCells (a : Bk.Arc) : List Value := [I a.fr, I a.to, I a.cost, I a.way, I a.more]
def arcRow (l : List Bk.Arc) : List Value := l.flatMap arcCells
theorem arcRow_len (l : List Bk.Arc) : (arcRow l).length = l.length * 5 := by
  induction l with
  | nil => rfl
  | cons p ps ih => simp [arcRow] at ih ⊢; omega
theorem arcRow_at : ∀ (l : List Bk.Arc) (i : Nat) (h : i < l.length), (arcRow l)[i * 5]? = some (I l[i].fr) ∧ (arcRow l)[i * 5 + 1]? = some (I l[i].to) ∧ (arcRow l)[i * 5 + 2]? = some (I l[i].cost) ∧ (arcRow l)[i * 5 + 3]? = some (I l[i].way) ∧ (arcRow l)[i * 5 + 4]? = some (I l[i].more)
  | [], i, h => absurd h (by simp)
  | s :: ss, 0, _ => ⟨rfl, rfl, rfl, rfl, rfl⟩
  | s :: ss, i + 1, h => by
    have := arcRow_at ss i (by simpa using h)
    have e : arcRow (s :: ss) = I s.fr :: I s.to :: I s.cost :: I s.way :: I s.more :: arcRow ss := rfl
    rw [e, show (i + 1) * 5 = i * 5 + 5 from by omega]
    simpa using this
theorem arcRow_append (k l : List Bk.Arc) : arcRow (k ++ l) = arcRow k ++ arcRow l := by simp [arcRow]
theorem arcRow_set (l : List Bk.Arc) {i : Nat} (h : i < l.length) (a : Bk.Arc) : setsAt (arcRow l) (i * 5) (arcCells a) = arcRow (l.set i a) := by
  have e1 : arcRow l = arcRow (l.take i) ++ (arcCells l[i] ++ arcRow (l.drop (i + 1))) := by
    conv => lhs; rw [← List.take_append_drop i l, List.drop_eq_getElem_cons h, arcRow_append]
    rfl
  have e2 : arcRow (l.set i a) = arcRow (l.take i) ++ (arcCells a ++ arcRow (l.drop (i + 1))) := by
    rw [List.set_eq_take_append_cons_drop, if_pos h, arcRow_append]
    rfl
  have e3 : (arcRow (l.take i)).length = i * 5 := by rw [arcRow_len, List.length_take, Nat.min_eq_left (by omega)]
  rw [e1, e2, ← e3]
  exact setsAt_mid _ _ _ _ rfl
theorem arc_one (a : Bk.Arc) : ∀ v ∈ arcCells a, v.oneCell' = true := by
  intro v hv
  simp at hv
  rcases hv with rfl | rfl | rfl | rfl | rfl <;> rfl
theorem arcRow_one (l : List Bk.Arc) : ∀ v ∈ arcRow l, v.oneCell' = true := by
  intro v hv
  obtain ⟨a, _, ha⟩ := List.mem_flatMap.1 hv
  exact arc_one a v ha
theorem madeA (N : Nat) : (madeCells #[.int .i64 0, .int .i64 0, .int .i64 0, .int .i64 0, .int .i64 0] (N * 5)).toList = arcRow (List.replicate N ⟨0, 0, 0, 0, 0⟩) := by
  apply List.ext_getElem
  · rw [arcRow_len]
    simp [madeCells]
  · intro i h1 h2
    have hi : i < N * 5 := by simpa [madeCells] using h1
    obtain ⟨q, r, hr, rfl⟩ : ∃ q r, r < 5 ∧ i = q * 5 + r := ⟨i / 5, i % 5, by omega, by omega⟩
    have hq : q < (List.replicate N (⟨0, 0, 0, 0, 0⟩ : Bk.Arc)).length := by simp; omega
    obtain ⟨g0, g1, g2, g3, g4⟩ := arcRow_at _ q hq
    have e : (arcRow (List.replicate N (⟨0, 0, 0, 0, 0⟩ : Bk.Arc)))[q * 5 + r]? = some (I 0) := by
      simp only [List.getElem_replicate] at g0 g1 g2 g3 g4
      rcases r with _ | _ | _ | _ | _ | r
      · exact g0
      · exact g1
      · exact g2
      · exact g3
      · exact g4
      · omega
    rw [List.getElem?_eq_getElem h2] at e
    injection e with e
    rw [e]
    have hm : (q * 5 + r) % 5 = r := by omega
    simp [madeCells, hm]
    rcases r with _ | _ | _ | _ | _ | r <;> first | rfl | omega
section
variable {w0 w : World} {n : Nat} {L : List Item}
theorem St.there (h : St w0 w n L) (i : Nat) {e g N cap : Nat} {xs : List Value} {size : Nat} (hi : L[i]? = some (.own e size (.slice (some ⟨g, 0, none⟩) N cap) N xs)) {o k : Nat} (hk : o + k ≤ xs.length) : w.there g o k := by
  intro j hj
  refine ⟨?_, (h.own i hi).frozenAt _⟩
  obtain ⟨hl, A, c, e, _, _, hc⟩ := h.row i hi
  injection e with e1 e2 e3
  subst e1
  have hN : 0 < N := by
    rcases Nat.eq_zero_or_pos N with h0 | h0
    · subst h0; simp at hl; subst hl; simp at hk; omega
    · exact h0
  obtain ⟨b, o', e4, hcell⟩ := hc hN
  injection e4 with e4
  injection e4 with e5 e6
  subst e5
  subst e6
  have := hcell (o + j) _ (List.getElem?_eq_getElem (show o + j < xs.length by omega))
  rw [Nat.zero_add] at this
  rw [this]
  rfl
/-- A cell of a row of steps. -/
theorem St.arc (h : St w0 w n L) (i : Nat) {e g N cap : Nat} {l : List Bk.Arc} (hi : L[i]? = some (.own e 5 (.slice (some ⟨g, 0, none⟩) N cap) N (arcRow l))) {k : Nat} (hk : k < l.length) :
    w.cell? ⟨g, k * 5, none⟩ = some (I l[k].fr) ∧ w.cell? ⟨g, k * 5 + 1, none⟩ = some (I l[k].to) ∧ w.cell? ⟨g, k * 5 + 2, none⟩ = some (I l[k].cost) ∧ w.cell? ⟨g, k * 5 + 3, none⟩ = some (I l[k].way) ∧ w.cell? ⟨g, k * 5 + 4, none⟩ = some (I l[k].more) := by
  obtain ⟨hl, A, c, e, _, _, hc⟩ := h.row i hi
  injection e with e1 e2 e3
  subst e1
  rw [arcRow_len] at hl
  obtain ⟨b, o', e4, hcell⟩ := hc (by omega)
  injection e4 with e4
  injection e4 with e5 e6
  subst e5
  subst e6
  obtain ⟨g0, g1, g2, g3, g4⟩ := arcRow_at l k hk
  have z : ∀ j u, (arcRow l)[j]? = some u → w.cell? ⟨g, j, none⟩ = some u := fun j u hu => by have := hcell j u hu; rwa [Nat.zero_add] at this
  exact ⟨z _ _ g0, z _ _ g1, z _ _ g2, z _ _ g3, z _ _ g4⟩
end
end Go.Proofs.YtldcehhhndlhdaaDoor
/- Walks: left. -/
namespace Go.Proofs.YtldcehhhndlhdaaDoor
open Go.RowKit Go.Sort Go.Shelf

theorem sumR_bd {f : Nat → Int} : ∀ {k : Nat}, (∀ i, i < k → 0 ≤ f i ∧ f i ≤ 9) → 0 ≤ Bk.sumR k f ∧ Bk.sumR k f ≤ 9 * k
  | 0, _ => ⟨Int.le_refl _, Int.le_refl _⟩
  | k + 1, h => by
    have h1 := sumR_bd (k := k) (fun i hi => h i (by omega))
    have h2 := h k (by omega)
    show 0 ≤ Bk.sumR k f + f k ∧ Bk.sumR k f + f k ≤ _
    omega
theorem leftTo_bd {t : BTown} (hv : bVal t = true) (h12 : t.ys.length ≤ 12) {d : Nat → Int} (hd : ∀ i, i < t.ys.length → 0 ≤ d i ∧ d i ≤ 9) {k : Nat} (hk : k ≤ t.ys.length) :
    (∀ h, h < t.hs.length → -108 ≤ (leftTo t d k).1.getD h 0 ∧ (leftTo t d k).1.getD h 0 ≤ 20) ∧ ∀ w, w < t.ws.length → -108 ≤ (leftTo t d k).2.getD w 0 ∧ (leftTo t d k).2.getD w 0 ≤ 20 := by
  obtain ⟨-, -, h3, h4⟩ := leftTo_spec t d k
  obtain ⟨-, -, b1, b2, -⟩ := bVal_spec hv
  have key : ∀ (p : Nat → Prop) [DecidablePred p], 0 ≤ Bk.sumR k (fun i => if p i then d i else 0) ∧ Bk.sumR k (fun i => if p i then d i else 0) ≤ 9 * k := fun p _ => sumR_bd fun i hi => by
    have := hd i (by omega)
    split <;> omega
  refine ⟨fun h hh => ?_, fun w hw => ?_⟩
  · have e1 := b1 _ (List.getElem_mem hh)
    have e2 := key (fun i => t.bt.hh i = h)
    rw [h3 h hh, List.getD_eq_getElem?_getD, List.getElem?_eq_getElem hh, Option.getD_some]
    omega
  · have e1 := b2 _ (List.getElem_mem hw)
    have e2 := key (fun i => t.bt.ww i = w)
    rw [h4 w hw, List.getD_eq_getElem?_getD, List.getElem?_eq_getElem hw, Option.getD_some]
    omega
theorem rowGet {l : List Int} {i : Nat} (h : i < l.length) : l[i]? = some (l.getD i 0) := by
  rw [List.getD_eq_getElem?_getD, List.getElem?_eq_getElem h, Option.getD_some]
theorem leftTo_at {t : BTown} {k a c : Nat} (hk : k < t.ys.length) (e : t.ys[k] = ⟨(a : Int), (c : Int)⟩) (d : Nat → Int) :
    leftTo t d (k + 1) = ((leftTo t d k).1.set a ((leftTo t d k).1.getD a 0 - d k), (leftTo t d k).2.set c ((leftTo t d k).2.getD c 0 - d k)) := by
  have e1 : t.bt.hh k = a := by show (spAt t.ys k).low.toNat = a; rw [spAt_len _ _ hk, e]; simp
  have e2 : t.bt.ww k = c := by show (spAt t.ys k).high.toNat = c; rw [spAt_len _ _ hk, e]; simp
  show ((leftTo t d k).1.set (t.bt.hh k) _, (leftTo t d k).2.set (t.bt.ww k) _) = _
  rw [e1, e2]
/-- A slice of the call's own that has an element. -/
theorem own_some {w : World} {B e size n : Nat} {A : Option Addr} {c : Nat} {xs : List Value} (h : w.ownsRow B e size (.slice A n c) n xs) (hn : 0 < n) : ∃ g, A = some ⟨g, 0, none⟩ := by
  obtain ⟨g, cap, e, -, -⟩ := own_shape_pos h hn
  injection e with e1 e2 e3
  exact ⟨g, e1⟩

set_option maxRecDepth 20000 in
set_option maxHeartbeats 4000000 in
theorem left_any (v dv : Value) (t : BTown) (d : Nat → Int) (w : World) (hv : BAt w v t) (hval : bVal t = true) (h12 : t.ys.length ≤ 12) (hd : ∀ i, i < t.ys.length → 0 ≤ d i ∧ d i ≤ 9) (hdv : Ints w dv (Bk.rowF t.ys.length d)) :
    Calls Tryd.prog 76 #[v, dv] w fun e w' => ∃ v1 v2, e = .returned (.tuple #[v1, v2]) ∧ St w w' w'.heap.size [.own 3 1 v1 t.hs.length ((leftTo t d t.ys.length).1.map I), .own 3 1 v2 t.ws.length ((leftTo t d t.ys.length).2.map I)] := by
  obtain ⟨hv0, wv, yv, rfl, hh, hw, hy⟩ := hv
  obtain ⟨A1, c1, rfl, -, -, -⟩ := id hh.open_
  obtain ⟨A2, c2, rfl, -, -, -⟩ := id hw.open_
  obtain ⟨A3, c3, rfl, -, -, hc3⟩ := id hy.open_
  obtain ⟨A4, c4, rfl, -, -, hc4⟩ := id hdv.open_
  rw [Bk.rowF_len]
  have HH := Lib.hid hh
  have HW := Lib.hid hw
  have HC3 := Lib.hid hc3
  have HC4 := Lib.hid hc4
  have HBD := Lib.hid (fun k (hk : k ≤ t.ys.length) => leftTo_bd hval h12 hd hk)
  have HV := Lib.hid hval
  have HD := Lib.hid hd
  obtain ⟨g1, g2, -, -, -⟩ := bVal_spec hval
  have S := Lib.hid ((St.init w).alloc [.slice A1 t.hs.length c1, .slice A2 t.ws.length c2, .slice A3 t.ys.length c3] 62)
  clear hh hw hy hdv hc3 hc4 hval hd
  go_enter Tryd.func76, Tryd.ntmps76
  go_wp2_with fail
  refine wp_region_seg [([0, 1, 3, 4], 2), ([], 5)] [6, 7] [] 8 (by kernel_rfl) (by kernel_rfl) ?_
  intro KQ hKQ w1 hb
  have S := Lib.hid (S.out.call hb)
  clear hb
  have z0 := cell_regrown (S.out.get 0 0 rfl rfl)
  have z1 := cell_regrown (S.out.get 0 1 rfl rfl)
  refine seg_next ?_
  simp only [opsAt, List.filterMap_cons, List.filterMap_nil, List.getElem?_toArray, List.getElem?_cons_succ, List.getElem?_cons_zero]
  repeat (first | go_big_quiet_step (fail) | quiet_step (fail))
  refine wpQuiet_nil ?_
  intro K hK
  refine loud_op rfl rfl ?_
  go_simp
  refine (cloneI_any _ t.hs _ (HH.out.below S.out.bel) (by omega)).mono ?_
  rintro e w2 ⟨v1, rfl, hown, hb⟩
  have S := Lib.hid (S.out.take hb hown)
  obtain ⟨B1, k1, rfl⟩ := own_shape hown
  refine hK _ _ hb ?_
  clear hK K hb hown z0 z1
  refine seg_next ?_
  simp only [opsAt, List.filterMap_nil]
  refine wpQuiet_nil ?_
  intro K hK
  refine loud_op rfl rfl ?_
  go_simp
  refine (cloneI_any _ t.ws _ (HW.out.below S.out.bel) (by omega)).mono ?_
  rintro e w3 ⟨v2, rfl, hown, hb⟩
  have S := Lib.hid (S.out.take hb hown)
  obtain ⟨B2, k2, rfl⟩ := own_shape hown
  refine hK _ _ hb ?_
  clear hK K hb hown
  refine seg_last ?_
  simp only [opsAt, List.filterMap_cons, List.filterMap_nil, List.getElem?_toArray, List.getElem?_cons_succ, List.getElem?_cons_zero]
  repeat (first | go_big_quiet_step (fail) | quiet_step (fail))
  refine wpQuiet_nil ?_
  go_simp
  refine hKQ _ _ ?_
  clear hKQ KQ
  have S := Lib.hid (show St w w3 w3.heap.size [.own 3 1 (.slice B2 t.ws.length k2) t.ws.length ((leftTo t d 0).2.map I), .own 3 1 (.slice B1 t.hs.length k1) t.hs.length ((leftTo t d 0).1.map I), .box w.heap.size [.slice A1 t.hs.length c1, .slice A2 t.ws.length c2, .slice A3 t.ys.length c3]] from S.out)
  go_wp2_with fail
  go_loopw [16] (fun i wr => ∃ k : Nat, k ≤ t.ys.length ∧ i = I k ∧ Hid (St w wr wr.heap.size [.own 3 1 (.slice B2 t.ws.length k2) t.ws.length ((leftTo t d k).2.map I), .own 3 1 (.slice B1 t.hs.length k1) t.hs.length ((leftTo t d k).1.map I), .box w.heap.size [.slice A1 t.hs.length c1, .slice A2 t.ws.length c2, .slice A3 t.ys.length c3]])) (fun i _ => t.ys.length - (intOf i).toNat)
  case atStart => exact ⟨0, by omega, rfl, S⟩
  case round =>
    clear S
    obtain ⟨k, hk, rfl, S⟩ := hrel
    by_cases hlt : k < t.ys.length
    · have hki : (k : Int) < (t.ys.length : Int) := by omega
      obtain ⟨a, c, hac, ha, hc⟩ := okY_nat HV.out hlt
      have HS := Lib.hid (leftTo_at hlt hac d)
      have hsp := leftTo_spec t d k
      obtain ⟨q1, q2, -, -⟩ := hsp
      obtain ⟨r1, r2⟩ := HBD.out k hk
      have r1 := r1 a ha
      have r2 := r2 c hc
      obtain ⟨b3, o3, hA3, -, hcell3⟩ := HC3.out (by omega)
      subst hA3
      obtain ⟨b4, o4, hA4, -, hcell4⟩ := HC4.out (by rw [Bk.rowF_len]; omega)
      subst hA4
      obtain ⟨x0, x1⟩ := hcell3 k hlt
      rw [hac] at x0 x1
      have x0 := keep_cell S.out.bel x0
      have X1 := Lib.hid x1
      clear x1
      have x2 := keep_cell S.out.bel (hcell4 k (by rw [Bk.rowF_len]; exact hlt))
      rw [show (Bk.rowF t.ys.length d)[k]'(by rw [Bk.rowF_len]; exact hlt) = d k by simp [Bk.rowF]] at x2
      have hdk := HD.out k hlt
      obtain ⟨g, hg1⟩ := own_some (S.out.own 1 rfl) (by omega)
      subst hg1
      obtain ⟨g', hg2⟩ := own_some (S.out.own 0 rfl) (by omega)
      subst hg2
      have y1 := own_cell (S.out.own 1 rfl) a _ (rowGet (by omega))
      have z1 := (S.out.own 1 rfl).frozenAt a
      obtain ⟨la, hla⟩ : ∃ x, (leftTo t d k).1.getD a 0 = x := ⟨_, rfl⟩
      obtain ⟨lc, hlc⟩ : ∃ x, (leftTo t d k).2.getD c 0 = x := ⟨_, rfl⟩
      rw [hla] at y1 HS r1
      rw [hlc] at HS r2
      obtain ⟨dk, hdk'⟩ : ∃ x, d k = x := ⟨_, rfl⟩
      rw [hdk'] at x2 HS hdk
      have p0 := S.out.get 2 2 rfl rfl
      have hne : g ≠ g' := fun e => S.out.apart' 1 0 rfl rfl (by decide) (b := g') rfl (by rw [← e]; rfl)
      have S2 := Lib.hid (S.out.put 1 a (I (la - dk)) rfl)
      dsimp only [List.set_cons_zero, List.set_cons_succ] at S2
      have x1 := keep_cell S2.out.bel X1.out
      have p1 := S2.out.get 2 2 rfl rfl
      have y2 := own_cell (S2.out.own 0 rfl) c _ (rowGet (show c < (leftTo t d k).2.length by omega))
      rw [hlc] at y2
      have z2 := (S2.out.own 0 rfl).frozenAt c
      have S3 := Lib.hid (S2.out.put 0 c (I (lc - dk)) rfl)
      dsimp only [List.set_cons_zero, List.set_cons_succ] at S3
      rw [← List.map_set, ← List.map_set] at S3
      have S3 := Lib.hid (show St w ((wr.setCell ⟨g, a, none⟩ (I (la - dk))).setCell ⟨g', c, none⟩ (I (lc - dk))) wr.heap.size [.own 3 1 (.slice (some ⟨g', 0, none⟩) t.ws.length k2) t.ws.length ((leftTo t d (k + 1)).2.map I), .own 3 1 (.slice (some ⟨g, 0, none⟩) t.hs.length k1) t.hs.length ((leftTo t d (k + 1)).1.map I), .box w.heap.size [.slice A1 t.hs.length c1, .slice A2 t.ws.length c2, .slice (some ⟨b3, o3, none⟩) t.ys.length c3]] by rw [HS.out]; exact S3.out)
      have hai : (a : Int) < (t.hs.length : Int) := by omega
      have hci : (c : Int) < (t.ws.length : Int) := by omega
      clear S S2 HS hcell3 hcell4 hla hlc hac hdk' q1 q2
      go_wp2_with fail
      go_roundw
      case rel => exact ⟨k + 1, by omega, by go_num, Lib.hid S3.out.fix⟩
      case measure => first | (simp [intOf]; done) | (simp [intOf]; omega)
    · obtain rfl : k = t.ys.length := by omega
      go_wp2_with fail
      refine bodyPost_ret (v := .tuple #[.slice B1 t.hs.length k1, .slice B2 t.ws.length k2]) (by simp [results, go_sem]) rfl ?_
      exact ⟨_, _, rfl, (S.out.less (List.Sublist.cons_cons _ (List.Sublist.cons_cons _ (List.nil_sublist _)))).perm (List.Perm.swap _ _ _)⟩

end Go.Proofs.YtldcehhhndlhdaaDoor
/- As Range, for a function value that is bound to a receiver: a method value. No function here; no conditions. -/
namespace Go.Proofs.YtldcehhhndlhdaaDoor
open Go.RowKit

/-- What is said holds on, whatever turns at that number or above it. -/
def UpFrom {β : Type} (B : Nat) (I : β → World → Prop) : Prop :=
  ∀ s W W' row, I s W → W.grownBy W' row → (∀ r, row = some r → B ≤ r) → I s W'
theorem UpFrom.own {β : Type} {B : Nat} {I : β → World → Prop} (h : UpFrom B I) : OwnFrom B I := fun s W W' row hs hg hr => h s W W' row hs hg fun r e => (hr r e).1
/-- What an iterator keeps, told of each round what it yields; it may write what it has made itself. -/
def SeqRP {α : Type} (F : Fence) (n : Nat) (P : Program) (g : Nat) (pb lb : Array Value) (encs : α → Array Value) (Kp : World → World → Prop) (S Sp : List α → Prop) (C : (List α → World → Prop) → Prop) (R : List α → α → World → Prop) (w : World) : Prop :=
  ∀ (l : Nat) (J Jx : List α → World → Prop) (W : World), Below w.heap.size w W → UpFrom W.heap.size J → UpFrom W.heap.size Jx → C J →
    (∀ pre x W1, J pre W1 → R pre x W1 → YieldAt F (n - 1) P l (encs x) W1 fun e W' =>
      (e = .returned (.bool true) ∧ J (pre ++ [x]) W' ∧ Kp W1 W') ∨ (e = .returned (.bool false) ∧ Jx (pre ++ [x]) W')) →
    J [] W →
    CallsIn F n P g (pb ++ #[.func (.yield l) #[] #[]] ++ lb) W fun e W' => (∃ v, e = .returned v) ∧ ((∃ xs, S xs ∧ J xs W') ∨ (∃ pre, Sp pre ∧ Jx pre W'))

variable {F : Fence} {n : Nat} {P : Program}
theorem wpIn_rangeFunc_RP {α : Type} {g : Operand} {ps : Array Tmp} {assign body : Code} {Q : Exit → Act → World → Prop} {a : Act} {w : World}
    (hro : F.round = none) (h1 : 1 ≤ n) {gf : Nat} {pb lb : Array Value} (hg : a.eval g = .func (.func gf) pb lb) (hFg : F.fn gf) (eg : ∀ args w, (callFunc gf args).run P w = .ok (.enter gf args) w)
    {encs : α → Array Value} {Kp : World → World → Prop} {S Sp : List α → Prop} {C : (List α → World → Prop) → Prop} {R : List α → α → World → Prop} {w0 : World} (hseq : SeqRP F (n - 1) P gf pb lb encs Kp S Sp C R w0)
    (hKt : ∀ {A B C : World}, Kp A B → Kp B C → Kp A C) (hKb : ∀ (W : World) (l : Nat) (o o' : Obj), w.heap.size ≤ l → W.heap[l]? = some o → o.isCells = false → o.isWalk = false → Kp W (W.putObj l o')) (hb0 : Below w0.heap.size w0 w) (hps : ∀ x, (encs x).size = ps.size)
    (I : List α → World → Prop) (Ix : Code → List α → World → Prop) (hI' : UpFrom w.heap.size I) (hIx' : ∀ c, UpFrom w.heap.size (Ix c)) (hC : ∀ J : List α → World → Prop, (∀ pre W, J pre W → I pre W) → C J) (h0 : I [] w) (Ax : List α → α → Act → World → Prop) (hAx : ∀ pre x a', OwnFrom w.heap.size (fun (_ : Unit) W => Ax pre x a' W))
    (hassign : ∀ (l : Nat) (pre : List α) (x : α) (W : World) (K : Act → World → Prop), I pre W → R pre x W → (∀ a' W', KeepsFrom w.heap.size W W' → Kp W W' → I pre W' → Ax pre x a' W' → K a' W') →
      assign.wpIn (F.inRound l) (n - 1 - 1) P (Exit.then K (fun _ _ _ => False)) { tmps := (ps.zip (encs x)).foldl (fun t (p, v) => t.setIfInBounds p v) a.tmps, defers := [] } W)
    (hbody : ∀ (l : Nat) (pre : List α) (x : α) (a' : Act) (W : World), w.heap.size ≤ l → (∃ r, W.heap[l]? = some (.loop r)) → I pre W → Ax pre x a' W → body.wpIn (F.inRound l) (n - 1 - 1) P (ownPostG w.heap.size Kp I Ix (pre ++ [x]) W) a' W)
    (hdone : ∀ (D : Nat) (xs : List α) (W : World), w.heap.size ≤ D → S xs → I xs W → W.heap[D]? = some (.deferred (some [])) → Q .normal { a with defers := { target := .collected D, args := #[] } :: a.defers } W)
    (hstop : ∀ (D : Nat) (c : Code) (pre : List α) (W : World), w.heap.size ≤ D → Sp pre → Ix c pre W → W.heap[D]? = some (.deferred (some [])) → c.wpIn F n P Q { a with defers := { target := .collected D, args := #[] } :: a.defers } W) :
    (Code.rangeFunc g ps assign body).wpIn F n P Q a w := by
  have hI := hI'.own
  have hIx := fun c => (hIx' c).own
  refine wpIn_rangeFunc fun fn hfn => ?_
  rw [hro]
  obtain ⟨D, hD⟩ : ∃ D, w.heap.size = D := ⟨_, rfl⟩
  obtain ⟨rec, hrec⟩ : ∃ rec : LoopState → Option Code → Go.Loop, rec = fun st pe => { state := st, pending := pe, fn, tmps := a.tmps, params := ps, assign, body, defers := D } := ⟨_, rfl⟩
  obtain ⟨W1, hW1⟩ : ∃ W1, (w.alloc (.deferred (some []))).alloc (.loop (rec .ready none)) = W1 := ⟨_, rfl⟩
  have hsz1 : W1.heap.size = D + 2 := by rw [← hW1, ← hD]; simp
  have hL1 : W1.heap[D + 1]? = some (.loop (rec .ready none)) := by
    have := World.alloc_heap_new (w.alloc (.deferred (some []))) (.loop (rec .ready none))
    rwa [World.size_alloc, hW1, hD] at this
  have hK1 : W1.heap[D]? = some (.deferred (some [])) := by
    rw [← hW1, ← hD]
    exact (Below.heap_alloc _ _ _ (by simp)).trans (World.alloc_heap_new w _)
  have hI1 : I [] W1 := by rw [← hW1]; exact hI.alloc _ (hI.alloc _ h0)
  have hb1 : Below w0.heap.size w0 W1 := by
    rw [← hW1]
    exact hb0.trans ((((Below.refl _ w).alloc (Nat.le_refl _) _).alloc (by simp) _).mono hb0.size)
  rw [hD] at hI hIx hI' hIx' hAx hbody hassign hKb hdone hstop
  refine ⟨D + 1, [{ target := .collected D, args := #[] }], W1, { target := .fn (.func gf) lb, args := pb ++ #[.func (.yield (D + 1)) #[] #[]] }, W1, gf,
    pb ++ #[.func (.yield (D + 1)) #[] #[]] ++ lb, W1, ?_, ?_, ?_, ?_, fun _ => h1, ?_⟩
  · rw [← hW1, hrec, ← hD]; exact run_enterLoop_outer _ _ _ _ _
  · simp only [resolve, hg]
    simp [go_sem]
  · intro f' hf'; simp [Target.leads] at hf'; subst hf'; exact hFg
  · simp [invoke, go_sem, eg]
  · have hst : ∀ {A B : World} {row : Option Nat} {b : Nat} {o : Obj}, A.grownBy B row → (∀ r, row = some r → W1.heap.size ≤ r) → b < W1.heap.size → A.heap[b]? = some o → B.heap[b]? = some o :=
      fun hg hr hb ho => (hg.block _ (Array.getElem?_eq_some_iff.1 ho).1 (fun e => by have := hr _ e.symm; omega)).trans ho
    refine (hseq (D + 1)
      (fun pre W => I pre W ∧ W.heap[D + 1]? = some (.loop (rec .ready none)) ∧ W.heap[D]? = some (.deferred (some [])))
      (fun pre W => ∃ c, Ix c pre W ∧ W.heap[D + 1]? = some (.loop (rec .done (some c))) ∧ W.heap[D]? = some (.deferred (some [])))
      W1 hb1
      (fun s A B row hs hg' hr => ⟨hI' s A B row hs.1 hg' (fun r e => by have := hr r e; omega), hst hg' hr (by omega) hs.2.1, hst hg' hr (by omega) hs.2.2⟩)
      (fun s A B row hs hg' hr => by
        obtain ⟨c, hc, hl, hk⟩ := hs
        exact ⟨c, hIx' c s A B row hc hg' (fun r e => by have := hr r e; omega), hst hg' hr (by omega) hl, hst hg' hr (by omega) hk⟩)
      (hC _ fun _ _ h => h.1) ?_ ⟨hI1, hL1, hK1⟩).mono ?_
    · rintro pre x W ⟨hi, hl, hk⟩ hR
      have hy := run_yield (P := P) (args := encs x) hl (by rw [hrec]; exact hps x)
      rw [hrec] at hy
      refine ⟨fn, _, assign, body, hy, roundIn_of_wpIn hfn (hassign _ pre x W _ hi hR ?_)⟩
      clear hy hR
      intro a' V hkf hkp hi' hax
      have hl' := hkf.same _ _ (by omega) hl rfl
      have hk' := hkf.same _ _ (Nat.le_refl _) hk rfl
      refine ⟨_, run_beginRound hl' (by rw [hrec]), ?_⟩
      have hlt : D + 1 < V.heap.size := (Array.getElem?_eq_some_iff.1 hl').1
      obtain ⟨V2, hV2⟩ : ∃ V2, V.putObj (D + 1) (.loop { rec .ready none with state := .busy }) = V2 := ⟨_, rfl⟩
      have hl2 : V2.heap[D + 1]? = some (.loop { rec .ready none with state := .busy }) := by rw [← hV2]; exact World.putObj_heap_same hlt
      have hk2 : V2.heap[D]? = some (.deferred (some [])) := by rw [← hV2]; exact (World.putObj_heap_other (by omega)).trans hk'
      have hw2 : Kp V V2 := by rw [← hV2]; exact hKb _ _ _ _ (by omega) hl' rfl rfl
      have hi2 : I pre V2 := by rw [← hV2]; exact hI.putObj _ hi' (by omega) hl' rfl
      have hax2 : Ax pre x a' V2 := by rw [← hV2]; exact (hAx pre x a').putObj (s := ()) _ hax (by omega) hl' rfl
      rw [hV2]
      refine wpIn_mono (hbody _ pre x a' _ (by omega) ⟨_, hl2⟩ hi2 hax2) ?_
      have fin : ∀ (jump : Option Code) (U : World), KeepsFrom D V2 U → ∃ U', (Instr.endRound (D + 1) jump).run P U = .ok (.bool jump.isNone) U' ∧
          (∀ (T : List α → World → Prop), OwnFrom D T → ∀ ys, T ys U → T ys U') ∧ Kp U U' ∧ U'.heap[D + 1]? = some (.loop (rec (if jump.isNone then .ready else .done) jump)) ∧ U'.heap[D]? = some (.deferred (some [])) := fun jump U hk3 => by
        have hl3 := hk3.same _ _ (by omega) hl2 rfl
        have hrun := run_endRound (P := P) jump hl3
        rw [hrec] at hrun
        refine ⟨_, hrun, fun T hT ys ht => hT.putObj _ ht (by omega) hl3 rfl, hKb _ _ _ _ (by omega) hl3 rfl rfl, ?_, ?_⟩
        · rw [hrec]; exact World.putObj_heap_same (Array.getElem?_eq_some_iff.1 hl3).1
        · exact (World.putObj_heap_other (by omega)).trans (hk3.same _ _ (Nat.le_refl _) hk2 rfl)
      rintro e a3 U hp
      cases e with
      | normal =>
        obtain ⟨hk3, hkp3, hi3⟩ := hp
        obtain ⟨U', hr, hT, hkp4, hl4, hk4⟩ := fin none U hk3
        exact ⟨_, U', hr, .inl ⟨rfl, ⟨hT _ hI _ hi3, hl4, hk4⟩, hKt hkp (hKt (hKt hw2 hkp3) hkp4)⟩⟩
      | ret =>
        obtain ⟨hk3, hi3⟩ := hp
        obtain ⟨U', hr, hT, _, hl4, hk4⟩ := fin (some .ret) U hk3
        exact ⟨_, U', hr, .inr ⟨rfl, .ret, hT _ (hIx _) _ hi3, hl4, hk4⟩⟩
      | exit id =>
        obtain ⟨hk3, hi3⟩ := hp
        obtain ⟨U', hr, hT, _, hl4, hk4⟩ := fin (some (.exit id)) U hk3
        exact ⟨_, U', hr, .inr ⟨rfl, .exit id, hT _ (hIx _) _ hi3, hl4, hk4⟩⟩
      | goto t =>
        obtain ⟨hk3, hi3⟩ := hp
        obtain ⟨U', hr, hT, _, hl4, hk4⟩ := fin (some (.goto t)) U hk3
        exact ⟨_, U', hr, .inr ⟨rfl, .goto t, hT _ (hIx _) _ hi3, hl4, hk4⟩⟩
      | panic ch => exact hp.elim
      | outgrown => exact hp.elim
    · rintro e U ⟨⟨v, rfl⟩, (⟨xs, hS, hi, hl, hk⟩ | ⟨pre, hSp, c, hi, hl, hk⟩)⟩
      · have hend := run_endLoop (P := P) hl (by rw [hrec]; simp)
        rw [hrec] at hend
        exact ⟨none, _, hend, hdone _ xs _ (Nat.le_refl _) hS (hI.putObj _ hi (by omega) hl rfl) ((World.putObj_heap_other (by omega)).trans hk)⟩
      · have hend := run_endLoop (P := P) hl (by rw [hrec]; simp)
        rw [hrec] at hend
        exact ⟨some c, _, hend, hstop _ c pre _ (Nat.le_refl _) hSp ((hIx c).putObj _ hi (by omega) hl rfl) ((World.putObj_heap_other (by omega)).trans hk)⟩

/-- Below a number nothing has turned; of the cells beside these blocks neither. -/
structure KpX (B : Nat) (Ks : List Nat) (W W' : World) : Prop where
  bel : Below B W W'
  same : ∀ k o, k ∉ Ks → W.heap[k]? = some o → o.isCells = true → W'.heap[k]? = some o
theorem KpX.refl (B : Nat) (Ks : List Nat) (W : World) : KpX B Ks W W := ⟨Below.refl _ _, fun _ _ _ h _ => h⟩
theorem KpX.trans {B : Nat} {Ks : List Nat} {X Y Z : World} (h : KpX B Ks X Y) (k : KpX B Ks Y Z) : KpX B Ks X Z := ⟨h.bel.trans k.bel, fun i o hi ho hc => k.same i o hi (h.same i o hi ho hc) hc⟩
theorem KpX.putObj {B n : Nat} {Ks : List Nat} (hB : B ≤ n) (W : World) (l : Nat) : ∀ (o o' : Obj), n ≤ l → W.heap[l]? = some o → o.isCells = false → o.isWalk = false → KpX B Ks W (W.putObj l o') := fun o o' hl ho hc _ => by
  have hg := grownBy_putObj' W l o'
  refine ⟨⟨hg.os, hg.tape, hg.output, hg.size, fun k hk => hg.block k (by have := (Array.getElem?_eq_some_iff.1 ho).1; omega) (fun e => by injection e with e; omega)⟩, fun k o2 _ hk hc2 => ?_⟩
  by_cases e : k = l
  · subst e
    rw [ho] at hk
    injection hk with hk
    rw [hk, hc2] at hc
    cases hc
  · exact (World.putObj_heap_other e).trans hk
theorem KpX.below {B : Nat} {Ks : List Nat} {W W' : World} (h : Below W.heap.size W W') (hB : B ≤ W.heap.size) : KpX B Ks W W' :=
  ⟨h.mono hB, fun k _ _ hk _ => (h.block k (Array.getElem?_eq_some_iff.1 hk).1).trans hk⟩
theorem KpX.grown {B : Nat} {Ks : List Nat} {W W' : World} {row : Option Nat} (h : W.grownBy W' row) (hB : B ≤ W.heap.size) (hr : ∀ k, row = some k → B ≤ k ∧ k ∈ Ks) : KpX B Ks W W' :=
  ⟨⟨h.os, h.tape, h.output, h.size, fun k hk => h.block k (by omega) (fun e => by have := (hr k e.symm).1; omega)⟩, fun k _ hk ho _ => (h.block k (Array.getElem?_eq_some_iff.1 ho).1 (fun e => hk (hr k e.symm).2)).trans ho⟩
/-- What a call owns, behind something that keeps its things. -/
theorem St.kpX {w0 w w' : World} {n : Nat} {L : List Item} {Ks : List Nat} (h : St w0 w n L) (hk : KpX w0.heap.size Ks w w') (hL : ∀ x ∈ L, x.cel) (hn : ∀ x ∈ L, ∀ b, x.blk = some b → b ∉ Ks) : St w0 w' w'.heap.size L := by
  refine ⟨rfl, h.bel.trans hk.bel, fun x hx => ?_, h.apart⟩
  have hok := h.ok x hx
  refine hok.same fun b hb => ?_
  obtain ⟨o, ho⟩ : ∃ o, w.heap[b]? = some o := ⟨_, Array.getElem?_eq_getElem (hok.lt hb).2⟩
  rw [ho]
  exact hk.same b o (hn x hx b hb) ho (hok.cells (hL x hx) hb ho)
/-- Such a thing may be said where all its blocks lie below. -/
theorem St.up {w0 w w' : World} {n B : Nat} {L : List Item} (h : St w0 w n L) {row : Option Nat} (hg : w.grownBy w' row) (hr : ∀ r, row = some r → B ≤ r) (hB : w0.heap.size ≤ B) (hL : ∀ x ∈ L, ∀ b, x.blk = some b → b < B) : St w0 w' w'.heap.size L := by
  refine ⟨rfl, h.bel.trans ⟨hg.os, hg.tape, hg.output, hg.size, fun k hk => hg.block k (by have := h.bel.size; omega) (fun e => by have := hr k e.symm; omega)⟩, fun x hx => ?_, h.apart⟩
  have hok := h.ok x hx
  exact hok.same fun b hb => hg.block b (hok.lt hb).2 (fun e => by have := hr b e.symm; have := hL x hx b hb; omega)
end Go.Proofs.YtldcehhhndlhdaaDoor

/- Walk of gauges. -/
import Derived.Test.YtldcehhhndlhdaaC6
import Derived.Test.YtldcehhhndlhdaaC7
import Derived.OwnWalk
import Derived.Shelf.Abstract
namespace Go.Proofs.Ytldcehhhndlhdaa
open Go.RowKit Go.Sort Go.Shelf
attribute [local go_sem] Oper.semAt_some

theorem St.made {w0 w w' : World} {n : Nat} {L : List Item} (h : St w0 w n L) (hg : w.grownBy w' none) {e size m cap : Nat} {xs : List Value} (ho : w'.ownsRow w0.heap.size e size (.slice (some ⟨w.heap.size, 0, none⟩) m cap) m xs) : St w0 w' w'.heap.size (.own e size (.slice (some ⟨n, 0, none⟩) m cap) m xs :: L) := by
  have hb : Below w.heap.size w w' := ⟨hg.os, hg.tape, hg.output, hg.size, fun k hk => hg.block k hk (by simp)⟩
  have h2 := h.call hb
  rw [h.size] at ho
  refine ⟨rfl, h2.bel, fun x hx => ?_, ?_⟩
  · rcases List.mem_cons.1 hx with hx | hx
    · rw [hx]; exact ho
    · exact h2.ok x hx
  · have e0 : (Item.own e size (.slice (some ⟨n, 0, none⟩) m cap) m xs).blk = some n := rfl
    rw [List.filterMap_cons, e0]
    refine List.nodup_cons.2 ⟨fun hm => ?_, h.apart⟩
    have h4 := (h.lt_of hm).2
    omega
/-- What each quarter has, behind so many gauges. -/
def outM (b : MBox) (k : Nat) : List Int := (hasM b 5 k).take b.sh.length
theorem outM_zero {b : MBox} (h : b.sh.length ≤ 5) : outM b 0 = List.replicate b.sh.length 0 := by
  unfold outM hasM
  rw [List.take_replicate]
  congr 1
  omega
theorem madeI (N : Nat) : (madeCells (Value.cells (.int .i64 0)) (N * 1)).toList = (List.replicate N (0 : Int)).map I := by
  rw [List.map_replicate]
  apply List.ext_getElem
  · simp [madeCells]
  · intro i h1 h2
    simp [madeCells, Value.cells, Nat.mod_one]
theorem outM_len {b : MBox} (h : b.sh.length ≤ 5) (k : Nat) : (outM b k).length = b.sh.length := by
  unfold outM
  rw [List.length_take, hasM_len]
  omega
theorem outM_none {b : MBox} {k : Nat} (h : nextM b (hasM b 5 k) < 0) : outM b (k + 1) = outM b k := by
  unfold outM
  show (stepM b (hasM b 5 k)).take _ = _
  unfold stepM
  rw [if_neg (by omega)]
theorem outM_at {b : MBox} (h : b.sh.length ≤ 5) {k q : Nat} (hq : q < b.sh.length) : (outM b k)[q]? = some (mAt (hasM b 5 k) (q : Int)) := by
  unfold outM
  rw [List.getElem?_take, if_pos hq, List.getElem?_eq_getElem (by rw [hasM_len]; omega)]
  simp [mAt, List.getElem?_eq_getElem (show q < (hasM b 5 k).length by rw [hasM_len]; omega)]
theorem outM_some {b : MBox} {k q : Nat} (h : nextM b (hasM b 5 k) = (q : Int)) : outM b (k + 1) = (outM b k).set q (mAt (hasM b 5 k) (q : Int) + 1) := by
  unfold outM
  show (stepM b (hasM b 5 k)).take _ = _
  unfold stepM
  rw [if_pos (by omega), h, Int.toNat_natCast, List.take_set]
theorem outM_all {b : MBox} (hok : MOk b) (k : Nat) : ∀ x ∈ outM b k, 0 ≤ x ∧ x ≤ 20 := fun x hx => hasM_all hok k x (List.mem_of_mem_take hx)

set_option maxRecDepth 100000 in
set_option maxHeartbeats 4000000 in
theorem gauges_any (v : Value) (b : MBox) (flow : Nat) (w : World) (hv : MBoxAt w v b) (hok : MOk b) (hf : flow ≤ 40) :
    Calls Try.prog 38 #[v, I (flow : Nat)] w fun e w' => ∃ v', e = .returned v' ∧ w'.ownsRow w.heap.size 3 1 v' b.sh.length ((outM b flow).map I) ∧ Below w.heap.size w w' := by
  obtain ⟨sv, mv, rfl, hs, hm⟩ := hv
  obtain ⟨A1, c1, rfl, hs1, hs2, -⟩ := id hs.open_
  obtain ⟨A2, c2, rfl, hm1, hm2, -⟩ := id hm.open_
  have S := Lib.hid (((St.init w).alloc [.slice A1 b.sh.length c1, .slice A2 b.mo.length c2] 27).alloc [I (flow : Nat)] 3)
  have HS := Lib.hid hs
  have HM := Lib.hid hm
  have HOK := Lib.hid hok
  have h5 := hok.sl
  have q0 := S.out.get 1 0 rfl rfl
  have q1 := S.out.get 1 1 rfl rfl
  clear hs hm hok hs1 hs2 hm1 hm2
  refine calls_of_marks Try.func38 rfl ?_
  simp only [Try.ntmps38, List.size_toArray, List.length_cons, List.length_nil, Nat.reduceAdd, Nat.reduceSub, Array.replicate_succ, Array.replicate_zero, List.push_toArray, List.append_toArray, List.nil_append, List.cons_append]
  obtain ⟨i0, hi, hz0, hz1, hz2⟩ := info_parts (P := Try.prog) (e := 3) (z := .int .i64 0) (size := 1) (bytes := 8) (by kernel_rfl)
  have hb1 : i0.bytes * b.sh.length ≤ 281474976710656 := by rw [hz2]; omega
  have hb2 : b.sh.length ≤ maxLen := by simp only [maxLen]; omega
  have hb3 := S.out.bel.size
  obtain ⟨N, hN⟩ : ∃ N, b.sh.length = N := ⟨_, rfl⟩
  have HN := Lib.hid hN
  rw [hN] at hb1 hb2 hb3 q0 S HS h5
  rw [hN]
  clear hN
  go_wp2_with (refine wpList_make_full _ rfl (.tmp 10) (.tmp 10) 23 rfl w.heap.size 3 i0 (.int .i64 0) 1 Try.underlying23 hi hz0 hz1 .i64 .i64 _ _ N rfl rfl rfl rfl hb1 hb2 hb3 ?_; intro w1 hown hgr; have S := Lib.hid (S.out.made hgr hown); rw [madeI] at S; have S2 := Lib.hid (S.out.alloc [.slice (some ⟨w.heap.size + 1 + 1, 0, none⟩) N N] 23); clear hown hgr hb1 hb2 hb3 q0 q1; have q0 := S2.out.get 3 0 rfl rfl; have q1 := S2.out.get 3 1 rfl rfl)
  have hNN := HN.out
  subst hNN
  rw [← outM_zero h5] at S2
  obtain ⟨m, hm⟩ : ∃ m, w1.heap.size = m := ⟨_, rfl⟩
  rw [hm] at S2
  rw [hm]
  obtain ⟨WB, hWB⟩ : ∃ WB, w1.alloc (.cells #[.slice (some ⟨w.heap.size + 1 + 1, 0, none⟩) b.sh.length b.sh.length] 23) = WB := ⟨_, rfl⟩
  have S2 := Lib.hid (show St w WB (m + 1) [.box m [.slice (some ⟨w.heap.size + 1 + 1, 0, none⟩) b.sh.length b.sh.length], .own 3 1 (.slice (some ⟨w.heap.size + 1 + 1, 0, none⟩) b.sh.length b.sh.length) b.sh.length ((outM b 0).map I), .box (w.heap.size + 1) [I (flow : Nat)], .box w.heap.size [.slice A1 b.sh.length c1, .slice A2 b.mo.length c2]] by rw [← hWB]; exact S2.out)
  rw [hWB]
  have hWs := S2.out.size
  have hbW := S2.out.bel
  have hrb : w.heap.size + 1 + 1 < WB.heap.size := ((S2.out.own 1 rfl).lt _ rfl).2
  clear hWB q0 q1 S hm
  have S := Lib.hid S2.out.fix
  clear S2
  refine (wpIn_wide (n := 5)).1 ?_
  refine wpIn_rangeFunc_RP (F := Fence.wide) rfl (by omega) (gf := 58) (pb := #[gateV A1 A2 c1 c2 b]) (lb := #[]) rfl trivial (enters_of Try.func58 (by kernel_rfl) rfl)
    (turns_seq WB flow w.heap.size [w.heap.size + 1 + 1] A1 A2 c1 c2 b HOK.out hf w rfl hbW (by intro k hk; simp at hk; omega) HS.out HM.out) (fun h k => h.trans k) (KpX.putObj (by omega)) (Below.refl _ _) (fun _ => rfl)
    (fun pre W => (Hid (pre = List.range pre.length) ∧ pre.length ≤ flow) ∧ St w W W.heap.size [.box m [.slice (some ⟨w.heap.size + 1 + 1, 0, none⟩) b.sh.length b.sh.length], .own 3 1 (.slice (some ⟨w.heap.size + 1 + 1, 0, none⟩) b.sh.length b.sh.length) b.sh.length ((outM b pre.length).map I), .box (w.heap.size + 1) [I (flow : Nat)], .box w.heap.size [.slice A1 b.sh.length c1, .slice A2 b.mo.length c2]])
    (fun c pre W => (c = .exit 0 ∧ pre.length = flow + 1) ∧ St w W W.heap.size [.box m [.slice (some ⟨w.heap.size + 1 + 1, 0, none⟩) b.sh.length b.sh.length], .own 3 1 (.slice (some ⟨w.heap.size + 1 + 1, 0, none⟩) b.sh.length b.sh.length) b.sh.length ((outM b flow).map I), .box (w.heap.size + 1) [I (flow : Nat)], .box w.heap.size [.slice A1 b.sh.length c1, .slice A2 b.mo.length c2]]) ?hI ?hIx (fun J hJ pre W h => (hJ pre W h).1.2) ⟨⟨Lib.hid rfl, by simp⟩, S.out⟩
    (fun pre x a' W => ((Hid (pre = List.range pre.length) ∧ pre.length ≤ flow) ∧ x = pre.length) ∧ St w W W.heap.size [.box m [.slice (some ⟨w.heap.size + 1 + 1, 0, none⟩) b.sh.length b.sh.length], .own 3 1 (.slice (some ⟨w.heap.size + 1 + 1, 0, none⟩) b.sh.length b.sh.length) b.sh.length ((outM b pre.length).map I), .box (w.heap.size + 1) [I (flow : Nat)], .box w.heap.size [.slice A1 b.sh.length c1, .slice A2 b.mo.length c2]] ∧
      a' = { tmps := #[.agg #[.slice A1 b.sh.length c1, .slice A2 b.mo.length c2], I (flow : Nat), .pointer (some ⟨w.heap.size, 0, none⟩), .pointer (some ⟨w.heap.size + 1, 0, none⟩), .slice none 0 0, .pointer (some ⟨m, 0, none⟩), I (x : Nat), I (nextM b (hasM b 5 x)), .pointer (some ⟨w.heap.size, 0, none⟩), .slice A1 b.sh.length c1, .int .i64 b.sh.length, .slice (some ⟨w.heap.size + 1 + 1, 0, none⟩) b.sh.length b.sh.length, .agg #[.slice A1 b.sh.length c1, .slice A2 b.mo.length c2], gateV A1 A2 c1 c2 b, .func (.func 58) #[gateV A1 A2 c1 c2 b] #[], I (x : Nat), I (nextM b (hasM b 5 x)), undef, undef, undef, undef, undef, undef, undef, undef, undef, undef, undef, undef], defers := [] }) ?hAx ?assign ?body ?done ?stop
  case hI => exact fun s A B' row hs hg hr => ⟨hs.1, hs.2.up hg hr (by omega) (by intro x hx c hc; simp at hx; rcases hx with rfl | rfl | rfl | rfl <;> (simp [Item.blk, Value.ownBlock] at hc; omega))⟩
  case hIx => exact fun c s A B' row hs hg hr => ⟨hs.1, hs.2.up hg hr (by omega) (by intro x hx c hc; simp at hx; rcases hx with rfl | rfl | rfl | rfl <;> (simp [Item.blk, Value.ownBlock] at hc; omega))⟩
  case hAx =>
    rintro pre x a' _ A B' row ⟨h1, h2, h3⟩ hg hr
    exact ⟨h1, h2.other hg hr (by omega) (by simp [Item.cel]), h3⟩
  case assign =>
    rintro l pre x W K ⟨h1, h2⟩ hR hK
    simp only [encT]
    have HR := Lib.hid hR
    clear hR
    gi_wp2
    exact hK _ _ (KeepsFrom.refl _ _) (KpX.refl _ _ _) ⟨h1, h2⟩ ⟨⟨h1, HR.out⟩, h2, rfl⟩
  case body =>
    rintro l pre x a' W hl ⟨r, hr⟩ - ⟨⟨⟨h1, h1'⟩, h2⟩, hS, rfl⟩
    have q1 := hS.get 2 0 rfl rfl
    have HX := Lib.hid h2
    have HS2 := Lib.hid hS
    have hnb := nextTo_bd b (hasM b 5 x) b.sh.length
    obtain ⟨nx, hnx⟩ : ∃ y, nextM b (hasM b 5 x) = y := ⟨_, rfl⟩
    rw [show nextTo b (hasM b 5 x) b.sh.length = nx from hnx] at hnb
    rw [hnx]
    have HN := Lib.hid hnx
    clear hnx hr hS
    by_cases hxf : x = flow
    · have hxq : ((x : Nat) : Int) == (flow : Int) := by simp [hxf]
      have HF := Lib.hid (show pre.length = flow by omega)
      have hS2 := HS2.out
      rw [HF.out] at hS2
      have HS2 := Lib.hid hS2
      clear hS2 h2 hxf
      gi_wp2_with fail
      exact ⟨KeepsFrom.refl _ _, ⟨⟨rfl, by simp; exact HF.out⟩, HS2.out⟩⟩
    · have hxq : (((x : Nat) : Int) == (flow : Int)) = false := by simp; omega
      have HF := Lib.hid hxf
      have HL := Lib.hid (show pre.length + 1 ≤ flow by omega)
      clear hxf h2
      by_cases hn : nx < 0
      · have HO := Lib.hid (outM_none (by rw [HN.out]; exact hn))
        gi_wp2_with fail
        exact ⟨KeepsFrom.refl _ _, KpX.refl _ _ _, ⟨Lib.hid (by rw [List.length_append, List.length_singleton, List.range_succ, HX.out, ← h1.out]), by simp; exact HL.out⟩, by rw [List.length_append, List.length_singleton, ← HX.out, HO.out, HX.out]; exact HS2.out⟩
      · obtain ⟨q, rfl⟩ := Int.eq_ofNat_of_zero_le (show 0 ≤ nx by omega)
        have HO := Lib.hid (outM_some HN.out)
        have hqn : q < b.sh.length := by omega
        have hat := outM_at h5 (k := x) hqn
        have hbd := outM_all HOK.out x _ (List.mem_of_getElem? hat)
        obtain ⟨hv, hhv⟩ : ∃ y, mAt (hasM b 5 x) (q : Int) = y := ⟨_, rfl⟩
        rw [hhv] at hat hbd HO
        have hS2 := HS2.out
        rw [← HX.out] at hS2
        have y0 := own_cell (hS2.own 1 rfl) q hv hat
        have z0 := (hS2.own 1 rfl).frozenAt q
        have y1 := hS2.get 0 0 rfl rfl
        have S3 := Lib.hid (hS2.put 1 q (I (hv + 1)) rfl)
        dsimp only [List.set_cons_zero, List.set_cons_succ] at S3
        rw [← List.map_set, ← HO.out] at S3
        have hqi : (q : Int) < (b.sh.length : Int) := by omega
        have HKP := Lib.hid (show KpX w.heap.size [w.heap.size + 1 + 1] W (W.setCell ⟨w.heap.size + 1 + 1, q, none⟩ (I (hv + 1))) from KpX.grown (grown_setCell _ _ _) hS2.bel.size (by intro k hk; injection hk with hk; subst hk; simp; omega))
        clear hat hhv hS2
        gi_wp2_with fail
        exact ⟨(KeepsOthers.setCell _ _ _).from _, HKP.out, ⟨Lib.hid (by rw [List.length_append, List.length_singleton, List.range_succ, HX.out, ← h1.out]), by simp; exact HL.out⟩, by rw [List.length_append, List.length_singleton, ← HX.out]; exact S3.out.fix⟩
  case done =>
    rintro D xs W hD ⟨-, hS⟩
    exact hS.elim
  case stop =>
    rintro D c pre W hD - ⟨⟨rfl, hp⟩, hS⟩ hK
    have q0 := hS.get 0 0 rfl rfl
    refine wpIn_wide.2 ?_
    go_wp2_with fail
    refine ⟨by simp, .inl ⟨_, _, rfl, run_takeDeferred hK, ?_⟩⟩
    have S9 := hS.putD (by omega) hK rfl (.deferred none) (by simp [Item.cel])
    exact ⟨_, results_tmp rfl _ _ _, _, rfl, S9.own 1 rfl, S9.bel⟩
end Go.Proofs.Ytldcehhhndlhdaa
/- Walks: mouths.Gauges, Between. -/
namespace Go.Proofs.Ytldcehhhndlhdaa
open Go.RowKit Go.Sort Go.Shelf

/-- Spans, as cells. -/
def prC (l : List (Int × Int)) : List Value := l.flatMap fun p => [I p.1, I p.2]
theorem prC_len (l : List (Int × Int)) : (prC l).length = l.length * 2 := by
  induction l with
  | nil => rfl
  | cons p l ih => simp only [prC, List.flatMap_cons, List.length_append, List.length_cons] at *; simp at *; omega
theorem prC_snoc (l : List (Int × Int)) (p : Int × Int) : prC (l ++ [p]) = prC l ++ [I p.1, I p.2] := by simp [prC]
theorem prC_at : ∀ (l : List (Int × Int)) (k : Nat) (h : k < l.length), (prC l)[k * 2]? = some (I (l[k]).1) ∧ (prC l)[k * 2 + 1]? = some (I (l[k]).2)
  | p :: l, 0, _ => ⟨rfl, rfl⟩
  | p :: l, k + 1, h => by
    have := prC_at l k (by simpa using h)
    rw [show (k + 1) * 2 = k * 2 + 2 by omega]
    exact this
theorem two_one (a b : Int) : ∀ u ∈ [I a, I b], u.oneCell' = true := fun u hu => by
  rcases List.mem_cons.1 hu with rfl | hu
  · rfl
  · rw [List.mem_singleton.1 hu]; rfl
theorem reads_box2 {w : World} {b : Nat} {u v : Value} (h : w.cell? ⟨b, 0, none⟩ = some u) (h2 : w.cell? ⟨b, 1, none⟩ = some v) : Reads w 2 (.slice (some ⟨b, 0, none⟩) 1 1) 1 [u, v] := by
  refine ⟨rfl, _, _, rfl, by omega, by omega, fun _ => ⟨b, 0, rfl, fun i x hx => ?_⟩⟩
  match i, hx with
  | 0, hx => injection hx with hx; rw [← hx]; exact h
  | 1, hx => injection hx with hx; rw [← hx]; exact h2
  | i + 2, hx => simp at hx
/-- What each quarter has, of the least and of the greatest flow, for the first quarters. -/
def betM (b : MBox) (lo hi k : Nat) : List (Int × Int) := (List.range k).map fun i : Nat => (mAt (hasM b 5 lo) (i : Int), mAt (hasM b 5 hi) (i : Int))
theorem betM_succ (b : MBox) (lo hi k : Nat) : betM b lo hi (k + 1) = betM b lo hi k ++ [(mAt (hasM b 5 lo) (k : Int), mAt (hasM b 5 hi) (k : Int))] := by simp [betM, List.range_succ]
theorem betM_len (b : MBox) (lo hi k : Nat) : (betM b lo hi k).length = k := by simp [betM]
theorem askM_ok {b : MBox} (h : MOk b) : askM b true = 0 := by simp [askM, mValid_iff.2 h]

set_option maxRecDepth 20000 in
set_option maxHeartbeats 2000000 in
theorem mGauges_any (v : Value) (b : MBox) (flow : Nat) (w : World) (hv : MBoxAt w v b) (hok : MOk b) (hf : flow ≤ 40) :
    Calls Try.prog 12 #[v, I (flow : Nat)] w fun e w' => ∃ v', e = .returned (.tuple #[v', I 0]) ∧ w'.ownsRow w.heap.size 3 1 v' b.sh.length ((outM b flow).map I) ∧ Below w.heap.size w w' := by
  obtain ⟨sv, mv, rfl, hs, hm⟩ := hv
  obtain ⟨A1, c1, rfl, hs1, hs2, -⟩ := id hs.open_
  obtain ⟨A2, c2, rfl, hm1, hm2, -⟩ := id hm.open_
  have HS := Lib.hid hs
  have HM := Lib.hid hm
  have HOK := Lib.hid hok
  have S := Lib.hid (show St w (w.alloc (.cells #[.slice A1 b.sh.length c1, .slice A2 b.mo.length c2] 27)) (w.heap.size + 1) [.box w.heap.size [.slice A1 b.sh.length c1, .slice A2 b.mo.length c2]] from (St.init w).alloc [.slice A1 b.sh.length c1, .slice A2 b.mo.length c2] 27)
  clear hs hm hok hs1 hs2 hm1 hm2
  have q0 := S.out.get 0 0 rfl rfl
  have q1 := S.out.get 0 1 rfl rfl
  go_enter Try.func12, Try.ntmps12
  go_wp2_with fail
  clear q0 q1
  refine wp_region_seg [([0, 1], 2), ([], 3)] [4] [] 5 (by kernel_rfl) (by kernel_rfl) ?_
  intro KQ hKQ w1 hb
  have S := Lib.hid (S.out.call hb)
  clear hb
  have q0 := cell_regrown (S.out.get 0 0 rfl rfl)
  have q1 := cell_regrown (S.out.get 0 1 rfl rfl)
  refine seg_next ?_
  simp only [opsAt, List.filterMap_cons, List.filterMap_nil, List.getElem?_toArray, List.getElem?_cons_succ, List.getElem?_cons_zero]
  repeat (first | go_big_quiet_step (fail) | quiet_step (fail))
  refine wpQuiet_nil ?_
  intro K hK
  refine loud_op rfl rfl ?_
  go_simp
  refine (mIsFlow_any (flow : Int) _).mono ?_
  rintro e w2 ⟨rfl, rfl⟩
  rw [show inM (flow : Int) 0 40 = true by simp [inM]; omega]
  refine hK _ _ (Below.refl _ _) ?_
  clear hK K
  refine seg_next ?_
  simp only [opsAt, List.filterMap_nil]
  refine wpQuiet_nil ?_
  intro K hK
  refine loud_op rfl rfl ?_
  go_simp
  refine (mAsk_any _ b true _ ⟨_, _, rfl, HS.out.below S.out.bel, HM.out.below S.out.bel⟩).mono ?_
  rintro e w3 ⟨rfl, hb⟩
  rw [askM_ok HOK.out]
  have S := Lib.hid (S.out.call hb)
  refine hK _ _ hb ?_
  clear hK K hb q0 q1
  refine seg_last ?_
  simp only [opsAt, List.filterMap_cons, List.filterMap_nil, List.getElem?_toArray, List.getElem?_cons_succ, List.getElem?_cons_zero]
  repeat (first | go_big_quiet_step (fail) | quiet_step (fail))
  refine wpQuiet_nil ?_
  have q0 := S.out.get 0 0 rfl rfl
  have q1 := S.out.get 0 1 rfl rfl
  go_wp2_with fail
  refine (gauges_any _ b flow _ ⟨_, _, rfl, HS.out.below S.out.bel, HM.out.below S.out.bel⟩ HOK.out hf).mono ?_
  rintro e w4 ⟨v', rfl, ho, hb⟩
  obtain ⟨A3, c3, rfl⟩ := own_shape ho
  have S := Lib.hid (S.out.take hb ho)
  clear hb ho q0 q1
  go_wp2_with fail
  go_ret2
  exact ⟨_, rfl, own_base' (S.out.own 0 rfl) (Nat.le_refl _), S.out.bel⟩

set_option maxRecDepth 20000 in
set_option maxHeartbeats 4000000 in
theorem between_any (v : Value) (b : MBox) (lo hi : Nat) (w : World) (hv : MBoxAt w v b) (hok : MOk b) (hlh : lo ≤ hi) (hf : hi ≤ 40) :
    Calls Try.prog 35 #[v, I (lo : Nat), I (hi : Nat)] w fun e w' => ∃ v', e = .returned (.tuple #[v', I 0]) ∧ w'.ownsRow w.heap.size 29 2 v' b.sh.length (prC (betM b lo hi b.sh.length)) ∧ Below w.heap.size w w' := by
  obtain ⟨sv, mv, rfl, hs, hm⟩ := hv
  obtain ⟨A1, c1, rfl, hs1, hs2, -⟩ := id hs.open_
  obtain ⟨A2, c2, rfl, hm1, hm2, -⟩ := id hm.open_
  have HS := Lib.hid hs
  have HM := Lib.hid hm
  have HOK := Lib.hid hok
  have S := Lib.hid (show St w (w.alloc (.cells #[.slice A1 b.sh.length c1, .slice A2 b.mo.length c2] 27)) (w.heap.size + 1) [.box w.heap.size [.slice A1 b.sh.length c1, .slice A2 b.mo.length c2]] from (St.init w).alloc [.slice A1 b.sh.length c1, .slice A2 b.mo.length c2] 27)
  clear hs hm hok hs1 hs2 hm1 hm2
  have q0 := S.out.get 0 0 rfl rfl
  have q1 := S.out.get 0 1 rfl rfl
  go_enter Try.func35, Try.ntmps35
  go_wp2_with fail
  clear q0 q1
  refine wp_region_seg [([0, 1], 2), ([3, 4], 5), ([6, 7, 8, 9, 10, 11], 12)] [13] [] 14 (by kernel_rfl) (by kernel_rfl) ?_
  intro KQ hKQ w1 hb
  have S := Lib.hid (S.out.call hb)
  clear hb
  have hle : (lo : Int) ≤ (hi : Int) := by omega
  have q0 := cell_regrown (S.out.get 0 0 rfl rfl)
  have q1 := cell_regrown (S.out.get 0 1 rfl rfl)
  refine seg_next ?_
  simp only [opsAt, List.filterMap_cons, List.filterMap_nil, List.getElem?_toArray, List.getElem?_cons_succ, List.getElem?_cons_zero]
  repeat (first | go_big_quiet_step (fail) | quiet_step (fail))
  refine wpQuiet_nil ?_
  intro K hK
  refine loud_op rfl rfl ?_
  go_simp
  refine (mIsFlow_any (lo : Int) _).mono ?_
  rintro e w2 ⟨rfl, rfl⟩
  rw [show inM (lo : Int) 0 40 = true by simp [inM]; omega]
  refine hK _ _ (Below.refl _ _) ?_
  clear hK K
  refine seg_next ?_
  simp only [opsAt, List.filterMap_cons, List.filterMap_nil, List.getElem?_toArray, List.getElem?_cons_succ, List.getElem?_cons_zero]
  repeat (first | go_big_quiet_step (fail) | quiet_step (fail))
  refine wpQuiet_nil ?_
  intro K hK
  refine loud_op rfl rfl ?_
  go_simp
  refine (mIsFlow_any (hi : Int) _).mono ?_
  rintro e w3 ⟨rfl, rfl⟩
  rw [show inM (hi : Int) 0 40 = true by simp [inM]; omega]
  refine hK _ _ (Below.refl _ _) ?_
  clear hK K
  refine seg_next ?_
  simp only [opsAt, List.filterMap_cons, List.filterMap_nil, List.getElem?_toArray, List.getElem?_cons_succ, List.getElem?_cons_zero]
  repeat (first | go_big_quiet_step (fail) | quiet_step (fail))
  refine wpQuiet_nil ?_
  intro K hK
  refine loud_op rfl rfl ?_
  go_simp
  refine (mAsk_any _ b true _ ⟨_, _, rfl, HS.out.below S.out.bel, HM.out.below S.out.bel⟩).mono ?_
  rintro e w4 ⟨rfl, hb⟩
  rw [askM_ok HOK.out]
  have S := Lib.hid (S.out.call hb)
  refine hK _ _ hb ?_
  clear hK K hb q0 q1
  refine seg_last ?_
  simp only [opsAt, List.filterMap_cons, List.filterMap_nil, List.getElem?_toArray, List.getElem?_cons_succ, List.getElem?_cons_zero]
  repeat (first | go_big_quiet_step (fail) | quiet_step (fail))
  refine wpQuiet_nil ?_
  clear hle
  go_wp2_with fail
  refine wp_region_seg [([0, 1, 3, 4], 2), ([], 5)] [6, 7] [] 8 (by kernel_rfl) (by kernel_rfl) ?_
  intro KQ hKQ w5 hb
  have S := Lib.hid (S.out.call hb)
  clear hb
  have q0 := cell_regrown (S.out.get 0 0 rfl rfl)
  have q1 := cell_regrown (S.out.get 0 1 rfl rfl)
  refine seg_next ?_
  simp only [opsAt, List.filterMap_cons, List.filterMap_nil, List.getElem?_toArray, List.getElem?_cons_succ, List.getElem?_cons_zero]
  repeat (first | go_big_quiet_step (fail) | quiet_step (fail))
  refine wpQuiet_nil ?_
  intro K hK
  refine loud_op rfl rfl ?_
  go_simp
  refine (gauges_any _ b lo _ ⟨_, _, rfl, HS.out.below S.out.bel, HM.out.below S.out.bel⟩ HOK.out (by omega)).mono ?_
  rintro e w6 ⟨v', rfl, ho, hb⟩
  obtain ⟨Al, cl, rfl⟩ := own_shape ho
  have S := Lib.hid (S.out.take hb ho)
  refine hK _ _ hb ?_
  clear hK K hb ho q0 q1
  refine seg_next ?_
  simp only [opsAt, List.filterMap_nil]
  refine wpQuiet_nil ?_
  intro K hK
  refine loud_op rfl rfl ?_
  go_simp
  refine (gauges_any _ b hi _ ⟨_, _, rfl, HS.out.below S.out.bel, HM.out.below S.out.bel⟩ HOK.out hf).mono ?_
  rintro e w7 ⟨v', rfl, ho, hb⟩
  obtain ⟨Ah, ch, rfl⟩ := own_shape ho
  have S := Lib.hid (S.out.take hb ho)
  refine hK _ _ hb ?_
  clear hK K hb ho
  refine seg_last ?_
  simp only [opsAt, List.filterMap_cons, List.filterMap_nil, List.getElem?_toArray, List.getElem?_cons_succ, List.getElem?_cons_zero]
  repeat (first | go_big_quiet_step (fail) | quiet_step (fail))
  refine wpQuiet_nil ?_
  have h5 := HOK.out.sl
  go_wp2_with fail
  have S := Lib.hid (S.out.nil 29 2)
  have HL1 := Lib.hid (outM_len h5 lo)
  have HL2 := Lib.hid (outM_len h5 hi)
  obtain ⟨i0, hi0, hz0, hz1, hz2⟩ := info_parts (P := Try.prog) (e := 29) (z := .agg #[.int .i64 0, .int .i64 0]) (size := 2) (bytes := 16) (by kernel_rfl)
  have h02 : 0 < 2 := by decide
  go_loopw [9, 37] (fun u i wr => ∃ (k : Nat) (A : Option Addr) (c : Nat), k ≤ b.sh.length ∧ u = .slice A k c ∧ i = I k ∧ Hid (St w wr wr.heap.size [.own 29 2 (.slice A k c) k (prC (betM b lo hi k)), .own 3 1 (.slice Ah b.sh.length ch) b.sh.length ((outM b hi).map I), .own 3 1 (.slice Al b.sh.length cl) b.sh.length ((outM b lo).map I), .box w.heap.size [.slice A1 b.sh.length c1, .slice A2 b.mo.length c2]])) (fun _ i _ => b.sh.length - (intOf i).toNat)
  case atStart => exact ⟨0, none, 0, by omega, rfl, rfl, Lib.hid S.out.fix⟩
  case round =>
    clear S
    obtain ⟨k, A, c, hk, rfl, rfl, S⟩ := hrel
    by_cases hlt : k < b.sh.length
    · have hki : (k : Int) < (b.sh.length : Int) := by omega
      have h63 : k + 1 ≤ maxLen := by simp only [maxLen]; omega
      have hby : (k + 1) * 16 ≤ 140737488355328 := by omega
      obtain ⟨gl, cl', hAl, -, -⟩ := own_shape_pos (S.out.own 2 rfl) (show 0 < b.sh.length by omega)
      injection hAl with hAl _ hcl
      subst hAl
      obtain ⟨gh, ch', hAh, -, -⟩ := own_shape_pos (S.out.own 1 rfl) (show 0 < b.sh.length by omega)
      injection hAh with hAh _ hch
      subst hAh
      have hat1 := outM_at h5 (k := lo) hlt
      have hat2 := outM_at h5 (k := hi) hlt
      have y1 := own_cell (S.out.own 2 rfl) k _ hat1
      have y2 := own_cell (S.out.own 1 rfl) k _ hat2
      have HBS := Lib.hid (betM_succ b lo hi k)
      obtain ⟨x1, hx1⟩ : ∃ x, mAt (hasM b 5 lo) (k : Int) = x := ⟨_, rfl⟩
      obtain ⟨x2, hx2⟩ : ∃ x, mAt (hasM b 5 hi) (k : Int) = x := ⟨_, rfl⟩
      rw [hx1, hx2] at HBS
      rw [hx1] at y1
      rw [hx2] at y2
      have Y1 := Lib.hid y1
      have Y2 := Lib.hid y2
      clear hat1 hat2 hx1 hx2 y1 y2 hcl hch
      go_wp2_with fail
      refine wp_region_treeB (.node [0, 1, 2, 3, 4, 5, 6, 7, 8, 9] [10] (fun _ => .last [] [11, 12])) 11 (by kernel_rfl) (by kernel_rfl) ?_
      intro KQ hKQ w8 hb
      have S := Lib.hid (S.out.call hb)
      have y1 := cell_regrown (keep_cell hb Y1.out)
      have y2 := cell_regrown (keep_cell hb Y2.out)
      clear hb
      refine treeB_node ?_
      simp only [opsAt, List.filterMap_cons, List.filterMap_nil, List.getElem?_toArray, List.getElem?_cons_succ, List.getElem?_cons_zero]
      repeat (first | go_big_quiet_step (fail) | quiet_step (fail))
      refine wpQuiet_nil ?_
      refine all_one ?_
      intro K hK
      refine loud_op rfl rfl ?_
      go_simp
      have S := Lib.hid (S.out.alloc [I x1, I x2] 29)
      refine hK _ _ ((Below.refl _ _).alloc (Nat.le_refl _) _) ?_
      clear hK K y1 y2
      refine treeB_last ?_
      simp only [opsAt, List.filterMap_cons, List.filterMap_nil, List.getElem?_toArray, List.getElem?_cons_succ, List.getElem?_cons_zero]
      refine wpQuiet_nil ?_
      refine wpList_append_St S.out 1 rfl _ _ 41 rfl 29 i0 (.agg #[.int .i64 0, .int .i64 0]) 2 16 Try.underlying41 hi0 hz0 hz1 hz2 rfl h02 rfl rfl _ 1 [I x1, I x2] rfl (reads_box2 (S.out.get 0 0 rfl rfl) (S.out.get 0 1 rfl rfl)) (two_one x1 x2) h63 hby ?_
      intro v' w9 hS9
      obtain ⟨A', c', rfl⟩ := own_shape (hS9.own 1 rfl)
      have S := Lib.hid (show St w w9 w9.heap.size [.own 29 2 (.slice A' (k + 1) c') (k + 1) (prC (betM b lo hi (k + 1))), .own 3 1 (.slice (some ⟨gh, 0, none⟩) b.sh.length ch) b.sh.length ((outM b hi).map I), .own 3 1 (.slice (some ⟨gl, 0, none⟩) b.sh.length cl) b.sh.length ((outM b lo).map I), .box w.heap.size [.slice A1 b.sh.length c1, .slice A2 b.mo.length c2]] by
        have h := hS9.tail
        simp only [List.set_cons_zero] at h
        rw [HBS.out, prC_snoc]
        exact h)
      clear hS9
      go_wp2_with fail
      go_roundw
      case rel => exact ⟨k + 1, A', c', by omega, rfl, by go_num, S⟩
      case measure => first | (simp [intOf]; done) | (simp [intOf]; omega)
    · obtain rfl : k = b.sh.length := by omega
      have hki : ¬ (b.sh.length : Int) < (b.sh.length : Int) := by omega
      go_wp2_with fail
      go_ret2
      exact ⟨_, rfl, S.out.own 0 rfl, S.out.bel⟩

end Go.Proofs.Ytldcehhhndlhdaa

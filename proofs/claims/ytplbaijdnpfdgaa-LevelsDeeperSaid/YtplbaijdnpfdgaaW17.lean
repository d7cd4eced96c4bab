/- Walks: Clash. -/
import Derived.Test.YtplbaijdnpfdgaaW16
import Derived.Test.YtplbaijdnpfdgaaMarks
namespace Go.Proofs.Ytplbaijdnpfdgaa
open Go.RowKit Go.Sort Go.Shelf
attribute [local go_sem] Oper.semAt_some run_store_func

def badW (t : Twn) (l : List Nat) : Bool := !diagOk (closeM (baseM (sub t (hasW l))))
/-- The first list of words, of fewer than k, that leaves no truth. -/
def clashTo (t : Twn) (M : Nat) : Nat → Option (List Nat)
  | 0 => none
  | k + 1 => match clashTo t M k with | some l => some l | none => (listsD M k []).find? (badW t)
def clashP (t : Twn) : List Nat × Int := if valid t = true then (if diagOk (closeM (baseM t)) = true then ([], 3) else match clashTo t (t.snd.length + t.slp.length) (t.snd.length + t.slp.length + 1) with | some l => (l, 0) | none => ([], 3)) else ([], 10)
/-- A reading of cells stays, when what is no cells turns. -/
theorem ints_kept {W W' : World} {row : Option Nat} {v : Value} {xs : List Int} (h : Ints W v xs) (hg : W.grownBy W' row) (hr : ∀ r, row = some r → ∃ o : Obj, W.heap[r]? = some o ∧ o.isCells = false) : Ints W' v xs := by
  obtain ⟨h1, A, c, h2, h3, h4, h5⟩ := h
  refine ⟨h1, A, c, h2, h3, h4, fun hn => ?_⟩
  obtain ⟨b, o, rfl, hc⟩ := h5 hn
  exact ⟨b, o, rfl, fun j u hu => cell_kept (hc j u hu) hg hr⟩
theorem find_prefix {p : List Nat → Bool} {pre : List (List Nat)} {x : List Nat} {all : List (List Nat)} (h : pre ++ [x] <+: all) (h1 : ∀ y ∈ pre, p y = false) (h2 : p x = true) : all.find? p = some x := by
  obtain ⟨r, rfl⟩ := h
  rw [List.append_assoc, List.find?_append, List.find?_eq_none.2 (fun y hy => by rw [h1 y hy]; simp)]
  simp [h2]
theorem clashTo_some {t : Twn} {M k : Nat} {l : List Nat} (h : clashTo t M k = some l) : ∀ d, clashTo t M (k + d) = some l
  | 0 => h
  | d + 1 => by rw [show k + (d + 1) = (k + d) + 1 from rfl, clashTo, clashTo_some h d]

set_option maxRecDepth 100000 in
set_option maxHeartbeats 8000000 in
theorem clash_any (v : Value) (t : Twn) (w : World) (hv : TwnAt w v t) :
    Calls Try.prog 21 #[v] w fun e w' => RetL w (ofN (clashP t).1) (clashP t).2 e w' := by
  obtain ⟨sv, pv, rfl, hs, hp⟩ := hv
  have HSN := Lib.hid hs
  have HSP := Lib.hid hp
  obtain ⟨A1, c1, rfl, -, -, -⟩ := id hs.open_
  obtain ⟨A2, c2, rfl, -, -, -⟩ := id hp.open_
  clear hs hp
  have S := Lib.hid (show St w (((w.alloc (.cells #[I t.wells, .slice A1 t.snd.length c1, .slice A2 t.slp.length c2] 25)).alloc (.cells #[.slice none 0 0] 29)).alloc (.cells #[I 0] 30)) (w.heap.size + 1 + 1 + 1) [.box (w.heap.size + 1 + 1) [I 0], .box (w.heap.size + 1) [.slice none 0 0], .box w.heap.size [I t.wells, .slice A1 t.snd.length c1, .slice A2 t.slp.length c2]] from (((St.init w).alloc [I t.wells, .slice A1 t.snd.length c1, .slice A2 t.slp.length c2] 25).alloc [.slice none 0 0] 29).alloc [I 0] 30)
  cases h : valid t
  · have HC := Lib.hid (show chk t = 10 by simp [chk, h])
    have HE := Lib.hid (show clashP t = ([], 10) by simp [clashP, h])
    clear h
    have q0 := S.out.get 2 0 rfl rfl
    have q1 := S.out.get 2 1 rfl rfl
    have q2 := S.out.get 2 2 rfl rfl
    refine calls_of_marks Try.func21 rfl ?_
    simp only [Try.ntmps21, List.size_toArray, List.length_cons, List.length_nil, Nat.reduceAdd, Nat.reduceSub, Array.replicate_succ, Array.replicate_zero, List.push_toArray, List.append_toArray, List.nil_append, List.cons_append]
    go_wp2_with fail
    clear q0 q1 q2
    refine (check_any _ t _ ⟨_, _, rfl, HSN.out.below S.out.bel, HSP.out.below S.out.bel⟩).mono ?_
    rintro e w1 ⟨rfl, hb⟩
    rw [HC.out]
    have S := Lib.hid (S.out.call hb)
    clear hb
    have x0 := S.out.get 0 0 rfl rfl
    have x1 := S.out.get 1 0 rfl rfl
    have z0 := S.out.free 0 0 rfl
    have z1 := S.out.free 1 0 rfl
    have S := Lib.hid ((S.out.set 1 0 (.slice none 0 0) rfl).set 0 0 (I 10) rfl)
    go_wp2_with fail
    have r0 := S.out.get 0 0 rfl rfl
    have r1 := S.out.get 1 0 rfl rfl
    refine ⟨.tuple #[.slice none 0 0, I 10], by simp [results, Try.results21, go_sem, r0, r1], .slice none 0 0, by rw [HE.out], ?_, S.out.bel⟩
    rw [HE.out]
    exact ints_nil _
  · cases hd : diagOk (closeM (baseM t))
    · have HC := Lib.hid (show chk t = 0 by simp [chk, h])
      have HE := Lib.hid (show clashP t = (match clashTo t (t.snd.length + t.slp.length) (t.snd.length + t.slp.length + 1) with | some l => (l, 0) | none => ([], 3)) by simp [clashP, h, hd])
      have HV := Lib.hid (valid_iff'.1 h)
      have HD := Lib.hid hd
      have hl1 := HV.out.2.1
      have hl2 := HV.out.2.2
      clear h hd
      have q0 := S.out.get 2 0 rfl rfl
      have q1 := S.out.get 2 1 rfl rfl
      have q2 := S.out.get 2 2 rfl rfl
      refine calls_of_marks Try.func21 rfl ?_
      simp only [Try.ntmps21, List.size_toArray, List.length_cons, List.length_nil, Nat.reduceAdd, Nat.reduceSub, Array.replicate_succ, Array.replicate_zero, List.push_toArray, List.append_toArray, List.nil_append, List.cons_append]
      go_wp2_with fail
      clear q0 q1 q2
      refine (check_any _ t _ ⟨_, _, rfl, HSN.out.below S.out.bel, HSP.out.below S.out.bel⟩).mono ?_
      rintro e w1 ⟨rfl, hb⟩
      rw [HC.out]
      have S := Lib.hid (S.out.call hb)
      clear hb
      have q0 := S.out.get 2 0 rfl rfl
      have q1 := S.out.get 2 1 rfl rfl
      have q2 := S.out.get 2 2 rfl rfl
      go_wp2_with fail
      clear q0 q1 q2
      refine (saidAll_any _ t (fun _ => true) _ ⟨_, _, rfl, HSN.out.below S.out.bel, HSP.out.below S.out.bel⟩ HV.out.1 HV.out.2.1 HV.out.2.2 (all_tells _)).mono ?_
      rintro e w2 hr
      obtain ⟨B, rfl, -, -, hb⟩ := hr
      rw [sub_all, HD.out]
      have S := Lib.hid (S.out.call hb)
      clear hb
      have q0 := S.out.get 2 0 rfl rfl
      have q1 := S.out.get 2 1 rfl rfl
      have q2 := S.out.get 2 2 rfl rfl
      go_wp2_with fail
      clear q0 q1 q2
      refine (words_any _ t _ ⟨_, _, rfl, HSN.out.below S.out.bel, HSP.out.below S.out.bel⟩ (by omega) (by omega)).mono ?_
      rintro e w3 ⟨rfl, hb⟩
      have S := Lib.hid (S.out.call hb)
      clear hb
      obtain ⟨M, hM⟩ : ∃ M, t.snd.length + t.slp.length = M := ⟨_, rfl⟩
      have hM16 : M ≤ 16 := by omega
      rw [hM] at HE ⊢
      have HMM := Lib.hid hM
      clear hM
      go_wp2_with fail
      refine wp_loop (fun a' wr => ∃ (k : Nat) (Ds : List Nat) (u7 u26 u27 u28 u29 u30 u31 u43 : Value), k ≤ M + 1 ∧ a' = { tmps := #[.agg #[I t.wells, .slice A1 t.snd.length c1, .slice A2 t.slp.length c2], .pointer (some ⟨w.heap.size, 0, none⟩), .pointer (some ⟨w.heap.size + 1, 0, none⟩), .pointer (some ⟨w.heap.size + 1 + 1, 0, none⟩), I 0, .pointer (some ⟨B, 0, none⟩), .bool false, u7, undef, undef, undef, .agg #[I t.wells, .slice A1 t.snd.length c1, .slice A2 t.slp.length c2], I 0, I 0, .bool false, undef, .tuple #[.pointer (some ⟨B, 0, none⟩), .bool false], .agg #[I t.wells, .slice A1 t.snd.length c1, .slice A2 t.slp.length c2], .tuple #[.pointer (some ⟨B, 0, none⟩), .bool false], .pointer (some ⟨B, 0, none⟩), .bool false, .bool false, .agg #[I t.wells, .slice A1 t.snd.length c1, .slice A2 t.slp.length c2], I (M : Nat), I ((M : Int) + 1), I (k : Nat), u26, u27, u28, u29, u30, u31, undef, undef, undef, undef, undef, undef, undef, undef, undef, undef, undef, u43], defers := Ds.map markD } ∧ Hid (clashTo t M k = none) ∧ Hid (St w wr wr.heap.size (([.box (w.heap.size + 1 + 1) [I 0], .box (w.heap.size + 1) [.slice none 0 0], .box w.heap.size [I t.wells, .slice A1 t.snd.length c1, .slice A2 t.slp.length c2]] : List Item) ++ Ds.map markI)))
        (fun a' _ => M + 1 - (intOf (a'.tmps.getD 25 undef)).toNat) ⟨0, [], undef, undef, undef, undef, undef, undef, undef, undef, by omega, rfl, Lib.hid rfl, S⟩ ?_
      rintro a' wr ⟨k, Ds, u7, u26, u27, u28, u29, u30, u31, u43, hk, rfl, hno, S⟩
      have hb0 := (S.out.lt 2 rfl)
      by_cases hlt : k < M + 1
      · have hlti : (k : Int) < (M : Int) + 1 := by omega
        have q0 := S.out.get 2 0 rfl rfl
        have q1 := S.out.get 2 1 rfl rfl
        have q2 := S.out.get 2 2 rfl rfl
        go_wp2_with fail
        clear q0 q1 q2
        refine (words_any _ t _ ⟨_, _, rfl, HSN.out.below S.out.bel, HSP.out.below S.out.bel⟩ (by omega) (by omega)).mono ?_
        rintro e w4 ⟨rfl, hb⟩
        have S := Lib.hid (S.out.call hb)
        clear hb
        rw [HMM.out]
        go_wp2_with fail
        refine (lists_any k M _).mono ?_
        rintro e w5 ⟨rfl, rfl⟩
        have S := Lib.hid ((S.out.alloc [I (k : Nat)] 3).alloc [I (M : Nat)] 3)
        go_wp2_with fail
        obtain ⟨WB, hWB⟩ : ∃ WB, (w4.alloc (.cells #[I (k : Nat)] 3)).alloc (.cells #[I (M : Nat)] 3) = WB := ⟨_, rfl⟩
        have hsz : w4.heap.size + 1 + 1 = WB.heap.size := by rw [← hWB]; simp
        rw [hWB] at S ⊢
        clear hWB
        have S := Lib.hid S.out.fix
        have y0 := S.out.get 1 0 rfl rfl
        have y1 := S.out.get 0 0 rfl rfl
        have hbs := S.out.bel.size
        have HLT := Lib.hid (fun b (h : b ∈ (([.box (w.heap.size + 1 + 1) [I 0], .box (w.heap.size + 1) [.slice none 0 0], .box w.heap.size [I t.wells, .slice A1 t.snd.length c1, .slice A2 t.slp.length c2]] : List Item) ++ Ds.map markI).filterMap Item.blk) => (S.out.tail.tail.lt_of h).2)
        have HC2 := Lib.hid (show ∀ x ∈ (([.box (w.heap.size + 1 + 1) [I 0], .box (w.heap.size + 1) [.slice none 0 0], .box w.heap.size [I t.wells, .slice A1 t.snd.length c1, .slice A2 t.slp.length c2]] : List Item) ++ Ds.map markI), x.cel ∨ ∀ b, x.blk = some b → b < WB.heap.size from fun x hx => .inr fun b hb => HLT.out b (List.mem_filterMap.2 ⟨x, hx, hb⟩))
        refine (wpIn_wide (n := 5)).1 ?_
        refine wpIn_rangeFunc_R (F := Fence.wide) rfl (by omega) (gf := 100) (lb := #[.pointer (some ⟨w4.heap.size, 0, none⟩), .pointer (some ⟨w4.heap.size + 1, 0, none⟩)]) rfl trivial (enters_of Try.func100 (by kernel_rfl) rfl)
          (lists_seq WB _ _ k M (by omega) (by omega) y0 y1) (fun h k => h.trans k) (fun W l o o' _ hl ho _ => KpC.putObj W l o o' hl ho) (Below.refl _ _) (fun _ => rfl)
          (fun pre W => Hid (∀ x ∈ pre, badW t x.2 = false) ∧ Hid (St w W W.heap.size (([.box (w.heap.size + 1 + 1) [I 0], .box (w.heap.size + 1) [.slice none 0 0], .box w.heap.size [I t.wells, .slice A1 t.snd.length c1, .slice A2 t.slp.length c2]] : List Item) ++ Ds.map markI)))
          (fun c pre W => Hid (c = .ret) ∧ ∃ x v', Hid (clashTo t M (k + 1) = some x) ∧ Hid (St w W W.heap.size (([.own 3 1 v' x.length ((ofN x).map I), .box (w.heap.size + 1 + 1) [I 0], .box (w.heap.size + 1) [v']] : List Item) ++ Ds.map markI))) ?hI ?hIx (fun _ _ => trivial) ⟨Lib.hid (by simp), Lib.hid S.out.tail.tail⟩
          (fun pre x a' W => Hid (∀ x ∈ pre, badW t x.2 = false) ∧ Hid (pre.map Prod.snd ++ [x.2] <+: listsD M k []) ∧ ∃ Bx, Hid (Ints W x.1 (ofN x.2)) ∧ Hid (St w W W.heap.size (.box Bx [x.1] :: (([.box (w.heap.size + 1 + 1) [I 0], .box (w.heap.size + 1) [.slice none 0 0], .box w.heap.size [I t.wells, .slice A1 t.snd.length c1, .slice A2 t.slp.length c2]] : List Item) ++ Ds.map markI))) ∧
            a' = { tmps := #[.agg #[I t.wells, .slice A1 t.snd.length c1, .slice A2 t.slp.length c2], .pointer (some ⟨w.heap.size, 0, none⟩), .pointer (some ⟨w.heap.size + 1, 0, none⟩), .pointer (some ⟨w.heap.size + 1 + 1, 0, none⟩), I 0, .pointer (some ⟨B, 0, none⟩), .bool false, I (k : Nat), .pointer (some ⟨Bx, 0, none⟩), undef, undef, .agg #[I t.wells, .slice A1 t.snd.length c1, .slice A2 t.slp.length c2], I 0, I 0, .bool false, undef, .tuple #[.pointer (some ⟨B, 0, none⟩), .bool false], .agg #[I t.wells, .slice A1 t.snd.length c1, .slice A2 t.slp.length c2], .tuple #[.pointer (some ⟨B, 0, none⟩), .bool false], .pointer (some ⟨B, 0, none⟩), .bool false, .bool false, .agg #[I t.wells, .slice A1 t.snd.length c1, .slice A2 t.slp.length c2], I (M : Nat), I ((M : Int) + 1), I (k : Nat), .bool true, I (k : Nat), I (k : Nat), .agg #[I t.wells, .slice A1 t.snd.length c1, .slice A2 t.slp.length c2], I (M : Nat), .func (.func 100) #[] #[.pointer (some ⟨w4.heap.size, 0, none⟩), .pointer (some ⟨w4.heap.size + 1, 0, none⟩)], x.1, undef, undef, undef, undef, undef, undef, undef, undef, undef, undef, u43], defers := [] }) ?hAx ?assign ?body ?done ?stop
        case hI => exact fun s A B' row hs hg hr => ⟨hs.1, Lib.hid (hs.2.out.other2 hg hr (by omega) HC2.out)⟩
        case hIx =>
          rintro c s A B' row ⟨h1, x, v', h2, h3⟩ hg hr
          refine ⟨h1, x, v', h2, Lib.hid (h3.out.other2 hg hr (by omega) (fun y hy => ?_))⟩
          rcases List.mem_append.1 hy with hy | hy
          · exact .inl ((show ∀ z ∈ ([.own 3 1 v' x.length ((ofN x).map I), .box (w.heap.size + 1 + 1) [I 0], .box (w.heap.size + 1) [v']] : List Item), z.cel by simp [Item.cel]) y hy)
          · exact HC2.out y (List.mem_append_right _ hy)
        case hAx =>
          rintro pre x a' _ A B' row ⟨h1, h2, Bx, h3, h4, h5⟩ hg hr
          refine ⟨h1, h2, Bx, ?_, Lib.hid (h4.out.other2 hg hr (by omega) (fun y hy => ?_)), h5⟩
          · exact Lib.hid (ints_kept h3.out hg (fun r e => (hr r e).2))
          · rcases List.mem_cons.1 hy with hy | hy
            · exact .inl (by rw [hy]; trivial)
            · exact HC2.out y hy
        case assign =>
          rintro l pre x W K ⟨h1, h2⟩ hR hK
          obtain ⟨v, xs⟩ := x
          obtain ⟨hrd, hpre⟩ := hR
          dsimp only at hrd hpre
          have HPRE := Lib.hid hpre
          obtain ⟨A, c, rfl, -, -, -⟩ := id hrd.open_
          have HRD := Lib.hid (hrd.below ((Below.refl _ _).alloc (Nat.le_refl _) (.cells #[.slice A (ofN xs).length c] 29)))
          clear hrd hpre
          have S2 := Lib.hid (h2.out.alloc [.slice A (ofN xs).length c] 29)
          simp only [encY]
          gi_wp2
          exact hK _ _ ((KeepsOthers.alloc _ _).from _) (KpC.below ((Below.refl _ _).alloc (Nat.le_refl _) _)) ⟨h1, Lib.hid S2.out.tail.fix⟩ ⟨h1, HPRE, W.heap.size, HRD, Lib.hid S2.out.fix, rfl⟩
        case body =>
          rintro l pre x a' W hl ⟨r, hr⟩ - ⟨h1, h2, Bx, h3, h4, rfl⟩
          obtain ⟨v, xs⟩ := x
          dsimp only at h2 h3 h4
          have S := Lib.hid h4.out
          obtain ⟨A, c, rfl, -, -, -⟩ := id h3.out.open_
          have hbw := S.out.lt 3 rfl
          have q0 := S.out.get 3 0 rfl rfl
          have q1 := S.out.get 3 1 rfl rfl
          have q2 := S.out.get 3 2 rfl rfl
          have q3 := S.out.get 0 0 rfl rfl
          clear hl hr h4
          gi_wp2_with fail
          refine ⟨trivial, CallsIn.inRound l (callsIn_wide.2 ?_)⟩
          refine (saidHas_any _ t Bx (hasW xs) _ ⟨_, _, rfl, HSN.out.below S.out.bel, HSP.out.below S.out.bel⟩ HV.out.1 HV.out.2.1 HV.out.2.2 (has_tells _ Bx _ xs q3 h3.out)).mono ?_
          rintro e w6 hr
          obtain ⟨B2, rfl, -, -, hb⟩ := hr
          have HB6 := Lib.hid hb
          have HI6 := Lib.hid (h3.out.below hb)
          have S := Lib.hid (S.out.call hb)
          clear hb h3 q0 q1 q2 q3 hbw
          cases hd2 : diagOk (closeM (baseM (sub t (hasW xs))))
          · have HX := Lib.hid (show clashTo t M (k + 1) = some xs by
              rw [clashTo, hno.out]
              exact find_prefix h2.out (fun y hy => by
                obtain ⟨z, hz, rfl⟩ := List.mem_map.1 hy
                exact h1.out z hz) (by rw [badW, hd2]; rfl))
            have HLX := Lib.hid (show xs.length ≤ 1000 by
              have hm : xs ∈ listsD M k [] := h2.out.subset (by simp)
              have := listsD_len k [] xs hm
              simp at this
              omega)
            have q3 := S.out.get 0 0 rfl rfl
            clear hd2
            gi_wp2_with fail
            refine ⟨trivial, CallsIn.inRound l (callsIn_wide.2 ?_)⟩
            clear q3
            refine (cloneI_any _ (ofN xs) w6 HI6.out (by rw [ofN_len]; exact HLX.out)).mono ?_
            rintro e w7 ⟨v', rfl, hown, hb⟩
            rw [ofN_len] at hown
            have HB7 := Lib.hid (bto HB6.out hb)
            have S := Lib.hid (S.out.take hb hown)
            obtain ⟨A2, c2, rfl⟩ := own_shape hown
            clear hown hb
            have x0 := S.out.get 2 0 rfl rfl
            have x1 := S.out.get 3 0 rfl rfl
            have z0 := S.out.free 2 0 rfl
            have z1 := S.out.free 3 0 rfl
            have S2 := Lib.hid ((S.out.set 3 0 (.slice A2 xs.length c2) rfl).set 2 0 (I 0) rfl)
            have HKO := Lib.hid (((ko_below HB7.out).trans (KeepsOthers.setCell w7 ⟨w.heap.size + 1, 0, none⟩ (.slice A2 xs.length c2))).trans (KeepsOthers.setCell _ ⟨w.heap.size + 1 + 1, 0, none⟩ (I 0)))
            have S3 := Lib.hid (S2.out.fix.less (M := (([.own 3 1 (.slice A2 xs.length c2) xs.length ((ofN xs).map I), .box (w.heap.size + 1 + 1) [I 0], .box (w.heap.size + 1) [.slice A2 xs.length c2]] : List Item) ++ Ds.map markI)) (List.Sublist.cons_cons _ (List.Sublist.cons _ (List.Sublist.cons_cons _ (List.Sublist.cons_cons _ (List.Sublist.cons _ (List.Sublist.refl _)))))))
            gi_wp2
            exact ⟨HKO.out.from _, Lib.hid rfl, xs, _, HX, S3⟩
          · have HI2 := Lib.hid (show ∀ x ∈ pre ++ [(.slice A (ofN xs).length c, xs)], badW t x.2 = false by
              intro x hx
              rcases List.mem_append.1 hx with hx | hx
              · exact h1.out x hx
              · rw [List.mem_singleton.1 hx, badW, hd2]; rfl)
            clear hd2
            gi_wp2
            exact ⟨(ko_below HB6.out).from _, KpC.below HB6.out, HI2, Lib.hid S.out.tail⟩
        case done =>
          rintro D ys W hD hys ⟨h1, h2⟩ hK
          have HX := Lib.hid (show clashTo t M (k + 1) = none by
            rw [clashTo, hno.out, ← hys]
            refine List.find?_eq_none.2 fun y hy => ?_
            obtain ⟨z, hz, rfl⟩ := List.mem_map.1 hy
            rw [h1.out z hz]
            simp)
          have S2 := Lib.hid ((h2.out.mark (by omega) hK (fun x hx b hb e => by have := HLT.out b (List.mem_filterMap.2 ⟨x, hx, hb⟩); omega)).perm (M := (([.box (w.heap.size + 1 + 1) [I 0], .box (w.heap.size + 1) [.slice none 0 0], .box w.heap.size [I t.wells, .slice A1 t.snd.length c1, .slice A2 t.slp.length c2]] : List Item) ++ (D :: Ds).map markI)) (List.perm_middle (l₁ := ([.box (w.heap.size + 1 + 1) [I 0], .box (w.heap.size + 1) [.slice none 0 0], .box w.heap.size [I t.wells, .slice A1 t.snd.length c1, .slice A2 t.slp.length c2]] : List Item))).symm)
          clear hys hK
          go_wp2_with fail
          refine ⟨⟨k + 1, D :: Ds, _, _, _, _, _, _, _, _, by omega, rfl, HX, S2⟩, ?_⟩
          first | (simp [intOf]; done) | (simp [intOf]; omega)
        case stop =>
          rintro D c pre W hD _ ⟨hc, x, v', h1, h2⟩ hK
          obtain rfl := hc.out
          have HE2 := Lib.hid (show clashP t = (x, 0) by
            rw [HE.out]
            have := clashTo_some h1.out (M - k)
            rw [show k + 1 + (M - k) = M + 1 by omega] at this
            rw [this])
          obtain ⟨A2, c2, rfl⟩ := own_shape (h2.out.own 0 rfl)
          have S2 := Lib.hid ((h2.out.mark (by omega) hK (fun y hy b hb e => by
            subst e
            rcases List.mem_append.1 hy with hy' | hy'
            · have hc := (h2.out.ok y hy).cells ((show ∀ z ∈ ([.own 3 1 (.slice A2 x.length c2) x.length ((ofN x).map I), .box (w.heap.size + 1 + 1) [I 0], .box (w.heap.size + 1) [.slice A2 x.length c2]] : List Item), z.cel by simp [Item.cel]) y hy') hb hK
              cases hc
            · have := HLT.out b (List.mem_filterMap.2 ⟨y, List.mem_append_right _ hy', hb⟩)
              omega)).perm (M := (([.own 3 1 (.slice A2 x.length c2) x.length ((ofN x).map I), .box (w.heap.size + 1 + 1) [I 0], .box (w.heap.size + 1) [.slice A2 x.length c2]] : List Item) ++ (D :: Ds).map markI)) (List.perm_middle (l₁ := ([.own 3 1 (.slice A2 x.length c2) x.length ((ofN x).map I), .box (w.heap.size + 1 + 1) [I 0], .box (w.heap.size + 1) [.slice A2 x.length c2]] : List Item))).symm)
          gi_wp2
          refine leaves_marks [.own 3 1 (.slice A2 x.length c2) x.length ((ofN x).map I), .box (w.heap.size + 1 + 1) [I 0], .box (w.heap.size + 1) [.slice A2 x.length c2]] (by simp [Item.cel]) (D :: Ds) W S2.out fun w' h' => ?_
          have r0 := h'.get 1 0 rfl rfl
          have r1 := h'.get 2 0 rfl rfl
          refine ⟨.tuple #[.slice A2 x.length c2, I 0], by simp [results, Try.results21, go_sem, r0, r1], .slice A2 x.length c2, by rw [HE2.out], ?_, h'.bel⟩
          rw [HE2.out]
          have hi := h'.ints 0 rfl
          exact hi
      · have HKM := Lib.hid (show k = M + 1 by omega)
        have hlti : ¬ (k : Int) < (M : Int) + 1 := by omega
        have HE2 := Lib.hid (show clashP t = ([], 3) by rw [HE.out, ← HKM.out, hno.out])
        have x0 := S.out.get 0 0 rfl rfl
        have x1 := S.out.get 1 0 rfl rfl
        have z0 := S.out.free 0 0 rfl
        have z1 := S.out.free 1 0 rfl
        have S := Lib.hid ((S.out.set 1 0 (.slice none 0 0) rfl).set 0 0 (I 3) rfl).fix
        go_wp2_with fail
        refine leaves_marks [.box (w.heap.size + 1 + 1) [I 3], .box (w.heap.size + 1) [.slice none 0 0], .box w.heap.size [I t.wells, .slice A1 t.snd.length c1, .slice A2 t.slp.length c2]] (by simp [Item.cel]) Ds _ S.out fun w' h' => ?_
        have r0 := h'.get 0 0 rfl rfl
        have r1 := h'.get 1 0 rfl rfl
        refine ⟨.tuple #[.slice none 0 0, I 3], by simp [results, Try.results21, go_sem, r0, r1], .slice none 0 0, by rw [HE2.out], ?_, h'.bel⟩
        rw [HE2.out]
        exact ints_nil _
    · have HC := Lib.hid (show chk t = 0 by simp [chk, h])
      have HE := Lib.hid (show clashP t = ([], 3) by simp [clashP, h, hd])
      have HV := Lib.hid (valid_iff'.1 h)
      have HD := Lib.hid hd
      clear h hd
      have q0 := S.out.get 2 0 rfl rfl
      have q1 := S.out.get 2 1 rfl rfl
      have q2 := S.out.get 2 2 rfl rfl
      refine calls_of_marks Try.func21 rfl ?_
      simp only [Try.ntmps21, List.size_toArray, List.length_cons, List.length_nil, Nat.reduceAdd, Nat.reduceSub, Array.replicate_succ, Array.replicate_zero, List.push_toArray, List.append_toArray, List.nil_append, List.cons_append]
      go_wp2_with fail
      clear q0 q1 q2
      refine (check_any _ t _ ⟨_, _, rfl, HSN.out.below S.out.bel, HSP.out.below S.out.bel⟩).mono ?_
      rintro e w1 ⟨rfl, hb⟩
      rw [HC.out]
      have S := Lib.hid (S.out.call hb)
      clear hb
      have q0 := S.out.get 2 0 rfl rfl
      have q1 := S.out.get 2 1 rfl rfl
      have q2 := S.out.get 2 2 rfl rfl
      go_wp2_with fail
      clear q0 q1 q2
      refine (saidAll_any _ t (fun _ => true) _ ⟨_, _, rfl, HSN.out.below S.out.bel, HSP.out.below S.out.bel⟩ HV.out.1 HV.out.2.1 HV.out.2.2 (all_tells _)).mono ?_
      rintro e w2 hr
      obtain ⟨B, rfl, -, -, hb⟩ := hr
      rw [sub_all, HD.out]
      have S := Lib.hid (S.out.call hb)
      clear hb
      have x0 := S.out.get 0 0 rfl rfl
      have x1 := S.out.get 1 0 rfl rfl
      have z0 := S.out.free 0 0 rfl
      have z1 := S.out.free 1 0 rfl
      have S := Lib.hid ((S.out.set 1 0 (.slice none 0 0) rfl).set 0 0 (I 3) rfl)
      go_wp2_with fail
      have r0 := S.out.get 0 0 rfl rfl
      have r1 := S.out.get 1 0 rfl rfl
      refine ⟨.tuple #[.slice none 0 0, I 3], by simp [results, Try.results21, go_sem, r0, r1], .slice none 0 0, by rw [HE.out], ?_, S.out.bel⟩
      rw [HE.out]
      exact ints_nil _

end Go.Proofs.Ytplbaijdnpfdgaa

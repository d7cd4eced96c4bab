/- Walk of Lack. -/
import Derived.Test.YtokendenofbnhaaW15
import Derived.Test.YtokendenofbnhaaPlainB
namespace Go.Proofs.Ytokendenofbnhaa
open Go.RowKit Go.Sort

def lackR (r : Ros) (res : (Int × Int) × Int) : Prop := if valid r = true then LackIs r res else res = ((0, 0), 80)
def roomTo (rm : List Int) (lo k : Nat) : Int := ((rm.drop lo).take k).sum
theorem roomTo_succ {rm : List Int} {lo k : Nat} (h : lo + k < rm.length) : roomTo rm lo (k + 1) = roomTo rm lo k + rm[lo + k] := by
  unfold roomTo
  rw [List.take_succ_eq_append_getElem (by rw [List.length_drop]; omega), List.sum_append, List.getElem_drop]
  simp
theorem roomTo_bd {rm : List Int} (hr : ∀ x ∈ rm, 0 ≤ x ∧ x ≤ 6) (lo : Nat) : ∀ k, lo + k ≤ rm.length → 0 ≤ roomTo rm lo k ∧ roomTo rm lo k ≤ 6 * k
  | 0, _ => by simp [roomTo]
  | k + 1, h => by
    have h1 := roomTo_bd hr lo k (by omega)
    have h2 := hr _ (List.getElem_mem (show lo + k < rm.length by omega))
    rw [roomTo_succ (by omega)]
    omega
def wantTo (ss : List Str) (lo hi : Int) (k : Nat) : Nat := wants (ss.take k) lo hi
theorem wantTo_succ {ss : List Str} {lo hi : Int} {k : Nat} (h : k < ss.length) : wantTo ss lo hi (k + 1) = wantTo ss lo hi k + if lo ≤ ss[k].frm ∧ ss[k].to ≤ hi then 1 else 0 := by
  unfold wantTo wants
  rw [List.take_succ_eq_append_getElem h, List.countP_append]
  by_cases e : lo ≤ ss[k].frm ∧ ss[k].to ≤ hi
  · rw [if_pos e]; simp [e.1, e.2]
  · rw [if_neg e]
    simp only [List.countP_cons, List.countP_nil, Nat.zero_add]
    rw [if_neg (by simpa using e)]
theorem wantTo_bd (ss : List Str) (lo hi : Int) (k : Nat) : wantTo ss lo hi k ≤ k := by
  unfold wantTo wants
  refine Nat.le_trans List.countP_le_length ?_
  rw [List.length_take]
  omega

set_option maxRecDepth 20000 in
set_option maxHeartbeats 8000000 in
theorem lack_any (v : Value) (r : Ros) (w : World) (hv : RosAt w v r) :
    Calls Try.prog 47 #[v] w fun e w' => (∃ res, lackR r res ∧ e = .returned (.tuple #[.agg #[I res.1.1, I res.1.2], I res.2])) ∧ Below w.heap.size w w' := by
  obtain ⟨rv, sv, rfl, hr, hs⟩ := hv
  obtain ⟨A1, c1, rfl, hr1, hr2, -⟩ := hr.open_
  obtain ⟨A2, c2, rfl, hs1, hs2, -⟩ := hs.open_
  have HR := Lib.hid hr
  have HS := Lib.hid hs
  obtain ⟨_, _, e, _, _, hrc⟩ := HR.out.open_
  injection e with e1 e2 e3
  subst e1
  have HRC := Lib.hid hrc
  clear hrc e2 e3
  obtain ⟨_, _, e, _, _, hsc⟩ := HS.out.open_
  injection e with e1 e2 e3
  subst e1
  have HSC := Lib.hid hsc
  clear hsc e2 e3
  clear hr hs
  have S := Lib.hid (show St w (w.alloc (.cells #[.slice A1 r.room.length c1, .slice A2 r.strs.length c2] 25)) (w.heap.size + 1) [.box w.heap.size [.slice A1 r.room.length c1, .slice A2 r.strs.length c2]] from (St.init w).alloc [.slice A1 r.room.length c1, .slice A2 r.strs.length c2] 25)
  have S := Lib.hid (S.out.alloc [I 0, I 0] 61)
  have q0 := S.out.get 1 0 rfl rfl
  have q1 := S.out.get 1 1 rfl rfl
  go_enter Try.func47, Try.ntmps47
  go_wp2_with fail
  clear q0 q1
  refine (check_any _ r _ ⟨_, _, rfl, HR.out.below S.out.bel, HS.out.below S.out.bel⟩).mono ?_
  rintro e w1 ⟨rfl, hb⟩
  have S := Lib.hid (S.out.call hb)
  clear hb
  by_cases hval : valid r = true
  · have hvd := valid_iff.1 hval
    have HVD := Lib.hid hvd
    have HLK := Lib.hid (show ∀ res, LackIs r res → lackR r res from fun res h => by unfold lackR; rw [if_pos hval]; exact h)
    rw [show chk r = 0 by unfold chk; rw [if_pos hval]]
    clear hval
    have hrl := hvd.rl
    have hsl := hvd.sl
    have q0 := S.out.get 1 0 rfl rfl
    have q1 := S.out.get 1 1 rfl rfl
    go_wp2_with fail
    clear q0 q1
    go_loopw [21] (fun i wr => ∃ hi : Nat, i = I hi ∧ hi ≤ r.room.length ∧ Hid (∀ y : Nat, y < hi → ∀ x : Nat, x ≤ y → lacksB r x y = false) ∧ Hid (St w wr wr.heap.size [.box (w.heap.size + 1) [I 0, I 0], .box w.heap.size [.slice A1 r.room.length c1, .slice A2 r.strs.length c2]])) (fun i _ => r.room.length - (intOf i).toNat)
    case atStart => exact ⟨0, rfl, by omega, Lib.hid (fun y h => absurd h (by omega)), Lib.hid S.out.fix⟩
    case round =>
      clear S
      obtain ⟨hi, rfl, hhi, HP, S⟩ := hrel
      by_cases hlt : hi < r.room.length
      · have hii : (hi : Int) < (r.room.length : Int) := by omega
        obtain ⟨b1, o1, rfl, hb1, hcell1⟩ := HRC.out (by omega)
        have HC1 := Lib.hid hcell1
        clear hcell1
        go_wp2_with fail
        obtain ⟨wo, rfl⟩ : ∃ wo : World, wo = wr := ⟨_, rfl⟩
        go_loopw [6] (fun u wr => ∃ lo : Int, u = I lo ∧ -1 ≤ lo ∧ lo ≤ (hi : Int) ∧ Hid (∀ x : Nat, lo < (x : Int) → x ≤ hi → lacksB r x hi = false) ∧ Hid (St w wr wr.heap.size [.box (w.heap.size + 1) [I 0, I 0], .box w.heap.size [.slice (some ⟨b1, o1, none⟩) r.room.length c1, .slice A2 r.strs.length c2]])) (fun u _ => (intOf u + 1).toNat)
        case atStart => exact ⟨hi, rfl, by omega, by omega, Lib.hid (fun x h1 h2 => absurd h1 (by omega)), S⟩
        case round =>
          clear S
          obtain ⟨lo, rfl, hlo1, hlo2, HB, S⟩ := hrel
          by_cases hge : 0 ≤ lo
          · obtain ⟨lo, rfl⟩ := Int.eq_ofNat_of_zero_le hge
            have hloi : (lo : Int) ≤ (hi : Int) := by omega
            have hlo0 : (0 : Int) ≤ (lo : Int) := by omega
            have hhi1 : IntKind.i64.wrap ((hi : Int) + 1) = ((hi + 1 : Nat) : Int) := by rw [IntWalk.i64_in _ (by omega)]; omega
            have hhc : ((hi + 1 : Nat) : Int) ≤ (c1 : Int) := by omega
            have hlh : (lo : Int) ≤ ((hi + 1 : Nat) : Int) := by omega
            obtain ⟨m, hm⟩ : ∃ m, hi + 1 - lo = m := ⟨_, rfl⟩
            have q0 := S.out.get 1 0 rfl rfl
            have q1 := S.out.get 1 1 rfl rfl
            go_wp2_with fail
            clear q0 q1
            obtain ⟨we, rfl⟩ : ∃ we : World, we = wr := ⟨_, rfl⟩
            go_loopw [7, 36] (fun n i wr => ∃ k : Nat, k ≤ m ∧ i = I k ∧ n = I (- roomTo r.room lo k) ∧ Hid (St w wr wr.heap.size [.box (w.heap.size + 1) [I 0, I 0], .box w.heap.size [.slice (some ⟨b1, o1, none⟩) r.room.length c1, .slice A2 r.strs.length c2]])) (fun _ i _ => m - (intOf i).toNat)
            case atStart => exact ⟨0, by omega, rfl, by simp [roomTo], S⟩
            case round =>
              clear S
              obtain ⟨k, hk, rfl, rfl, S⟩ := hrel
              have hbd := roomTo_bd HVD.out.rm lo k (by omega)
              by_cases hkm : k < m
              · have hki : (k : Int) < (m : Int) := by omega
                have y0 := HC1.out (lo + k) (by omega)
                obtain ⟨x, hx⟩ : ∃ x, r.room[lo + k]'(by omega) = x := ⟨_, rfl⟩
                have hxb := HVD.out.rm x (by rw [← hx]; exact List.getElem_mem _)
                have hsu := roomTo_succ (rm := r.room) (lo := lo) (k := k) (by omega)
                rw [hx] at y0 hsu
                rw [← Nat.add_assoc] at y0
                have y0 := keep_cell S.out.bel y0
                obtain ⟨z, hz⟩ : ∃ x, roomTo r.room lo k = x := ⟨_, rfl⟩
                rw [hz] at hbd hsu
                rw [hz]
                have hw : IntKind.i64.wrap (-z - x) = -(z + x) := by rw [IntWalk.i64_in _ (by omega)]; omega
                have HSU := Lib.hid hsu
                clear hz hx hsu
                go_wp2_with fail
                go_roundw
                case rel => exact ⟨k + 1, by omega, by go_num, by rw [HSU.out], S⟩
                case measure => first | (simp [intOf]; done) | (simp [intOf]; omega)
              · obtain rfl : k = m := by omega
                have q0 := S.out.get 1 0 rfl rfl
                have q1 := S.out.get 1 1 rfl rfl
                go_wp2_with fail
                clear q0 q1
                have hrm : roomTo r.room lo k = roomIn r.room lo hi := by unfold roomTo roomIn; rw [← hm]
                rw [hrm] at hbd
                obtain ⟨z, hz⟩ : ∃ x, roomIn r.room lo hi = x := ⟨_, rfl⟩
                rw [hz] at hbd
                rw [hrm, hz]
                have HZ := Lib.hid hz
                clear hrm hz
                obtain ⟨wf, rfl⟩ : ∃ wf : World, wf = wr := ⟨_, rfl⟩
                go_loopw [7, 47] (fun n i wr => ∃ j : Nat, j ≤ r.strs.length ∧ i = I j ∧ n = I (- z + (wantTo r.strs lo hi j : Int)) ∧ Hid (St w wr wr.heap.size [.box (w.heap.size + 1) [I 0, I 0], .box w.heap.size [.slice (some ⟨b1, o1, none⟩) r.room.length c1, .slice A2 r.strs.length c2]])) (fun _ i _ => r.strs.length - (intOf i).toNat)
                case atStart => exact ⟨0, by omega, rfl, by simp [wantTo, wants], S⟩
                case round =>
                  clear S
                  obtain ⟨j, hj, rfl, rfl, S⟩ := hrel
                  have hwb := wantTo_bd r.strs lo hi j
                  by_cases hjl : j < r.strs.length
                  · have hji : (j : Int) < (r.strs.length : Int) := by omega
                    obtain ⟨b2, o2, rfl, hb2, hcell2⟩ := HSC.out (by omega)
                    obtain ⟨y0, y1, y2, y3⟩ := hcell2 j hjl
                    clear hcell2 hb2
                    have hsu := wantTo_succ (ss := r.strs) (lo := lo) (hi := hi) hjl
                    obtain ⟨s, hs⟩ : ∃ s, r.strs[j] = s := ⟨_, rfl⟩
                    rw [hs] at y0 y1 y2 y3 hsu
                    clear hs
                    have y0 := keep_cell S.out.bel y0
                    have y1 := keep_cell S.out.bel y1
                    have y2 := keep_cell S.out.bel y2
                    have y3 := keep_cell S.out.bel y3
                    obtain ⟨u, hu⟩ : ∃ x, wantTo r.strs lo hi j = x := ⟨_, rfl⟩
                    rw [hu] at hwb hsu
                    rw [hu]
                    have HSU := Lib.hid hsu
                    clear hu hsu
                    have S := Lib.hid (S.out.alloc [I s.has, I s.frm, I s.to, I s.cost] 33)
                    have z1 := S.out.get 0 1 rfl rfl
                    have z2 := S.out.get 0 2 rfl rfl
                    have hw : IntKind.i64.wrap (-z + (u : Int) + 1) = -z + ((u + 1 : Nat) : Int) := by rw [IntWalk.i64_in _ (by omega)]; omega
                    by_cases hA : (lo : Int) ≤ s.frm
                    · by_cases hB : s.to ≤ (hi : Int)
                      · go_wp2_with fail
                        go_roundw
                        case rel => exact ⟨j + 1, by omega, by go_num, by rw [HSU.out, if_pos ⟨hA, hB⟩, Int.natCast_add]; rfl, Lib.hid S.out.tail.fix⟩
                        case measure => first | (simp [intOf]; done) | (simp [intOf]; omega)
                      · go_wp2_with fail
                        go_roundw
                        case rel => exact ⟨j + 1, by omega, by go_num, by rw [HSU.out, if_neg (fun h => hB h.2), Nat.add_zero], Lib.hid S.out.tail.fix⟩
                        case measure => first | (simp [intOf]; done) | (simp [intOf]; omega)
                    · go_wp2_with fail
                      go_roundw
                      case rel => exact ⟨j + 1, by omega, by go_num, by rw [HSU.out, if_neg (fun h => hA h.1), Nat.add_zero], Lib.hid S.out.tail.fix⟩
                      case measure => first | (simp [intOf]; done) | (simp [intOf]; omega)
                  · obtain rfl : j = r.strs.length := by omega
                    obtain ⟨u, hu⟩ : ∃ x, wantTo r.strs lo hi r.strs.length = x := ⟨_, rfl⟩
                    have hwu : wants r.strs lo hi = u := by rw [← hu]; unfold wantTo; rw [List.take_length]
                    rw [hu]
                    clear hu hwb
                    by_cases hpos : 0 < -z + (u : Int)
                    · have HL := Lib.hid (show lacksB r lo hi = true by unfold lacksB; rw [hwu, HZ.out, decide_eq_true_eq]; omega)
                      clear hwu
                      have S2 := (S.out.set 0 0 (I (lo : Int)) rfl).set 0 1 (I (hi : Int)) rfl
                      have u0 := S.out.get 0 0 rfl rfl
                      have u1 := S.out.get 0 1 rfl rfl
                      have u2 := S.out.free 0 0 rfl
                      have u3 := S.out.free 0 1 rfl
                      have r0 := S2.get 0 0 rfl rfl
                      have r1 := S2.get 0 1 rfl rfl
                      go_wp2_with fail
                      refine bodyPost_ret (v := .tuple #[.agg #[I (lo : Int), I (hi : Int)], I (0)]) (by simp [results, Try.results47, go_sem, r0, r1]) rfl ⟨⟨(((lo : Int), (hi : Int)), 0), HLK.out _ (.inl ⟨lo, hi, by omega, hlt, rfl, HL.out, fun x h1 h2 => HB.out x (by omega) h2, HP.out⟩), rfl⟩, S2.bel⟩
                    · have HL := Lib.hid (show lacksB r lo hi = false by unfold lacksB; rw [hwu, HZ.out, decide_eq_false_iff_not]; omega)
                      clear hwu
                      go_wp2_with fail
                      go_roundw
                      case rel => exact ⟨(lo : Int) - 1, by go_num, by omega, by omega, Lib.hid (fun x h1 h2 => by
                        by_cases e : x = lo
                        · subst e; exact HL.out
                        · exact HB.out x (by omega) h2), S⟩
                      case measure => first | (simp [intOf]; done) | (simp [intOf]; omega)
          · go_wp2_with fail
            go_roundw
            case rel => exact ⟨hi + 1, by go_num, by omega, Lib.hid (fun y h1 x h2 => by
              rcases Nat.lt_or_ge y hi with h | h
              · exact HP.out y h x h2
              · obtain rfl : y = hi := by omega
                exact HB.out x (by omega) h2), S⟩
            case measure => first | (simp [intOf]; done) | (simp [intOf]; omega)
      · obtain rfl : hi = r.room.length := by omega
        have S2 := (S.out.set 0 0 (I 0) rfl).set 0 1 (I 0) rfl
        have u0 := S.out.get 0 0 rfl rfl
        have u1 := S.out.get 0 1 rfl rfl
        have u2 := S.out.free 0 0 rfl
        have u3 := S.out.free 0 1 rfl
        have r0 := S2.get 0 0 rfl rfl
        have r1 := S2.get 0 1 rfl rfl
        go_wp2_with fail
        refine bodyPost_ret (v := .tuple #[.agg #[I 0, I 0], I (3)]) (by simp [results, Try.results47, go_sem, r0, r1]) rfl ⟨⟨((0, 0), 3), HLK.out _ (.inr ⟨rfl, HP.out⟩), rfl⟩, S2.bel⟩
  · have HLK := Lib.hid (show lackR r ((0, 0), 80) by unfold lackR; rw [if_neg hval])
    rw [show chk r = 80 by unfold chk; rw [if_neg hval]]
    have S2 := (S.out.set 0 0 (I 0) rfl).set 0 1 (I 0) rfl
    have u0 := S.out.get 0 0 rfl rfl
    have u1 := S.out.get 0 1 rfl rfl
    have u2 := S.out.free 0 0 rfl
    have u3 := S.out.free 0 1 rfl
    have r0 := S2.get 0 0 rfl rfl
    have r1 := S2.get 0 1 rfl rfl
    go_wp2_with fail
    refine bodyPost_ret (v := .tuple #[.agg #[I 0, I 0], I (80)]) (by simp [results, Try.results47, go_sem, r0, r1]) rfl ⟨⟨((0, 0), 80), HLK.out, rfl⟩, S2.bel⟩

end Go.Proofs.Ytokendenofbnhaa

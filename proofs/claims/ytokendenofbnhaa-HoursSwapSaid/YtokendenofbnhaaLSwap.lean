/- HoursSwap: the law walked. -/
import Derived.Test.YtokendenofbnhaaW22
import Derived.Test.YtokendenofbnhaaW24
import Derived.Test.YtokendenofbnhaaW34
import Derived.Test.YtokendenofbnhaaW28
namespace Go.Proofs.Ytokendenofbnhaa
open Go.RowKit Go.Sort

theorem lackR_uniq {r : Ros} {a b : (Int × Int) × Int} (ha : lackR r a) (hb : lackR r b) : a = b := by
  unfold lackR at ha hb
  by_cases h : valid r = true
  · rw [if_pos h] at ha hb
    exact LackIs.eq (r := r) (o := r) rfl (fun _ _ _ _ => rfl) ha hb
  · rw [if_neg h] at ha hb
    rw [ha, hb]
theorem swapR_uniq {r : Ros} {l : List Int} {a b : (Int × Int) × Int} (ha : swapR r l a) (hb : swapR r l b) : a = b := by
  unfold swapR at ha hb
  by_cases h : givenE r l = 0
  · rw [if_pos h] at ha hb
    exact ha.uniq hb
  · rw [if_neg h] at ha hb
    rw [ha, hb]

set_option maxRecDepth 20000 in
set_option maxHeartbeats 4000000 in
theorem lawSwap_any (v : Value) (r : Ros) (v2 : Value) (l : List Int) (h : Int) (w : World) (hv : RosAt w v r) (hl : Ints w v2 l) :
    Calls Try.prog 12 #[v, v2, I h] w fun e w' => e = .returned (.bool true) ∧ Below w.heap.size w w' := by
  obtain ⟨i0, hi, hz0, hz1, hz2⟩ := info_parts Try.info3
  obtain ⟨rv, sv, rfl, hr, hs⟩ := hv
  obtain ⟨A1, c1, rfl, hr1, hr2, -⟩ := hr.open_
  obtain ⟨A2, c2, rfl, hs1, hs2, -⟩ := hs.open_
  have HR := Lib.hid hr
  have HS := Lib.hid hs
  clear hr hs
  have S := Lib.hid (show St w (w.alloc (.cells #[.slice A1 r.room.length c1, .slice A2 r.strs.length c2] 25)) (w.heap.size + 1) [.box w.heap.size [.slice A1 r.room.length c1, .slice A2 r.strs.length c2]] from (St.init w).alloc [.slice A1 r.room.length c1, .slice A2 r.strs.length c2] 25)
  obtain ⟨Al, cl, rfl, hl1, hl2, -⟩ := id hl.open_
  have HL := Lib.hid hl
  clear hl
  have q0 := S.out.get 0 0 rfl rfl
  have q1 := S.out.get 0 1 rfl rfl
  go_enter Try.func12, Try.ntmps12
  go_wp2_with fail
  clear q0 q1
  refine (lFar_any _ r _ ⟨_, _, rfl, HR.out.below S.out.bel, HS.out.below S.out.bel⟩).mono ?_
  rintro e w1 ⟨⟨bb, rfl, hok⟩, hb⟩
  have S := Lib.hid (S.out.call hb)
  clear hb
  cases bb
  · obtain ⟨hrl, hsl⟩ := hok rfl
    clear hok
    by_cases hl40 : 40 < l.length
    · have hl40' : (40 : Int) < (l.length : Int) := by omega
      go_wp2_with fail
      refine (works_any _).mono ?_
      rintro e w2 ⟨rfl, hb⟩
      have S := Lib.hid (S.out.call hb)
      clear hb
      go_wp2_with fail
      go_ret
      exact ⟨rfl, S.out.bel⟩
    · have hl40' : ¬ (40 : Int) < (l.length : Int) := by omega
      have hlen : l.length ≤ 1000 := by omega
      have q0 := S.out.get 0 0 rfl rfl
      have q1 := S.out.get 0 1 rfl rfl
      have HGN := fun (wx : World) => heap_alloc_new wx (.cells #[] 3)
      have HGN := Lib.hid HGN
      go_wp2_with fail
      clear q0 q1
      refine (copy_any _ r _ ⟨_, _, rfl, HR.out.below S.out.bel, HS.out.below S.out.bel⟩ (by omega) (by omega)).mono ?_
      rintro e w3 ⟨v', rfl, ⟨rv', sv', rfl, ho1, ho2⟩, hb⟩
      obtain ⟨Ax, cx, rfl⟩ := own_shape ho1
      obtain ⟨Ay, cy, rfl⟩ := own_shape ho2
      have S := Lib.hid (S.out.take2 hb ho1 ho2 (by decide))
      clear hb ho1 ho2
      have HB := Lib.hid ((Below.refl w3.heap.size w3).alloc (Nat.le_refl _) (.cells #[] 3))
      go_wp2_with (at_builtin; refine wpList_plain rfl fun K hK => ?_; refine wp_append_fresh _ (.tmp 31) (.tmp 32) 22 rfl w3.heap.size 3 i0 (.int .i64 0) 1 8 Try.underlying22 hi hz0 hz1 hz2 rfl (by omega) w3.heap.size rfl (HGN.out w3) (Nat.le_refl _) _ l.length (l.map I) rfl (HL.out.below (bto S.out.bel HB.out)) (ints_one l) (by simp only [maxLen]; omega) (by omega) HB.out.size ?_; intro v1 w4 hown hb; have HB2 := Lib.hid (bto HB.out hb); obtain ⟨Al2, cl2, rfl⟩ := own_shape hown; have S := Lib.hid (S.out.take HB2.out hown); refine hK _ _ ?_; clear hb hown hK; have S := Lib.hid (S.out.alloc [.slice Ax r.room.length cx, .slice Ay r.strs.length cy] 25); have p0 := S.out.get 0 0 rfl rfl; have p1 := S.out.get 0 1 rfl rfl; have q0 := S.out.get 4 0 rfl rfl; have q1 := S.out.get 4 1 rfl rfl)
      clear p0 p1 q0 q1
      refine (lack_any _ r _ ⟨_, _, rfl, S.out.ints 2 rfl, S.out.row 3 rfl⟩).mono ?_
      rintro e wa1 ⟨⟨res1, hr1, rfl⟩, hb⟩
      have HR1 := Lib.hid hr1
      have S := Lib.hid (S.out.call hb)
      clear hb
      clear hr1
      have S := Lib.hid (S.out.alloc [I res1.1.1, I res1.1.2] 61)
      have q0 := S.out.get 5 0 rfl rfl
      have q1 := S.out.get 5 1 rfl rfl
      go_wp2_with fail
      clear q0 q1
      refine (rLack_any _ r _ ⟨_, _, rfl, HR.out.below S.out.bel, HS.out.below S.out.bel⟩).mono ?_
      rintro e wb1 ⟨⟨res1b, hr2, rfl⟩, hb⟩
      obtain rfl := lackR_uniq HR1.out hr2
      have S := Lib.hid (S.out.call hb)
      clear hb
      clear hr2
      have S := Lib.hid (S.out.alloc [I res1.1.1, I res1.1.2] 61)
      have p0 := S.out.get 2 0 rfl rfl
      have p1 := S.out.get 2 1 rfl rfl
      go_wp2_with fail
      clear p0 p1
      refine (swap_any _ _ r l _ ⟨_, _, rfl, S.out.ints 4 rfl, S.out.row 5 rfl⟩ (S.out.ints 3 rfl) hlen).mono ?_
      rintro e wa2 ⟨⟨res2, hr1, rfl⟩, hb⟩
      have HR2 := Lib.hid hr1
      have S := Lib.hid (S.out.call hb)
      clear hb
      clear hr1
      have S := Lib.hid (S.out.alloc [I res2.1.1, I res2.1.2] 41)
      have q0 := S.out.get 7 0 rfl rfl
      have q1 := S.out.get 7 1 rfl rfl
      go_wp2_with fail
      clear q0 q1
      refine (rSwap_any _ _ r l _ ⟨_, _, rfl, HR.out.below S.out.bel, HS.out.below S.out.bel⟩ (HL.out.below S.out.bel) hlen).mono ?_
      rintro e wb2 ⟨⟨res2b, hr2, rfl⟩, hb⟩
      obtain rfl := swapR_uniq HR2.out hr2
      have S := Lib.hid (S.out.call hb)
      clear hb
      clear hr2
      have S := Lib.hid (S.out.alloc [I res2.1.1, I res2.1.2] 41)
      have p0 := S.out.get 4 0 rfl rfl
      have p1 := S.out.get 4 1 rfl rfl
      go_wp2_with fail
      clear p0 p1
      refine (give_any _ r _ _ ⟨_, _, rfl, S.out.ints 6 rfl, S.out.row 7 rfl⟩).mono ?_
      rintro e wa3 ⟨rfl, hb⟩
      obtain ⟨⟨x3, y3⟩, hx⟩ : ∃ x, giveR r h = x := ⟨_, rfl⟩
      rw [hx]
      have HX3 := Lib.hid hx
      clear hx
      have S := Lib.hid (S.out.call hb)
      clear hb
      have q0 := S.out.get 8 0 rfl rfl
      have q1 := S.out.get 8 1 rfl rfl
      go_wp2_with fail
      clear q0 q1
      refine (rGive_any _ r _ _ ⟨_, _, rfl, HR.out.below S.out.bel, HS.out.below S.out.bel⟩).mono ?_
      rintro e wb3 ⟨rfl, hb⟩
      rw [HX3.out]
      have S := Lib.hid (S.out.call hb)
      clear hb
      have b0 := S.out.get 0 0 rfl rfl
      have b1 := S.out.get 0 1 rfl rfl
      have b2 := S.out.get 1 0 rfl rfl
      have b3 := S.out.get 1 1 rfl rfl
      have b4 := S.out.get 2 0 rfl rfl
      have b5 := S.out.get 2 1 rfl rfl
      have b6 := S.out.get 3 0 rfl rfl
      have b7 := S.out.get 3 1 rfl rfl
      have p0 := S.out.get 4 0 rfl rfl
      have p1 := S.out.get 4 1 rfl rfl
      have q0 := S.out.get 8 0 rfl rfl
      have q1 := S.out.get 8 1 rfl rfl
      go_wp2_with fail
      clear p0 p1 q0 q1 b0 b1 b2 b3 b4 b5 b6 b7
      refine (sameR_any _ _ r _ ⟨_, _, rfl, S.out.ints 6 rfl, S.out.row 7 rfl⟩ ⟨_, _, rfl, HR.out.below S.out.bel, HS.out.below S.out.bel⟩ (by omega)).mono ?_
      rintro e w15 ⟨rfl, hb⟩
      have S := Lib.hid (S.out.call hb)
      clear hb
      go_wp2_with fail
      refine (same_any _ _ l l _ (S.out.ints 5 rfl) (HL.out.below S.out.bel) hlen hlen).mono ?_
      rintro e w16 ⟨rfl, hb⟩
      rw [show decide (l = l) = true by simp]
      have S := Lib.hid (S.out.call hb)
      clear hb
      go_wp2_with fail
      refine (works_any _).mono ?_
      rintro e w17 ⟨rfl, hb⟩
      have S := Lib.hid (S.out.call hb)
      clear hb
      go_wp2_with fail
      go_ret
      exact ⟨rfl, S.out.bel⟩
  · clear hok
    go_wp2_with fail
    refine (works_any _).mono ?_
    rintro e w2 ⟨rfl, hb⟩
    have S := Lib.hid (S.out.call hb)
    clear hb
    go_wp2_with fail
    go_ret
    exact ⟨rfl, S.out.bel⟩

end Go.Proofs.Ytokendenofbnhaa

/- Walks: all, words, open, Level, Differ, Higher. -/
import Derived.Test.YtplbaijdnpfdgaaW5
namespace Go.Proofs.Ytplbaijdnpfdgaa
open Go.RowKit Go.Sort

theorem all_tells (w : World) : TellsAll w (fun _ => true) := by
  intro W n hn hb
  go_enter Try.func69, Try.ntmps69
  go_wp2_with fail
  go_ret
  exact ⟨rfl, Below.refl _ _⟩
def openE (t : Twn) (is : Bool) : Int := if valid t then (if is then (if diagOk (closeM (baseM t)) then 0 else 3) else 1) else 10
theorem openE_zero' {t : Twn} {is : Bool} (h : openE t is = 0) : valid t = true ∧ is = true ∧ diagOk (closeM (baseM t)) = true := by
  unfold openE at h
  split at h
  · rename_i h1
    split at h
    · rename_i h2
      split at h
      · rename_i h3
        exact ⟨h1, h2, h3⟩
      · omega
    · omega
  · omega
theorem openE_zero {t : Twn} {is : Bool} (h : openE t is = 0) : Vl t ∧ is = true ∧ diagOk (closeM (baseM t)) = true := ⟨valid_vl (openE_zero' h).1, (openE_zero' h).2⟩
set_option maxRecDepth 20000 in
set_option maxHeartbeats 1000000 in
theorem words_any (v : Value) (t : Twn) (w : World) (hv : TwnAt w v t) (hl1 : t.snd.length ≤ 1000) (hl2 : t.slp.length ≤ 1000) :
    Calls Try.prog 70 #[v] w fun e w' => e = .returned (I ((t.snd.length + t.slp.length : Nat) : Int)) ∧ Below w.heap.size w w' := by
  obtain ⟨sv, pv, rfl, hs, hp⟩ := hv
  have HSN := Lib.hid hs
  have HSP := Lib.hid hp
  obtain ⟨A1, c1, rfl, -, -, -⟩ := id hs.open_
  obtain ⟨A2, c2, rfl, -, -, -⟩ := id hp.open_
  clear hs hp
  have S := Lib.hid (show St w (w.alloc (.cells #[I t.wells, .slice A1 t.snd.length c1, .slice A2 t.slp.length c2] 25)) (w.heap.size + 1) [.box w.heap.size [I t.wells, .slice A1 t.snd.length c1, .slice A2 t.slp.length c2]] from (St.init w).alloc [I t.wells, .slice A1 t.snd.length c1, .slice A2 t.slp.length c2] 25)
  have q0 := S.out.get 0 0 rfl rfl
  have q1 := S.out.get 0 1 rfl rfl
  have q2 := S.out.get 0 2 rfl rfl
  go_enter Try.func70, Try.ntmps70
  go_wp2_with fail
  go_ret
  exact ⟨rfl, S.out.bel⟩

set_option maxRecDepth 20000 in
set_option maxHeartbeats 4000000 in
theorem open_no (v : Value) (t : Twn) (is : Bool) (w : World) (hv : TwnAt w v t) (hne : openE t is ≠ 0) :
    Calls Try.prog 76 #[v, .bool is] w fun e w' => e = .returned (.tuple #[.pointer none, I (openE t is)]) ∧ Below w.heap.size w w' := by
  obtain ⟨sv, pv, rfl, hs, hp⟩ := hv
  have HSN := Lib.hid hs
  have HSP := Lib.hid hp
  obtain ⟨A1, c1, rfl, -, -, -⟩ := id hs.open_
  obtain ⟨A2, c2, rfl, -, -, -⟩ := id hp.open_
  clear hs hp
  have S := Lib.hid (show St w (w.alloc (.cells #[I t.wells, .slice A1 t.snd.length c1, .slice A2 t.slp.length c2] 25)) (w.heap.size + 1) [.box w.heap.size [I t.wells, .slice A1 t.snd.length c1, .slice A2 t.slp.length c2]] from (St.init w).alloc [I t.wells, .slice A1 t.snd.length c1, .slice A2 t.slp.length c2] 25)
  have q0 := S.out.get 0 0 rfl rfl
  have q1 := S.out.get 0 1 rfl rfl
  have q2 := S.out.get 0 2 rfl rfl
  cases h : valid t
  · have HC := Lib.hid (show chk t = 10 by simp [chk, h])
    have HE := Lib.hid (show openE t is = 10 by simp [openE, h])
    clear h hne
    go_enter Try.func76, Try.ntmps76
    go_wp2_with fail
    clear q0 q1 q2
    refine (check_any _ t _ ⟨_, _, rfl, HSN.out.below S.out.bel, HSP.out.below S.out.bel⟩).mono ?_
    rintro e w1 ⟨rfl, hb⟩
    rw [HC.out]
    have S := Lib.hid (S.out.call hb)
    clear hb
    have q0 := S.out.get 0 0 rfl rfl
    have q1 := S.out.get 0 1 rfl rfl
    have q2 := S.out.get 0 2 rfl rfl
    go_wp2_with fail
    go_ret2
    exact ⟨by rw [HE.out]; rfl, S.out.bel⟩
  · have HC := Lib.hid (show chk t = 0 by simp [chk, h])
    cases is
    · have HE := Lib.hid (show openE t false = 1 by simp [openE, h])
      clear h hne
      go_enter Try.func76, Try.ntmps76
      go_wp2_with fail
      clear q0 q1 q2
      refine (check_any _ t _ ⟨_, _, rfl, HSN.out.below S.out.bel, HSP.out.below S.out.bel⟩).mono ?_
      rintro e w1 ⟨rfl, hb⟩
      rw [HC.out]
      have S := Lib.hid (S.out.call hb)
      clear hb
      have q0 := S.out.get 0 0 rfl rfl
      have q1 := S.out.get 0 1 rfl rfl
      have q2 := S.out.get 0 2 rfl rfl
      go_wp2_with fail
      go_ret2
      exact ⟨by rw [HE.out]; rfl, S.out.bel⟩
    · cases hd : diagOk (closeM (baseM t))
      · have HE := Lib.hid (show openE t true = 3 by simp [openE, h, hd])
        have HV := Lib.hid (valid_iff'.1 h)
        have HD := Lib.hid hd
        clear h hne hd
        go_enter Try.func76, Try.ntmps76
        go_wp2_with fail
        clear q0 q1 q2
        refine (check_any _ t _ ⟨_, _, rfl, HSN.out.below S.out.bel, HSP.out.below S.out.bel⟩).mono ?_
        rintro e w1 ⟨rfl, hb⟩
        rw [HC.out]
        have S := Lib.hid (S.out.call hb)
        clear hb
        have q0 := S.out.get 0 0 rfl rfl
        have q1 := S.out.get 0 1 rfl rfl
        have q2 := S.out.get 0 2 rfl rfl
        go_wp2_with fail
        clear q0 q1 q2
        refine (saidAll_any _ t (fun _ => true) _ ⟨_, _, rfl, HSN.out.below S.out.bel, HSP.out.below S.out.bel⟩ HV.out.1 HV.out.2.1 HV.out.2.2 (all_tells _)).mono ?_
        rintro e w2 hr
        obtain ⟨B, rfl, hB, hm, hb⟩ := hr
        have hB := Lib.hid hB
        rw [sub_all] at hm ⊢
        rw [HD.out]
        have S := Lib.hid (S.out.takeM hb hB.out hm)
        clear hb hm
        go_wp2_with fail
        go_ret2
        exact ⟨by rw [HE.out]; rfl, S.out.bel⟩
      · exact absurd (by simp [openE, h, hd]) hne

/-- The closed bounds of a town, in new memory. -/
def RetOpen (t : Twn) (w : World) (e : Ending) (w' : World) : Prop := ∃ B, e = .returned (.tuple #[.pointer (some ⟨B, 0, none⟩), I 0]) ∧ w.heap.size ≤ B ∧ MatAt w' B (closeM (baseM t)) ∧ Below w.heap.size w w'

set_option maxRecDepth 20000 in
set_option maxHeartbeats 4000000 in
theorem open_yes (v : Value) (t : Twn) (is : Bool) (w : World) (hv : TwnAt w v t) (he : openE t is = 0) :
    Calls Try.prog 76 #[v, .bool is] w fun e w' => RetOpen t w e w' := by
  obtain ⟨sv, pv, rfl, hs, hp⟩ := hv
  have HSN := Lib.hid hs
  have HSP := Lib.hid hp
  obtain ⟨A1, c1, rfl, -, -, -⟩ := id hs.open_
  obtain ⟨A2, c2, rfl, -, -, -⟩ := id hp.open_
  clear hs hp
  have S := Lib.hid (show St w (w.alloc (.cells #[I t.wells, .slice A1 t.snd.length c1, .slice A2 t.slp.length c2] 25)) (w.heap.size + 1) [.box w.heap.size [I t.wells, .slice A1 t.snd.length c1, .slice A2 t.slp.length c2]] from (St.init w).alloc [I t.wells, .slice A1 t.snd.length c1, .slice A2 t.slp.length c2] 25)
  have q0 := S.out.get 0 0 rfl rfl
  have q1 := S.out.get 0 1 rfl rfl
  have q2 := S.out.get 0 2 rfl rfl
  obtain ⟨hvl, rfl, hd⟩ := openE_zero' he
  have HC := Lib.hid (show chk t = 0 by simp [chk, hvl])
  have HV := Lib.hid (valid_iff'.1 hvl)
  have HD := Lib.hid hd
  clear he hvl hd
  go_enter Try.func76, Try.ntmps76
  go_wp2_with fail
  clear q0 q1 q2
  refine (check_any _ t _ ⟨_, _, rfl, HSN.out.below S.out.bel, HSP.out.below S.out.bel⟩).mono ?_
  rintro e w1 ⟨rfl, hb⟩
  rw [HC.out]
  have S := Lib.hid (S.out.call hb)
  clear hb
  have q0 := S.out.get 0 0 rfl rfl
  have q1 := S.out.get 0 1 rfl rfl
  have q2 := S.out.get 0 2 rfl rfl
  go_wp2_with fail
  clear q0 q1 q2
  refine (saidAll_any _ t (fun _ => true) _ ⟨_, _, rfl, HSN.out.below S.out.bel, HSP.out.below S.out.bel⟩ HV.out.1 HV.out.2.1 HV.out.2.2 (all_tells _)).mono ?_
  rintro e w2 hr
  obtain ⟨B, rfl, hB, hm, hb⟩ := hr
  have hB := Lib.hid hB
  rw [sub_all] at hm ⊢
  rw [HD.out]
  have HB2 := Lib.hid (Nat.le_trans S.out.bel.size hB.out)
  have S := Lib.hid (S.out.takeM hb hB.out hm)
  clear hb hm
  go_wp2_with fail
  go_ret2
  exact ⟨B, rfl, HB2.out, S.out.mat 0 rfl, S.out.bel⟩

end Go.Proofs.Ytplbaijdnpfdgaa

/- The law TopGated walked. -/
import Derived.Test.YtldcehhhndlhdaaC16
import Derived.Test.YtldcehhhndlhdaaC12
import Derived.Test.YtldcehhhndlhdaaC13
import Derived.Test.YtldcehhhndlhdaaC15
import Derived.Test.YtldcehhhndlhdaaC14
import Derived.Test.YtldcehhhndlhdaaC17
import Derived.Test.YtldcehhhndlhdaaC7
namespace Go.Proofs.Ytldcehhhndlhdaa
open Go.RowKit Go.Sort Go.Shelf

theorem own_at2 {w : World} {B e s n g cap : Nat} {xs : List Value} (h : w.ownsRow B e s (.slice (some ⟨g, 0, none⟩) n cap) n xs) {i : Nat} {v : Value} (hx : xs[i]? = some v) : w.cell? ⟨g, i, none⟩ = some v := by
  obtain ⟨h1, A, c, h2, _, _, h5⟩ := Reads.of_own h
  injection h2 with h2 _ _
  subst h2
  have hl := (List.getElem?_eq_some_iff.1 hx).1
  have hn : 0 < n := by
    rw [h1] at hl
    exact Nat.pos_of_ne_zero fun e => by rw [e, Nat.zero_mul] at hl; omega
  obtain ⟨b, o, e, h6⟩ := h5 hn
  injection e with e
  injection e with e1 e2 _
  subst e1
  subst e2
  have := h6 i v hx
  rwa [Nat.zero_add] at this
/-- The width of a row, read in memory. -/
def rowW (w : World) (g N : Nat) : Int := ((List.range N).map fun i => intOf ((w.cell? ⟨g, i * 2 + 1, none⟩).getD undef) - intOf ((w.cell? ⟨g, i * 2, none⟩).getD undef)).sum
theorem St.take2 {w0 w w' : World} {n : Nat} {L : List Item} (h : St w0 w n L) (hb : Below w.heap.size w w') {e e' s s' m m' : Nat} {v v' : Value} {xs xs' : List Value} (ho : w'.ownsRow w.heap.size e s v m xs) (ho' : w'.ownsRow w.heap.size e' s' v' m' xs') (hne : e ≠ e') : St w0 w' w'.heap.size (.own e s v m xs :: .own e' s' v' m' xs' :: L) := by
  have h1 := h.take hb ho'
  refine ⟨rfl, h1.bel, fun x hx => ?_, ?_⟩
  · rcases List.mem_cons.1 hx with hx | hx
    · rw [hx]; exact own_base' ho h.bel.size
    · exact h1.ok x hx
  · rw [List.filterMap_cons]
    split
    · exact h1.apart
    · rename_i b hb'
      refine List.nodup_cons.2 ⟨fun hm => ?_, h1.apart⟩
      rw [List.filterMap_cons] at hm
      split at hm
      · have h3 := (ho.lt b hb').1
        have h4 := (h.lt_of hm).2
        have := h.size
        omega
      · rename_i c hc
        rcases List.mem_cons.1 hm with rfl | hm
        · exact own_ne ho ho' hne hb' hc
        · have h3 := (ho.lt b hb').1
          have h4 := (h.lt_of hm).2
          have := h.size
          omega
/-- What flows past the last point. -/
theorem last_flow {d : DLine} (h : valid d = true) (hc : calm d.pts) (h40 : (d.pts.getD d.odds.length default).hi ≤ 40) :
    ∃ lo hi : Nat, flowR d d.odds.length = (((lo : Int), (hi : Int)), 0) ∧ lo ≤ hi ∧ hi ≤ 40 ∧ flowAt d d.odds.length = ((lo : Int), (hi : Int)) := by
  have hl := (valid_spec h).2.1
  have hq : d.odds.length < d.pts.length := by omega
  have h1 := flowR_ok h hc _ hq
  have h2 := calm_flow h hc _ hq
  have h3 := (hiPre_all d.pts (d.odds.length + 1) (by omega) _).1 (Int.le_refl _)
  have h4 := h3.2 d.odds.length (by omega)
  have h5 := (loSuf_le d.pts d.odds.length (by omega) _).1 (Int.le_refl _)
  obtain ⟨lo, e1⟩ := Int.eq_ofNat_of_zero_le h5.1
  obtain ⟨hi, e2⟩ := Int.eq_ofNat_of_zero_le (show 0 ≤ hiPre d.pts (d.odds.length + 1) by omega)
  have e3 : flowAt d d.odds.length = ((lo : Int), (hi : Int)) := by
    show (loSuf d.pts d.odds.length, hiPre d.pts (d.odds.length + 1)) = _
    rw [e1, e2]
  exact ⟨lo, hi, by rw [h1, e3], by omega, by omega, e3⟩
theorem betM_at {b : MBox} {lo hi m k : Nat} (h : k < m) : (prC (betM b lo hi m))[k * 2]? = some (I (mAt (hasM b 5 lo) (k : Int))) ∧ (prC (betM b lo hi m))[k * 2 + 1]? = some (I (mAt (hasM b 5 hi) (k : Int))) := by
  have h1 := prC_at (betM b lo hi m) k (by rw [betM_len]; exact h)
  have e : (betM b lo hi m)[k]'(by rw [betM_len]; exact h) = (mAt (hasM b 5 lo) (k : Int), mAt (hasM b 5 hi) (k : Int)) := by simp [betM]
  rwa [e] at h1
theorem setFlow_set {d : DLine} {p : Nat} (hp : p < d.pts.length) (lo hi : Int) : (setFlow d p lo hi).pts = d.pts.set p ⟨lo, hi, d.pts[p].cost⟩ := by
  unfold setFlow
  apply List.ext_getElem
  · simp
  · intro i h1 h2
    by_cases e : p = i
    · subst e; simp
    · simp [e]

theorem setFlow_many {d : DLine} {p : Nat} (_ : p < d.pts.length) (lo hi : Int) : (setFlow d p lo hi).pts.length = d.pts.length ∧ (setFlow d p lo hi).odds = d.odds := setFlow_len d p lo hi
theorem line_of {w : World} {d D : DLine} {vp vo : Value} (hp : Reads w 3 vp d.pts.length (ptCells D.pts)) (ho : Reads w 1 vo d.odds.length (d.odds.map I)) (h1 : D.pts.length = d.pts.length) (h2 : D.odds = d.odds) : LineAt w (.agg #[vp, vo]) D :=
  ⟨_, _, rfl, by unfold Pts; rw [h1]; exact hp, by unfold Ints; rw [h2]; exact ho⟩
theorem isPt_nat {d : DLine} {p : Int} (h : isPt d p = true) : ∃ n : Nat, p = (n : Int) ∧ n < d.pts.length := by
  unfold isPt inR at h
  simp at h
  obtain ⟨n, rfl⟩ := Int.eq_ofNat_of_zero_le h.1
  exact ⟨n, rfl, by omega⟩
set_option maxRecDepth 100000 in
set_option maxHeartbeats 16000000 in
theorem lawGated_any (v vb vt : Value) (d : DLine) (b : MBox) (tr : List Int) (p xl xh : Int) (w : World) (hv : LineAt w v d) (hbx : MBoxAt w vb b) (ht : Ints w vt tr) :
    Calls Try.prog 3 #[v, vb, .agg #[vt, I p, I xl, I xh]] w fun e w' => e = .returned (.bool true) ∧ Below w.heap.size w w' := by
  obtain ⟨pv, ov, rfl, hp, ho⟩ := hv
  obtain ⟨sv, mv, rfl, hs, hm⟩ := hbx
  obtain ⟨A1, c1, rfl, -, -, -⟩ := id hp.open_
  obtain ⟨A2, c2, rfl, -, -, -⟩ := id ho.open_
  obtain ⟨A3, c3, rfl, -, -, -⟩ := id hs.open_
  obtain ⟨A4, c4, rfl, -, -, -⟩ := id hm.open_
  obtain ⟨A5, c5, rfl, -, -, -⟩ := id ht.open_
  have HP := Lib.hid hp
  have HO := Lib.hid ho
  have HS := Lib.hid hs
  have HM := Lib.hid hm
  have HT := Lib.hid ht
  have S := Lib.hid (show St w (((w.alloc (.cells #[.slice A1 d.pts.length c1, .slice A2 d.odds.length c2] 25)).alloc (.cells #[.slice A3 b.sh.length c3, .slice A4 b.mo.length c4] 27)).alloc (.cells #[.slice A5 tr.length c5, I p, I xl, I xh] 31)) (w.heap.size + 1 + 1 + 1) [.box (w.heap.size + 1 + 1) [.slice A5 tr.length c5, I p, I xl, I xh], .box (w.heap.size + 1) [.slice A3 b.sh.length c3, .slice A4 b.mo.length c4], .box w.heap.size [.slice A1 d.pts.length c1, .slice A2 d.odds.length c2]] from (((St.init w).alloc [.slice A1 d.pts.length c1, .slice A2 d.odds.length c2] 25).alloc [.slice A3 b.sh.length c3, .slice A4 b.mo.length c4] 27).alloc [.slice A5 tr.length c5, I p, I xl, I xh] 31)
  clear hp ho hs hm ht
  cases hfd : farD d
  · have HFD := Lib.hid hfd
    have HL2 := Lib.hid (show d.odds.length ≤ 1000 ∧ d.pts.length ≤ 1000 by unfold farD at hfd; simp at hfd; omega)
    clear hfd
    cases hvd : valid d
    · have HCK := Lib.hid (show chk d = 60 by unfold chk; rw [hvd]; rfl)
      clear hvd
      go_enter Try.func3, Try.ntmps3
      have q_line0 := S.out.get 2 0 rfl rfl
      have q_line1 := S.out.get 2 1 rfl rfl
      have q_box0 := S.out.get 1 0 rfl rfl
      have q_box1 := S.out.get 1 1 rfl rfl
      have q_x0 := S.out.get 0 0 rfl rfl
      have q_x1 := S.out.get 0 1 rfl rfl
      have q_x2 := S.out.get 0 2 rfl rfl
      have q_x3 := S.out.get 0 3 rfl rfl
      go_wp2_with fail
      refine (far_any _ d _ ⟨_, _, rfl, HP.out.below S.out.bel, HO.out.below S.out.bel⟩).mono ?_
      rintro e w1 ⟨rfl, hb⟩
      rw [HFD.out]
      have S := Lib.hid (S.out.call hb)
      clear hb
      clear q_line0 q_line1 q_box0 q_box1 q_x0 q_x1 q_x2 q_x3
      have q_line0 := S.out.get 2 0 rfl rfl
      have q_line1 := S.out.get 2 1 rfl rfl
      have q_box0 := S.out.get 1 0 rfl rfl
      have q_box1 := S.out.get 1 1 rfl rfl
      have q_x0 := S.out.get 0 0 rfl rfl
      have q_x1 := S.out.get 0 1 rfl rfl
      have q_x2 := S.out.get 0 2 rfl rfl
      have q_x3 := S.out.get 0 3 rfl rfl
      go_wp2_with fail
      refine (rCheck_any _ d _ ⟨_, _, rfl, HP.out.below S.out.bel, HO.out.below S.out.bel⟩ HL2.out.1 HL2.out.2).mono ?_
      rintro e w2 ⟨rfl, hb⟩
      rw [HCK.out]
      have S := Lib.hid (S.out.call hb)
      clear hb
      clear q_line0 q_line1 q_box0 q_box1 q_x0 q_x1 q_x2 q_x3
      have q_line0 := S.out.get 2 0 rfl rfl
      have q_line1 := S.out.get 2 1 rfl rfl
      have q_box0 := S.out.get 1 0 rfl rfl
      have q_box1 := S.out.get 1 1 rfl rfl
      have q_x0 := S.out.get 0 0 rfl rfl
      have q_x1 := S.out.get 0 1 rfl rfl
      have q_x2 := S.out.get 0 2 rfl rfl
      have q_x3 := S.out.get 0 3 rfl rfl
      go_wp2_with fail
      refine (gated_any _).mono ?_
      rintro e w3 ⟨rfl, hb⟩
      have S := Lib.hid (S.out.call hb)
      clear hb
      clear q_line0 q_line1 q_box0 q_box1 q_x0 q_x1 q_x2 q_x3
      have q_line0 := S.out.get 2 0 rfl rfl
      have q_line1 := S.out.get 2 1 rfl rfl
      have q_box0 := S.out.get 1 0 rfl rfl
      have q_box1 := S.out.get 1 1 rfl rfl
      have q_x0 := S.out.get 0 0 rfl rfl
      have q_x1 := S.out.get 0 1 rfl rfl
      have q_x2 := S.out.get 0 2 rfl rfl
      have q_x3 := S.out.get 0 3 rfl rfl
      go_wp2_with fail
      go_ret
      exact ⟨rfl, S.out.bel⟩
    · have HCK := Lib.hid (show chk d = 0 by unfold chk; rw [if_pos hvd])
      cases hfm : farM b
      · have HFM := Lib.hid hfm
        clear hfm
        cases hvm : mValid b
        · have HCM := Lib.hid (show chkM b = 70 by unfold chkM; rw [hvm]; rfl)
          clear hvm hvd
          go_enter Try.func3, Try.ntmps3
          have q_line0 := S.out.get 2 0 rfl rfl
          have q_line1 := S.out.get 2 1 rfl rfl
          have q_box0 := S.out.get 1 0 rfl rfl
          have q_box1 := S.out.get 1 1 rfl rfl
          have q_x0 := S.out.get 0 0 rfl rfl
          have q_x1 := S.out.get 0 1 rfl rfl
          have q_x2 := S.out.get 0 2 rfl rfl
          have q_x3 := S.out.get 0 3 rfl rfl
          go_wp2_with fail
          refine (far_any _ d _ ⟨_, _, rfl, HP.out.below S.out.bel, HO.out.below S.out.bel⟩).mono ?_
          rintro e w1 ⟨rfl, hb⟩
          rw [HFD.out]
          have S := Lib.hid (S.out.call hb)
          clear hb
          clear q_line0 q_line1 q_box0 q_box1 q_x0 q_x1 q_x2 q_x3
          have q_line0 := S.out.get 2 0 rfl rfl
          have q_line1 := S.out.get 2 1 rfl rfl
          have q_box0 := S.out.get 1 0 rfl rfl
          have q_box1 := S.out.get 1 1 rfl rfl
          have q_x0 := S.out.get 0 0 rfl rfl
          have q_x1 := S.out.get 0 1 rfl rfl
          have q_x2 := S.out.get 0 2 rfl rfl
          have q_x3 := S.out.get 0 3 rfl rfl
          go_wp2_with fail
          refine (rCheck_any _ d _ ⟨_, _, rfl, HP.out.below S.out.bel, HO.out.below S.out.bel⟩ HL2.out.1 HL2.out.2).mono ?_
          rintro e w2 ⟨rfl, hb⟩
          rw [HCK.out]
          have S := Lib.hid (S.out.call hb)
          clear hb
          clear q_line0 q_line1 q_box0 q_box1 q_x0 q_x1 q_x2 q_x3
          have q_line0 := S.out.get 2 0 rfl rfl
          have q_line1 := S.out.get 2 1 rfl rfl
          have q_box0 := S.out.get 1 0 rfl rfl
          have q_box1 := S.out.get 1 1 rfl rfl
          have q_x0 := S.out.get 0 0 rfl rfl
          have q_x1 := S.out.get 0 1 rfl rfl
          have q_x2 := S.out.get 0 2 rfl rfl
          have q_x3 := S.out.get 0 3 rfl rfl
          go_wp2_with fail
          refine (far7_any _ b _ ⟨_, _, rfl, HS.out.below S.out.bel, HM.out.below S.out.bel⟩).mono ?_
          rintro e w3 ⟨rfl, hb⟩
          rw [HFM.out]
          have S := Lib.hid (S.out.call hb)
          clear hb
          clear q_line0 q_line1 q_box0 q_box1 q_x0 q_x1 q_x2 q_x3
          have q_line0 := S.out.get 2 0 rfl rfl
          have q_line1 := S.out.get 2 1 rfl rfl
          have q_box0 := S.out.get 1 0 rfl rfl
          have q_box1 := S.out.get 1 1 rfl rfl
          have q_x0 := S.out.get 0 0 rfl rfl
          have q_x1 := S.out.get 0 1 rfl rfl
          have q_x2 := S.out.get 0 2 rfl rfl
          have q_x3 := S.out.get 0 3 rfl rfl
          go_wp2_with fail
          refine (rCheck7_any _ b _ ⟨_, _, rfl, HS.out.below S.out.bel, HM.out.below S.out.bel⟩).mono ?_
          rintro e w4 ⟨rfl, hb⟩
          rw [HCM.out]
          have S := Lib.hid (S.out.call hb)
          clear hb
          clear q_line0 q_line1 q_box0 q_box1 q_x0 q_x1 q_x2 q_x3
          have q_line0 := S.out.get 2 0 rfl rfl
          have q_line1 := S.out.get 2 1 rfl rfl
          have q_box0 := S.out.get 1 0 rfl rfl
          have q_box1 := S.out.get 1 1 rfl rfl
          have q_x0 := S.out.get 0 0 rfl rfl
          have q_x1 := S.out.get 0 1 rfl rfl
          have q_x2 := S.out.get 0 2 rfl rfl
          have q_x3 := S.out.get 0 3 rfl rfl
          go_wp2_with fail
          refine (gated_any _).mono ?_
          rintro e w5 ⟨rfl, hb⟩
          have S := Lib.hid (S.out.call hb)
          clear hb
          clear q_line0 q_line1 q_box0 q_box1 q_x0 q_x1 q_x2 q_x3
          have q_line0 := S.out.get 2 0 rfl rfl
          have q_line1 := S.out.get 2 1 rfl rfl
          have q_box0 := S.out.get 1 0 rfl rfl
          have q_box1 := S.out.get 1 1 rfl rfl
          have q_x0 := S.out.get 0 0 rfl rfl
          have q_x1 := S.out.get 0 1 rfl rfl
          have q_x2 := S.out.get 0 2 rfl rfl
          have q_x3 := S.out.get 0 3 rfl rfl
          go_wp2_with fail
          go_ret
          exact ⟨rfl, S.out.bel⟩
        · have HCM := Lib.hid (show chkM b = 0 by unfold chkM; rw [if_pos hvm])
          by_cases h5 : (40 : Int) < (tr.length : Int)
          · clear hvm hvd
            go_enter Try.func3, Try.ntmps3
            have q_line0 := S.out.get 2 0 rfl rfl
            have q_line1 := S.out.get 2 1 rfl rfl
            have q_box0 := S.out.get 1 0 rfl rfl
            have q_box1 := S.out.get 1 1 rfl rfl
            have q_x0 := S.out.get 0 0 rfl rfl
            have q_x1 := S.out.get 0 1 rfl rfl
            have q_x2 := S.out.get 0 2 rfl rfl
            have q_x3 := S.out.get 0 3 rfl rfl
            go_wp2_with fail
            refine (far_any _ d _ ⟨_, _, rfl, HP.out.below S.out.bel, HO.out.below S.out.bel⟩).mono ?_
            rintro e w1 ⟨rfl, hb⟩
            rw [HFD.out]
            have S := Lib.hid (S.out.call hb)
            clear hb
            clear q_line0 q_line1 q_box0 q_box1 q_x0 q_x1 q_x2 q_x3
            have q_line0 := S.out.get 2 0 rfl rfl
            have q_line1 := S.out.get 2 1 rfl rfl
            have q_box0 := S.out.get 1 0 rfl rfl
            have q_box1 := S.out.get 1 1 rfl rfl
            have q_x0 := S.out.get 0 0 rfl rfl
            have q_x1 := S.out.get 0 1 rfl rfl
            have q_x2 := S.out.get 0 2 rfl rfl
            have q_x3 := S.out.get 0 3 rfl rfl
            go_wp2_with fail
            refine (rCheck_any _ d _ ⟨_, _, rfl, HP.out.below S.out.bel, HO.out.below S.out.bel⟩ HL2.out.1 HL2.out.2).mono ?_
            rintro e w2 ⟨rfl, hb⟩
            rw [HCK.out]
            have S := Lib.hid (S.out.call hb)
            clear hb
            clear q_line0 q_line1 q_box0 q_box1 q_x0 q_x1 q_x2 q_x3
            have q_line0 := S.out.get 2 0 rfl rfl
            have q_line1 := S.out.get 2 1 rfl rfl
            have q_box0 := S.out.get 1 0 rfl rfl
            have q_box1 := S.out.get 1 1 rfl rfl
            have q_x0 := S.out.get 0 0 rfl rfl
            have q_x1 := S.out.get 0 1 rfl rfl
            have q_x2 := S.out.get 0 2 rfl rfl
            have q_x3 := S.out.get 0 3 rfl rfl
            go_wp2_with fail
            refine (far7_any _ b _ ⟨_, _, rfl, HS.out.below S.out.bel, HM.out.below S.out.bel⟩).mono ?_
            rintro e w3 ⟨rfl, hb⟩
            rw [HFM.out]
            have S := Lib.hid (S.out.call hb)
            clear hb
            clear q_line0 q_line1 q_box0 q_box1 q_x0 q_x1 q_x2 q_x3
            have q_line0 := S.out.get 2 0 rfl rfl
            have q_line1 := S.out.get 2 1 rfl rfl
            have q_box0 := S.out.get 1 0 rfl rfl
            have q_box1 := S.out.get 1 1 rfl rfl
            have q_x0 := S.out.get 0 0 rfl rfl
            have q_x1 := S.out.get 0 1 rfl rfl
            have q_x2 := S.out.get 0 2 rfl rfl
            have q_x3 := S.out.get 0 3 rfl rfl
            go_wp2_with fail
            refine (rCheck7_any _ b _ ⟨_, _, rfl, HS.out.below S.out.bel, HM.out.below S.out.bel⟩).mono ?_
            rintro e w4 ⟨rfl, hb⟩
            rw [HCM.out]
            have S := Lib.hid (S.out.call hb)
            clear hb
            clear q_line0 q_line1 q_box0 q_box1 q_x0 q_x1 q_x2 q_x3
            have q_line0 := S.out.get 2 0 rfl rfl
            have q_line1 := S.out.get 2 1 rfl rfl
            have q_box0 := S.out.get 1 0 rfl rfl
            have q_box1 := S.out.get 1 1 rfl rfl
            have q_x0 := S.out.get 0 0 rfl rfl
            have q_x1 := S.out.get 0 1 rfl rfl
            have q_x2 := S.out.get 0 2 rfl rfl
            have q_x3 := S.out.get 0 3 rfl rfl
            go_wp2_with fail
            refine (gated_any _).mono ?_
            rintro e w5 ⟨rfl, hb⟩
            have S := Lib.hid (S.out.call hb)
            clear hb
            clear q_line0 q_line1 q_box0 q_box1 q_x0 q_x1 q_x2 q_x3
            have q_line0 := S.out.get 2 0 rfl rfl
            have q_line1 := S.out.get 2 1 rfl rfl
            have q_box0 := S.out.get 1 0 rfl rfl
            have q_box1 := S.out.get 1 1 rfl rfl
            have q_x0 := S.out.get 0 0 rfl rfl
            have q_x1 := S.out.get 0 1 rfl rfl
            have q_x2 := S.out.get 0 2 rfl rfl
            have q_x3 := S.out.get 0 3 rfl rfl
            go_wp2_with fail
            go_ret
            exact ⟨rfl, S.out.bel⟩
          · cases htr : truthB d tr
            · clear hvm hvd
              have HTR := Lib.hid htr
              clear htr
              go_enter Try.func3, Try.ntmps3
              have q_line0 := S.out.get 2 0 rfl rfl
              have q_line1 := S.out.get 2 1 rfl rfl
              have q_box0 := S.out.get 1 0 rfl rfl
              have q_box1 := S.out.get 1 1 rfl rfl
              have q_x0 := S.out.get 0 0 rfl rfl
              have q_x1 := S.out.get 0 1 rfl rfl
              have q_x2 := S.out.get 0 2 rfl rfl
              have q_x3 := S.out.get 0 3 rfl rfl
              go_wp2_with fail
              refine (far_any _ d _ ⟨_, _, rfl, HP.out.below S.out.bel, HO.out.below S.out.bel⟩).mono ?_
              rintro e w1 ⟨rfl, hb⟩
              rw [HFD.out]
              have S := Lib.hid (S.out.call hb)
              clear hb
              clear q_line0 q_line1 q_box0 q_box1 q_x0 q_x1 q_x2 q_x3
              have q_line0 := S.out.get 2 0 rfl rfl
              have q_line1 := S.out.get 2 1 rfl rfl
              have q_box0 := S.out.get 1 0 rfl rfl
              have q_box1 := S.out.get 1 1 rfl rfl
              have q_x0 := S.out.get 0 0 rfl rfl
              have q_x1 := S.out.get 0 1 rfl rfl
              have q_x2 := S.out.get 0 2 rfl rfl
              have q_x3 := S.out.get 0 3 rfl rfl
              go_wp2_with fail
              refine (rCheck_any _ d _ ⟨_, _, rfl, HP.out.below S.out.bel, HO.out.below S.out.bel⟩ HL2.out.1 HL2.out.2).mono ?_
              rintro e w2 ⟨rfl, hb⟩
              rw [HCK.out]
              have S := Lib.hid (S.out.call hb)
              clear hb
              clear q_line0 q_line1 q_box0 q_box1 q_x0 q_x1 q_x2 q_x3
              have q_line0 := S.out.get 2 0 rfl rfl
              have q_line1 := S.out.get 2 1 rfl rfl
              have q_box0 := S.out.get 1 0 rfl rfl
              have q_box1 := S.out.get 1 1 rfl rfl
              have q_x0 := S.out.get 0 0 rfl rfl
              have q_x1 := S.out.get 0 1 rfl rfl
              have q_x2 := S.out.get 0 2 rfl rfl
              have q_x3 := S.out.get 0 3 rfl rfl
              go_wp2_with fail
              refine (far7_any _ b _ ⟨_, _, rfl, HS.out.below S.out.bel, HM.out.below S.out.bel⟩).mono ?_
              rintro e w3 ⟨rfl, hb⟩
              rw [HFM.out]
              have S := Lib.hid (S.out.call hb)
              clear hb
              clear q_line0 q_line1 q_box0 q_box1 q_x0 q_x1 q_x2 q_x3
              have q_line0 := S.out.get 2 0 rfl rfl
              have q_line1 := S.out.get 2 1 rfl rfl
              have q_box0 := S.out.get 1 0 rfl rfl
              have q_box1 := S.out.get 1 1 rfl rfl
              have q_x0 := S.out.get 0 0 rfl rfl
              have q_x1 := S.out.get 0 1 rfl rfl
              have q_x2 := S.out.get 0 2 rfl rfl
              have q_x3 := S.out.get 0 3 rfl rfl
              go_wp2_with fail
              refine (rCheck7_any _ b _ ⟨_, _, rfl, HS.out.below S.out.bel, HM.out.below S.out.bel⟩).mono ?_
              rintro e w4 ⟨rfl, hb⟩
              rw [HCM.out]
              have S := Lib.hid (S.out.call hb)
              clear hb
              clear q_line0 q_line1 q_box0 q_box1 q_x0 q_x1 q_x2 q_x3
              have q_line0 := S.out.get 2 0 rfl rfl
              have q_line1 := S.out.get 2 1 rfl rfl
              have q_box0 := S.out.get 1 0 rfl rfl
              have q_box1 := S.out.get 1 1 rfl rfl
              have q_x0 := S.out.get 0 0 rfl rfl
              have q_x1 := S.out.get 0 1 rfl rfl
              have q_x2 := S.out.get 0 2 rfl rfl
              have q_x3 := S.out.get 0 3 rfl rfl
              go_wp2_with fail
              refine (isTruth_any _ _ d tr _ ⟨_, _, rfl, HP.out.below S.out.bel, HO.out.below S.out.bel⟩ (HT.out.below S.out.bel) HL2.out.2 (by omega)).mono ?_
              rintro e w5 ⟨rfl, hb⟩
              rw [HTR.out]
              have S := Lib.hid (S.out.call hb)
              clear hb
              clear q_line0 q_line1 q_box0 q_box1 q_x0 q_x1 q_x2 q_x3
              have q_line0 := S.out.get 2 0 rfl rfl
              have q_line1 := S.out.get 2 1 rfl rfl
              have q_box0 := S.out.get 1 0 rfl rfl
              have q_box1 := S.out.get 1 1 rfl rfl
              have q_x0 := S.out.get 0 0 rfl rfl
              have q_x1 := S.out.get 0 1 rfl rfl
              have q_x2 := S.out.get 0 2 rfl rfl
              have q_x3 := S.out.get 0 3 rfl rfl
              go_wp2_with fail
              refine (gated_any _).mono ?_
              rintro e w6 ⟨rfl, hb⟩
              have S := Lib.hid (S.out.call hb)
              clear hb
              clear q_line0 q_line1 q_box0 q_box1 q_x0 q_x1 q_x2 q_x3
              have q_line0 := S.out.get 2 0 rfl rfl
              have q_line1 := S.out.get 2 1 rfl rfl
              have q_box0 := S.out.get 1 0 rfl rfl
              have q_box1 := S.out.get 1 1 rfl rfl
              have q_x0 := S.out.get 0 0 rfl rfl
              have q_x1 := S.out.get 0 1 rfl rfl
              have q_x2 := S.out.get 0 2 rfl rfl
              have q_x3 := S.out.get 0 3 rfl rfl
              go_wp2_with fail
              go_ret
              exact ⟨rfl, S.out.bel⟩
            · by_cases h40' : 40 < (d.pts.getD d.odds.length default).hi
              · have hvs := valid_spec hvd
                have hix : (d.odds.length : Int) < (d.pts.length : Int) := by omega
                obtain ⟨_, _, e, _, _, hps⟩ := HP.out.open_
                obtain ⟨rfl, -, rfl⟩ := slice_inj e
                clear e
                have hps := hps (by omega)
                obtain ⟨b1, o1, hA1, hb1, hcl1⟩ := hps
                have yhh := (hcl1 d.odds.length (by omega)).2.1
                obtain ⟨hl, hhl⟩ : ∃ x, d.pts[d.odds.length].hi = x := ⟨_, rfl⟩
                rw [hhl] at yhh
                have h40 : 40 < hl := by rw [← hhl]; rw [getD_pt _ (by omega)] at h40'; omega
                have YH := Lib.hid yhh
                have HTR := Lib.hid htr
                subst hA1
                clear hcl1 hb1 yhh hhl hvs htr hvm hvd h40'
                go_enter Try.func3, Try.ntmps3
                have q_line0 := S.out.get 2 0 rfl rfl
                have q_line1 := S.out.get 2 1 rfl rfl
                have q_box0 := S.out.get 1 0 rfl rfl
                have q_box1 := S.out.get 1 1 rfl rfl
                have q_x0 := S.out.get 0 0 rfl rfl
                have q_x1 := S.out.get 0 1 rfl rfl
                have q_x2 := S.out.get 0 2 rfl rfl
                have q_x3 := S.out.get 0 3 rfl rfl
                go_wp2_with fail
                refine (far_any _ d _ ⟨_, _, rfl, HP.out.below S.out.bel, HO.out.below S.out.bel⟩).mono ?_
                rintro e w1 ⟨rfl, hb⟩
                rw [HFD.out]
                have S := Lib.hid (S.out.call hb)
                clear hb
                clear q_line0 q_line1 q_box0 q_box1 q_x0 q_x1 q_x2 q_x3
                have q_line0 := S.out.get 2 0 rfl rfl
                have q_line1 := S.out.get 2 1 rfl rfl
                have q_box0 := S.out.get 1 0 rfl rfl
                have q_box1 := S.out.get 1 1 rfl rfl
                have q_x0 := S.out.get 0 0 rfl rfl
                have q_x1 := S.out.get 0 1 rfl rfl
                have q_x2 := S.out.get 0 2 rfl rfl
                have q_x3 := S.out.get 0 3 rfl rfl
                go_wp2_with fail
                refine (rCheck_any _ d _ ⟨_, _, rfl, HP.out.below S.out.bel, HO.out.below S.out.bel⟩ HL2.out.1 HL2.out.2).mono ?_
                rintro e w2 ⟨rfl, hb⟩
                rw [HCK.out]
                have S := Lib.hid (S.out.call hb)
                clear hb
                clear q_line0 q_line1 q_box0 q_box1 q_x0 q_x1 q_x2 q_x3
                have q_line0 := S.out.get 2 0 rfl rfl
                have q_line1 := S.out.get 2 1 rfl rfl
                have q_box0 := S.out.get 1 0 rfl rfl
                have q_box1 := S.out.get 1 1 rfl rfl
                have q_x0 := S.out.get 0 0 rfl rfl
                have q_x1 := S.out.get 0 1 rfl rfl
                have q_x2 := S.out.get 0 2 rfl rfl
                have q_x3 := S.out.get 0 3 rfl rfl
                go_wp2_with fail
                refine (far7_any _ b _ ⟨_, _, rfl, HS.out.below S.out.bel, HM.out.below S.out.bel⟩).mono ?_
                rintro e w3 ⟨rfl, hb⟩
                rw [HFM.out]
                have S := Lib.hid (S.out.call hb)
                clear hb
                clear q_line0 q_line1 q_box0 q_box1 q_x0 q_x1 q_x2 q_x3
                have q_line0 := S.out.get 2 0 rfl rfl
                have q_line1 := S.out.get 2 1 rfl rfl
                have q_box0 := S.out.get 1 0 rfl rfl
                have q_box1 := S.out.get 1 1 rfl rfl
                have q_x0 := S.out.get 0 0 rfl rfl
                have q_x1 := S.out.get 0 1 rfl rfl
                have q_x2 := S.out.get 0 2 rfl rfl
                have q_x3 := S.out.get 0 3 rfl rfl
                go_wp2_with fail
                refine (rCheck7_any _ b _ ⟨_, _, rfl, HS.out.below S.out.bel, HM.out.below S.out.bel⟩).mono ?_
                rintro e w4 ⟨rfl, hb⟩
                rw [HCM.out]
                have S := Lib.hid (S.out.call hb)
                clear hb
                clear q_line0 q_line1 q_box0 q_box1 q_x0 q_x1 q_x2 q_x3
                have q_line0 := S.out.get 2 0 rfl rfl
                have q_line1 := S.out.get 2 1 rfl rfl
                have q_box0 := S.out.get 1 0 rfl rfl
                have q_box1 := S.out.get 1 1 rfl rfl
                have q_x0 := S.out.get 0 0 rfl rfl
                have q_x1 := S.out.get 0 1 rfl rfl
                have q_x2 := S.out.get 0 2 rfl rfl
                have q_x3 := S.out.get 0 3 rfl rfl
                go_wp2_with fail
                refine (isTruth_any _ _ d tr _ ⟨_, _, rfl, HP.out.below S.out.bel, HO.out.below S.out.bel⟩ (HT.out.below S.out.bel) HL2.out.2 (by omega)).mono ?_
                rintro e w5 ⟨rfl, hb⟩
                rw [HTR.out]
                have S := Lib.hid (S.out.call hb)
                clear hb
                clear q_line0 q_line1 q_box0 q_box1 q_x0 q_x1 q_x2 q_x3
                have q_line0 := S.out.get 2 0 rfl rfl
                have q_line1 := S.out.get 2 1 rfl rfl
                have q_box0 := S.out.get 1 0 rfl rfl
                have q_box1 := S.out.get 1 1 rfl rfl
                have q_x0 := S.out.get 0 0 rfl rfl
                have yh := keep_cell S.out.bel YH.out
                go_wp2_with fail
                clear yh h40 hix
                clear q_line0 q_line1 q_box0 q_box1 q_x0
                refine (gated_any _).mono ?_
                rintro e w6 ⟨rfl, hb⟩
                have S := Lib.hid (S.out.call hb)
                clear hb
                go_wp2_with fail
                go_ret
                exact ⟨rfl, S.out.bel⟩
              · have hh : (d.pts.getD d.odds.length default).hi ≤ 40 := by omega
                have HV := Lib.hid hvd
                have H40 := Lib.hid hh
                have hvs := valid_spec hvd
                have hix : (d.odds.length : Int) < (d.pts.length : Int) := by omega
                have hpl0 : 0 < d.pts.length := by omega
                have HOK := Lib.hid (mValid_iff.1 hvm)
                have HSL := Lib.hid (mValid_iff.1 hvm).sl
                have hc := truth_calm htr
                obtain ⟨lo0, hi0, hfl, hlh, hf40, hfa⟩ := last_flow hvd hc hh
                have htl := truth_len htr
                have hft := flow_truth hvd htr d.odds.length (by omega) (by omega)
                rw [hfa] at hft
                dsimp only at hft
                obtain ⟨g, hg⟩ := Int.eq_ofNat_of_zero_le (show 0 ≤ tr[d.odds.length]'(by omega) by omega)
                have HFL := Lib.hid hfl
                have HFA := Lib.hid hfa
                have HLH := Lib.hid hlh
                have HF40 := Lib.hid hf40
                have HG40 := Lib.hid (show g ≤ 40 by omega)
                have HGB := Lib.hid (show lo0 ≤ g ∧ g ≤ hi0 by omega)
                have HCL := Lib.hid hc
                have HTR := Lib.hid htr
                have HIT := Lib.hid (show (d.odds.length : Int) < (tr.length : Int) by omega)
                obtain ⟨_, _, e, _, _, hps⟩ := HP.out.open_
                obtain ⟨rfl, -, rfl⟩ := slice_inj e
                clear e
                have hps := hps (by omega)
                obtain ⟨b1, o1, hA1, hb1, hcl1⟩ := hps
                have HPS := Lib.hid hcl1
                have yhh := (hcl1 d.odds.length (by omega)).2.1
                obtain ⟨hl, hhl⟩ : ∃ x, d.pts[d.odds.length].hi = x := ⟨_, rfl⟩
                rw [hhl] at yhh
                have h40 : ¬ 40 < hl := by rw [← hhl]; rw [getD_pt _ (by omega)] at hh; omega
                have YH := Lib.hid yhh
                subst hA1
                obtain ⟨bt, ot, hA5, hbt⟩ := HT.out.some_ (by omega)
                subst hA5
                have yt := HT.out.at_ d.odds.length (by omega)
                rw [hg] at yt
                have YT := Lib.hid yt
                clear hps hcl1 hb1 hbt yt yhh hhl hg hft htl hfa hfl hlh hf40 hc hvs htr hvm hvd hh h40'
                go_enter Try.func3, Try.ntmps3
                have q_line0 := S.out.get 2 0 rfl rfl
                have q_line1 := S.out.get 2 1 rfl rfl
                have q_box0 := S.out.get 1 0 rfl rfl
                have q_box1 := S.out.get 1 1 rfl rfl
                have q_x0 := S.out.get 0 0 rfl rfl
                have q_x1 := S.out.get 0 1 rfl rfl
                have q_x2 := S.out.get 0 2 rfl rfl
                have q_x3 := S.out.get 0 3 rfl rfl
                go_wp2_with fail
                refine (far_any _ d _ ⟨_, _, rfl, HP.out.below S.out.bel, HO.out.below S.out.bel⟩).mono ?_
                rintro e w1 ⟨rfl, hb⟩
                rw [HFD.out]
                have S := Lib.hid (S.out.call hb)
                clear hb
                clear q_line0 q_line1 q_box0 q_box1 q_x0 q_x1 q_x2 q_x3
                have q_line0 := S.out.get 2 0 rfl rfl
                have q_line1 := S.out.get 2 1 rfl rfl
                have q_box0 := S.out.get 1 0 rfl rfl
                have q_box1 := S.out.get 1 1 rfl rfl
                have q_x0 := S.out.get 0 0 rfl rfl
                have q_x1 := S.out.get 0 1 rfl rfl
                have q_x2 := S.out.get 0 2 rfl rfl
                have q_x3 := S.out.get 0 3 rfl rfl
                go_wp2_with fail
                refine (rCheck_any _ d _ ⟨_, _, rfl, HP.out.below S.out.bel, HO.out.below S.out.bel⟩ HL2.out.1 HL2.out.2).mono ?_
                rintro e w2 ⟨rfl, hb⟩
                rw [HCK.out]
                have S := Lib.hid (S.out.call hb)
                clear hb
                clear q_line0 q_line1 q_box0 q_box1 q_x0 q_x1 q_x2 q_x3
                have q_line0 := S.out.get 2 0 rfl rfl
                have q_line1 := S.out.get 2 1 rfl rfl
                have q_box0 := S.out.get 1 0 rfl rfl
                have q_box1 := S.out.get 1 1 rfl rfl
                have q_x0 := S.out.get 0 0 rfl rfl
                have q_x1 := S.out.get 0 1 rfl rfl
                have q_x2 := S.out.get 0 2 rfl rfl
                have q_x3 := S.out.get 0 3 rfl rfl
                go_wp2_with fail
                refine (far7_any _ b _ ⟨_, _, rfl, HS.out.below S.out.bel, HM.out.below S.out.bel⟩).mono ?_
                rintro e w3 ⟨rfl, hb⟩
                rw [HFM.out]
                have S := Lib.hid (S.out.call hb)
                clear hb
                clear q_line0 q_line1 q_box0 q_box1 q_x0 q_x1 q_x2 q_x3
                have q_line0 := S.out.get 2 0 rfl rfl
                have q_line1 := S.out.get 2 1 rfl rfl
                have q_box0 := S.out.get 1 0 rfl rfl
                have q_box1 := S.out.get 1 1 rfl rfl
                have q_x0 := S.out.get 0 0 rfl rfl
                have q_x1 := S.out.get 0 1 rfl rfl
                have q_x2 := S.out.get 0 2 rfl rfl
                have q_x3 := S.out.get 0 3 rfl rfl
                go_wp2_with fail
                refine (rCheck7_any _ b _ ⟨_, _, rfl, HS.out.below S.out.bel, HM.out.below S.out.bel⟩).mono ?_
                rintro e w4 ⟨rfl, hb⟩
                rw [HCM.out]
                have S := Lib.hid (S.out.call hb)
                clear hb
                clear q_line0 q_line1 q_box0 q_box1 q_x0 q_x1 q_x2 q_x3
                have q_line0 := S.out.get 2 0 rfl rfl
                have q_line1 := S.out.get 2 1 rfl rfl
                have q_box0 := S.out.get 1 0 rfl rfl
                have q_box1 := S.out.get 1 1 rfl rfl
                have q_x0 := S.out.get 0 0 rfl rfl
                have q_x1 := S.out.get 0 1 rfl rfl
                have q_x2 := S.out.get 0 2 rfl rfl
                have q_x3 := S.out.get 0 3 rfl rfl
                go_wp2_with fail
                refine (isTruth_any _ _ d tr _ ⟨_, _, rfl, HP.out.below S.out.bel, HO.out.below S.out.bel⟩ (HT.out.below S.out.bel) HL2.out.2 (by omega)).mono ?_
                rintro e w5 ⟨rfl, hb⟩
                rw [HTR.out]
                have S := Lib.hid (S.out.call hb)
                clear hb
                clear q_line0 q_line1 q_box0 q_box1 q_x0 q_x1 q_x2 q_x3
                have q_line0 := S.out.get 2 0 rfl rfl
                have q_line1 := S.out.get 2 1 rfl rfl
                have q_box0 := S.out.get 1 0 rfl rfl
                have q_box1 := S.out.get 1 1 rfl rfl
                have q_x0 := S.out.get 0 0 rfl rfl
                have yh := keep_cell S.out.bel YH.out
                go_wp2_with fail
                clear yh h40 hix
                clear q_line0 q_line1 q_box0 q_box1 q_x0
                refine (last_any _ _ d b lo0 hi0 _ ⟨_, _, rfl, HP.out.below S.out.bel, HO.out.below S.out.bel⟩ ⟨_, _, rfl, HS.out.below S.out.bel, HM.out.below S.out.bel⟩ HV.out HOK.out HFL.out HLH.out HF40.out).mono ?_
                rintro e w6 ⟨v', rfl, hown, hb⟩
                obtain ⟨A6, c6, rfl⟩ := own_shape hown
                have S := Lib.hid (S.out.take hb hown)
                clear hb
                clear hown
                have q_line0 := S.out.get 3 0 rfl rfl
                have q_line1 := S.out.get 3 1 rfl rfl
                have q_box0 := S.out.get 2 0 rfl rfl
                have q_box1 := S.out.get 2 1 rfl rfl
                have q_x0 := S.out.get 1 0 rfl rfl
                go_wp2_with fail
                clear q_line0 q_line1 q_box0 q_box1 q_x0
                refine wp_region_seg [([0, 1, 2, 3, 4, 5, 6, 7], 8)] [9, 10, 11, 12, 13] [] 14 (by kernel_rfl) (by kernel_rfl) ?_
                intro KQ hKQ w8 hb
                have S := Lib.hid (S.out.call hb)
                clear hb
                have yt := cell_regrown (keep_cell S.out.bel YT.out)
                have hit := HIT.out
                have q_line1 := cell_regrown (S.out.get 3 1 rfl rfl)
                have q_box0 := cell_regrown (S.out.get 2 0 rfl rfl)
                have q_box1 := cell_regrown (S.out.get 2 1 rfl rfl)
                have q_x0 := cell_regrown (S.out.get 1 0 rfl rfl)
                refine seg_next ?_
                simp only [opsAt, List.filterMap_cons, List.filterMap_nil, List.getElem?_toArray, List.getElem?_cons_succ, List.getElem?_cons_zero]
                repeat (first | go_big_quiet_step (fail) | quiet_step (fail))
                refine wpQuiet_nil ?_
                intro K hK
                refine loud_op rfl rfl ?_
                go_simp
                refine (mGauges_any _ b g _ ⟨_, _, rfl, HS.out.below S.out.bel, HM.out.below S.out.bel⟩ HOK.out HG40.out).mono ?_
                rintro e w9 ⟨v', rfl, hown, hb⟩
                obtain ⟨A7, c7, rfl⟩ := own_shape hown
                have S := Lib.hid (S.out.take hb hown)
                refine hK _ _ hb ?_
                clear hK K hb hown yt hit q_line1 q_box0 q_box1 q_x0
                refine seg_last ?_
                simp only [opsAt, List.filterMap_cons, List.filterMap_nil, List.getElem?_toArray, List.getElem?_cons_succ, List.getElem?_cons_zero]
                repeat (first | go_big_quiet_step (fail) | quiet_step (fail))
                refine wpQuiet_nil ?_
                go_wp2_with fail
                go_loopw [11] (fun i wr => ∃ k : Nat, k ≤ b.sh.length ∧ i = I k ∧ Hid (St w wr wr.heap.size [.own 3 1 (.slice A7 b.sh.length c7) b.sh.length ((outM b g).map I), .own 29 2 (.slice A6 b.sh.length c6) b.sh.length (prC (betM b lo0 hi0 b.sh.length)), .box (w.heap.size + 1 + 1) [.slice (some ⟨bt, ot, none⟩) tr.length c5, I p, I xl, I xh], .box (w.heap.size + 1) [.slice A3 b.sh.length c3, .slice A4 b.mo.length c4], .box w.heap.size [.slice (some ⟨b1, o1, none⟩) d.pts.length c1, .slice A2 d.odds.length c2]])) (fun i _ => b.sh.length - (intOf i).toNat)
                case atStart => exact ⟨0, by omega, rfl, Lib.hid S.out.fix⟩
                case round =>
                  clear S
                  obtain ⟨k, hk, rfl, S⟩ := hrel
                  by_cases hlt : k < b.sh.length
                  · have hki : (k : Int) < (b.sh.length : Int) := by omega
                    obtain ⟨g7, c7', e7, -, -⟩ := own_shape_pos (S.out.own 0 rfl) (show 0 < b.sh.length by omega)
                    injection e7 with e7 _ e7c
                    subst e7
                    obtain ⟨g6, c6', e6, -, -⟩ := own_shape_pos (S.out.own 1 rfl) (show 0 < b.sh.length by omega)
                    injection e6 with e6 _ e6c
                    subst e6
                    have y0 := own_cell (S.out.own 0 rfl) k _ (outM_at HSL.out (k := g) hlt)
                    have y1 := own_at2 (S.out.own 1 rfl) (betM_at (b := b) (lo := lo0) (hi := hi0) hlt).1
                    have y2 := own_at2 (S.out.own 1 rfl) (betM_at (b := b) (lo := lo0) (hi := hi0) hlt).2
                    have m1 := hasM_mono b 5 HGB.out.1 k
                    have m2 := hasM_mono b 5 HGB.out.2 k
                    obtain ⟨x0, hx0⟩ : ∃ x, mAt (hasM b 5 g) (k : Int) = x := ⟨_, rfl⟩
                    obtain ⟨x1, hx1⟩ : ∃ x, mAt (hasM b 5 lo0) (k : Int) = x := ⟨_, rfl⟩
                    obtain ⟨x2, hx2⟩ : ∃ x, mAt (hasM b 5 hi0) (k : Int) = x := ⟨_, rfl⟩
                    rw [hx0] at y0 m1 m2
                    rw [hx1] at y1 m1
                    rw [hx2] at y2 m2
                    clear hx0 hx1 hx2 e6c e7c
                    have n1 : ¬ x0 < x1 := by omega
                    have n2 : ¬ x2 < x0 := by omega
                    go_wp2_with fail
                    have y0 := cell_regrown y0
                    have y1 := cell_regrown y1
                    have y2 := cell_regrown y2
                    refine wp_region_ext (by kernel_rfl) (by kernel_rfl) ?_
                    repeat (first | go_big_quiet_step (fail) | quiet_step (fail))
                    refine wpQuiet_nil ?_
                    clear y0 y1 y2
                    intro wq hbq
                    have S := Lib.hid (S.out.call hbq)
                    clear hbq
                    have h5k := HSL.out
                    go_wp2_with fail
                    go_roundw
                    case rel => exact ⟨k + 1, by omega, by go_num, Lib.hid S.out.fix⟩
                    case measure => first | (simp [intOf]; done) | (simp [intOf]; omega)
                  · have hki : ¬ (k : Int) < (b.sh.length : Int) := by omega
                    have q_line0 := S.out.get 4 0 rfl rfl
                    have q_line1 := S.out.get 4 1 rfl rfl
                    have q_x1 := S.out.get 2 1 rfl rfl
                    go_wp2_with fail
                    clear hki hlt hk
                    cases hpt : isPt d p
                    · have HPT := Lib.hid hpt
                      clear hpt
                      refine (rIsPt_any _ d p _ ⟨_, _, rfl, HP.out.below S.out.bel, HO.out.below S.out.bel⟩ HL2.out.2).mono ?_
                      rintro e w7 ⟨rfl, hb⟩
                      rw [HPT.out]
                      have S := Lib.hid (S.out.call hb)
                      clear hb
                      clear q_line0 q_line1 q_x1
                      go_wp2_with fail
                      refine (gated_any _).mono ?_
                      rintro e w8 ⟨rfl, hb⟩
                      have S := Lib.hid (S.out.call hb)
                      clear hb
                      go_wp2_with fail
                      go_ret
                      exact ⟨rfl, S.out.bel⟩
                    · have HPT := Lib.hid hpt
                      obtain ⟨pn, hpn, hpl⟩ := isPt_nat hpt
                      subst hpn
                      clear hpt
                      refine (rIsPt_any _ d pn _ ⟨_, _, rfl, HP.out.below S.out.bel, HO.out.below S.out.bel⟩ HL2.out.2).mono ?_
                      rintro e w7 ⟨rfl, hb⟩
                      rw [HPT.out]
                      have S := Lib.hid (S.out.call hb)
                      clear hb
                      clear q_line0 q_line1 q_x1
                      have hP1 := HPS.out
                      obtain ⟨yl, yh, -⟩ := hP1 pn hpl
                      obtain ⟨pt, hpte⟩ : ∃ x, d.pts[pn] = x := ⟨_, rfl⟩
                      rw [hpte] at yl yh
                      have HPTE := Lib.hid hpte
                      have YL := Lib.hid yl
                      have YHH := Lib.hid yh
                      have hpi : (pn : Int) < (d.pts.length : Int) := by omega
                      clear yl yh hP1 hpte
                      have yl := keep_cell S.out.bel YL.out
                      have yh := keep_cell S.out.bel YHH.out
                      have SA := Lib.hid (S.out.alloc [I pt.lo, I pt.hi] 29)
                      by_cases i1 : xl < pt.lo
                      · have q_line0 := S.out.get 4 0 rfl rfl
                        have q_line1 := S.out.get 4 1 rfl rfl
                        have q_x1 := S.out.get 2 1 rfl rfl
                        have q_x2 := S.out.get 2 2 rfl rfl
                        have q_x3 := S.out.get 2 3 rfl rfl
                        have lx := S.out.lt 2 rfl
                        have ll := S.out.lt 4 rfl
                        have s0 := SA.out.get 0 0 rfl rfl
                        have s1 := SA.out.get 0 1 rfl rfl
                        have S := SA
                        go_wp2_with fail
                        clear yl yh s0 s1 SA lx ll
                        clear q_line0 q_line1 q_x1 q_x2 q_x3
                        refine (gated_any _).mono ?_
                        rintro e w8 ⟨rfl, hb⟩
                        have S := Lib.hid (S.out.call hb)
                        clear hb
                        go_wp2_with fail
                        go_ret
                        exact ⟨rfl, S.out.bel⟩
                      · by_cases i2 : pt.hi < xh
                        · have q_line0 := S.out.get 4 0 rfl rfl
                          have q_line1 := S.out.get 4 1 rfl rfl
                          have q_x1 := S.out.get 2 1 rfl rfl
                          have q_x2 := S.out.get 2 2 rfl rfl
                          have q_x3 := S.out.get 2 3 rfl rfl
                          have lx := S.out.lt 2 rfl
                          have ll := S.out.lt 4 rfl
                          have s0 := SA.out.get 0 0 rfl rfl
                          have s1 := SA.out.get 0 1 rfl rfl
                          have S := SA
                          go_wp2_with fail
                          clear yl yh s0 s1 SA lx ll
                          clear q_line0 q_line1 q_x1 q_x2 q_x3
                          refine (gated_any _).mono ?_
                          rintro e w8 ⟨rfl, hb⟩
                          have S := Lib.hid (S.out.call hb)
                          clear hb
                          go_wp2_with fail
                          go_ret
                          exact ⟨rfl, S.out.bel⟩
                        · by_cases i3 : xh < xl
                          · have q_line0 := S.out.get 4 0 rfl rfl
                            have q_line1 := S.out.get 4 1 rfl rfl
                            have q_x1 := S.out.get 2 1 rfl rfl
                            have q_x2 := S.out.get 2 2 rfl rfl
                            have q_x3 := S.out.get 2 3 rfl rfl
                            have lx := S.out.lt 2 rfl
                            have ll := S.out.lt 4 rfl
                            have s0 := SA.out.get 0 0 rfl rfl
                            have s1 := SA.out.get 0 1 rfl rfl
                            have S := SA
                            go_wp2_with fail
                            clear yl yh s0 s1 SA lx ll
                            clear q_line0 q_line1 q_x1 q_x2 q_x3
                            refine (gated_any _).mono ?_
                            rintro e w8 ⟨rfl, hb⟩
                            have S := Lib.hid (S.out.call hb)
                            clear hb
                            go_wp2_with fail
                            go_ret
                            exact ⟨rfl, S.out.bel⟩
                          · have HIN := Lib.hid (show insideB (xl, xh) (pt.lo, pt.hi) = true by rw [inside_iff]; dsimp only; omega)
                            have q_line0 := S.out.get 4 0 rfl rfl
                            have q_line1 := S.out.get 4 1 rfl rfl
                            have q_x1 := S.out.get 2 1 rfl rfl
                            have q_x2 := S.out.get 2 2 rfl rfl
                            have q_x3 := S.out.get 2 3 rfl rfl
                            have lx := S.out.lt 2 rfl
                            have ll := S.out.lt 4 rfl
                            have s0 := SA.out.get 0 0 rfl rfl
                            have s1 := SA.out.get 0 1 rfl rfl
                            have S := SA
                            go_wp2_with fail
                            clear yl yh s0 s1 SA lx ll
                            clear q_line0 q_line1 q_x1 q_x2 q_x3
                            clear i1 i2 i3
                            refine (copy_any _ d _ ⟨_, _, rfl, HP.out.below S.out.bel, HO.out.below S.out.bel⟩ HL2.out.1 HL2.out.2).mono ?_
                            rintro e w12 ⟨v', rfl, ⟨pv', ov', rfl, hown1, hown2⟩, hb⟩
                            obtain ⟨g8, c8, rfl, -, -⟩ := own_shape_pos hown1 (show 0 < d.pts.length by omega)
                            obtain ⟨A9, c9, rfl⟩ := own_shape hown2
                            have S := Lib.hid (S.out.take2 hb hown1 hown2 (by decide))
                            clear hb hown1 hown2
                            have hat := ptCells_at d.pts pn hpl
                            rw [HPTE.out] at hat
                            obtain ⟨a0, a1, a2⟩ := hat
                            have z0 := own_at2 (S.out.own 0 rfl) a0
                            have z1 := own_at2 (S.out.own 0 rfl) a1
                            have z2 := own_at2 (S.out.own 0 rfl) a2
                            have u0 := (S.out.own 0 rfl).frozenAt (pn * 3)
                            have u1 := (S.out.own 0 rfl).frozenAt (pn * 3 + 1)
                            have u2 := (S.out.own 0 rfl).frozenAt (pn * 3 + 2)
                            have hg8 : g8 < w12.heap.size := ((S.out.own 0 rfl).lt _ rfl).2
                            clear a0 a1 a2
                            have q_x1 := S.out.get 5 1 rfl rfl
                            have q_x2 := S.out.get 5 2 rfl rfl
                            have q_x3 := S.out.get 5 3 rfl rfl
                            have lx := S.out.lt 5 rfl
                            have lx2 : w.heap.size + 1 < w12.heap.size := by omega
                            have lx3 : w.heap.size + 1 + 1 < w12.heap.size + 1 := by omega
                            have hg9 : g8 ≤ w12.heap.size := by omega
                            have hg10 : g8 < w12.heap.size + 1 := by omega
                            have HST := Lib.hid (ptCells_setPt d.pts pn ⟨xl, xh, pt.cost⟩ hpl)
                            have S2 := Lib.hid (((((S.out.put 0 (pn * 3) (I xl) rfl).put 0 (pn * 3 + 1) (I xh) rfl).put 0 (pn * 3 + 2) (I pt.cost) rfl).alloc [.slice (some ⟨g8, 0, none⟩) d.pts.length c8, .slice A9 d.odds.length c9] 25).alloc [I xl, I xh, I pt.cost] 39)
                            dsimp only [List.set_cons_zero, List.set_cons_succ] at S2
                            have hst := HST.out
                            dsimp only at hst
                            rw [hst] at S2
                            clear hst
                            have hpi : (pn : Int) < (d.pts.length : Int) := by omega
                            have H2 := Lib.hid (setFlow_many hpl xl xh)
                            have HD1 := Lib.hid (show valid (setFlow d pn xl xh) = true ∧ setFlow d pn xl xh = setFlow d pn xl xh from ⟨setFlow_valid HV.out pn xl xh (by have := HIN.out; rw [inside_iff] at this; have := (valid_pt HV.out pn hpl); rw [getD_pt _ hpl, HPTE.out] at this; dsimp only at *; omega) (by have := HIN.out; rw [inside_iff] at this; dsimp only at *; omega) (by have := HIN.out; rw [inside_iff] at this; have := (valid_pt HV.out pn hpl); rw [getD_pt _ hpl, HPTE.out] at this; dsimp only at *; omega), rfl⟩)
                            have HH := Lib.hid (show ((setFlow d pn xl xh).pts.getD d.odds.length default).hi ≤ 40 by
                              rw [(setFlow_get d pn xl xh d.odds.length hpl).2]
                              have h1 := H40.out
                              have h2 := HIN.out
                              rw [inside_iff] at h2
                              by_cases e : d.odds.length = pn
                              · rw [if_pos e]
                                rw [e, getD_pt _ hpl, HPTE.out] at h1
                                dsimp only at h2
                                omega
                              · rw [if_neg e]; exact h1)
                            have HNO := Lib.hid (fun h1 => narrow_of HV.out pn hpl xl xh (by rw [HPTE.out]; exact HIN.out) h1)
                            obtain ⟨D, hD⟩ : ∃ D, setFlow d pn xl xh = D := ⟨_, rfl⟩
                            have S2 := Lib.hid (show St w _ _ (.box _ _ :: .box _ _ :: .own _ 3 _ d.pts.length (ptCells D.pts) :: _) from (by rw [← hD, setFlow_set hpl, HPTE.out]; exact S2.out))
                            rw [hD] at H2 HD1 HNO HH
                            clear hD
                            go_wp2_with fail
                            clear z0 z1 z2 u0 u1 u2 hg8 lx lx2 lx3 hg9 hg10 hpi q_x1 q_x2 q_x3 HST
                            cases hone : oneB D
                            · have HONE := Lib.hid hone
                              clear hone
                              refine (one_any _ D _ (line_of (vp := .slice (some ⟨g8, 0, none⟩) d.pts.length c8) (vo := .slice A9 d.odds.length c9) (S2.out.row 2 rfl) (S2.out.row 3 rfl) H2.out.1 H2.out.2) HD1.out.1).mono ?_
                              rintro e w8 ⟨rfl, hb⟩
                              rw [HONE.out]
                              have S := Lib.hid (S2.out.call hb)
                              clear hb
                              clear S2
                              go_wp2_with fail
                              refine (gated_any _).mono ?_
                              rintro e w9 ⟨rfl, hb⟩
                              have S := Lib.hid (S.out.call hb)
                              clear hb
                              go_wp2_with fail
                              go_ret
                              exact ⟨rfl, S.out.bel⟩
                            · have HONE := Lib.hid hone
                              have hnw := HNO.out hone
                              have hlD : D.odds.length = d.odds.length := by rw [H2.out.2]
                              have hqn : d.odds.length < d.pts.length := by have := (valid_spec HV.out).2.1; omega
                              obtain ⟨lo1, hi1, hfl1, hlh1, hf41, hfa1⟩ := last_flow hnw.vD hnw.cD (by rw [hlD]; exact HH.out)
                              rw [hlD] at hfa1
                              have hin1 := hnw.flow d.odds.length hqn
                              rw [inside_iff, HFA.out, hfa1] at hin1
                              dsimp only at hin1
                              have HFL1 := Lib.hid hfl1
                              have HLH1 := Lib.hid hlh1
                              have HF41 := Lib.hid hf41
                              have HGB1 := Lib.hid (show lo0 ≤ lo1 ∧ hi1 ≤ hi0 by omega)
                              clear hone hnw hlD hqn hfl1 hlh1 hf41 hfa1 hin1
                              refine (one_any _ D _ (line_of (vp := .slice (some ⟨g8, 0, none⟩) d.pts.length c8) (vo := .slice A9 d.odds.length c9) (S2.out.row 2 rfl) (S2.out.row 3 rfl) H2.out.1 H2.out.2) HD1.out.1).mono ?_
                              rintro e w8 ⟨rfl, hb⟩
                              rw [HONE.out]
                              have S := Lib.hid (S2.out.call hb)
                              clear hb
                              clear S2
                              have q_o0 := S.out.get 1 0 rfl rfl
                              have q_o1 := S.out.get 1 1 rfl rfl
                              have q_box0 := S.out.get 8 0 rfl rfl
                              have q_box1 := S.out.get 8 1 rfl rfl
                              go_wp2_with fail
                              refine (last_any _ _ D b lo1 hi1 _ (line_of (vp := .slice (some ⟨g8, 0, none⟩) d.pts.length c8) (vo := .slice A9 d.odds.length c9) (S.out.row 2 rfl) (S.out.row 3 rfl) H2.out.1 H2.out.2) ⟨_, _, rfl, HS.out.below S.out.bel, HM.out.below S.out.bel⟩ HD1.out.1 HOK.out HFL1.out HLH1.out HF41.out).mono ?_
                              rintro e w9 ⟨v', rfl, hown, hb⟩
                              obtain ⟨A10, c10, rfl⟩ := own_shape hown
                              have S := Lib.hid (S.out.take hb hown)
                              clear hb
                              clear hown
                              clear q_o0 q_o1 q_box0 q_box1
                              go_wp2_with fail
                              have S := Lib.hid (show St w _ _ [.own 29 2 (.slice A10 b.sh.length c10) b.sh.length (prC (betM b lo1 hi1 b.sh.length)), .own 29 2 (.slice A6 b.sh.length c6) b.sh.length (prC (betM b lo0 hi0 b.sh.length))] from ((((((S.out.cut 8).drop 1).drop 1).drop 1).drop 1).drop 1).drop 1)
                              go_loopw [17] (fun i wr => ∃ k : Nat, k ≤ b.sh.length ∧ i = I k ∧ Hid (St w wr wr.heap.size [.own 29 2 (.slice A10 b.sh.length c10) b.sh.length (prC (betM b lo1 hi1 b.sh.length)), .own 29 2 (.slice A6 b.sh.length c6) b.sh.length (prC (betM b lo0 hi0 b.sh.length))])) (fun i _ => b.sh.length - (intOf i).toNat)
                              case atStart => exact ⟨0, by omega, rfl, Lib.hid S.out.fix⟩
                              case round =>
                                clear S
                                obtain ⟨k, hk, rfl, S⟩ := hrel
                                by_cases hlt : k < b.sh.length
                                · have hki : (k : Int) < (b.sh.length : Int) := by omega
                                  obtain ⟨g10, c10', e10, -, -⟩ := own_shape_pos (S.out.own 0 rfl) (show 0 < b.sh.length by omega)
                                  injection e10 with e10 _ e10c
                                  subst e10
                                  obtain ⟨g6, c6', e6, -, -⟩ := own_shape_pos (S.out.own 1 rfl) (show 0 < b.sh.length by omega)
                                  injection e6 with e6 _ e6c
                                  subst e6
                                  have y0 := own_at2 (S.out.own 0 rfl) (betM_at (b := b) (lo := lo1) (hi := hi1) hlt).1
                                  have y3 := own_at2 (S.out.own 0 rfl) (betM_at (b := b) (lo := lo1) (hi := hi1) hlt).2
                                  have y1 := own_at2 (S.out.own 1 rfl) (betM_at (b := b) (lo := lo0) (hi := hi0) hlt).1
                                  have y2 := own_at2 (S.out.own 1 rfl) (betM_at (b := b) (lo := lo0) (hi := hi0) hlt).2
                                  have m1 := hasM_mono b 5 HGB1.out.1 k
                                  have m2 := hasM_mono b 5 HGB1.out.2 k
                                  obtain ⟨x0, hx0⟩ : ∃ x, mAt (hasM b 5 lo1) (k : Int) = x := ⟨_, rfl⟩
                                  obtain ⟨x3, hx3⟩ : ∃ x, mAt (hasM b 5 hi1) (k : Int) = x := ⟨_, rfl⟩
                                  obtain ⟨x1, hx1⟩ : ∃ x, mAt (hasM b 5 lo0) (k : Int) = x := ⟨_, rfl⟩
                                  obtain ⟨x2, hx2⟩ : ∃ x, mAt (hasM b 5 hi0) (k : Int) = x := ⟨_, rfl⟩
                                  rw [hx0] at y0 m1
                                  rw [hx3] at y3 m2
                                  rw [hx1] at y1 m1
                                  rw [hx2] at y2 m2
                                  clear hx0 hx1 hx2 hx3 e6c e10c
                                  have n1 : ¬ x0 < x1 := by omega
                                  have n2 : ¬ x2 < x3 := by omega
                                  go_wp2_with fail
                                  have y0 := cell_regrown y0
                                  have y1 := cell_regrown y1
                                  have y2 := cell_regrown y2
                                  have y3 := cell_regrown y3
                                  refine wp_region_ext (by kernel_rfl) (by kernel_rfl) ?_
                                  repeat (first | go_big_quiet_step (fail) | quiet_step (fail))
                                  refine wpQuiet_nil ?_
                                  clear y0 y1 y2 y3
                                  intro wq hbq
                                  have S := Lib.hid (S.out.call hbq)
                                  clear hbq
                                  have h5k := HSL.out
                                  go_wp2_with fail
                                  go_roundw
                                  case rel => exact ⟨k + 1, by omega, by go_num, Lib.hid S.out.fix⟩
                                  case measure => first | (simp [intOf]; done) | (simp [intOf]; omega)
                                · have hki : ¬ (k : Int) < (b.sh.length : Int) := by omega
                                  go_wp2_with fail
                                  refine (gated_any _).mono ?_
                                  rintro e w10 ⟨rfl, hb⟩
                                  have S := Lib.hid (S.out.call hb)
                                  clear hb
                                  go_wp2_with fail
                                  go_ret
                                  exact ⟨rfl, S.out.bel⟩
      · have HFM := Lib.hid hfm
        clear hfm
        clear hvd
        go_enter Try.func3, Try.ntmps3
        have q_line0 := S.out.get 2 0 rfl rfl
        have q_line1 := S.out.get 2 1 rfl rfl
        have q_box0 := S.out.get 1 0 rfl rfl
        have q_box1 := S.out.get 1 1 rfl rfl
        have q_x0 := S.out.get 0 0 rfl rfl
        have q_x1 := S.out.get 0 1 rfl rfl
        have q_x2 := S.out.get 0 2 rfl rfl
        have q_x3 := S.out.get 0 3 rfl rfl
        go_wp2_with fail
        refine (far_any _ d _ ⟨_, _, rfl, HP.out.below S.out.bel, HO.out.below S.out.bel⟩).mono ?_
        rintro e w1 ⟨rfl, hb⟩
        rw [HFD.out]
        have S := Lib.hid (S.out.call hb)
        clear hb
        clear q_line0 q_line1 q_box0 q_box1 q_x0 q_x1 q_x2 q_x3
        have q_line0 := S.out.get 2 0 rfl rfl
        have q_line1 := S.out.get 2 1 rfl rfl
        have q_box0 := S.out.get 1 0 rfl rfl
        have q_box1 := S.out.get 1 1 rfl rfl
        have q_x0 := S.out.get 0 0 rfl rfl
        have q_x1 := S.out.get 0 1 rfl rfl
        have q_x2 := S.out.get 0 2 rfl rfl
        have q_x3 := S.out.get 0 3 rfl rfl
        go_wp2_with fail
        refine (rCheck_any _ d _ ⟨_, _, rfl, HP.out.below S.out.bel, HO.out.below S.out.bel⟩ HL2.out.1 HL2.out.2).mono ?_
        rintro e w2 ⟨rfl, hb⟩
        rw [HCK.out]
        have S := Lib.hid (S.out.call hb)
        clear hb
        clear q_line0 q_line1 q_box0 q_box1 q_x0 q_x1 q_x2 q_x3
        have q_line0 := S.out.get 2 0 rfl rfl
        have q_line1 := S.out.get 2 1 rfl rfl
        have q_box0 := S.out.get 1 0 rfl rfl
        have q_box1 := S.out.get 1 1 rfl rfl
        have q_x0 := S.out.get 0 0 rfl rfl
        have q_x1 := S.out.get 0 1 rfl rfl
        have q_x2 := S.out.get 0 2 rfl rfl
        have q_x3 := S.out.get 0 3 rfl rfl
        go_wp2_with fail
        refine (far7_any _ b _ ⟨_, _, rfl, HS.out.below S.out.bel, HM.out.below S.out.bel⟩).mono ?_
        rintro e w3 ⟨rfl, hb⟩
        rw [HFM.out]
        have S := Lib.hid (S.out.call hb)
        clear hb
        clear q_line0 q_line1 q_box0 q_box1 q_x0 q_x1 q_x2 q_x3
        have q_line0 := S.out.get 2 0 rfl rfl
        have q_line1 := S.out.get 2 1 rfl rfl
        have q_box0 := S.out.get 1 0 rfl rfl
        have q_box1 := S.out.get 1 1 rfl rfl
        have q_x0 := S.out.get 0 0 rfl rfl
        have q_x1 := S.out.get 0 1 rfl rfl
        have q_x2 := S.out.get 0 2 rfl rfl
        have q_x3 := S.out.get 0 3 rfl rfl
        go_wp2_with fail
        refine (gated_any _).mono ?_
        rintro e w4 ⟨rfl, hb⟩
        have S := Lib.hid (S.out.call hb)
        clear hb
        clear q_line0 q_line1 q_box0 q_box1 q_x0 q_x1 q_x2 q_x3
        have q_line0 := S.out.get 2 0 rfl rfl
        have q_line1 := S.out.get 2 1 rfl rfl
        have q_box0 := S.out.get 1 0 rfl rfl
        have q_box1 := S.out.get 1 1 rfl rfl
        have q_x0 := S.out.get 0 0 rfl rfl
        have q_x1 := S.out.get 0 1 rfl rfl
        have q_x2 := S.out.get 0 2 rfl rfl
        have q_x3 := S.out.get 0 3 rfl rfl
        go_wp2_with fail
        go_ret
        exact ⟨rfl, S.out.bel⟩
  · have HFD := Lib.hid hfd
    clear hfd
    go_enter Try.func3, Try.ntmps3
    have q_line0 := S.out.get 2 0 rfl rfl
    have q_line1 := S.out.get 2 1 rfl rfl
    have q_box0 := S.out.get 1 0 rfl rfl
    have q_box1 := S.out.get 1 1 rfl rfl
    have q_x0 := S.out.get 0 0 rfl rfl
    have q_x1 := S.out.get 0 1 rfl rfl
    have q_x2 := S.out.get 0 2 rfl rfl
    have q_x3 := S.out.get 0 3 rfl rfl
    go_wp2_with fail
    refine (far_any _ d _ ⟨_, _, rfl, HP.out.below S.out.bel, HO.out.below S.out.bel⟩).mono ?_
    rintro e w1 ⟨rfl, hb⟩
    rw [HFD.out]
    have S := Lib.hid (S.out.call hb)
    clear hb
    clear q_line0 q_line1 q_box0 q_box1 q_x0 q_x1 q_x2 q_x3
    have q_line0 := S.out.get 2 0 rfl rfl
    have q_line1 := S.out.get 2 1 rfl rfl
    have q_box0 := S.out.get 1 0 rfl rfl
    have q_box1 := S.out.get 1 1 rfl rfl
    have q_x0 := S.out.get 0 0 rfl rfl
    have q_x1 := S.out.get 0 1 rfl rfl
    have q_x2 := S.out.get 0 2 rfl rfl
    have q_x3 := S.out.get 0 3 rfl rfl
    go_wp2_with fail
    refine (gated_any _).mono ?_
    rintro e w2 ⟨rfl, hb⟩
    have S := Lib.hid (S.out.call hb)
    clear hb
    clear q_line0 q_line1 q_box0 q_box1 q_x0 q_x1 q_x2 q_x3
    have q_line0 := S.out.get 2 0 rfl rfl
    have q_line1 := S.out.get 2 1 rfl rfl
    have q_box0 := S.out.get 1 0 rfl rfl
    have q_box1 := S.out.get 1 1 rfl rfl
    have q_x0 := S.out.get 0 0 rfl rfl
    have q_x1 := S.out.get 0 1 rfl rfl
    have q_x2 := S.out.get 0 2 rfl rfl
    have q_x3 := S.out.get 0 3 rfl rfl
    go_wp2_with fail
    go_ret
    exact ⟨rfl, S.out.bel⟩

end Go.Proofs.Ytldcehhhndlhdaa

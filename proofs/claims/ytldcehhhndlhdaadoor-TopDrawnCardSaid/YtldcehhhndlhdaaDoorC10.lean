/- Walks: said, with each function value that it is called with. -/
import Derived.Test.YtldcehhhndlhdaaDoorC9
import Derived.RangeFuncNested
import Derived.RangeFuncBound
import Derived.RangeFuncCalls
import Derived.RangeFuncLeaves
import Derived.Test.YtldcehhhndlhdaaDoorRows
import Derived.Test.YtldcehhhndlhdaaDoorC5
namespace Go.Proofs.YtldcehhhndlhdaaDoor
open Go.RowKit Go.Sort

/-- Bounds in new memory, and whether there is a truth. -/
def RetSaid (t : Twn) (is : Nat → Bool) (w : World) (e : Ending) (w' : World) : Prop :=
  ∃ B, e = .returned (.tuple #[.pointer (some ⟨B, 0, none⟩), .bool (diagOk (closeM (baseM (sub t is))))]) ∧ w.heap.size ≤ B ∧ MatAt w' B (closeM (baseM (sub t is))) ∧ Below w.heap.size w w'
/-- The bounds, as a thing of the call's own. -/
def mat (B : Nat) (ms : List Int) : Item := .any B (fun o => o = .cells (ms.map I).toArray 163 (0, 0))
section
variable {w0 w w' : World} {n : Nat} {L : List Item}
theorem mat_ok {base : Nat} {B : Nat} {ms : List Int} (h : (mat B ms).ok base w) : MatAt w B ms := by
  obtain ⟨_, o, h1, rfl⟩ := h
  exact h1
theorem mat_mk {base : Nat} {B : Nat} {ms : List Int} (hB : base ≤ B) (h : MatAt w B ms) : (mat B ms).ok base w := ⟨hB, _, h, rfl⟩
theorem St.mat (h : St w0 w n L) (i : Nat) {B : Nat} {ms : List Int} (hi : L[i]? = some (mat B ms)) : MatAt w B ms := mat_ok (h.ok _ (List.mem_of_getElem? hi))
theorem St.upd (h : St w0 w n L) (i : Nat) {B : Nat} {ms ms' : List Int} (hi : L[i]? = some (Go.Proofs.YtldcehhhndlhdaaDoor.mat B ms)) (hg : w.grownBy w' (some B)) (hm : MatAt w' B ms') : St w0 w' w'.heap.size (L.set i (Go.Proofs.YtldcehhhndlhdaaDoor.mat B ms')) :=
  h.turn i _ hi hg (mat_mk (h.baseO i hi) hm) (fun _ e => .inl e)
theorem St.takeM (h : St w0 w n L) (hb : Below w.heap.size w w') {B : Nat} {ms : List Int} (hB : w.heap.size ≤ B) (hm : MatAt w' B ms) : St w0 w' w'.heap.size (Go.Proofs.YtldcehhhndlhdaaDoor.mat B ms :: L) := by
  have h2 := h.call hb
  refine ⟨rfl, h2.bel, fun x hx => ?_, ?_⟩
  · rcases List.mem_cons.1 hx with hx | hx
    · rw [hx]; exact mat_mk (Nat.le_trans h.bel.size hB) hm
    · exact h2.ok x hx
  · have e0 : (Go.Proofs.YtldcehhhndlhdaaDoor.mat B ms).blk = some B := rfl
    rw [List.filterMap_cons, e0]
    refine List.nodup_cons.2 ⟨fun hx => ?_, h.apart⟩
    have := (h.lt_of hx).2
    have := h.size
    omega
end

/-- This function value tells of each word whether it was said. -/
def TellsAll (w : World) (is : Nat → Bool) : Prop :=
  ∀ (W : World) (n : Nat), n ≤ 100 → Below w.heap.size w W → Calls Tryd.prog 81 #[I n] W fun e w' => e = .returned (.bool (is n)) ∧ Below W.heap.size W w'

set_option maxRecDepth 20000 in
set_option maxHeartbeats 8000000 in
theorem saidAll_any (v : Value) (t : Twn) (is : Nat → Bool) (w : World) (hv : TwnAt w v t) (hvl : Vl t) (hl1 : t.snd.length ≤ 8) (hl2 : t.slp.length ≤ 8) (hf : TellsAll w is) :
    Calls Tryd.prog 80 #[v, .func (.func 81) #[] #[]] w fun e w' => RetSaid t is w e w' := by
  obtain ⟨sv, pv, rfl, hs, hp⟩ := hv
  obtain ⟨A1, c1, rfl, hsl1, hsl2, hc1⟩ := hs.open_
  obtain ⟨A2, c2, rfl, hpl1, hpl2, hc2⟩ := hp.open_
  have HC1 := Lib.hid hc1
  have HC2 := Lib.hid hc2
  have HF := Lib.hid hf
  have HVL := Lib.hid hvl
  have hw0 := hvl.w0
  have hw6 := hvl.w6
  clear hc1 hc2 hs hp hf hvl
  have S := Lib.hid (show St w (w.alloc (.cells #[I t.wells, .slice A1 t.snd.length c1, .slice A2 t.slp.length c2] 25)) (w.heap.size + 1) [.box w.heap.size [I t.wells, .slice A1 t.snd.length c1, .slice A2 t.slp.length c2]] from (St.init w).alloc [I t.wells, .slice A1 t.snd.length c1, .slice A2 t.slp.length c2] 25)
  have q0 := S.out.get 0 0 rfl rfl
  have q1 := S.out.get 0 1 rfl rfl
  have q2 := S.out.get 0 2 rfl rfl
  go_enter Tryd.func80, Tryd.ntmps80
  go_wp2_with fail
  refine (rock_any t.wells _ hw0 hw6).mono ?_
  rintro e w1 ⟨rfl, hm, hb⟩
  have S := Lib.hid (S.out.takeM hb (Nat.le_refl _) hm)
  have hB : (w.alloc (.cells #[I t.wells, .slice A1 t.snd.length c1, .slice A2 t.slp.length c2] 25)).heap.size = w.heap.size + 1 := by simp
  rw [hB] at S ⊢
  clear hB q0 q1 q2 hm hb
  have q1 := S.out.get 1 1 rfl rfl
  have hb0 := S.out.lt 1 rfl
  have S := Lib.hid (show St w w1 w1.heap.size [mat (w.heap.size + 1) (sndTo t is 0), .box w.heap.size [I t.wells, .slice A1 t.snd.length c1, .slice A2 t.slp.length c2]] from S.out)
  go_wp2_with fail
  go_loopw [17] (fun i wr => ∃ k : Nat, k ≤ t.snd.length ∧ i = I k ∧ Hid (St w wr wr.heap.size [mat (w.heap.size + 1) (sndTo t is k), .box w.heap.size [I t.wells, .slice A1 t.snd.length c1, .slice A2 t.slp.length c2]])) (fun i _ => t.snd.length - (intOf i).toNat)
  case atStart => exact ⟨0, by omega, rfl, S⟩
  case round =>
    clear q1 hb0 S
    obtain ⟨k, hk, rfl, S⟩ := hrel
    by_cases hlt : k < t.snd.length
    · obtain ⟨b1, o1, rfl, hb1, hcell1⟩ := HC1.out (by omega)
      obtain ⟨x0, x1, x2⟩ := hcell1 k hlt
      have x0 := keep_cell S.out.bel x0
      have x1 := keep_cell S.out.bel x1
      have x2 := keep_cell S.out.bel x2
      have hst := sndTo_succ is hlt
      have hok := HVL.out.snd' _ (List.getElem_mem hlt)
      have hlow := HVL.out.snd _ (List.getElem_mem hlt)
      clear hcell1
      obtain ⟨⟨sw, sl, sh⟩, hs⟩ : ∃ s, t.snd[k] = s := ⟨_, rfl⟩
      rw [hs] at x0 x1 x2 hst hok hlow
      have HST := Lib.hid hst
      have HOK := Lib.hid hok
      have HLOW := Lib.hid hlow
      clear hs hst hok hlow
      dsimp only at x0 x1 x2
      have hlt0 := S.out.lt 1 rfl
      have y1 := S.out.get 1 1 rfl rfl
      have y2 := S.out.get 1 2 rfl rfl
      go_wp2_with fail
      have S := Lib.hid (S.out.alloc [I sw, I sl, I sh] 31)
      clear x0 x1 x2 hlt0 y1 y2
      refine (HF.out _ k (by omega) S.out.bel).mono ?_
      rintro e w2 ⟨rfl, hb⟩
      have S := Lib.hid (S.out.call hb)
      clear hb
      cases hi : is k
      · have HST := Lib.hid (show sndTo t is (k + 1) = sndTo t is k by rw [HST.out, if_neg (by rw [hi]; simp)])
        clear hi
        go_wp2_with fail
        go_roundw
        case rel => exact ⟨k + 1, by omega, by go_num, Lib.hid (by rw [HST.out]; exact S.out.tail)⟩
        case measure => first | (simp [intOf]; done) | (simp [intOf]; omega)
      · have HST := Lib.hid (HST.out.trans (if_pos hi))
        clear hi
        have z0 := S.out.get 0 0 rfl rfl
        have z1 := S.out.get 0 1 rfl rfl
        have z2 := S.out.get 0 2 rfl rfl
        go_wp2_with fail
        clear z0 z1 z2
        refine (sound_any (w.heap.size + 1) ⟨sw, sl, sh⟩ _ _ (S.out.mat 1 rfl) (sndTo_len _ _ _) (by have := HOK.out; dsimp only at this ⊢; omega) (by have := HOK.out; dsimp only at this ⊢; omega) (by have := HLOW.out; dsimp only at this ⊢; omega) (by have := HLOW.out; dsimp only at this ⊢; omega)).mono ?_
        rintro e w3 ⟨rfl, hg, hm⟩
        have S := Lib.hid (S.out.upd 1 rfl hg hm)
        clear hg hm
        go_wp2_with fail
        go_roundw
        case rel => exact ⟨k + 1, by omega, by go_num, Lib.hid (by rw [HST.out]; exact S.out.tail)⟩
        case measure => first | (simp [intOf]; done) | (simp [intOf]; omega)
    · obtain rfl : k = t.snd.length := by omega
      have S := Lib.hid (show St w wr wr.heap.size [mat (w.heap.size + 1) (slpTo t is 0), .box w.heap.size [I t.wells, .slice A1 t.snd.length c1, .slice A2 t.slp.length c2]] from S.out)
      have q1 := S.out.get 1 2 rfl rfl
      have hb0 := S.out.lt 1 rfl
      go_wp2_with fail
      go_loopw [32] (fun i wr => ∃ k : Nat, k ≤ t.slp.length ∧ i = I k ∧ Hid (St w wr wr.heap.size [mat (w.heap.size + 1) (slpTo t is k), .box w.heap.size [I t.wells, .slice A1 t.snd.length c1, .slice A2 t.slp.length c2]])) (fun i _ => t.slp.length - (intOf i).toNat)
      case atStart => exact ⟨0, by omega, rfl, S⟩
      case round =>
        clear q1 hb0 S
        obtain ⟨k, hk, rfl, S⟩ := hrel
        by_cases hlt : k < t.slp.length
        · obtain ⟨b1, o1, rfl, hb1, hcell1⟩ := HC2.out (by omega)
          obtain ⟨x0, x1, x2, x3⟩ := hcell1 k hlt
          have x0 := keep_cell S.out.bel x0
          have x1 := keep_cell S.out.bel x1
          have x2 := keep_cell S.out.bel x2
          have x3 := keep_cell S.out.bel x3
          have hst := slpTo_succ is hlt
          have hok := HVL.out.slp' _ (List.getElem_mem hlt)
          have hlow := HVL.out.slp _ (List.getElem_mem hlt)
          clear hcell1
          obtain ⟨⟨sa, sb, sl, sh⟩, hs⟩ : ∃ s, t.slp[k] = s := ⟨_, rfl⟩
          rw [hs] at x0 x1 x2 x3 hst hok hlow
          have HST := Lib.hid hst
          have HOK := Lib.hid hok
          have HLOW := Lib.hid hlow
          clear hs hst hok hlow
          dsimp only at x0 x1 x2 x3
          have hlt0 := S.out.lt 1 rfl
          have y1 := S.out.get 1 1 rfl rfl
          have y2 := S.out.get 1 2 rfl rfl
          go_wp2_with fail
          have S := Lib.hid (S.out.alloc [I sa, I sb, I sl, I sh] 77)
          clear x0 x1 x2 x3 hlt0 y1 y2
          rw [show ((t.snd.length : Int) + (k : Int)) = ((t.snd.length + k : Nat) : Int) by omega]
          refine (HF.out _ (t.snd.length + k) (by omega) S.out.bel).mono ?_
          rintro e w2 ⟨rfl, hb⟩
          have S := Lib.hid (S.out.call hb)
          clear hb
          cases hi : is (t.snd.length + k)
          · have HST := Lib.hid (show slpTo t is (k + 1) = slpTo t is k by rw [HST.out, if_neg (by rw [hi]; simp)])
            clear hi
            go_wp2_with fail
            go_roundw
            case rel => exact ⟨k + 1, by omega, by go_num, Lib.hid (by rw [HST.out]; exact S.out.tail)⟩
            case measure => first | (simp [intOf]; done) | (simp [intOf]; omega)
          · have HST := Lib.hid (HST.out.trans (if_pos hi))
            clear hi
            have z0 := S.out.get 0 0 rfl rfl
            have z1 := S.out.get 0 1 rfl rfl
            have z2 := S.out.get 0 2 rfl rfl
            have z3 := S.out.get 0 3 rfl rfl
            go_wp2_with fail
            clear z0 z1 z2 z3
            refine (slope_any (w.heap.size + 1) ⟨sa, sb, sl, sh⟩ _ _ (S.out.mat 1 rfl) (slpTo_len _ _ _) (by have := HOK.out; dsimp only at this ⊢; omega) (by have := HOK.out; dsimp only at this ⊢; omega) (by have := HOK.out; dsimp only at this ⊢; omega) (by have := HOK.out; dsimp only at this ⊢; omega) (by have := HLOW.out; dsimp only at this ⊢; omega) (by have := HLOW.out; dsimp only at this ⊢; omega)).mono ?_
            rintro e w3 ⟨rfl, hg, hm⟩
            have S := Lib.hid (S.out.upd 1 rfl hg hm)
            clear hg hm
            go_wp2_with fail
            go_roundw
            case rel => exact ⟨k + 1, by omega, by go_num, Lib.hid (by rw [HST.out]; exact S.out.tail)⟩
            case measure => first | (simp [intOf]; done) | (simp [intOf]; omega)
        · have hall := slpTo_all t is
          have hk' : k = t.slp.length := by omega
          rw [← hk'] at hall
          have HALL := Lib.hid hall
          have S := Lib.hid (show St w wr wr.heap.size [mat (w.heap.size + 1) (baseM (sub t is)), .box w.heap.size [I t.wells, .slice A1 t.snd.length c1, .slice A2 t.slp.length c2]] from by rw [← HALL.out]; exact S.out)
          clear hall hk'
          go_wp2_with fail
          refine (close_any (w.heap.size + 1) _ _ (S.out.mat 0 rfl) (baseM_bd (HVL.out.sub is))).mono ?_
          rintro e w4 ⟨rfl, hg, hm⟩
          have S := Lib.hid (S.out.upd 0 rfl hg hm)
          clear hg hm
          go_wp2_with fail
          go_ret2
          exact ⟨_, rfl, by simp, S.out.mat 0 rfl, S.out.bel⟩

end Go.Proofs.YtldcehhhndlhdaaDoor
/- Walks: all, words, open, Level, Differ, Higher. -/
namespace Go.Proofs.YtldcehhhndlhdaaDoor
open Go.RowKit Go.Sort

theorem all_tells (w : World) : TellsAll w (fun _ => true) := by
  intro W n hn hb
  go_enter Tryd.func81, Tryd.ntmps81
  go_wp2_with fail
  go_ret
  exact ⟨rfl, Below.refl _ _⟩
def openE (t : Twn) (is : Bool) : Int := if valid t then (if is then (if diagOk (closeM (baseM t)) then 0 else 3) else 1) else 10
theorem openE_zero' {t : Twn} {is : Bool} (h : openE t is = 0) : valid t = true ∧ is = true ∧ diagOk (closeM (baseM t)) = true := by
  unfold openE at h
  split at h
  · rename_i h1
    split at h
    · rename_i h2
      split at h
      · rename_i h3
        exact ⟨h1, h2, h3⟩
      · omega
    · omega
  · omega
theorem openE_zero {t : Twn} {is : Bool} (h : openE t is = 0) : Vl t ∧ is = true ∧ diagOk (closeM (baseM t)) = true := ⟨valid_vl (openE_zero' h).1, (openE_zero' h).2⟩
set_option maxRecDepth 20000 in
set_option maxHeartbeats 4000000 in
theorem open_no (v : Value) (t : Twn) (is : Bool) (w : World) (hv : TwnAt w v t) (hne : openE t is ≠ 0) :
    Calls Tryd.prog 56 #[v, .bool is] w fun e w' => e = .returned (.tuple #[.pointer none, I (openE t is)]) ∧ Below w.heap.size w w' := by
  obtain ⟨sv, pv, rfl, hs, hp⟩ := hv
  have HSN := Lib.hid hs
  have HSP := Lib.hid hp
  obtain ⟨A1, c1, rfl, -, -, -⟩ := id hs.open_
  obtain ⟨A2, c2, rfl, -, -, -⟩ := id hp.open_
  clear hs hp
  have S := Lib.hid (show St w (w.alloc (.cells #[I t.wells, .slice A1 t.snd.length c1, .slice A2 t.slp.length c2] 25)) (w.heap.size + 1) [.box w.heap.size [I t.wells, .slice A1 t.snd.length c1, .slice A2 t.slp.length c2]] from (St.init w).alloc [I t.wells, .slice A1 t.snd.length c1, .slice A2 t.slp.length c2] 25)
  have q0 := S.out.get 0 0 rfl rfl
  have q1 := S.out.get 0 1 rfl rfl
  have q2 := S.out.get 0 2 rfl rfl
  cases h : valid t
  · have HC := Lib.hid (show chk t = 10 by simp [chk, h])
    have HE := Lib.hid (show openE t is = 10 by simp [openE, h])
    clear h hne
    go_enter Tryd.func56, Tryd.ntmps56
    go_wp2_with fail
    clear q0 q1 q2
    refine (check_any _ t _ ⟨_, _, rfl, HSN.out.below S.out.bel, HSP.out.below S.out.bel⟩).mono ?_
    rintro e w1 ⟨rfl, hb⟩
    rw [HC.out]
    have S := Lib.hid (S.out.call hb)
    clear hb
    have q0 := S.out.get 0 0 rfl rfl
    have q1 := S.out.get 0 1 rfl rfl
    have q2 := S.out.get 0 2 rfl rfl
    go_wp2_with fail
    go_ret2
    exact ⟨by rw [HE.out]; rfl, S.out.bel⟩
  · have HC := Lib.hid (show chk t = 0 by simp [chk, h])
    cases is
    · have HE := Lib.hid (show openE t false = 1 by simp [openE, h])
      clear h hne
      go_enter Tryd.func56, Tryd.ntmps56
      go_wp2_with fail
      clear q0 q1 q2
      refine (check_any _ t _ ⟨_, _, rfl, HSN.out.below S.out.bel, HSP.out.below S.out.bel⟩).mono ?_
      rintro e w1 ⟨rfl, hb⟩
      rw [HC.out]
      have S := Lib.hid (S.out.call hb)
      clear hb
      have q0 := S.out.get 0 0 rfl rfl
      have q1 := S.out.get 0 1 rfl rfl
      have q2 := S.out.get 0 2 rfl rfl
      go_wp2_with fail
      go_ret2
      exact ⟨by rw [HE.out]; rfl, S.out.bel⟩
    · cases hd : diagOk (closeM (baseM t))
      · have HE := Lib.hid (show openE t true = 3 by simp [openE, h, hd])
        have HV := Lib.hid (valid_iff'.1 h)
        have HD := Lib.hid hd
        clear h hne hd
        go_enter Tryd.func56, Tryd.ntmps56
        go_wp2_with fail
        clear q0 q1 q2
        refine (check_any _ t _ ⟨_, _, rfl, HSN.out.below S.out.bel, HSP.out.below S.out.bel⟩).mono ?_
        rintro e w1 ⟨rfl, hb⟩
        rw [HC.out]
        have S := Lib.hid (S.out.call hb)
        clear hb
        have q0 := S.out.get 0 0 rfl rfl
        have q1 := S.out.get 0 1 rfl rfl
        have q2 := S.out.get 0 2 rfl rfl
        go_wp2_with fail
        clear q0 q1 q2
        refine (saidAll_any _ t (fun _ => true) _ ⟨_, _, rfl, HSN.out.below S.out.bel, HSP.out.below S.out.bel⟩ HV.out.1 HV.out.2.1 HV.out.2.2 (all_tells _)).mono ?_
        rintro e w2 hr
        obtain ⟨B, rfl, hB, hm, hb⟩ := hr
        have hB := Lib.hid hB
        rw [sub_all] at hm ⊢
        rw [HD.out]
        have S := Lib.hid (S.out.takeM hb hB.out hm)
        clear hb hm
        go_wp2_with fail
        go_ret2
        exact ⟨by rw [HE.out]; rfl, S.out.bel⟩
      · exact absurd (by simp [openE, h, hd]) hne

/-- The closed bounds of a town, in new memory. -/
def RetOpen (t : Twn) (w : World) (e : Ending) (w' : World) : Prop := ∃ B, e = .returned (.tuple #[.pointer (some ⟨B, 0, none⟩), I 0]) ∧ w.heap.size ≤ B ∧ MatAt w' B (closeM (baseM t)) ∧ Below w.heap.size w w'

set_option maxRecDepth 20000 in
set_option maxHeartbeats 4000000 in
theorem open_yes (v : Value) (t : Twn) (is : Bool) (w : World) (hv : TwnAt w v t) (he : openE t is = 0) :
    Calls Tryd.prog 56 #[v, .bool is] w fun e w' => RetOpen t w e w' := by
  obtain ⟨sv, pv, rfl, hs, hp⟩ := hv
  have HSN := Lib.hid hs
  have HSP := Lib.hid hp
  obtain ⟨A1, c1, rfl, -, -, -⟩ := id hs.open_
  obtain ⟨A2, c2, rfl, -, -, -⟩ := id hp.open_
  clear hs hp
  have S := Lib.hid (show St w (w.alloc (.cells #[I t.wells, .slice A1 t.snd.length c1, .slice A2 t.slp.length c2] 25)) (w.heap.size + 1) [.box w.heap.size [I t.wells, .slice A1 t.snd.length c1, .slice A2 t.slp.length c2]] from (St.init w).alloc [I t.wells, .slice A1 t.snd.length c1, .slice A2 t.slp.length c2] 25)
  have q0 := S.out.get 0 0 rfl rfl
  have q1 := S.out.get 0 1 rfl rfl
  have q2 := S.out.get 0 2 rfl rfl
  obtain ⟨hvl, rfl, hd⟩ := openE_zero' he
  have HC := Lib.hid (show chk t = 0 by simp [chk, hvl])
  have HV := Lib.hid (valid_iff'.1 hvl)
  have HD := Lib.hid hd
  clear he hvl hd
  go_enter Tryd.func56, Tryd.ntmps56
  go_wp2_with fail
  clear q0 q1 q2
  refine (check_any _ t _ ⟨_, _, rfl, HSN.out.below S.out.bel, HSP.out.below S.out.bel⟩).mono ?_
  rintro e w1 ⟨rfl, hb⟩
  rw [HC.out]
  have S := Lib.hid (S.out.call hb)
  clear hb
  have q0 := S.out.get 0 0 rfl rfl
  have q1 := S.out.get 0 1 rfl rfl
  have q2 := S.out.get 0 2 rfl rfl
  go_wp2_with fail
  clear q0 q1 q2
  refine (saidAll_any _ t (fun _ => true) _ ⟨_, _, rfl, HSN.out.below S.out.bel, HSP.out.below S.out.bel⟩ HV.out.1 HV.out.2.1 HV.out.2.2 (all_tells _)).mono ?_
  rintro e w2 hr
  obtain ⟨B, rfl, hB, hm, hb⟩ := hr
  have hB := Lib.hid hB
  rw [sub_all] at hm ⊢
  rw [HD.out]
  have HB2 := Lib.hid (Nat.le_trans S.out.bel.size hB.out)
  have S := Lib.hid (S.out.takeM hb hB.out hm)
  clear hb hm
  go_wp2_with fail
  go_ret2
  exact ⟨B, rfl, HB2.out, S.out.mat 0 rfl, S.out.bel⟩

end Go.Proofs.YtldcehhhndlhdaaDoor
/- Walks: Level, Differ, Higher. -/
namespace Go.Proofs.YtldcehhhndlhdaaDoor
open Go.RowKit Go.Sort

def levelP (t : Twn) (well : Int) : Sp × Int := if openE t (isWell t.wells well) = 0 then (⟨-at_ (closeM (baseM t)) well.toNat 6, at_ (closeM (baseM t)) 6 well.toNat⟩, 0) else (⟨0, 0⟩, openE t (isWell t.wells well))
def differP (t : Twn) (a b : Int) : Sp × Int := if openE t (isWell t.wells a && isWell t.wells b) = 0 then (⟨-at_ (closeM (baseM t)) b.toNat a.toNat, at_ (closeM (baseM t)) a.toNat b.toNat⟩, 0) else (⟨0, 0⟩, openE t (isWell t.wells a && isWell t.wells b))
theorem open_tight {t : Twn} {is : Bool} (h : openE t is = 0) : Tight t (closeM (baseM t)) := by
  obtain ⟨hv, -, hd⟩ := openE_zero h
  exact (says_ok hv (baseM_says hv)).2 hd
theorem open_bd {t : Twn} {is : Bool} (h : openE t is = 0) {i j : Nat} (hi : act t.wells i) (hj : act t.wells j) : -9000000000 ≤ at_ (closeM (baseM t)) i j ∧ at_ (closeM (baseM t)) i j ≤ 9000000000 := by
  have := (open_tight h).fin i j hi hj
  omega
theorem act_well {W n : Int} (h : isWell W n = true) : act W n.toNat := by
  have := isWell_iff.1 h
  exact .inl (by omega)
theorem closeBase_len (t : Twn) : (closeM (baseM t)).length = 49 := by rw [closeM_len, baseM_len]

set_option maxRecDepth 20000 in
set_option maxHeartbeats 4000000 in
theorem level_any (v : Value) (t : Twn) (well : Int) (w : World) (hv : TwnAt w v t) :
    Calls Tryd.prog 38 #[v, I well] w fun e w' => e = .returned (.tuple #[(levelP t well).1.val, I (levelP t well).2]) ∧ Below w.heap.size w w' := by
  obtain ⟨sv, pv, rfl, hs, hp⟩ := hv
  have HSN := Lib.hid hs
  have HSP := Lib.hid hp
  obtain ⟨A1, c1, rfl, -, -, -⟩ := id hs.open_
  obtain ⟨A2, c2, rfl, -, -, -⟩ := id hp.open_
  clear hs hp
  have S := Lib.hid (show St w (w.alloc (.cells #[I t.wells, .slice A1 t.snd.length c1, .slice A2 t.slp.length c2] 25)) (w.heap.size + 1) [.box w.heap.size [I t.wells, .slice A1 t.snd.length c1, .slice A2 t.slp.length c2]] from (St.init w).alloc [I t.wells, .slice A1 t.snd.length c1, .slice A2 t.slp.length c2] 25)
  have S := Lib.hid (S.out.alloc [I 0, I 0] 47)
  have hlt := S.out.lt 1 rfl
  have q0 := S.out.get 1 0 rfl rfl
  have q1 := S.out.get 1 1 rfl rfl
  have q2 := S.out.get 1 2 rfl rfl
  cases hvd : valid t
  · have HO := Lib.hid (show ∀ x, openE t x = 10 from fun x => by simp [openE, hvd])
    have HE := Lib.hid (show levelP t well = (⟨0, 0⟩, 10) by unfold levelP; rw [if_neg (by rw [HO.out]; simp), HO.out])
    clear hvd
    go_enter Tryd.func38, Tryd.ntmps38
    go_wp2_with fail
    clear q0 q1 q2
    refine wp_region_seg [([0, 1, 2], 3), ([], 4)] [5, 6, 7, 8, 9] [] 10 (by kernel_rfl) (by kernel_rfl) ?_
    intro KQ hKQ w1 hb
    have S := Lib.hid (S.out.call hb)
    clear hb
    have k0 := cell_regrown (S.out.get 1 0 rfl rfl)
    have k1 := cell_regrown (S.out.get 1 1 rfl rfl)
    have k2 := cell_regrown (S.out.get 1 2 rfl rfl)
    refine seg_next ?_
    simp only [opsAt, List.filterMap_cons, List.filterMap_nil, List.getElem?_toArray, List.getElem?_cons_succ, List.getElem?_cons_zero]
    repeat (first | go_big_quiet_step (fail) | quiet_step (fail))
    refine wpQuiet_nil ?_
    intro K hK
    refine loud_op rfl rfl ?_
    go_simp
    refine (isWellW_any _ _ _ _ _ ⟨_, _, _, rfl⟩ ⟨_, _, _, rfl⟩).mono ?_
    rintro e w2 ⟨rfl, hb⟩
    have S := Lib.hid (S.out.call hb)
    refine hK _ _ hb ?_
    clear hK K hb k0 k1 k2
    refine seg_next ?_
    simp only [opsAt, List.filterMap_nil]
    refine wpQuiet_nil ?_
    intro K hK
    refine loud_op rfl rfl ?_
    go_simp
    refine (open_no _ t _ _ ⟨_, _, rfl, HSN.out.below S.out.bel, HSP.out.below S.out.bel⟩ (by rw [HO.out]; simp)).mono ?_
    rintro e w4 ⟨rfl, hb⟩
    rw [HO.out]
    have S := Lib.hid (S.out.call hb)
    refine hK _ _ hb ?_
    clear hK K hb
    refine seg_last ?_
    simp only [opsAt, List.filterMap_cons, List.filterMap_nil, List.getElem?_toArray, List.getElem?_cons_succ, List.getElem?_cons_zero]
    repeat (first | go_big_quiet_step (fail) | quiet_step (fail))
    refine wpQuiet_nil ?_
    have p0 := S.out.get 0 0 rfl rfl
    have p1 := S.out.get 0 1 rfl rfl
    have z0 := S.out.free 0 0 rfl
    have z1 := S.out.free 0 1 rfl
    have hbase := S.out.base 0 rfl

    go_wp2_with fail
    refine bodyPost_ret (v := .tuple #[Sp.val ⟨0, 0⟩, I (10)]) (by simp [results, Tryd.results38, go_sem, p0, p1]) rfl ⟨by rw [HE.out], ?_⟩
    exact (S.out.bel.setCell (by simp) _).setCell (by simp) _
  · have hvl0 := valid_vl hvd
    have hw0 := hvl0.w0
    have hw6 : t.wells ≤ 1000 := by have := hvl0.w6; omega
    clear hvd hvl0
    by_cases h : openE t (isWell t.wells well) = 0
    · have HE := Lib.hid (show levelP t well = _ from if_pos h)
      obtain ⟨hvl, hwl, -⟩ := openE_zero h
      have HA := Lib.hid (show 0 ≤ well ∧ well < 6 by have := isWell_iff.1 hwl; have := hvl.w6; omega)
      have HBD := Lib.hid (open_bd h (act_well hwl) (.inr rfl))
      have HO := Lib.hid h
      clear h hvl hwl
      go_enter Tryd.func38, Tryd.ntmps38
      go_wp2_with fail
      clear q0 q1 q2
      refine wp_region_seg [([0, 1, 2], 3), ([], 4)] [5, 6, 7, 8, 9] [] 10 (by kernel_rfl) (by kernel_rfl) ?_
      intro KQ hKQ w1 hb
      have S := Lib.hid (S.out.call hb)
      clear hb
      have k0 := cell_regrown (S.out.get 1 0 rfl rfl)
      have k1 := cell_regrown (S.out.get 1 1 rfl rfl)
      have k2 := cell_regrown (S.out.get 1 2 rfl rfl)
      refine seg_next ?_
      simp only [opsAt, List.filterMap_cons, List.filterMap_nil, List.getElem?_toArray, List.getElem?_cons_succ, List.getElem?_cons_zero]
      repeat (first | go_big_quiet_step (fail) | quiet_step (fail))
      refine wpQuiet_nil ?_
      intro K hK
      refine loud_op rfl rfl ?_
      go_simp
      refine (isWell_any _ _ _ _ _ hw0 hw6 ⟨_, _, _, rfl⟩ ⟨_, _, _, rfl⟩).mono ?_
      rintro e w2 ⟨rfl, hb⟩
      have S := Lib.hid (S.out.call hb)
      refine hK _ _ hb ?_
      clear hK K hb k0 k1 k2
      refine seg_next ?_
      simp only [opsAt, List.filterMap_nil]
      refine wpQuiet_nil ?_
      intro K hK
      refine loud_op rfl rfl ?_
      go_simp
      refine (open_yes _ t _ _ ⟨_, _, rfl, HSN.out.below S.out.bel, HSP.out.below S.out.bel⟩ HO.out).mono ?_
      rintro e w4 hr
      obtain ⟨B, rfl, hB, hm, hb⟩ := hr
      have hB := Lib.hid hB
      have S := Lib.hid (S.out.takeM hb hB.out hm)
      refine hK _ _ hb ?_
      clear hK K hb hm
      refine seg_last ?_
      simp only [opsAt, List.filterMap_cons, List.filterMap_nil, List.getElem?_toArray, List.getElem?_cons_succ, List.getElem?_cons_zero]
      repeat (first | go_big_quiet_step (fail) | quiet_step (fail))
      refine wpQuiet_nil ?_
      go_wp2_with fail
      refine (span_any B 6 well _ _ (S.out.mat 0 rfl) (closeBase_len t) (by omega) (by omega) (by have := HA.out; omega) (by have := HA.out; omega) HBD.out.1 HBD.out.2).mono ?_
      rintro e w5 ⟨rfl, hb⟩
      have S := Lib.hid (S.out.call hb)
      clear hb
      have p0 := S.out.get 1 0 rfl rfl
      have p1 := S.out.get 1 1 rfl rfl
      have z0 := S.out.free 1 0 rfl
      have z1 := S.out.free 1 1 rfl
      have hbase := S.out.base 1 rfl
      go_wp2_with fail
      refine bodyPost_ret (v := .tuple #[Sp.val ⟨-at_ (closeM (baseM t)) well.toNat 6, at_ (closeM (baseM t)) 6 well.toNat⟩, I 0]) (by simp [results, Tryd.results38, go_sem, p0, p1]) rfl ⟨by first | (rw [HE.out]; done) | (rw [HE.out]; rfl), ?_⟩
      exact (S.out.bel.setCell (by simp) _).setCell (by simp) _
    · have HE := Lib.hid (show levelP t well = _ from if_neg h)
      have HO := Lib.hid h
      clear h
      go_enter Tryd.func38, Tryd.ntmps38
      go_wp2_with fail
      clear q0 q1 q2
      refine wp_region_seg [([0, 1, 2], 3), ([], 4)] [5, 6, 7, 8, 9] [] 10 (by kernel_rfl) (by kernel_rfl) ?_
      intro KQ hKQ w1 hb
      have S := Lib.hid (S.out.call hb)
      clear hb
      have k0 := cell_regrown (S.out.get 1 0 rfl rfl)
      have k1 := cell_regrown (S.out.get 1 1 rfl rfl)
      have k2 := cell_regrown (S.out.get 1 2 rfl rfl)
      refine seg_next ?_
      simp only [opsAt, List.filterMap_cons, List.filterMap_nil, List.getElem?_toArray, List.getElem?_cons_succ, List.getElem?_cons_zero]
      repeat (first | go_big_quiet_step (fail) | quiet_step (fail))
      refine wpQuiet_nil ?_
      intro K hK
      refine loud_op rfl rfl ?_
      go_simp
      refine (isWell_any _ _ _ _ _ hw0 hw6 ⟨_, _, _, rfl⟩ ⟨_, _, _, rfl⟩).mono ?_
      rintro e w2 ⟨rfl, hb⟩
      have S := Lib.hid (S.out.call hb)
      refine hK _ _ hb ?_
      clear hK K hb k0 k1 k2
      refine seg_next ?_
      simp only [opsAt, List.filterMap_nil]
      refine wpQuiet_nil ?_
      intro K hK
      refine loud_op rfl rfl ?_
      go_simp
      refine (open_no _ t _ _ ⟨_, _, rfl, HSN.out.below S.out.bel, HSP.out.below S.out.bel⟩ HO.out).mono ?_
      rintro e w4 ⟨rfl, hb⟩

      have S := Lib.hid (S.out.call hb)
      refine hK _ _ hb ?_
      clear hK K hb
      refine seg_last ?_
      simp only [opsAt, List.filterMap_cons, List.filterMap_nil, List.getElem?_toArray, List.getElem?_cons_succ, List.getElem?_cons_zero]
      repeat (first | go_big_quiet_step (fail) | quiet_step (fail))
      refine wpQuiet_nil ?_
      have p0 := S.out.get 0 0 rfl rfl
      have p1 := S.out.get 0 1 rfl rfl
      have z0 := S.out.free 0 0 rfl
      have z1 := S.out.free 0 1 rfl
      have hbase := S.out.base 0 rfl
      have hne := bne_iff_ne.2 HO.out
      go_wp2_with fail
      refine bodyPost_ret (v := .tuple #[Sp.val ⟨0, 0⟩, I (openE t (isWell t.wells well))]) (by simp [results, Tryd.results38, go_sem, p0, p1]) rfl ⟨by rw [HE.out], ?_⟩
      exact (S.out.bel.setCell (by simp) _).setCell (by simp) _

end Go.Proofs.YtldcehhhndlhdaaDoor
/- A range over a function whose iterator tells of each thing that it yields what is so in the world in which it yields it (R), and that may ask of the caller's invariant what it needs (C). No function here; no conditions. -/
namespace Go.Proofs.YtldcehhhndlhdaaDoor
open Go.RowKit

/-- What an iterator keeps, told of each round what it yields. -/
def SeqR {α : Type} (F : Fence) (n : Nat) (P : Program) (g : Nat) (lb : Array Value) (encs : α → Array Value) (Kp : World → World → Prop) (S Sp : List α → Prop) (C : (List α → World → Prop) → Prop) (R : List α → α → World → Prop) (w : World) : Prop :=
  ∀ (l : Nat) (J Jx : List α → World → Prop) (W : World), Below w.heap.size w W → AbidesFrom W.heap.size J → AbidesFrom W.heap.size Jx → C J →
    (∀ pre x W1, J pre W1 → R pre x W1 → YieldAt F (n - 1) P l (encs x) W1 fun e W' =>
      (e = .returned (.bool true) ∧ J (pre ++ [x]) W' ∧ Kp W1 W') ∨ (e = .returned (.bool false) ∧ Jx (pre ++ [x]) W')) →
    J [] W →
    CallsIn F n P g (#[.func (.yield l) #[] #[]] ++ lb) W fun e W' => (∃ v, e = .returned v) ∧ ((∃ xs, S xs ∧ J xs W') ∨ (∃ pre, Sp pre ∧ Jx pre W'))

variable {F : Fence} {n : Nat} {P : Program}
theorem wpIn_rangeFunc_R {α : Type} {g : Operand} {ps : Array Tmp} {assign body : Code} {Q : Exit → Act → World → Prop} {a : Act} {w : World}
    (hro : F.round = none) (h1 : 1 ≤ n) {gf : Nat} {lb : Array Value} (hg : a.eval g = .func (.func gf) #[] lb) (hFg : F.fn gf) (eg : ∀ args w, (callFunc gf args).run P w = .ok (.enter gf args) w)
    {encs : α → Array Value} {Kp : World → World → Prop} {S Sp : List α → Prop} {C : (List α → World → Prop) → Prop} {R : List α → α → World → Prop} {w0 : World} (hseq : SeqR F (n - 1) P gf lb encs Kp S Sp C R w0)
    (hKt : ∀ {A B C : World}, Kp A B → Kp B C → Kp A C) (hKb : ∀ (W : World) (l : Nat) (o o' : Obj), w.heap.size ≤ l → W.heap[l]? = some o → o.isCells = false → o.isWalk = false → Kp W (W.putObj l o')) (hb0 : Below w0.heap.size w0 w) (hps : ∀ x, (encs x).size = ps.size)
    (I : List α → World → Prop) (Ix : Code → List α → World → Prop) (hI : OwnFrom w.heap.size I) (hIx : ∀ c, OwnFrom w.heap.size (Ix c)) (hC : ∀ J : List α → World → Prop, (∀ pre W, J pre W → I pre W) → C J) (h0 : I [] w) (Ax : List α → α → Act → World → Prop) (hAx : ∀ pre x a', OwnFrom w.heap.size (fun (_ : Unit) W => Ax pre x a' W))
    (hassign : ∀ (l : Nat) (pre : List α) (x : α) (W : World) (K : Act → World → Prop), I pre W → R pre x W → (∀ a' W', KeepsFrom w.heap.size W W' → Kp W W' → I pre W' → Ax pre x a' W' → K a' W') →
      assign.wpIn (F.inRound l) (n - 1 - 1) P (Exit.then K (fun _ _ _ => False)) { tmps := (ps.zip (encs x)).foldl (fun t (p, v) => t.setIfInBounds p v) a.tmps, defers := [] } W)
    (hbody : ∀ (l : Nat) (pre : List α) (x : α) (a' : Act) (W : World), w.heap.size ≤ l → (∃ r, W.heap[l]? = some (.loop r)) → I pre W → Ax pre x a' W → body.wpIn (F.inRound l) (n - 1 - 1) P (ownPostG w.heap.size Kp I Ix (pre ++ [x]) W) a' W)
    (hdone : ∀ (D : Nat) (xs : List α) (W : World), w.heap.size ≤ D → S xs → I xs W → W.heap[D]? = some (.deferred (some [])) → Q .normal { a with defers := { target := .collected D, args := #[] } :: a.defers } W)
    (hstop : ∀ (D : Nat) (c : Code) (pre : List α) (W : World), w.heap.size ≤ D → Sp pre → Ix c pre W → W.heap[D]? = some (.deferred (some [])) → c.wpIn F n P Q { a with defers := { target := .collected D, args := #[] } :: a.defers } W) :
    (Code.rangeFunc g ps assign body).wpIn F n P Q a w := by
  refine wpIn_rangeFunc fun fn hfn => ?_
  rw [hro]
  obtain ⟨D, hD⟩ : ∃ D, w.heap.size = D := ⟨_, rfl⟩
  obtain ⟨rec, hrec⟩ : ∃ rec : LoopState → Option Code → Loop, rec = fun st pe => { state := st, pending := pe, fn, tmps := a.tmps, params := ps, assign, body, defers := D } := ⟨_, rfl⟩
  obtain ⟨W1, hW1⟩ : ∃ W1, (w.alloc (.deferred (some []))).alloc (.loop (rec .ready none)) = W1 := ⟨_, rfl⟩
  have hsz1 : W1.heap.size = D + 2 := by rw [← hW1, ← hD]; simp
  have hL1 : W1.heap[D + 1]? = some (.loop (rec .ready none)) := by
    have := World.alloc_heap_new (w.alloc (.deferred (some []))) (.loop (rec .ready none))
    rwa [World.size_alloc, hW1, hD] at this
  have hK1 : W1.heap[D]? = some (.deferred (some [])) := by
    rw [← hW1, ← hD]
    exact (Below.heap_alloc _ _ _ (by simp)).trans (World.alloc_heap_new w _)
  have hI1 : I [] W1 := by rw [← hW1]; exact hI.alloc _ (hI.alloc _ h0)
  have hb1 : Below w0.heap.size w0 W1 := by
    rw [← hW1]
    exact hb0.trans ((((Below.refl _ w).alloc (Nat.le_refl _) _).alloc (by simp) _).mono hb0.size)
  rw [hD] at hI hIx hAx hbody hassign hKb hdone hstop
  refine ⟨D + 1, [{ target := .collected D, args := #[] }], W1, { target := .fn (.func gf) lb, args := #[.func (.yield (D + 1)) #[] #[]] }, W1, gf,
    #[.func (.yield (D + 1)) #[] #[]] ++ lb, W1, ?_, ?_, ?_, ?_, fun _ => h1, ?_⟩
  · rw [← hW1, hrec, ← hD]; exact run_enterLoop_outer _ _ _ _ _
  · simp only [resolve, hg]
    simp [go_sem]
  · intro f' hf'; simp [Target.leads] at hf'; subst hf'; exact hFg
  · simp [invoke, go_sem, eg]
  · have hab : ∀ {A : World} {row : Option Nat}, (∀ r, row = some r → W1.heap.size ≤ r ∧ ∃ o : Obj, A.heap[r]? = some o ∧ o.isWalk = true) → (∀ r, row = some r → D ≤ r ∧ ∃ o : Obj, A.heap[r]? = some o ∧ o.isCells = false) :=
      fun hr r e => by
        obtain ⟨hB, o, ho, hw⟩ := hr r e
        exact ⟨by omega, o, ho, Obj.not_cells_of_walk hw⟩
    refine (hseq (D + 1)
      (fun pre W => I pre W ∧ W.heap[D + 1]? = some (.loop (rec .ready none)) ∧ W.heap[D]? = some (.deferred (some [])))
      (fun pre W => ∃ c, Ix c pre W ∧ W.heap[D + 1]? = some (.loop (rec .done (some c))) ∧ W.heap[D]? = some (.deferred (some [])))
      W1 hb1
      (fun s A B row hs hg' hr => ⟨hI s A B row hs.1 hg' (hab hr), (grownBy_keeps hg' (fun r e => (hr r e).2) hs.2.1 rfl).trans hs.2.1, (grownBy_keeps hg' (fun r e => (hr r e).2) hs.2.2 rfl).trans hs.2.2⟩)
      (fun s A B row hs hg' hr => by
        obtain ⟨c, hc, hl, hk⟩ := hs
        exact ⟨c, hIx c s A B row hc hg' (hab hr), (grownBy_keeps hg' (fun r e => (hr r e).2) hl rfl).trans hl, (grownBy_keeps hg' (fun r e => (hr r e).2) hk rfl).trans hk⟩)
      (hC _ fun _ _ h => h.1) ?_ ⟨hI1, hL1, hK1⟩).mono ?_
    · rintro pre x W ⟨hi, hl, hk⟩ hR
      have hy := run_yield (P := P) (args := encs x) hl (by rw [hrec]; exact hps x)
      rw [hrec] at hy
      refine ⟨fn, _, assign, body, hy, roundIn_of_wpIn hfn (hassign _ pre x W _ hi hR ?_)⟩
      clear hy hR
      intro a' V hkf hkp hi' hax
      have hl' := hkf.same _ _ (by omega) hl rfl
      have hk' := hkf.same _ _ (Nat.le_refl _) hk rfl
      refine ⟨_, run_beginRound hl' (by rw [hrec]), ?_⟩
      have hlt : D + 1 < V.heap.size := (Array.getElem?_eq_some_iff.1 hl').1
      obtain ⟨V2, hV2⟩ : ∃ V2, V.putObj (D + 1) (.loop { rec .ready none with state := .busy }) = V2 := ⟨_, rfl⟩
      have hl2 : V2.heap[D + 1]? = some (.loop { rec .ready none with state := .busy }) := by rw [← hV2]; exact World.putObj_heap_same hlt
      have hk2 : V2.heap[D]? = some (.deferred (some [])) := by rw [← hV2]; exact (World.putObj_heap_other (by omega)).trans hk'
      have hw2 : Kp V V2 := by rw [← hV2]; exact hKb _ _ _ _ (by omega) hl' rfl rfl
      have hi2 : I pre V2 := by rw [← hV2]; exact hI.putObj _ hi' (by omega) hl' rfl
      have hax2 : Ax pre x a' V2 := by rw [← hV2]; exact (hAx pre x a').putObj (s := ()) _ hax (by omega) hl' rfl
      rw [hV2]
      refine wpIn_mono (hbody _ pre x a' _ (by omega) ⟨_, hl2⟩ hi2 hax2) ?_
      have fin : ∀ (jump : Option Code) (U : World), KeepsFrom D V2 U → ∃ U', (Instr.endRound (D + 1) jump).run P U = .ok (.bool jump.isNone) U' ∧
          (∀ (T : List α → World → Prop), OwnFrom D T → ∀ ys, T ys U → T ys U') ∧ Kp U U' ∧ U'.heap[D + 1]? = some (.loop (rec (if jump.isNone then .ready else .done) jump)) ∧ U'.heap[D]? = some (.deferred (some [])) := fun jump U hk3 => by
        have hl3 := hk3.same _ _ (by omega) hl2 rfl
        have hrun := run_endRound (P := P) jump hl3
        rw [hrec] at hrun
        refine ⟨_, hrun, fun T hT ys ht => hT.putObj _ ht (by omega) hl3 rfl, hKb _ _ _ _ (by omega) hl3 rfl rfl, ?_, ?_⟩
        · rw [hrec]; exact World.putObj_heap_same (Array.getElem?_eq_some_iff.1 hl3).1
        · exact (World.putObj_heap_other (by omega)).trans (hk3.same _ _ (Nat.le_refl _) hk2 rfl)
      rintro e a3 U hp
      cases e with
      | normal =>
        obtain ⟨hk3, hkp3, hi3⟩ := hp
        obtain ⟨U', hr, hT, hkp4, hl4, hk4⟩ := fin none U hk3
        exact ⟨_, U', hr, .inl ⟨rfl, ⟨hT _ hI _ hi3, hl4, hk4⟩, hKt hkp (hKt (hKt hw2 hkp3) hkp4)⟩⟩
      | ret =>
        obtain ⟨hk3, hi3⟩ := hp
        obtain ⟨U', hr, hT, _, hl4, hk4⟩ := fin (some .ret) U hk3
        exact ⟨_, U', hr, .inr ⟨rfl, .ret, hT _ (hIx _) _ hi3, hl4, hk4⟩⟩
      | exit id =>
        obtain ⟨hk3, hi3⟩ := hp
        obtain ⟨U', hr, hT, _, hl4, hk4⟩ := fin (some (.exit id)) U hk3
        exact ⟨_, U', hr, .inr ⟨rfl, .exit id, hT _ (hIx _) _ hi3, hl4, hk4⟩⟩
      | goto t =>
        obtain ⟨hk3, hi3⟩ := hp
        obtain ⟨U', hr, hT, _, hl4, hk4⟩ := fin (some (.goto t)) U hk3
        exact ⟨_, U', hr, .inr ⟨rfl, .goto t, hT _ (hIx _) _ hi3, hl4, hk4⟩⟩
      | panic ch => exact hp.elim
      | outgrown => exact hp.elim
    · rintro e U ⟨⟨v, rfl⟩, (⟨xs, hS, hi, hl, hk⟩ | ⟨pre, hSp, c, hi, hl, hk⟩)⟩
      · have hend := run_endLoop (P := P) hl (by rw [hrec]; simp)
        rw [hrec] at hend
        exact ⟨none, _, hend, hdone _ xs _ (Nat.le_refl _) hS (hI.putObj _ hi (by omega) hl rfl) ((World.putObj_heap_other (by omega)).trans hk)⟩
      · have hend := run_endLoop (P := P) hl (by rw [hrec]; simp)
        rw [hrec] at hend
        exact ⟨some c, _, hend, hstop _ c pre _ (Nat.le_refl _) hSp ((hIx c).putObj _ hi (by omega) hl rfl) ((World.putObj_heap_other (by omega)).trans hk)⟩
end Go.Proofs.YtldcehhhndlhdaaDoor
/- What a call owns while a range over a function of its own runs. No function here; no conditions. -/
namespace Go.Proofs.YtldcehhhndlhdaaDoor
open Go.RowKit Go.Sort

/-- These blocks lie as they lay. -/
structure KpK (Ks : List Nat) (W W' : World) : Prop where
  size : W.heap.size ≤ W'.heap.size
  same : ∀ k ∈ Ks, W'.heap[k]? = W.heap[k]?
theorem KpK.refl (Ks : List Nat) (W : World) : KpK Ks W W := ⟨Nat.le_refl _, fun _ _ => rfl⟩
theorem KpK.trans {Ks : List Nat} {A B C : World} (h : KpK Ks A B) (k : KpK Ks B C) : KpK Ks A C := ⟨Nat.le_trans h.size k.size, fun i hi => (k.same i hi).trans (h.same i hi)⟩
theorem KpK.putObj {Ks : List Nat} {n : Nat} (hK : ∀ k ∈ Ks, k < n) (W : World) (l : Nat) : ∀ (o o' : Obj), n ≤ l → W.heap[l]? = some o → o.isCells = false → o.isWalk = false → KpK Ks W (W.putObj l o') := fun _ _ hl _ _ _ =>
  ⟨by simp, fun k hk => World.putObj_heap_other (by have := hK k hk; omega)⟩
theorem KpK.below {Ks : List Nat} {W W' : World} (h : Below W.heap.size W W') (hK : ∀ k ∈ Ks, k < W.heap.size) : KpK Ks W W' := ⟨h.size, fun k hk => h.block k (hK k hk)⟩
theorem KpK.grown {Ks : List Nat} {W W' : World} {row : Option Nat} (h : W.grownBy W' row) (hK : ∀ k ∈ Ks, k < W.heap.size) (hr : ∀ k ∈ Ks, row ≠ some k) : KpK Ks W W' := ⟨h.size, fun k hk => h.block k (hK k hk) (fun e => hr k hk e.symm)⟩
theorem KpK.setCell {Ks : List Nat} {W : World} {a : Addr} {v : Value} (hK : ∀ k ∈ Ks, k ≠ a.block) : KpK Ks W (W.setCell a v) := ⟨by simp [World.setCell], fun k hk => Below.heap_setCell _ _ _ k (hK k hk)⟩
theorem ko_below {W W' : World} (h : Below W.heap.size W W') : KeepsOthers W W' := ⟨h.size, fun k _ hk _ => (h.block k (Array.getElem?_eq_some_iff.1 hk).1).trans hk⟩

/-- A thing of the call's own that is cells. -/
def Item.cel : Item → Prop
  | .any _ p => ∀ o, p o → o.isCells = true
  | _ => True
theorem Item.ok.cells {base : Nat} {w : World} {x : Item} (h : x.ok base w) (hc : x.cel) {b : Nat} (hb : x.blk = some b) {o : Obj} (ho : w.heap[b]? = some o) : o.isCells = true := by
  cases x with
  | box b' cs =>
    obtain ⟨_, T, h2⟩ := h
    injection hb with hb
    subst hb
    rw [ho] at h2
    cases h2
    rfl
  | own e size v m xs =>
    rcases h.2 with ⟨rfl, _⟩ | ⟨g, cap, cur, rfl, _, hh, _⟩
    · cases hb
    · cases hb
      rw [ho] at hh
      cases hh
      rfl
  | any b' p =>
    obtain ⟨_, o', h2, h3⟩ := h
    injection hb with hb
    subst hb
    rw [ho] at h2
    cases h2
    exact hc _ h3
section
variable {w0 w w' : World} {n : Nat} {L : List Item}
theorem St.other (h : St w0 w n L) {row : Option Nat} {B : Nat} (hg : w.grownBy w' row) (hr : ∀ r, row = some r → B ≤ r ∧ ∃ o : Obj, w.heap[r]? = some o ∧ o.isCells = false) (hB : w0.heap.size ≤ B) (hL : ∀ x ∈ L, x.cel) : St w0 w' w'.heap.size L := by
  refine ⟨rfl, h.bel.trans ⟨hg.os, hg.tape, hg.output, hg.size, fun k hk => hg.block k (by have := h.bel.size; omega) (fun e => ?_)⟩, fun x hx => ?_, h.apart⟩
  · have := (hr k e.symm).1
    omega
  · have hok := h.ok x hx
    refine hok.same fun b hb => hg.block b (hok.lt hb).2 (fun e => ?_)
    obtain ⟨_, o, ho, hc⟩ := hr b e.symm
    rw [hok.cells (hL x hx) hb ho] at hc
    cases hc
/-- Such a thing may be said between two rounds. -/
theorem St.ownFrom {β : Type} {w0 : World} {B : Nat} (L : β → List Item) (hB : w0.heap.size ≤ B) (hL : ∀ s, ∀ x ∈ L s, x.cel) : OwnFrom B (fun (s : β) W => St w0 W W.heap.size (L s)) :=
  fun s _ _ _ hs hg hr => hs.other hg hr hB (hL s)
theorem St.ownFrom' {β : Type} {w0 : World} {B m : Nat} (L : β → List Item) (hB : w0.heap.size ≤ B) (hL : ∀ s, ∀ x ∈ L s, x.cel) : OwnFrom B (fun (s : β) W => St w0 W W.heap.size (L s) ∧ m ≤ W.heap.size) :=
  fun s _ _ _ hs hg hr => ⟨hs.1.other hg hr hB (hL s), Nat.le_trans hs.2 hg.size⟩
/-- Behind a step in which one of its things turned, what is no cells lies as it lay. -/
theorem St.ko (h : St w0 w n L) (i : Nat) {x : Item} (hi : L[i]? = some x) (hc : x.cel) (hg : w.grownBy w' x.blk) : KeepsOthers w w' :=
  KeepsOthers.of_grownBy hg fun _ _ hj ho => (h.ok x (List.mem_of_getElem? hi)).cells hc hj ho
theorem St.apart' (h : St w0 w n L) (i j : Nat) {x y : Item} (hi : L[i]? = some x) (hj : L[j]? = some y) (hij : i ≠ j) {b : Nat} (hb : y.blk = some b) : x.blk ≠ some b := fun e =>
  hij (nodup_fm Item.blk L i j x y b h.apart hi hj e hb)
/-- What was at the start, behind the marks of the loop that has ended. -/
theorem St.putD (h : St w0 w n L) {D : Nat} {o : Obj} (hD : w0.heap.size ≤ D) (hk : w.heap[D]? = some o) (ho : o.isCells = false) (o' : Obj) (hL : ∀ x ∈ L, x.cel) : St w0 (w.putObj D o') (w.putObj D o').heap.size L :=
  h.other (B := D) (grownBy_putObj' w D o') (fun r e => by cases e; exact ⟨Nat.le_refl _, _, hk, ho⟩) hD hL
end

/-- A call's walk, in the form that lets it range over a function. -/
theorem calls_of_marks {P : Program} {f : FuncId} {fn : Func} {c : Code} {args : Array Value} {w : World} {R : Ending → World → Prop}
    (hf : P.funcs[f]? = some fn) (hb : fn.body = some c)
    (h : c.wp P (bodyPostM Fence.wide 5 P fn R) { tmps := args ++ Array.replicate (fn.ntmps - args.size) undef, defers := [] } w) : Calls P f args w R :=
  callsIn_wide.1 (callsIn_of_wp_marks (n := 5) hf hb trivial (wpIn_wide.2 h) rfl)
end Go.Proofs.YtldcehhhndlhdaaDoor

/- Walks: said, with each function value that it is called with. -/
import Derived.Test.YtplbaijdnpfdgaaW4
import Derived.Test.YtplbaijdnpfdgaaPlain4
namespace Go.Proofs.Ytplbaijdnpfdgaa
open Go.RowKit Go.Sort

/-- Bounds in new memory, and whether there is a truth. -/
def RetSaid (t : Twn) (is : Nat → Bool) (w : World) (e : Ending) (w' : World) : Prop :=
  ∃ B, e = .returned (.tuple #[.pointer (some ⟨B, 0, none⟩), .bool (diagOk (closeM (baseM (sub t is))))]) ∧ w.heap.size ≤ B ∧ MatAt w' B (closeM (baseM (sub t is))) ∧ Below w.heap.size w w'
/-- The bounds, as a thing of the call's own. -/
def mat (B : Nat) (ms : List Int) : Item := .any B (fun o => o = .cells (ms.map I).toArray 113 (0, 0))
section
variable {w0 w w' : World} {n : Nat} {L : List Item}
theorem mat_ok {base : Nat} {B : Nat} {ms : List Int} (h : (mat B ms).ok base w) : MatAt w B ms := by
  obtain ⟨_, o, h1, rfl⟩ := h
  exact h1
theorem mat_mk {base : Nat} {B : Nat} {ms : List Int} (hB : base ≤ B) (h : MatAt w B ms) : (mat B ms).ok base w := ⟨hB, _, h, rfl⟩
theorem St.mat (h : St w0 w n L) (i : Nat) {B : Nat} {ms : List Int} (hi : L[i]? = some (mat B ms)) : MatAt w B ms := mat_ok (h.ok _ (List.mem_of_getElem? hi))
theorem St.upd (h : St w0 w n L) (i : Nat) {B : Nat} {ms ms' : List Int} (hi : L[i]? = some (Go.Proofs.Ytplbaijdnpfdgaa.mat B ms)) (hg : w.grownBy w' (some B)) (hm : MatAt w' B ms') : St w0 w' w'.heap.size (L.set i (Go.Proofs.Ytplbaijdnpfdgaa.mat B ms')) :=
  h.turn i _ hi hg (mat_mk (h.baseO i hi) hm) (fun _ e => .inl e)
theorem St.takeM (h : St w0 w n L) (hb : Below w.heap.size w w') {B : Nat} {ms : List Int} (hB : w.heap.size ≤ B) (hm : MatAt w' B ms) : St w0 w' w'.heap.size (Go.Proofs.Ytplbaijdnpfdgaa.mat B ms :: L) := by
  have h2 := h.call hb
  refine ⟨rfl, h2.bel, fun x hx => ?_, ?_⟩
  · rcases List.mem_cons.1 hx with hx | hx
    · rw [hx]; exact mat_mk (Nat.le_trans h.bel.size hB) hm
    · exact h2.ok x hx
  · have e0 : (Go.Proofs.Ytplbaijdnpfdgaa.mat B ms).blk = some B := rfl
    rw [List.filterMap_cons, e0]
    refine List.nodup_cons.2 ⟨fun hx => ?_, h.apart⟩
    have := (h.lt_of hx).2
    have := h.size
    omega
end

/-- This function value tells of each word whether it was said. -/
def TellsAll (w : World) (is : Nat → Bool) : Prop :=
  ∀ (W : World) (n : Nat), n ≤ 100 → Below w.heap.size w W → Calls Try.prog 69 #[I n] W fun e w' => e = .returned (.bool (is n)) ∧ Below W.heap.size W w'

set_option maxRecDepth 20000 in
set_option maxHeartbeats 8000000 in
theorem saidAll_any (v : Value) (t : Twn) (is : Nat → Bool) (w : World) (hv : TwnAt w v t) (hvl : Vl t) (hl1 : t.snd.length ≤ 8) (hl2 : t.slp.length ≤ 8) (hf : TellsAll w is) :
    Calls Try.prog 68 #[v, .func (.func 69) #[] #[]] w fun e w' => RetSaid t is w e w' := by
  obtain ⟨sv, pv, rfl, hs, hp⟩ := hv
  obtain ⟨A1, c1, rfl, hsl1, hsl2, hc1⟩ := hs.open_
  obtain ⟨A2, c2, rfl, hpl1, hpl2, hc2⟩ := hp.open_
  have HC1 := Lib.hid hc1
  have HC2 := Lib.hid hc2
  have HF := Lib.hid hf
  have HVL := Lib.hid hvl
  have hw0 := hvl.w0
  have hw6 := hvl.w6
  clear hc1 hc2 hs hp hf hvl
  have S := Lib.hid (show St w (w.alloc (.cells #[I t.wells, .slice A1 t.snd.length c1, .slice A2 t.slp.length c2] 25)) (w.heap.size + 1) [.box w.heap.size [I t.wells, .slice A1 t.snd.length c1, .slice A2 t.slp.length c2]] from (St.init w).alloc [I t.wells, .slice A1 t.snd.length c1, .slice A2 t.slp.length c2] 25)
  have q0 := S.out.get 0 0 rfl rfl
  have q1 := S.out.get 0 1 rfl rfl
  have q2 := S.out.get 0 2 rfl rfl
  go_enter Try.func68, Try.ntmps68
  go_wp2_with fail
  refine (rock_any t.wells _ hw0 hw6).mono ?_
  rintro e w1 ⟨rfl, hm, hb⟩
  have S := Lib.hid (S.out.takeM hb (Nat.le_refl _) hm)
  have hB : (w.alloc (.cells #[I t.wells, .slice A1 t.snd.length c1, .slice A2 t.slp.length c2] 25)).heap.size = w.heap.size + 1 := by simp
  rw [hB] at S ⊢
  clear hB q0 q1 q2 hm hb
  have q1 := S.out.get 1 1 rfl rfl
  have hb0 := S.out.lt 1 rfl
  have S := Lib.hid (show St w w1 w1.heap.size [mat (w.heap.size + 1) (sndTo t is 0), .box w.heap.size [I t.wells, .slice A1 t.snd.length c1, .slice A2 t.slp.length c2]] from S.out)
  go_wp2_with fail
  go_loopw [17] (fun i wr => ∃ k : Nat, k ≤ t.snd.length ∧ i = I k ∧ Hid (St w wr wr.heap.size [mat (w.heap.size + 1) (sndTo t is k), .box w.heap.size [I t.wells, .slice A1 t.snd.length c1, .slice A2 t.slp.length c2]])) (fun i _ => t.snd.length - (intOf i).toNat)
  case atStart => exact ⟨0, by omega, rfl, S⟩
  case round =>
    clear q1 hb0 S
    obtain ⟨k, hk, rfl, S⟩ := hrel
    by_cases hlt : k < t.snd.length
    · obtain ⟨b1, o1, rfl, hb1, hcell1⟩ := HC1.out (by omega)
      obtain ⟨x0, x1, x2⟩ := hcell1 k hlt
      have x0 := keep_cell S.out.bel x0
      have x1 := keep_cell S.out.bel x1
      have x2 := keep_cell S.out.bel x2
      have hst := sndTo_succ is hlt
      have hok := HVL.out.snd' _ (List.getElem_mem hlt)
      have hlow := HVL.out.snd _ (List.getElem_mem hlt)
      clear hcell1
      obtain ⟨⟨sw, sl, sh⟩, hs⟩ : ∃ s, t.snd[k] = s := ⟨_, rfl⟩
      rw [hs] at x0 x1 x2 hst hok hlow
      have HST := Lib.hid hst
      have HOK := Lib.hid hok
      have HLOW := Lib.hid hlow
      clear hs hst hok hlow
      dsimp only at x0 x1 x2
      have hlt0 := S.out.lt 1 rfl
      have y1 := S.out.get 1 1 rfl rfl
      have y2 := S.out.get 1 2 rfl rfl
      go_wp2_with fail
      have S := Lib.hid (S.out.alloc [I sw, I sl, I sh] 57)
      clear x0 x1 x2 hlt0 y1 y2
      refine (HF.out _ k (by omega) S.out.bel).mono ?_
      rintro e w2 ⟨rfl, hb⟩
      have S := Lib.hid (S.out.call hb)
      clear hb
      cases hi : is k
      · have HST := Lib.hid (show sndTo t is (k + 1) = sndTo t is k by rw [HST.out, if_neg (by rw [hi]; simp)])
        clear hi
        go_wp2_with fail
        go_roundw
        case rel => exact ⟨k + 1, by omega, by go_num, Lib.hid (by rw [HST.out]; exact S.out.tail)⟩
        case measure => first | (simp [intOf]; done) | (simp [intOf]; omega)
      · have HST := Lib.hid (HST.out.trans (if_pos hi))
        clear hi
        have z0 := S.out.get 0 0 rfl rfl
        have z1 := S.out.get 0 1 rfl rfl
        have z2 := S.out.get 0 2 rfl rfl
        go_wp2_with fail
        clear z0 z1 z2
        refine (sound_any (w.heap.size + 1) ⟨sw, sl, sh⟩ _ _ (S.out.mat 1 rfl) (sndTo_len _ _ _) (by have := HOK.out; dsimp only at this ⊢; omega) (by have := HOK.out; dsimp only at this ⊢; omega) (by have := HLOW.out; dsimp only at this ⊢; omega) (by have := HLOW.out; dsimp only at this ⊢; omega)).mono ?_
        rintro e w3 ⟨rfl, hg, hm⟩
        have S := Lib.hid (S.out.upd 1 rfl hg hm)
        clear hg hm
        go_wp2_with fail
        go_roundw
        case rel => exact ⟨k + 1, by omega, by go_num, Lib.hid (by rw [HST.out]; exact S.out.tail)⟩
        case measure => first | (simp [intOf]; done) | (simp [intOf]; omega)
    · obtain rfl : k = t.snd.length := by omega
      have S := Lib.hid (show St w wr wr.heap.size [mat (w.heap.size + 1) (slpTo t is 0), .box w.heap.size [I t.wells, .slice A1 t.snd.length c1, .slice A2 t.slp.length c2]] from S.out)
      have q1 := S.out.get 1 2 rfl rfl
      have hb0 := S.out.lt 1 rfl
      go_wp2_with fail
      go_loopw [32] (fun i wr => ∃ k : Nat, k ≤ t.slp.length ∧ i = I k ∧ Hid (St w wr wr.heap.size [mat (w.heap.size + 1) (slpTo t is k), .box w.heap.size [I t.wells, .slice A1 t.snd.length c1, .slice A2 t.slp.length c2]])) (fun i _ => t.slp.length - (intOf i).toNat)
      case atStart => exact ⟨0, by omega, rfl, S⟩
      case round =>
        clear q1 hb0 S
        obtain ⟨k, hk, rfl, S⟩ := hrel
        by_cases hlt : k < t.slp.length
        · obtain ⟨b1, o1, rfl, hb1, hcell1⟩ := HC2.out (by omega)
          obtain ⟨x0, x1, x2, x3⟩ := hcell1 k hlt
          have x0 := keep_cell S.out.bel x0
          have x1 := keep_cell S.out.bel x1
          have x2 := keep_cell S.out.bel x2
          have x3 := keep_cell S.out.bel x3
          have hst := slpTo_succ is hlt
          have hok := HVL.out.slp' _ (List.getElem_mem hlt)
          have hlow := HVL.out.slp _ (List.getElem_mem hlt)
          clear hcell1
          obtain ⟨⟨sa, sb, sl, sh⟩, hs⟩ : ∃ s, t.slp[k] = s := ⟨_, rfl⟩
          rw [hs] at x0 x1 x2 x3 hst hok hlow
          have HST := Lib.hid hst
          have HOK := Lib.hid hok
          have HLOW := Lib.hid hlow
          clear hs hst hok hlow
          dsimp only at x0 x1 x2 x3
          have hlt0 := S.out.lt 1 rfl
          have y1 := S.out.get 1 1 rfl rfl
          have y2 := S.out.get 1 2 rfl rfl
          go_wp2_with fail
          have S := Lib.hid (S.out.alloc [I sa, I sb, I sl, I sh] 47)
          clear x0 x1 x2 x3 hlt0 y1 y2
          rw [show ((t.snd.length : Int) + (k : Int)) = ((t.snd.length + k : Nat) : Int) by omega]
          refine (HF.out _ (t.snd.length + k) (by omega) S.out.bel).mono ?_
          rintro e w2 ⟨rfl, hb⟩
          have S := Lib.hid (S.out.call hb)
          clear hb
          cases hi : is (t.snd.length + k)
          · have HST := Lib.hid (show slpTo t is (k + 1) = slpTo t is k by rw [HST.out, if_neg (by rw [hi]; simp)])
            clear hi
            go_wp2_with fail
            go_roundw
            case rel => exact ⟨k + 1, by omega, by go_num, Lib.hid (by rw [HST.out]; exact S.out.tail)⟩
            case measure => first | (simp [intOf]; done) | (simp [intOf]; omega)
          · have HST := Lib.hid (HST.out.trans (if_pos hi))
            clear hi
            have z0 := S.out.get 0 0 rfl rfl
            have z1 := S.out.get 0 1 rfl rfl
            have z2 := S.out.get 0 2 rfl rfl
            have z3 := S.out.get 0 3 rfl rfl
            go_wp2_with fail
            clear z0 z1 z2 z3
            refine (slope_any (w.heap.size + 1) ⟨sa, sb, sl, sh⟩ _ _ (S.out.mat 1 rfl) (slpTo_len _ _ _) (by have := HOK.out; dsimp only at this ⊢; omega) (by have := HOK.out; dsimp only at this ⊢; omega) (by have := HOK.out; dsimp only at this ⊢; omega) (by have := HOK.out; dsimp only at this ⊢; omega) (by have := HLOW.out; dsimp only at this ⊢; omega) (by have := HLOW.out; dsimp only at this ⊢; omega)).mono ?_
            rintro e w3 ⟨rfl, hg, hm⟩
            have S := Lib.hid (S.out.upd 1 rfl hg hm)
            clear hg hm
            go_wp2_with fail
            go_roundw
            case rel => exact ⟨k + 1, by omega, by go_num, Lib.hid (by rw [HST.out]; exact S.out.tail)⟩
            case measure => first | (simp [intOf]; done) | (simp [intOf]; omega)
        · have hall := slpTo_all t is
          have hk' : k = t.slp.length := by omega
          rw [← hk'] at hall
          have HALL := Lib.hid hall
          have S := Lib.hid (show St w wr wr.heap.size [mat (w.heap.size + 1) (baseM (sub t is)), .box w.heap.size [I t.wells, .slice A1 t.snd.length c1, .slice A2 t.slp.length c2]] from by rw [← HALL.out]; exact S.out)
          clear hall hk'
          go_wp2_with fail
          refine (close_any (w.heap.size + 1) _ _ (S.out.mat 0 rfl) (baseM_bd (HVL.out.sub is))).mono ?_
          rintro e w4 ⟨rfl, hg, hm⟩
          have S := Lib.hid (S.out.upd 0 rfl hg hm)
          clear hg hm
          go_wp2_with fail
          go_ret2
          exact ⟨_, rfl, by simp, S.out.mat 0 rfl, S.out.bel⟩

/-- This function value tells of each word whether it was said. -/
def TellsHas (w : World) (bx : Nat) (is : Nat → Bool) : Prop :=
  ∀ (W : World) (n : Nat), n ≤ 100 → Below w.heap.size w W → Calls Try.prog 72 #[I n, .pointer (some ⟨bx, 0, none⟩)] W fun e w' => e = .returned (.bool (is n)) ∧ Below W.heap.size W w'

set_option maxRecDepth 20000 in
set_option maxHeartbeats 8000000 in
theorem saidHas_any (v : Value) (t : Twn) (bx : Nat) (is : Nat → Bool) (w : World) (hv : TwnAt w v t) (hvl : Vl t) (hl1 : t.snd.length ≤ 8) (hl2 : t.slp.length ≤ 8) (hf : TellsHas w bx is) :
    Calls Try.prog 68 #[v, .func (.func 72) #[] #[.pointer (some ⟨bx, 0, none⟩)]] w fun e w' => RetSaid t is w e w' := by
  obtain ⟨sv, pv, rfl, hs, hp⟩ := hv
  obtain ⟨A1, c1, rfl, hsl1, hsl2, hc1⟩ := hs.open_
  obtain ⟨A2, c2, rfl, hpl1, hpl2, hc2⟩ := hp.open_
  have HC1 := Lib.hid hc1
  have HC2 := Lib.hid hc2
  have HF := Lib.hid hf
  have HVL := Lib.hid hvl
  have hw0 := hvl.w0
  have hw6 := hvl.w6
  clear hc1 hc2 hs hp hf hvl
  have S := Lib.hid (show St w (w.alloc (.cells #[I t.wells, .slice A1 t.snd.length c1, .slice A2 t.slp.length c2] 25)) (w.heap.size + 1) [.box w.heap.size [I t.wells, .slice A1 t.snd.length c1, .slice A2 t.slp.length c2]] from (St.init w).alloc [I t.wells, .slice A1 t.snd.length c1, .slice A2 t.slp.length c2] 25)
  have q0 := S.out.get 0 0 rfl rfl
  have q1 := S.out.get 0 1 rfl rfl
  have q2 := S.out.get 0 2 rfl rfl
  go_enter Try.func68, Try.ntmps68
  go_wp2_with fail
  refine (rock_any t.wells _ hw0 hw6).mono ?_
  rintro e w1 ⟨rfl, hm, hb⟩
  have S := Lib.hid (S.out.takeM hb (Nat.le_refl _) hm)
  have hB : (w.alloc (.cells #[I t.wells, .slice A1 t.snd.length c1, .slice A2 t.slp.length c2] 25)).heap.size = w.heap.size + 1 := by simp
  rw [hB] at S ⊢
  clear hB q0 q1 q2 hm hb
  have q1 := S.out.get 1 1 rfl rfl
  have hb0 := S.out.lt 1 rfl
  have S := Lib.hid (show St w w1 w1.heap.size [mat (w.heap.size + 1) (sndTo t is 0), .box w.heap.size [I t.wells, .slice A1 t.snd.length c1, .slice A2 t.slp.length c2]] from S.out)
  go_wp2_with fail
  go_loopw [17] (fun i wr => ∃ k : Nat, k ≤ t.snd.length ∧ i = I k ∧ Hid (St w wr wr.heap.size [mat (w.heap.size + 1) (sndTo t is k), .box w.heap.size [I t.wells, .slice A1 t.snd.length c1, .slice A2 t.slp.length c2]])) (fun i _ => t.snd.length - (intOf i).toNat)
  case atStart => exact ⟨0, by omega, rfl, S⟩
  case round =>
    clear q1 hb0 S
    obtain ⟨k, hk, rfl, S⟩ := hrel
    by_cases hlt : k < t.snd.length
    · obtain ⟨b1, o1, rfl, hb1, hcell1⟩ := HC1.out (by omega)
      obtain ⟨x0, x1, x2⟩ := hcell1 k hlt
      have x0 := keep_cell S.out.bel x0
      have x1 := keep_cell S.out.bel x1
      have x2 := keep_cell S.out.bel x2
      have hst := sndTo_succ is hlt
      have hok := HVL.out.snd' _ (List.getElem_mem hlt)
      have hlow := HVL.out.snd _ (List.getElem_mem hlt)
      clear hcell1
      obtain ⟨⟨sw, sl, sh⟩, hs⟩ : ∃ s, t.snd[k] = s := ⟨_, rfl⟩
      rw [hs] at x0 x1 x2 hst hok hlow
      have HST := Lib.hid hst
      have HOK := Lib.hid hok
      have HLOW := Lib.hid hlow
      clear hs hst hok hlow
      dsimp only at x0 x1 x2
      have hlt0 := S.out.lt 1 rfl
      have y1 := S.out.get 1 1 rfl rfl
      have y2 := S.out.get 1 2 rfl rfl
      go_wp2_with fail
      have S := Lib.hid (S.out.alloc [I sw, I sl, I sh] 57)
      clear x0 x1 x2 hlt0 y1 y2
      refine (HF.out _ k (by omega) S.out.bel).mono ?_
      rintro e w2 ⟨rfl, hb⟩
      have S := Lib.hid (S.out.call hb)
      clear hb
      cases hi : is k
      · have HST := Lib.hid (show sndTo t is (k + 1) = sndTo t is k by rw [HST.out, if_neg (by rw [hi]; simp)])
        clear hi
        go_wp2_with fail
        go_roundw
        case rel => exact ⟨k + 1, by omega, by go_num, Lib.hid (by rw [HST.out]; exact S.out.tail)⟩
        case measure => first | (simp [intOf]; done) | (simp [intOf]; omega)
      · have HST := Lib.hid (HST.out.trans (if_pos hi))
        clear hi
        have z0 := S.out.get 0 0 rfl rfl
        have z1 := S.out.get 0 1 rfl rfl
        have z2 := S.out.get 0 2 rfl rfl
        go_wp2_with fail
        clear z0 z1 z2
        refine (sound_any (w.heap.size + 1) ⟨sw, sl, sh⟩ _ _ (S.out.mat 1 rfl) (sndTo_len _ _ _) (by have := HOK.out; dsimp only at this ⊢; omega) (by have := HOK.out; dsimp only at this ⊢; omega) (by have := HLOW.out; dsimp only at this ⊢; omega) (by have := HLOW.out; dsimp only at this ⊢; omega)).mono ?_
        rintro e w3 ⟨rfl, hg, hm⟩
        have S := Lib.hid (S.out.upd 1 rfl hg hm)
        clear hg hm
        go_wp2_with fail
        go_roundw
        case rel => exact ⟨k + 1, by omega, by go_num, Lib.hid (by rw [HST.out]; exact S.out.tail)⟩
        case measure => first | (simp [intOf]; done) | (simp [intOf]; omega)
    · obtain rfl : k = t.snd.length := by omega
      have S := Lib.hid (show St w wr wr.heap.size [mat (w.heap.size + 1) (slpTo t is 0), .box w.heap.size [I t.wells, .slice A1 t.snd.length c1, .slice A2 t.slp.length c2]] from S.out)
      have q1 := S.out.get 1 2 rfl rfl
      have hb0 := S.out.lt 1 rfl
      go_wp2_with fail
      go_loopw [32] (fun i wr => ∃ k : Nat, k ≤ t.slp.length ∧ i = I k ∧ Hid (St w wr wr.heap.size [mat (w.heap.size + 1) (slpTo t is k), .box w.heap.size [I t.wells, .slice A1 t.snd.length c1, .slice A2 t.slp.length c2]])) (fun i _ => t.slp.length - (intOf i).toNat)
      case atStart => exact ⟨0, by omega, rfl, S⟩
      case round =>
        clear q1 hb0 S
        obtain ⟨k, hk, rfl, S⟩ := hrel
        by_cases hlt : k < t.slp.length
        · obtain ⟨b1, o1, rfl, hb1, hcell1⟩ := HC2.out (by omega)
          obtain ⟨x0, x1, x2, x3⟩ := hcell1 k hlt
          have x0 := keep_cell S.out.bel x0
          have x1 := keep_cell S.out.bel x1
          have x2 := keep_cell S.out.bel x2
          have x3 := keep_cell S.out.bel x3
          have hst := slpTo_succ is hlt
          have hok := HVL.out.slp' _ (List.getElem_mem hlt)
          have hlow := HVL.out.slp _ (List.getElem_mem hlt)
          clear hcell1
          obtain ⟨⟨sa, sb, sl, sh⟩, hs⟩ : ∃ s, t.slp[k] = s := ⟨_, rfl⟩
          rw [hs] at x0 x1 x2 x3 hst hok hlow
          have HST := Lib.hid hst
          have HOK := Lib.hid hok
          have HLOW := Lib.hid hlow
          clear hs hst hok hlow
          dsimp only at x0 x1 x2 x3
          have hlt0 := S.out.lt 1 rfl
          have y1 := S.out.get 1 1 rfl rfl
          have y2 := S.out.get 1 2 rfl rfl
          go_wp2_with fail
          have S := Lib.hid (S.out.alloc [I sa, I sb, I sl, I sh] 47)
          clear x0 x1 x2 x3 hlt0 y1 y2
          rw [show ((t.snd.length : Int) + (k : Int)) = ((t.snd.length + k : Nat) : Int) by omega]
          refine (HF.out _ (t.snd.length + k) (by omega) S.out.bel).mono ?_
          rintro e w2 ⟨rfl, hb⟩
          have S := Lib.hid (S.out.call hb)
          clear hb
          cases hi : is (t.snd.length + k)
          · have HST := Lib.hid (show slpTo t is (k + 1) = slpTo t is k by rw [HST.out, if_neg (by rw [hi]; simp)])
            clear hi
            go_wp2_with fail
            go_roundw
            case rel => exact ⟨k + 1, by omega, by go_num, Lib.hid (by rw [HST.out]; exact S.out.tail)⟩
            case measure => first | (simp [intOf]; done) | (simp [intOf]; omega)
          · have HST := Lib.hid (HST.out.trans (if_pos hi))
            clear hi
            have z0 := S.out.get 0 0 rfl rfl
            have z1 := S.out.get 0 1 rfl rfl
            have z2 := S.out.get 0 2 rfl rfl
            have z3 := S.out.get 0 3 rfl rfl
            go_wp2_with fail
            clear z0 z1 z2 z3
            refine (slope_any (w.heap.size + 1) ⟨sa, sb, sl, sh⟩ _ _ (S.out.mat 1 rfl) (slpTo_len _ _ _) (by have := HOK.out; dsimp only at this ⊢; omega) (by have := HOK.out; dsimp only at this ⊢; omega) (by have := HOK.out; dsimp only at this ⊢; omega) (by have := HOK.out; dsimp only at this ⊢; omega) (by have := HLOW.out; dsimp only at this ⊢; omega) (by have := HLOW.out; dsimp only at this ⊢; omega)).mono ?_
            rintro e w3 ⟨rfl, hg, hm⟩
            have S := Lib.hid (S.out.upd 1 rfl hg hm)
            clear hg hm
            go_wp2_with fail
            go_roundw
            case rel => exact ⟨k + 1, by omega, by go_num, Lib.hid (by rw [HST.out]; exact S.out.tail)⟩
            case measure => first | (simp [intOf]; done) | (simp [intOf]; omega)
        · have hall := slpTo_all t is
          have hk' : k = t.slp.length := by omega
          rw [← hk'] at hall
          have HALL := Lib.hid hall
          have S := Lib.hid (show St w wr wr.heap.size [mat (w.heap.size + 1) (baseM (sub t is)), .box w.heap.size [I t.wells, .slice A1 t.snd.length c1, .slice A2 t.slp.length c2]] from by rw [← HALL.out]; exact S.out)
          clear hall hk'
          go_wp2_with fail
          refine (close_any (w.heap.size + 1) _ _ (S.out.mat 0 rfl) (baseM_bd (HVL.out.sub is))).mono ?_
          rintro e w4 ⟨rfl, hg, hm⟩
          have S := Lib.hid (S.out.upd 0 rfl hg hm)
          clear hg hm
          go_wp2_with fail
          go_ret2
          exact ⟨_, rfl, by simp, S.out.mat 0 rfl, S.out.bel⟩

/-- This function value tells of each word whether it was said. -/
def TellsNot (w : World) (bx : Nat) (is : Nat → Bool) : Prop :=
  ∀ (W : World) (n : Nat), n ≤ 100 → Below w.heap.size w W → Calls Try.prog 91 #[I n, .pointer (some ⟨bx, 0, none⟩)] W fun e w' => e = .returned (.bool (is n)) ∧ Below W.heap.size W w'

set_option maxRecDepth 20000 in
set_option maxHeartbeats 8000000 in
theorem saidNot_any (v : Value) (t : Twn) (bx : Nat) (is : Nat → Bool) (w : World) (hv : TwnAt w v t) (hvl : Vl t) (hl1 : t.snd.length ≤ 8) (hl2 : t.slp.length ≤ 8) (hf : TellsNot w bx is) :
    Calls Try.prog 68 #[v, .func (.func 91) #[] #[.pointer (some ⟨bx, 0, none⟩)]] w fun e w' => RetSaid t is w e w' := by
  obtain ⟨sv, pv, rfl, hs, hp⟩ := hv
  obtain ⟨A1, c1, rfl, hsl1, hsl2, hc1⟩ := hs.open_
  obtain ⟨A2, c2, rfl, hpl1, hpl2, hc2⟩ := hp.open_
  have HC1 := Lib.hid hc1
  have HC2 := Lib.hid hc2
  have HF := Lib.hid hf
  have HVL := Lib.hid hvl
  have hw0 := hvl.w0
  have hw6 := hvl.w6
  clear hc1 hc2 hs hp hf hvl
  have S := Lib.hid (show St w (w.alloc (.cells #[I t.wells, .slice A1 t.snd.length c1, .slice A2 t.slp.length c2] 25)) (w.heap.size + 1) [.box w.heap.size [I t.wells, .slice A1 t.snd.length c1, .slice A2 t.slp.length c2]] from (St.init w).alloc [I t.wells, .slice A1 t.snd.length c1, .slice A2 t.slp.length c2] 25)
  have q0 := S.out.get 0 0 rfl rfl
  have q1 := S.out.get 0 1 rfl rfl
  have q2 := S.out.get 0 2 rfl rfl
  go_enter Try.func68, Try.ntmps68
  go_wp2_with fail
  refine (rock_any t.wells _ hw0 hw6).mono ?_
  rintro e w1 ⟨rfl, hm, hb⟩
  have S := Lib.hid (S.out.takeM hb (Nat.le_refl _) hm)
  have hB : (w.alloc (.cells #[I t.wells, .slice A1 t.snd.length c1, .slice A2 t.slp.length c2] 25)).heap.size = w.heap.size + 1 := by simp
  rw [hB] at S ⊢
  clear hB q0 q1 q2 hm hb
  have q1 := S.out.get 1 1 rfl rfl
  have hb0 := S.out.lt 1 rfl
  have S := Lib.hid (show St w w1 w1.heap.size [mat (w.heap.size + 1) (sndTo t is 0), .box w.heap.size [I t.wells, .slice A1 t.snd.length c1, .slice A2 t.slp.length c2]] from S.out)
  go_wp2_with fail
  go_loopw [17] (fun i wr => ∃ k : Nat, k ≤ t.snd.length ∧ i = I k ∧ Hid (St w wr wr.heap.size [mat (w.heap.size + 1) (sndTo t is k), .box w.heap.size [I t.wells, .slice A1 t.snd.length c1, .slice A2 t.slp.length c2]])) (fun i _ => t.snd.length - (intOf i).toNat)
  case atStart => exact ⟨0, by omega, rfl, S⟩
  case round =>
    clear q1 hb0 S
    obtain ⟨k, hk, rfl, S⟩ := hrel
    by_cases hlt : k < t.snd.length
    · obtain ⟨b1, o1, rfl, hb1, hcell1⟩ := HC1.out (by omega)
      obtain ⟨x0, x1, x2⟩ := hcell1 k hlt
      have x0 := keep_cell S.out.bel x0
      have x1 := keep_cell S.out.bel x1
      have x2 := keep_cell S.out.bel x2
      have hst := sndTo_succ is hlt
      have hok := HVL.out.snd' _ (List.getElem_mem hlt)
      have hlow := HVL.out.snd _ (List.getElem_mem hlt)
      clear hcell1
      obtain ⟨⟨sw, sl, sh⟩, hs⟩ : ∃ s, t.snd[k] = s := ⟨_, rfl⟩
      rw [hs] at x0 x1 x2 hst hok hlow
      have HST := Lib.hid hst
      have HOK := Lib.hid hok
      have HLOW := Lib.hid hlow
      clear hs hst hok hlow
      dsimp only at x0 x1 x2
      have hlt0 := S.out.lt 1 rfl
      have y1 := S.out.get 1 1 rfl rfl
      have y2 := S.out.get 1 2 rfl rfl
      go_wp2_with fail
      have S := Lib.hid (S.out.alloc [I sw, I sl, I sh] 57)
      clear x0 x1 x2 hlt0 y1 y2
      refine (HF.out _ k (by omega) S.out.bel).mono ?_
      rintro e w2 ⟨rfl, hb⟩
      have S := Lib.hid (S.out.call hb)
      clear hb
      cases hi : is k
      · have HST := Lib.hid (show sndTo t is (k + 1) = sndTo t is k by rw [HST.out, if_neg (by rw [hi]; simp)])
        clear hi
        go_wp2_with fail
        go_roundw
        case rel => exact ⟨k + 1, by omega, by go_num, Lib.hid (by rw [HST.out]; exact S.out.tail)⟩
        case measure => first | (simp [intOf]; done) | (simp [intOf]; omega)
      · have HST := Lib.hid (HST.out.trans (if_pos hi))
        clear hi
        have z0 := S.out.get 0 0 rfl rfl
        have z1 := S.out.get 0 1 rfl rfl
        have z2 := S.out.get 0 2 rfl rfl
        go_wp2_with fail
        clear z0 z1 z2
        refine (sound_any (w.heap.size + 1) ⟨sw, sl, sh⟩ _ _ (S.out.mat 1 rfl) (sndTo_len _ _ _) (by have := HOK.out; dsimp only at this ⊢; omega) (by have := HOK.out; dsimp only at this ⊢; omega) (by have := HLOW.out; dsimp only at this ⊢; omega) (by have := HLOW.out; dsimp only at this ⊢; omega)).mono ?_
        rintro e w3 ⟨rfl, hg, hm⟩
        have S := Lib.hid (S.out.upd 1 rfl hg hm)
        clear hg hm
        go_wp2_with fail
        go_roundw
        case rel => exact ⟨k + 1, by omega, by go_num, Lib.hid (by rw [HST.out]; exact S.out.tail)⟩
        case measure => first | (simp [intOf]; done) | (simp [intOf]; omega)
    · obtain rfl : k = t.snd.length := by omega
      have S := Lib.hid (show St w wr wr.heap.size [mat (w.heap.size + 1) (slpTo t is 0), .box w.heap.size [I t.wells, .slice A1 t.snd.length c1, .slice A2 t.slp.length c2]] from S.out)
      have q1 := S.out.get 1 2 rfl rfl
      have hb0 := S.out.lt 1 rfl
      go_wp2_with fail
      go_loopw [32] (fun i wr => ∃ k : Nat, k ≤ t.slp.length ∧ i = I k ∧ Hid (St w wr wr.heap.size [mat (w.heap.size + 1) (slpTo t is k), .box w.heap.size [I t.wells, .slice A1 t.snd.length c1, .slice A2 t.slp.length c2]])) (fun i _ => t.slp.length - (intOf i).toNat)
      case atStart => exact ⟨0, by omega, rfl, S⟩
      case round =>
        clear q1 hb0 S
        obtain ⟨k, hk, rfl, S⟩ := hrel
        by_cases hlt : k < t.slp.length
        · obtain ⟨b1, o1, rfl, hb1, hcell1⟩ := HC2.out (by omega)
          obtain ⟨x0, x1, x2, x3⟩ := hcell1 k hlt
          have x0 := keep_cell S.out.bel x0
          have x1 := keep_cell S.out.bel x1
          have x2 := keep_cell S.out.bel x2
          have x3 := keep_cell S.out.bel x3
          have hst := slpTo_succ is hlt
          have hok := HVL.out.slp' _ (List.getElem_mem hlt)
          have hlow := HVL.out.slp _ (List.getElem_mem hlt)
          clear hcell1
          obtain ⟨⟨sa, sb, sl, sh⟩, hs⟩ : ∃ s, t.slp[k] = s := ⟨_, rfl⟩
          rw [hs] at x0 x1 x2 x3 hst hok hlow
          have HST := Lib.hid hst
          have HOK := Lib.hid hok
          have HLOW := Lib.hid hlow
          clear hs hst hok hlow
          dsimp only at x0 x1 x2 x3
          have hlt0 := S.out.lt 1 rfl
          have y1 := S.out.get 1 1 rfl rfl
          have y2 := S.out.get 1 2 rfl rfl
          go_wp2_with fail
          have S := Lib.hid (S.out.alloc [I sa, I sb, I sl, I sh] 47)
          clear x0 x1 x2 x3 hlt0 y1 y2
          rw [show ((t.snd.length : Int) + (k : Int)) = ((t.snd.length + k : Nat) : Int) by omega]
          refine (HF.out _ (t.snd.length + k) (by omega) S.out.bel).mono ?_
          rintro e w2 ⟨rfl, hb⟩
          have S := Lib.hid (S.out.call hb)
          clear hb
          cases hi : is (t.snd.length + k)
          · have HST := Lib.hid (show slpTo t is (k + 1) = slpTo t is k by rw [HST.out, if_neg (by rw [hi]; simp)])
            clear hi
            go_wp2_with fail
            go_roundw
            case rel => exact ⟨k + 1, by omega, by go_num, Lib.hid (by rw [HST.out]; exact S.out.tail)⟩
            case measure => first | (simp [intOf]; done) | (simp [intOf]; omega)
          · have HST := Lib.hid (HST.out.trans (if_pos hi))
            clear hi
            have z0 := S.out.get 0 0 rfl rfl
            have z1 := S.out.get 0 1 rfl rfl
            have z2 := S.out.get 0 2 rfl rfl
            have z3 := S.out.get 0 3 rfl rfl
            go_wp2_with fail
            clear z0 z1 z2 z3
            refine (slope_any (w.heap.size + 1) ⟨sa, sb, sl, sh⟩ _ _ (S.out.mat 1 rfl) (slpTo_len _ _ _) (by have := HOK.out; dsimp only at this ⊢; omega) (by have := HOK.out; dsimp only at this ⊢; omega) (by have := HOK.out; dsimp only at this ⊢; omega) (by have := HOK.out; dsimp only at this ⊢; omega) (by have := HLOW.out; dsimp only at this ⊢; omega) (by have := HLOW.out; dsimp only at this ⊢; omega)).mono ?_
            rintro e w3 ⟨rfl, hg, hm⟩
            have S := Lib.hid (S.out.upd 1 rfl hg hm)
            clear hg hm
            go_wp2_with fail
            go_roundw
            case rel => exact ⟨k + 1, by omega, by go_num, Lib.hid (by rw [HST.out]; exact S.out.tail)⟩
            case measure => first | (simp [intOf]; done) | (simp [intOf]; omega)
        · have hall := slpTo_all t is
          have hk' : k = t.slp.length := by omega
          rw [← hk'] at hall
          have HALL := Lib.hid hall
          have S := Lib.hid (show St w wr wr.heap.size [mat (w.heap.size + 1) (baseM (sub t is)), .box w.heap.size [I t.wells, .slice A1 t.snd.length c1, .slice A2 t.slp.length c2]] from by rw [← HALL.out]; exact S.out)
          clear hall hk'
          go_wp2_with fail
          refine (close_any (w.heap.size + 1) _ _ (S.out.mat 0 rfl) (baseM_bd (HVL.out.sub is))).mono ?_
          rintro e w4 ⟨rfl, hg, hm⟩
          have S := Lib.hid (S.out.upd 0 rfl hg hm)
          clear hg hm
          go_wp2_with fail
          go_ret2
          exact ⟨_, rfl, by simp, S.out.mat 0 rfl, S.out.bel⟩

end Go.Proofs.Ytplbaijdnpfdgaa

/- Walks: Higher, worst, Ask. -/
import Derived.Test.YtplbaijdnpfdgaaW11
import Derived.Test.YtplbaijdnpfdgaaPlain5
namespace Go.Proofs.Ytplbaijdnpfdgaa
open Go.RowKit Go.Sort

def higherP (t : Twn) (a b : Int) : Int × Int := if (differP t b a).2 ≠ 0 then (0, (differP t b a).2) else if 0 < (differP t b a).1.low then (1, 0) else if (differP t b a).1.high ≤ 0 then (2, 0) else (3, 0)
/-- Closed bounds of a town that has a truth are small. -/
theorem says_okm {t : Twn} (hv : Vl t) {ms : List Int} (hs : Says t ms) (hd : diagOk (closeM ms) = true) : Okm (closeM ms) ∧ Sml (closeM ms) t.wells.toNat := by
  obtain ⟨h1, ht⟩ := says_closed hv hs hd
  have h0 := hv.w0
  refine ⟨tight_ok hv ht h1.bd.len h1.iso, fun i hi => ?_⟩
  have h1 := ht.fin i 6 (.inl (by omega)) (.inr rfl)
  have h2 := ht.fin 6 i (.inr rfl) (.inl (by omega))
  simp only [lvl]
  omega
theorem lvl_exact {t : Twn} (hv : Vl t) {ms : List Int} {l : List Sp} (ht : Tight t ms) (he : Exact t l) {w : Nat} (hw : (w : Int) < t.wells) : lvl ms w = spAt l w := by
  obtain ⟨h1, h2⟩ := tight_low hv ht he hw
  unfold lvl
  rw [h1, h2]
/-- A level between the ends leaves a truth. -/
theorem sound_ok {t : Twn} (h : openE t true = 0) {w : Nat} (hw : (w : Int) < t.wells) {n : Int} (h1 : (lvl (closeM (baseM t)) w).low ≤ n) (h2 : n ≤ (lvl (closeM (baseM t)) w).high) :
    0 ≤ n ∧ n ≤ 99 ∧ Says (addS t ⟨w, n, n⟩) (soundM (closeM (baseM t)) ⟨w, n, n⟩) ∧ diagOk (closeM (soundM (closeM (baseM t)) ⟨w, n, n⟩)) = true ∧ Vl (addS t ⟨w, n, n⟩) := by
  obtain ⟨hv, -, hd⟩ := openE_zero h
  obtain ⟨hs, ht⟩ := says_closed hv (baseM_says hv) hd
  obtain ⟨x, hx, -⟩ := ht.one 6 6 (.inr rfl) (.inr rfl)
  rcases spansR_cases hv with ⟨l, -, he⟩ | ⟨-, hn⟩
  · rw [lvl_exact hv ht he hw] at h1 h2
    obtain ⟨y, hy, hyn⟩ := mid_truth hv he hw h1 h2
    have hb := hy.own w hw
    rw [hyn] at hb
    have hok : (0 : Int) ≤ (⟨w, n, n⟩ : Snd).well ∧ (⟨w, n, n⟩ : Snd).well < t.wells ∧ 0 ≤ (⟨w, n, n⟩ : Snd).low ∧ (⟨w, n, n⟩ : Snd).low ≤ (⟨w, n, n⟩ : Snd).high ∧ (⟨w, n, n⟩ : Snd).high ≤ 99 := by
      dsimp only
      omega
    have hv2 : Vl (addS t ⟨w, n, n⟩) := hv.addS hok
    have hs2 := says_sound hv hs hok
    refine ⟨hb.1, hb.2, hs2, (says_ok hv2 hs2).1.2 ⟨y, tr_addS.2 ⟨hy, ?_⟩⟩, hv2⟩
    simp only [Int.toNat_natCast]
    omega
  · exact absurd ⟨x, hx⟩ hn
/-- The greatest width, if a well is sounded: of the first k levels that it can have. -/
def worstN (ms : List Int) (N w : Nat) : Nat → Int
  | 0 => 0
  | k + 1 => max (worstN ms N w k) (widL (closeM (soundM ms ⟨w, (lvl ms w).low + k, (lvl ms w).low + k⟩)) (List.range N))
def worstP (ms : List Int) (N w : Nat) : Int := worstN ms N w ((lvl ms w).high + 1 - (lvl ms w).low).toNat
theorem load_mat {P : Program} {ops : Array Oper} {rest : List Oper} {o : Oper} {a : Act} {w : World} {Q : Exit → Act → World → Prop} (hgd : o.guard = none) (ty : TypeId) (x : Operand) (ho : o.op = .load ty x)
    {B : Nat} {ms : List Int} (hm : MatAt w B ms) (hx : a.eval x = .pointer (some ⟨B, 0, none⟩)) (d : TypeDesc) (hu : P.underlying ty = some d) (hd : (match d with | .struct _ | .array _ _ => true | _ => false) = true)
    (hsz : (P.info? ty).map (·.size) = some 49) (hl : ms.length = 49) (h : wpList P ops Q rest (a.put o.dst (.agg (ms.map I).toArray)) w) : wpList P ops Q (o :: rest) a w :=
  wpList_load_row hgd ty x ho B hx _ (ms.map I).toArray (0, 0) d hm hu hd (by rw [hsz]; simp [hl]) h
theorem store_mat {P : Program} {ops : Array Oper} {rest : List Oper} {o : Oper} {a : Act} {w : World} {Q : Exit → Act → World → Prop} (hgd : o.guard = none) (ty : TypeId) (x y : Operand) (ho : o.op = .store ty x y)
    {B : Nat} {m0 ms : List Int} (hm : MatAt w B m0) (hx : a.eval x = .pointer (some ⟨B, 0, none⟩)) (hy : a.eval y = .agg (ms.map I).toArray)
    (hsz : (P.info? ty).map (·.size) = some 49) (hl0 : m0.length = 49) (hl : ms.length = 49) (h : ∀ w', w.grownBy w' (some B) → MatAt w' B ms → wpList P ops Q rest (a.put o.dst undef) w') : wpList P ops Q (o :: rest) a w :=
  wpList_store_row hgd ty x y ho B (ms.map I).toArray hx hy _ (m0.map I).toArray hm (by rw [hsz]; simp [hl]) (by simp [hl, hl0]) (by rw [Array.all_eq_true_iff_forall_mem]; intro v hv; exact ints_one ms v (by simpa using hv)) (h _ (grown_setRow _) (setRow_heap _ _ _ _ _ _ hm))
theorem info_bounds : (Try.prog.info? 113).map (·.size) = some 49 := by kernel_rfl

set_option maxRecDepth 20000 in
set_option maxHeartbeats 4000000 in
theorem worst_any (B N well : Nat) (t : Twn) (w : World) (ho : openE t true = 0) (hm : MatAt w B (closeM (baseM t))) (hN : t.wells = (N : Int)) (hw : (well : Int) < t.wells) :
    Calls Try.prog 94 #[.pointer (some ⟨B, 0, none⟩), I (N : Nat), I (well : Nat)] w fun e w' => e = .returned (I (worstP (closeM (baseM t)) N well)) ∧ Below w.heap.size w w' := by
  have S := Lib.hid (St.init w)
  have HM := Lib.hid hm
  have hok := open_ok ho
  obtain ⟨hvl, -, hdg⟩ := openE_zero ho
  have h6 := hvl.w6
  have hsm := hok.2 well (by omega)
  have HOK := Lib.hid hok.1
  have HO := Lib.hid ho
  have HSO := Lib.hid (fun (k : Nat) (h1 : (lvl (closeM (baseM t)) well).low + k ≤ (lvl (closeM (baseM t)) well).high) => sound_ok ho hw (n := (lvl (closeM (baseM t)) well).low + k) (by omega) h1)
  have HVW := Lib.hid (Int.toNat_of_nonneg hvl.w0)
  have hml := closeBase_len t
  have HMB := Lib.hid ((says_closed hvl (baseM_says hvl) hdg).1.bd)
  have HN := Lib.hid (show t.wells = (N : Int) from hN)
  have hN6 : N ≤ 6 := by omega
  have hwN : well < N := by omega
  have hlv : lvl (closeM (baseM t)) well = ⟨-at_ (closeM (baseM t)) well 6, at_ (closeM (baseM t)) 6 well⟩ := rfl
  generalize hM : closeM (baseM t) = M at *
  have HEM := Lib.hid hM
  have HML := Lib.hid hml
  have HLV := Lib.hid hlv
  obtain ⟨⟨lo, hi⟩, hlh⟩ : ∃ p, lvl M well = p := ⟨_, rfl⟩
  have HLH := Lib.hid hlh
  rw [hlh] at hsm
  dsimp only at hsm
  obtain ⟨s1, s2, s3, s4⟩ := hsm
  clear hm hok hvl hdg h6 ho hml hN hw hM hlv hlh
  go_enter Try.func94, Try.ntmps94
  go_wp2_with fail
  refine (span_any B 6 well M w HM.out HML.out (by omega) (by omega) (by omega) (by omega) (by simpa using (HOK.out.2 well (by omega)).1) (by simpa using (HOK.out.2 well (by omega)).2)).mono ?_
  rintro e w1 ⟨rfl, hb⟩
  have S := Lib.hid (S.out.call hb)
  clear hb
  rw [show (6 : Int).toNat = 6 from rfl, Int.toNat_natCast, show (⟨-at_ M well 6, at_ M 6 well⟩ : Sp) = ⟨lo, hi⟩ from HLV.out.symm.trans HLH.out]
  go_wp2_with fail
  have S := Lib.hid (S.out.alloc [I lo, I hi] 40).fix
  go_loopw [8, 9] (fun u i wr => ∃ k : Nat, k ≤ (hi + 1 - lo).toNat ∧ i = I (lo + k) ∧ u = I (worstN M N well k) ∧ Hid (St w wr wr.heap.size [.box w1.heap.size [I lo, I hi]])) (fun _ i _ => (hi + 1 - intOf i).toNat)
  case atStart => exact ⟨0, by omega, by go_num, rfl, S⟩
  case round =>
    clear S
    obtain ⟨k, hk, rfl, rfl, S⟩ := hrel
    have q0 := S.out.get 0 0 rfl rfl
    have q1 := S.out.get 0 1 rfl rfl
    by_cases hlt : lo + k ≤ hi
    · obtain ⟨n0, n1, hsy, hdg, hv2⟩ := HSO.out k (by rw [HLH.out]; exact hlt)
      rw [HLH.out] at n0 n1 hsy hdg hv2
      dsimp only at n0 n1 hsy hdg hv2
      have hwd := says_okm hv2 hsy hdg
      have hst : worstN M N well (k + 1) = max (worstN M N well k) (widL (closeM (soundM M ⟨well, lo + k, lo + k⟩)) (List.range N)) := by
        show max _ (widL (closeM (soundM M ⟨well, (lvl M well).low + k, (lvl M well).low + k⟩)) _) = _
        rw [HLH.out]
      have hwl : (addS t ⟨well, lo + k, lo + k⟩).wells.toNat = N := by
        show t.wells.toNat = N
        rw [HN.out]
        simp
      rw [hwl] at hwd
      obtain ⟨L, hL⟩ : ∃ L, lo + (k : Int) = L := ⟨_, rfl⟩
      rw [hL] at n0 n1 hsy hdg hv2 hwd hst hlt ⊢
      have HLL := Lib.hid hL
      have HST := Lib.hid hst
      have HWD := Lib.hid hwd
      have HBS := Lib.hid hsy.bd
      have hbs := S.out.lt 0 rfl
      have hm0 : MatAt (wr.alloc (.cells (List.replicate 49 (I 0)).toArray 113)) wr.heap.size (List.replicate 49 0) := by
        unfold MatAt
        rw [List.map_replicate]
        exact heap_alloc_new wr _
      have S1 := Lib.hid (S.out.takeM ((Below.refl _ _).alloc (Nat.le_refl _) _) (Nat.le_refl _) hm0)
      have HM0 := Lib.hid hm0
      clear hL hst hwd hsy hdg hv2 hwl hm0
      have HMW := Lib.hid (HM.out.below S.out.bel)
      go_wp2_with (first | (refine load_mat rfl 113 (.tmp 23) rfl HMW.out rfl _ Try.underlying113 rfl info_bounds HML.out ?_) | (refine store_mat rfl 113 (.tmp 10) (.tmp 24) rfl HM0.out rfl rfl info_bounds (by simp) HML.out ?_; intro w5 hg5 hm5; have S := Lib.hid (S1.out.upd 0 rfl hg5 hm5); clear hg5 hm5))
      clear q0 q1
      refine (sound_any wr.heap.size ⟨well, L, L⟩ M _ (S.out.mat 0 rfl) HML.out (by dsimp only; omega) (by dsimp only; omega) (by dsimp only; omega) (by dsimp only; omega)).mono ?_
      rintro e w6 ⟨rfl, hg, hm⟩
      have S := Lib.hid (S.out.upd 0 rfl hg hm)
      clear hg hm
      go_wp2_with fail
      refine (close_any wr.heap.size _ _ (S.out.mat 0 rfl) HBS.out).mono ?_
      rintro e w7 ⟨rfl, hg, hm⟩
      have S := Lib.hid (S.out.upd 0 rfl hg hm)
      clear hg hm
      go_wp2_with fail
      refine (width_any wr.heap.size N _ _ (S.out.mat 0 rfl) hN6 HWD.out.1 HWD.out.2).mono ?_
      rintro e w8 ⟨rfl, hb⟩
      have S := Lib.hid (S.out.call hb).tail
      clear hb
      obtain ⟨x1, hx1⟩ : ∃ x, worstN M N well k = x := ⟨_, rfl⟩
      obtain ⟨x2, hx2⟩ : ∃ x, widL (closeM (soundM M ⟨well, L, L⟩)) (List.range N) = x := ⟨_, rfl⟩
      rw [hx1, hx2]
      have HST := Lib.hid (show worstN M N well (k + 1) = max x1 x2 by rw [HST.out, hx1, hx2])
      clear hx1 hx2
      by_cases hmx : x1 < x2
      · have HST := Lib.hid (HST.out.trans (Int.max_eq_right (by omega)))
        go_wp2_with fail
        all_goals
          go_roundw
          case rel => exact ⟨k + 1, by have := HLL.out; omega, congrArg I (show L + 1 = lo + ((k + 1 : Nat) : Int) by have := HLL.out; omega), by rw [HST.out], S⟩
          case measure => first | (simp [intOf]; done) | (simp [intOf]; omega)
      · have HST := Lib.hid (HST.out.trans (Int.max_eq_left (by omega)))
        go_wp2_with fail
        all_goals
          go_roundw
          case rel => exact ⟨k + 1, by have := HLL.out; omega, congrArg I (show L + 1 = lo + ((k + 1 : Nat) : Int) by have := HLL.out; omega), by rw [HST.out], S⟩
          case measure => first | (simp [intOf]; done) | (simp [intOf]; omega)
    · have HE := Lib.hid (show worstN M N well k = worstP M N well by
        unfold worstP
        rw [HLH.out]
        dsimp only
        rw [show k = (hi + 1 - lo).toNat by omega])
      go_wp2_with fail
      go_ret
      exact ⟨by rw [HE.out]; rfl, S.out.bel⟩

/-- Which well's worst is the least, of the first k: and how much it is. -/
def askTo (ms : List Int) (N : Nat) : Nat → Int × Int
  | 0 => (0, 1048576)
  | k + 1 => if worstP ms N k < (askTo ms N k).2 then ((k : Int), worstP ms N k) else askTo ms N k
def askP (t : Twn) : Int × Int := if openE t true = 0 then (if widL (closeM (baseM t)) (List.range t.wells.toNat) = 0 then (0, 3) else ((askTo (closeM (baseM t)) t.wells.toNat t.wells.toNat).1, 0)) else (0, openE t true)

set_option maxRecDepth 20000 in
set_option maxHeartbeats 4000000 in
theorem ask_any (v : Value) (t : Twn) (w : World) (hv : TwnAt w v t) :
    Calls Try.prog 59 #[v] w fun e w' => e = .returned (.tuple #[I (askP t).1, I (askP t).2]) ∧ Below w.heap.size w w' := by
  obtain ⟨sv, pv, rfl, hs, hp⟩ := hv
  have HSN := Lib.hid hs
  have HSP := Lib.hid hp
  obtain ⟨A1, c1, rfl, -, -, -⟩ := id hs.open_
  obtain ⟨A2, c2, rfl, -, -, -⟩ := id hp.open_
  clear hs hp
  have S := Lib.hid (show St w (w.alloc (.cells #[I t.wells, .slice A1 t.snd.length c1, .slice A2 t.slp.length c2] 25)) (w.heap.size + 1) [.box w.heap.size [I t.wells, .slice A1 t.snd.length c1, .slice A2 t.slp.length c2]] from (St.init w).alloc [I t.wells, .slice A1 t.snd.length c1, .slice A2 t.slp.length c2] 25)
  by_cases h : openE t true = 0
  · have HE := Lib.hid (show askP t = _ from if_pos h)
    obtain ⟨hvl, -, -⟩ := openE_zero h
    have hNW := hvl.w0
    have hN6 := hvl.w6
    obtain ⟨N, hN⟩ := Int.eq_ofNat_of_zero_le hNW
    have hok := open_ok h
    rw [hN] at hN6 S
    have hn6 : N ≤ 6 := by omega
    rw [show t.wells.toNat = N by omega] at HE hok
    have HOK := Lib.hid hok
    have HN := Lib.hid hN
    have HO := Lib.hid h
    clear hvl hNW hok h
    rw [hN]
    clear hN
    have q0 := S.out.get 0 0 rfl rfl
    have q1 := S.out.get 0 1 rfl rfl
    have q2 := S.out.get 0 2 rfl rfl
    go_enter Try.func59, Try.ntmps59
    go_wp2_with fail
    clear q0 q1 q2
    refine (open_yes _ t true _ ⟨_, _, by rw [HN.out], HSN.out.below S.out.bel, HSP.out.below S.out.bel⟩ HO.out).mono ?_
    rintro e wo hr
    obtain ⟨B, rfl, hB, hm, hb⟩ := hr
    have S := Lib.hid (S.out.takeM hb hB hm)
    clear hB hb hm
    have q0 := S.out.get 1 0 rfl rfl
    go_wp2_with fail
    clear q0
    refine (width_any B N _ _ (S.out.mat 0 rfl) hn6 HOK.out.1 HOK.out.2).mono ?_
    rintro e w2 ⟨rfl, hb⟩
    have S := Lib.hid (S.out.call hb)
    clear hb
    obtain ⟨x, hx⟩ : ∃ x, widL (closeM (baseM t)) (List.range N) = x := ⟨_, rfl⟩
    rw [hx] at HE ⊢
    clear hx
    cases hz : x == 0
    · have HE := Lib.hid (HE.out.trans (if_neg (by simpa using hz)))
      have q0 := S.out.get 1 0 rfl rfl
      go_wp2_with fail
      clear q0
      go_loopw [6, 7, 25] (fun u v i wr => ∃ k : Nat, k ≤ N ∧ i = I k ∧ u = I (askTo (closeM (baseM t)) N k).1 ∧ v = I (askTo (closeM (baseM t)) N k).2 ∧ Hid (St w wr wr.heap.size [mat B (closeM (baseM t)), .box w.heap.size [I (N : Nat), .slice A1 t.snd.length c1, .slice A2 t.slp.length c2]])) (fun _ _ i _ => N - (intOf i).toNat)
      case atStart => exact ⟨0, by omega, rfl, rfl, rfl, S⟩
      case round =>
        clear S
        obtain ⟨k, hk, rfl, rfl, rfl, S⟩ := hrel
        by_cases hlt : k < N
        · have q0 := S.out.get 1 0 rfl rfl
          have hst : askTo (closeM (baseM t)) N (k + 1) = if worstP (closeM (baseM t)) N k < (askTo (closeM (baseM t)) N k).2 then ((k : Int), worstP (closeM (baseM t)) N k) else askTo (closeM (baseM t)) N k := rfl
          have HST := Lib.hid hst
          clear hst
          go_wp2_with fail
          clear q0
          refine (worst_any B N k t _ HO.out (S.out.mat 0 rfl) HN.out (by rw [HN.out]; omega)).mono ?_
          rintro e w3 ⟨rfl, hb⟩
          have S := Lib.hid (S.out.call hb)
          clear hb
          obtain ⟨y, hy⟩ : ∃ y, worstP (closeM (baseM t)) N k = y := ⟨_, rfl⟩
          obtain ⟨⟨p1, p2⟩, hp⟩ : ∃ p, askTo (closeM (baseM t)) N k = p := ⟨_, rfl⟩
          rw [hy, hp] at HST
          rw [hy, hp]
          clear hy hp
          dsimp only at HST ⊢
          by_cases hc : y < p2
          · have HST := Lib.hid (HST.out.trans (if_pos hc))
            go_wp2_with fail
            go_roundw
            case rel => exact ⟨k + 1, by omega, by go_num, by rw [HST.out], by rw [HST.out], S⟩
            case measure => first | (simp [intOf]; done) | (simp [intOf]; omega)
          · have HST := Lib.hid (HST.out.trans (if_neg hc))
            go_wp2_with fail
            go_roundw
            case rel => exact ⟨k + 1, by omega, by go_num, by rw [HST.out], by rw [HST.out], S⟩
            case measure => first | (simp [intOf]; done) | (simp [intOf]; omega)
        · have HK := Lib.hid (show k = N by omega)
          go_wp2_with fail
          go_ret2
          exact ⟨by rw [HE.out, HK.out]; rfl, S.out.bel⟩
    · have HE := Lib.hid (HE.out.trans (if_pos (by simpa using hz)))
      go_wp2_with fail
      go_ret2
      exact ⟨by rw [HE.out]; rfl, S.out.bel⟩
  · have HE := Lib.hid (show askP t = _ from if_neg h)
    have HO := Lib.hid h
    clear h
    have q0 := S.out.get 0 0 rfl rfl
    have q1 := S.out.get 0 1 rfl rfl
    have q2 := S.out.get 0 2 rfl rfl
    go_enter Try.func59, Try.ntmps59
    go_wp2_with fail
    clear q0 q1 q2
    refine (open_no _ t true _ ⟨_, _, rfl, HSN.out.below S.out.bel, HSP.out.below S.out.bel⟩ HO.out).mono ?_
    rintro e w1 ⟨rfl, hb⟩
    have S := Lib.hid (S.out.call hb)
    have hne := bne_iff_ne.2 HO.out
    clear hb
    go_wp2_with fail
    go_ret2
    exact ⟨by rw [HE.out]; rfl, S.out.bel⟩

set_option maxRecDepth 20000 in
set_option maxHeartbeats 4000000 in
theorem higher_any (v : Value) (t : Twn) (a b : Int) (w : World) (hv : TwnAt w v t) :
    Calls Try.prog 46 #[v, I a, I b] w fun e w' => e = .returned (.tuple #[I (higherP t a b).1, I (higherP t a b).2]) ∧ Below w.heap.size w w' := by
  obtain ⟨sv, pv, rfl, hs, hp⟩ := hv
  have HSN := Lib.hid hs
  have HSP := Lib.hid hp
  obtain ⟨A1, c1, rfl, -, -, -⟩ := id hs.open_
  obtain ⟨A2, c2, rfl, -, -, -⟩ := id hp.open_
  clear hs hp
  have S := Lib.hid (show St w (w.alloc (.cells #[I t.wells, .slice A1 t.snd.length c1, .slice A2 t.slp.length c2] 25)) (w.heap.size + 1) [.box w.heap.size [I t.wells, .slice A1 t.snd.length c1, .slice A2 t.slp.length c2]] from (St.init w).alloc [I t.wells, .slice A1 t.snd.length c1, .slice A2 t.slp.length c2] 25)
  have q0 := S.out.get 0 0 rfl rfl
  have q1 := S.out.get 0 1 rfl rfl
  have q2 := S.out.get 0 2 rfl rfl
  obtain ⟨⟨⟨lo, hi⟩, er⟩, hd⟩ : ∃ p, differP t b a = p := ⟨_, rfl⟩
  have HD := Lib.hid hd
  have he : higherP t a b = if er ≠ 0 then (0, er) else if 0 < lo then (1, 0) else if hi ≤ 0 then (2, 0) else (3, 0) := by unfold higherP; rw [hd]
  have HE := Lib.hid he
  clear hd he
  cases h : er == 0
  · have HE := Lib.hid (HE.out.trans (if_pos (by simpa using h)))
    have h' : (er != 0) = true := by simpa using h
    clear h
    go_enter Try.func46, Try.ntmps46
    go_wp2_with fail
    clear q0 q1 q2
    refine (differ_any _ t b a _ ⟨_, _, rfl, HSN.out.below S.out.bel, HSP.out.below S.out.bel⟩).mono ?_
    rintro e w1 ⟨he, hb⟩
    rw [HD.out] at he
    subst he
    have S := Lib.hid (S.out.call hb)
    clear hb
    go_wp2_with fail
    go_ret2
    exact ⟨by rw [HE.out]; rfl, S.out.bel.alloc S.out.bel.size _⟩
  · obtain rfl : er = 0 := by simpa using h
    clear h
    have HE := Lib.hid (HE.out.trans (if_neg (by simp)))
    by_cases h1 : 0 < lo
    · have HE := Lib.hid (HE.out.trans (if_pos h1))
      go_enter Try.func46, Try.ntmps46
      go_wp2_with fail
      clear q0 q1 q2
      refine (differ_any _ t b a _ ⟨_, _, rfl, HSN.out.below S.out.bel, HSP.out.below S.out.bel⟩).mono ?_
      rintro e w1 ⟨he, hb⟩
      rw [HD.out] at he
      subst he
      have S := Lib.hid (S.out.call hb)
      clear hb
      go_wp2_with fail
      go_ret2
      exact ⟨by rw [HE.out]; rfl, S.out.bel.alloc S.out.bel.size _⟩
    · have HE := Lib.hid (HE.out.trans (if_neg h1))
      by_cases h2 : hi ≤ 0
      · have HE := Lib.hid (HE.out.trans (if_pos h2))
        go_enter Try.func46, Try.ntmps46
        go_wp2_with fail
        clear q0 q1 q2
        refine (differ_any _ t b a _ ⟨_, _, rfl, HSN.out.below S.out.bel, HSP.out.below S.out.bel⟩).mono ?_
        rintro e w1 ⟨he, hb⟩
        rw [HD.out] at he
        subst he
        have S := Lib.hid (S.out.call hb)
        clear hb
        go_wp2_with fail
        go_ret2
        exact ⟨by rw [HE.out]; rfl, S.out.bel.alloc S.out.bel.size _⟩
      · have HE := Lib.hid (HE.out.trans (if_neg h2))
        go_enter Try.func46, Try.ntmps46
        go_wp2_with fail
        clear q0 q1 q2
        refine (differ_any _ t b a _ ⟨_, _, rfl, HSN.out.below S.out.bel, HSP.out.below S.out.bel⟩).mono ?_
        rintro e w1 ⟨he, hb⟩
        rw [HD.out] at he
        subst he
        have S := Lib.hid (S.out.call hb)
        clear hb
        go_wp2_with fail
        go_ret2
        exact ⟨by rw [HE.out]; rfl, S.out.bel.alloc S.out.bel.size _⟩

end Go.Proofs.Ytplbaijdnpfdgaa

/- Walks of the reference: lists, Clash. -/
import Derived.Test.YtplbaijdnpfdgaaV9
namespace Go.Proofs.Ytplbaijdnpfdgaa
open Go.RowKit Go.Sort

/-- Slices of one's own, apart from a row: what they hold. -/
def Apart (base : Nat) (w : World) (vo : Value) (cs : List Value) (L : List (List Int)) : Prop :=
  cs.length = L.length ∧ ∀ i (h1 : i < cs.length) (h2 : i < L.length), ∃ b m c, cs[i] = .slice (some ⟨b, 0, none⟩) m c ∧ base ≤ b ∧ b < w.heap.size ∧ vo.ownBlock ≠ some b ∧ Ints w cs[i] L[i]
/-- .. each one a list. -/
def LL (w : World) (cs : List Value) (L : List (List Int)) : Prop := cs.length = L.length ∧ ∀ i (h1 : i < cs.length) (h2 : i < L.length), Ints w cs[i] L[i]
theorem LL.below {w w' : World} {cs : List Value} {L : List (List Int)} (h : LL w cs L) (hb : Below w.heap.size w w') : LL w' cs L := ⟨h.1, fun i h1 h2 => (h.2 i h1 h2).below hb⟩
theorem Apart.ll {base : Nat} {w : World} {vo : Value} {cs : List Value} {L : List (List Int)} (h : Apart base w vo cs L) : LL w cs L := ⟨h.1, fun i h1 h2 => by
  obtain ⟨_, _, _, _, _, _, _, h⟩ := h.2 i h1 h2
  exact h⟩
theorem LL.one {w : World} {cs : List Value} {L : List (List Int)} (h : LL w cs L) : ∀ u ∈ cs, u.oneCell' = true := fun u hu => by
  obtain ⟨i, hi, rfl⟩ := List.mem_iff_getElem.1 hu
  obtain ⟨_, A, c, e, _⟩ := h.2 i hi (by rw [← h.1]; exact hi)
  rw [e]
  rfl
theorem Apart.nil (base : Nat) (w : World) (vo : Value) : Apart base w vo [] [] := ⟨rfl, fun i h1 _ => absurd h1 (by simp)⟩
theorem Apart.below {base : Nat} {w w' : World} {vo : Value} {cs : List Value} {L : List (List Int)} (h : Apart base w vo cs L) (hb : Below w.heap.size w w') : Apart base w' vo cs L := ⟨h.1, fun i h1 h2 => by
  obtain ⟨b, m, c, e, k1, k2, k3, k4⟩ := h.2 i h1 h2
  exact ⟨b, m, c, e, k1, Nat.lt_of_lt_of_le k2 hb.size, k3, k4.below hb⟩⟩
theorem Ints.grown {w w' : World} {b m c : Nat} {l : List Int} {ob : Option Nat} (h : Ints w (.slice (some ⟨b, 0, none⟩) m c) l) (hg : w.grownBy w' ob) (hb : b < w.heap.size) (hne : ob ≠ some b) : Ints w' (.slice (some ⟨b, 0, none⟩) m c) l := by
  obtain ⟨h1, A, c', e, h3, h4, h5⟩ := h
  injection e with e1 e2 e3
  subst e1
  subst e3
  refine ⟨h1, _, _, by rw [e2], h3, h4, fun hp => ⟨b, 0, rfl, fun j u hu => ?_⟩⟩
  obtain ⟨b', o', e', hc⟩ := h5 hp
  injection e' with e'
  injection e' with e6 e7 e8
  subst e6
  subst e7
  rw [World.cell?_of_block (hg.block b hb (fun e => hne e.symm))]
  exact hc j u hu
theorem grownBy.of_below {w w' : World} (h : Below w.heap.size w w') (ob : Option Nat) : w.grownBy w' ob := ⟨h.os, h.tape, h.output, h.size, fun k hk _ => h.block k hk⟩
/-- The row has grown by other lists of one's own. -/
theorem Apart.grown {base : Nat} {w w' : World} {vo vo' vs : Value} {cs ds : List Value} {L M : List (List Int)} (h : Apart base w vo cs L) (k : Apart base w vs ds M) (hg : w.grownBy w' vo.ownBlock) (hv : vo'.ownBlock = vo.ownBlock ∨ vo'.ownBlock = some w.heap.size)
    (hd : ∀ b m c, (.slice (some ⟨b, 0, none⟩) m c : Value) ∈ ds → vo.ownBlock ≠ some b) : Apart base w' vo' (cs ++ ds) (L ++ M) := by
  have hne : ∀ b, b < w.heap.size → vo.ownBlock ≠ some b → vo'.ownBlock ≠ some b := fun b hb hn => by
    rcases hv with hv | hv
    · rw [hv]; exact hn
    · rw [hv]; intro e; injection e with e; omega
  refine ⟨by rw [List.length_append, List.length_append, h.1, k.1], fun i h1 h2 => ?_⟩
  by_cases hi : i < cs.length
  · obtain ⟨b, m, c, e, k1, k2, k3, k4⟩ := h.2 i hi (by rw [← h.1]; exact hi)
    rw [List.getElem_append_left hi, List.getElem_append_left (by rw [← h.1]; exact hi)]
    rw [e] at k4
    exact ⟨b, m, c, e, k1, Nat.lt_of_lt_of_le k2 hg.size, hne b k2 k3, by rw [e]; exact k4.grown hg k2 k3⟩
  · have hi2 : i - cs.length < ds.length := by rw [List.length_append] at h1; omega
    have hi3 : i - L.length < M.length := by rw [List.length_append] at h2; rw [← h.1]; rw [← k.1]; omega
    obtain ⟨b, m, c, e, k1, k2, -, k4⟩ := k.2 (i - cs.length) hi2 (by rw [← k.1]; exact hi2)
    rw [List.getElem_append_right (by omega), List.getElem_append_right (by rw [← h.1]; omega)]
    have hb := hd b m c (by rw [← e]; exact List.getElem_mem _)
    have eL : M[i - L.length] = M[i - cs.length]'(by rw [← k.1]; exact hi2) := by congr 1; rw [h.1]
    rw [e] at k4
    exact ⟨b, m, c, e, k1, Nat.lt_of_lt_of_le k2 hg.size, hne b k2 hb, by rw [e, eL]; exact k4.grown hg k2 hb⟩
theorem St.ne2 {w0 w : World} {n : Nat} {L : List Item} (h : St w0 w n L) (i j : Nat) {x y : Item} {b c : Nat} (hi : L[i]? = some x) (hj : L[j]? = some y) (hij : i ≠ j) (hx : x.blk = some b) (hy : y.blk = some c) : b ≠ c := fun e =>
  hij (nodup_fm Item.blk L i j x y b h.apart hi hj hx (by rw [e]; exact hy))
theorem heap_alloc_old {w : World} {o ob : Obj} {b : Nat} (h : w.heap[b]? = some o) : (w.alloc ob).heap[b]? = some o := by
  have hb : b < w.heap.size := (Array.getElem?_eq_some_iff.1 h).1
  have := ((Below.refl w.heap.size w).alloc (Nat.le_refl _) ob).block b hb
  rw [this]
  exact h

theorem ints_nil' (w : World) : Ints w (.slice none 0 0) [] := ⟨by simp, none, 0, rfl, Nat.le_refl _, by omega, fun h => absurd h (by simp)⟩
theorem pow_mono {B : Nat} (hB : B ≤ 8) : ∀ d, d ≤ 8 → B ^ d ≤ 16777216
  | 0, _ => by simp
  | 1, _ => by simp; omega
  | 2, _ => Nat.le_trans (Nat.pow_le_pow_left hB 2) (by decide)
  | 3, _ => Nat.le_trans (Nat.pow_le_pow_left hB 3) (by decide)
  | 4, _ => Nat.le_trans (Nat.pow_le_pow_left hB 4) (by decide)
  | 5, _ => Nat.le_trans (Nat.pow_le_pow_left hB 5) (by decide)
  | 6, _ => Nat.le_trans (Nat.pow_le_pow_left hB 6) (by decide)
  | 7, _ => Nat.le_trans (Nat.pow_le_pow_left hB 7) (by decide)
  | 8, _ => Nat.le_trans (Nat.pow_le_pow_left hB 8) (by decide)
  | n + 9, h => absurd h (by omega)
theorem flat_len {α : Type} {N : Nat} (f : Nat → List α) : ∀ (l : List Nat), (∀ x ∈ l, (f x).length ≤ N) → (l.flatMap f).length ≤ l.length * N
  | [], _ => by simp
  | x :: l, h => by
    have := flat_len f l fun y hy => h y (List.mem_cons_of_mem _ hy)
    have := h x (by simp)
    rw [List.flatMap_cons, List.length_append, List.length_cons, Nat.succ_mul]
    omega
theorem listsD_size {B : Nat} : ∀ (d : Nat) (l : List Nat), (listsD B d l).length ≤ B ^ d
  | 0, l => by simp [listsD]
  | d + 1, l => by
    rw [listsD]
    refine Nat.le_trans (flat_len _ _ fun x _ => listsD_size d _) ?_
    rw [List.length_range', Nat.pow_succ, Nat.mul_comm]
    exact Nat.mul_le_mul_left _ (by omega)
theorem listsK_size {B : Nat} (d : Nat) (l : List Nat) (k : Nat) : (listsK B d l k).length ≤ k * B ^ d := by
  refine Nat.le_trans (flat_len _ _ fun x _ => listsD_size d _) ?_
  rw [List.length_range']
  exact Nat.le_refl _
theorem next_le {B : Nat} {l : List Nat} (h : ∀ x ∈ l, x < B) : nextN l ≤ B := by
  unfold nextN
  rcases List.eq_nil_or_concat l with rfl | ⟨m, y, rfl⟩
  · simp
  · rw [List.concat_eq_append] at *
    simp only [List.getLast?_append, List.getLast?_singleton, Option.some_or]
    have := h y (by simp)
    omega
theorem next_last {l : List Nat} (h : 0 < l.length) : nextN l = l.getD (l.length - 1) 0 + 1 := by
  unfold nextN
  rcases List.eq_nil_or_concat l with rfl | ⟨m, y, rfl⟩
  · simp at h
  · rw [List.concat_eq_append]
    simp
theorem ofN_getD' (l : List Nat) (k : Nat) : (ofN l).getD k 0 = ((l.getD k 0 : Nat) : Int) := by
  simp only [ofN, List.getD_eq_getElem?_getD, List.getElem?_map]
  cases l[k]? <;> simp
def mapN (L : List (List Nat)) : List (List Int) := L.map ofN

set_option maxRecDepth 20000 in
set_option maxHeartbeats 8000000 in
theorem rLists_any (M B : Nat) (hM : M ≤ 8) (hB8 : B ≤ 8) : ∀ (d : Nat) (v2 : Value) (fl : List Nat) (w : World) (_ : Ints w v2 (ofN fl)) (_ : fl.length + d = M) (_ : ∀ x ∈ fl, x < B),
    Calls Try.prog 75 #[v2, I (M : Int), I (B : Int)] w fun e w' => ∃ v', e = .returned v' ∧ ∃ cs, w'.ownsRow w.heap.size 29 1 v' cs.length cs ∧ LL w' cs (mapN (listsD B d fl)) ∧ (d = 0 → cs = [v2]) ∧ (0 < d → Apart w.heap.size w' v' cs (mapN (listsD B d fl))) ∧ Below w.heap.size w w' := by
  obtain ⟨i0, hi, hz0, hz1, hz2⟩ := info_parts Try.info3
  obtain ⟨iT, hiT, hzT0, hzT1, hzT2⟩ := info_parts (P := Try.prog) (e := 29) (z := .slice none 0 0) (size := 1) (bytes := 24) (by kernel_rfl)
  intro d
  induction d with
  | zero =>
    intro v2 fl w hl hd hbl
    obtain ⟨Al, cl, rfl, hl1, hl2, -⟩ := id hl.open_
    obtain ⟨-, hlc⟩ := hl.at_get rfl
    have hfl : (ofN fl).length = fl.length := by simp [ofN]
    rw [hfl] at hl hl1 hlc ⊢
    have HL := Lib.hid hl
    have HLC := Lib.hid hlc
    have HFL := Lib.hid hfl
    have HRD := Lib.hid (show Reads w 1 (.slice Al fl.length cl) fl.length ((ofN fl).map I) by have h := HL.out; unfold Ints at h; rw [hfl] at h; exact h)
    clear hl hlc hfl
    have hq : ((fl.length : Int) == (M : Int)) = true := by rw [beq_iff_eq]; omega
    go_enter Try.func75, Try.ntmps75
    go_wp2_with fail
    have S2 := Lib.hid ((St.init w).alloc [.slice Al fl.length cl] 29)
    go_ret
    refine ⟨.slice (some ⟨w.heap.size, 0, none⟩) 1 1, rfl, [.slice Al fl.length cl], by have q := World.ownsRow_lit (e := 29) (size := 1) w #[.slice Al fl.length cl] 1 (Nat.le_refl _) (by decide) rfl; simpa using q, ?_, fun _ => rfl, fun h => absurd h (by omega), S2.out.bel⟩
    refine ⟨rfl, fun i h1 h2 => ?_⟩
    obtain rfl : i = 0 := by simpa using h1
    exact HL.out.below S2.out.bel
  | succ d ih =>
    intro v2 fl w hl hd hbl
    obtain ⟨Al, cl, rfl, hl1, hl2, -⟩ := id hl.open_
    obtain ⟨-, hlc⟩ := hl.at_get rfl
    have hfl : (ofN fl).length = fl.length := by simp [ofN]
    rw [hfl] at hl hl1 hlc ⊢
    have HL := Lib.hid hl
    have HLC := Lib.hid hlc
    have HFL := Lib.hid hfl
    have HRD := Lib.hid (show Reads w 1 (.slice Al fl.length cl) fl.length ((ofN fl).map I) by have h := HL.out; unfold Ints at h; rw [hfl] at h; exact h)
    clear hl hlc hfl
    have hq : ((fl.length : Int) == (M : Int)) = false := by rw [beq_eq_false_iff_ne]; omega
    have HGN := Lib.hid (fun (wx : World) => heap_alloc_new wx (.cells #[] 3))
    have HBL := Lib.hid hbl
    obtain ⟨F, hF⟩ : ∃ F, nextN fl = F := ⟨_, rfl⟩
    have hFB : F ≤ B := by rw [← hF]; exact next_le hbl
    have HF := Lib.hid hF
    have hfm : fl.length < M := by omega
    have S := Lib.hid ((St.init w).nil 29 1)
    clear hbl
    rcases Nat.eq_zero_or_pos fl.length with h0 | h0
    · have HF0 := Lib.hid (show F = 0 by rw [← hF]; rw [List.length_eq_zero_iff.1 h0]; rfl)
      have hz : ¬ 0 < fl.length := by omega
      have H00 := Lib.hid h0
      clear hF h0
      go_enter Try.func75, Try.ntmps75
      go_wp2_with fail
      clear hq hz
      go_loopw [8, 9] (fun u i wr => ∃ (k : Nat) (vo : Value) (cs : List Value), vo = u ∧ i = I ((F + k : Nat) : Int) ∧ k ≤ B - F ∧ Hid (Apart w.heap.size wr vo cs (mapN (listsK B d fl k))) ∧ Hid (St w wr wr.heap.size [.own 29 1 vo cs.length cs])) (fun _ i _ => B - (intOf i).toNat)
      case atStart => exact ⟨0, _, [], rfl, by rw [HF0.out]; rfl, by omega, Lib.hid (by have h := Apart.nil w.heap.size w (.slice none 0 0); exact h), Lib.hid S.out.fix⟩
      case round =>
        clear S
        obtain ⟨k, vo, cs, rfl, rfl, hk, AP, S⟩ := hrel
        obtain ⟨m, hm⟩ : ∃ m, F + k = m := ⟨_, rfl⟩
        rw [hm]
        have HMN := Lib.hid hm
        by_cases hlt : m < B
        · have hmi : (m : Int) < (B : Int) := by omega
          have hkB : k < B - F := by omega
          obtain ⟨n, hn⟩ : ∃ n : Int, (m : Int) = n := ⟨_, rfl⟩
          have HNN := Lib.hid hn
          have HB0 := Lib.hid ((Below.refl wr.heap.size wr).alloc (Nat.le_refl _) (.cells #[] 3))
          have h01 : 0 < 1 := by decide
          have h63 : fl.length + 1 ≤ maxLen := by simp only [maxLen]; omega
          have hby : (fl.length + 1) * 8 ≤ 140737488355328 := by omega
          have hn0 : 0 ≤ n := by omega
          rw [hn] at hmi ⊢
          clear hn hm
          go_wp2_with (at_builtin; refine wpList_plain rfl fun K hK => ?_; refine RowKit.Hid.out ?_)
          refine Lib.hid ?_
          refine wp_append_fresh _ (.tmp 33) (.tmp 34) 29 rfl wr.heap.size 3 i0 (.int .i64 0) 1 8 Try.underlying29 hi hz0 hz1 hz2 rfl (by omega) wr.heap.size rfl (HGN.out wr) (Nat.le_refl _) (.slice Al fl.length cl) fl.length ((ofN fl).map I) rfl (Reads.below HRD.out (bto S.out.bel HB0.out)) (ints_one (ofN fl)) (by simp only [maxLen]; omega) (by omega) HB0.out.size ?_
          intro v1 w2 hown hb
          have HB2 := Lib.hid (bto HB0.out hb)
          obtain ⟨Av1, cv1, rfl⟩ := own_shape hown
          have S1 := Lib.hid ((St.init wr).take HB2.out hown)
          refine hK _ _ ?_
          clear hb hown hK
          have T := Lib.hid (S1.out.alloc [I n] 3)
          go_wp2_with (at_builtin; refine RowKit.Hid.out ?_)
          refine Lib.hid ?_
          refine wpList_append_St T.out 1 rfl (.tmp 35) (.tmp 37) 29 rfl 3 i0 (.int .i64 0) 1 8 Try.underlying29 hi hz0 hz1 hz2 rfl h01 rfl rfl _ 1 [I n] rfl (reads_box1 (T.out.get 0 0 rfl rfl)) (ints_one [n]) h63 hby ?_
          intro v2' w3 hS3
          have S3 := Lib.hid hS3.tail
          clear hS3
          obtain ⟨Av2, cv2, rfl⟩ := own_shape (S3.out.own 0 rfl)
          go_wp2_with fail
          have HBX := Lib.hid S3.out.bel
          have hIX : Ints w3 (.slice Av2 (fl.length + 1) cv2) (ofN (fl ++ [m])) := by
            have q := Reads.of_own (S3.out.own 0 rfl)
            unfold Ints
            rw [show (ofN (fl ++ [m])).length = fl.length + 1 by simp [ofN], show (ofN (fl ++ [m])).map I = (ofN fl).map I ++ [I n] by simp [ofN, HNN.out]]
            exact q
          refine (ih _ (fl ++ [m]) _ hIX (by rw [List.length_append]; simp only [List.length_cons, List.length_nil]; omega) (fun x hx => by rcases List.mem_append.1 hx with h | h; exact HBL.out x h; rw [List.mem_singleton.1 h]; exact hlt)).mono ?_
          rintro e wY ⟨v', rfl, ds, hown, hll, hd0, hd1, hb⟩
          have hvo : ∀ g, vo.ownBlock = some g → g < wr.heap.size := fun g hg => (World.ownsRow.lt (S.out.own 0 rfl) g hg).2
          have hbY := bto S3.out.bel hb
          have S2 := Lib.hid (S.out.call hbY)
          have AP2 := Lib.hid (AP.out.below hbY)
          have hdl0 : ds.length = (mapN (listsD B d (fl ++ [m]))).length := hll.1
          have hap2 : Apart w.heap.size wY v' ds (mapN (listsD B d (fl ++ [m]))) ∧ ∀ b m c, (.slice (some ⟨b, 0, none⟩) m c : Value) ∈ ds → wr.heap.size ≤ b := by
            rcases Nat.eq_zero_or_pos d with h0 | h0
            · have hds := hd0 h0
              subst hds
              obtain ⟨g2, cap2, e2, k1, k2⟩ := own_shape_pos (S3.out.own 0 rfl) (by omega)
              injection e2 with e3 e4 e5
              subst e3
              have hne : v'.ownBlock ≠ some g2 := by
                rcases own_shape_pos hown (by simp) with ⟨g3, cap3, e3, k3, k4⟩
                rw [e3]
                intro e
                injection e with e
                simp only at e
                omega
              refine ⟨⟨hll.1, fun i i1 i2 => ?_⟩, fun b m c hm => ?_⟩
              · obtain rfl : i = 0 := by simpa using i1
                exact ⟨g2, _, _, rfl, Nat.le_trans S.out.bel.size k1, Nat.lt_of_lt_of_le k2 hb.size, hne, hll.2 0 i1 i2⟩
              · rw [List.mem_singleton] at hm
                injection hm with e6 e7 e8
                injection e6 with e6
                injection e6 with e6
                omega
            · have h1 := hd1 h0
              refine ⟨⟨h1.1, fun i i1 i2 => ?_⟩, fun b m c hm => ?_⟩
              · obtain ⟨b, m, c, e, k1, k2, k3, k4⟩ := h1.2 i i1 i2
                exact ⟨b, m, c, e, Nat.le_trans (Nat.le_trans S.out.bel.size S3.out.bel.size) k1, k2, k3, k4⟩
              · obtain ⟨i, i1, e⟩ := List.mem_iff_getElem.1 hm
                obtain ⟨b', m', c', e', k1, -⟩ := h1.2 i i1 (by rw [← h1.1]; exact i1)
                rw [e] at e'
                injection e' with e6 e7 e8
                injection e6 with e6
                injection e6 with e6
                have := S3.out.bel.size
                omega
          obtain ⟨hap2, hnew⟩ := hap2
          have hlen3 : ds.length ≤ 16777216 := by
            rw [hdl0, mapN, List.length_map]
            exact Nat.le_trans (listsD_size d _) (pow_mono hB8 d (by omega))
          have hlen1 : cs.length ≤ 134217728 := by
            have h1 := AP.out.1
            rw [mapN, List.length_map] at h1
            have h2 := listsK_size (B := B) d fl k
            have h3 := Nat.mul_le_mul (show k ≤ 8 by omega) (pow_mono hB8 d (by omega))
            omega
          have HOWN := Lib.hid hown
          have HAP := Lib.hid hap2
          have HNEW := Lib.hid hnew
          have HVO := Lib.hid hvo
          clear hb hown hll hd0 hd1 hap2 hnew hIX hdl0 hvo hbY
          have hb1 : cs.length + ds.length ≤ maxLen := by simp only [maxLen]; omega
          have hb2 : (cs.length + ds.length) * 24 ≤ 140737488355328 := by omega
          go_wp2_with (at_builtin; refine wpList_plain rfl fun K hK => ?_; refine RowKit.Hid.out ?_)
          refine Lib.hid ?_
          refine wp_append_src _ (.tmp 32) (.tmp 41) 88 rfl w.heap.size 29 iT (.slice none 0 0) 1 24 Try.underlying88 hiT hzT0 hzT1 hzT2 rfl h01 vo cs.length cs rfl (S2.out.own 0 rfl) v' ds.length ds rfl (Reads.of_own HOWN.out) HAP.out.ll.one hb1 hb2 S2.out.bel.size ?_
          intro v'' wZ hown2 hg hv
          have S4 := Lib.hid (S2.out.grown 0 rfl hown2 hg hv)
          have AP3 := Lib.hid (AP2.out.grown HAP.out hg hv (fun b m c hm e => by have h1 := HVO.out b e; have h2 := HNEW.out b m c hm; omega))
          refine hK _ _ ?_
          clear hK hown2 hg hv
          go_wp2_with fail
          have HSX := Lib.hid (show mapN (listsK B d fl (k + 1)) = mapN (listsK B d fl k) ++ mapN (listsD B d (fl ++ [m])) by rw [listsK_succ, HF.out, HMN.out, mapN, List.map_append]; rfl)
          go_roundw
          case rel => exact ⟨k + 1, v'', cs ++ ds, rfl, by rw [show ((F + (k + 1) : Nat) : Int) = n + 1 by have := HNN.out; have := HMN.out; omega], by omega, Lib.hid (by rw [HSX.out]; exact AP3.out), Lib.hid (by rw [List.length_append]; exact S4.out.fix)⟩
          case measure =>
            have := HNN.out
            first | (simp [intOf]; done) | (simp [intOf]; omega)
        · have hmi : ¬ (m : Int) < (B : Int) := by omega
          have HSX := Lib.hid (show listsK B d fl k = listsD B (d + 1) fl by
            rw [← listsK_all, HF.out]
            congr 1
            have := HMN.out
            omega)
          rw [HSX.out] at AP
          go_wp2_with fail
          go_ret
          exact ⟨vo, rfl, cs, S.out.own 0 rfl, AP.out.ll, AP.out, S.out.bel⟩
    · obtain ⟨bz, oz, rfl, hbz, hcz⟩ := HLC.out h0
      have y0 := hcz (fl.length - 1) (by omega)
      rw [ofN_getD'] at y0
      have hxF := next_last h0
      obtain ⟨x, hx⟩ : ∃ x : Int, ((fl.getD (fl.length - 1) 0 : Nat) : Int) = x := ⟨_, rfl⟩
      rw [hx] at y0
      have hxb : 0 ≤ x ∧ x + 1 = (F : Int) := by omega
      have HXF := Lib.hid hxb.2
      have hx0 := hxb.1
      have hx9 : x < 1000 := by omega
      have e1 : ((fl.length : Nat) : Int) - 1 = ((fl.length - 1 : Nat) : Int) := by omega
      have e2 : IntKind.i64.wrap ((fl.length - 1 : Nat) : Int) = ((fl.length - 1 : Nat) : Int) := IntWalk.i64_in _ (by omega)
      have e3 : fl.length - 1 < fl.length := by omega
      clear hF hx hxb hcz hxF
      go_enter Try.func75, Try.ntmps75
      go_wp2_with fail
      clear hq y0 e1 e2 e3
      go_loopw [8, 9] (fun u i wr => ∃ (k : Nat) (vo : Value) (cs : List Value), vo = u ∧ i = I ((F + k : Nat) : Int) ∧ k ≤ B - F ∧ Hid (Apart w.heap.size wr vo cs (mapN (listsK B d fl k))) ∧ Hid (St w wr wr.heap.size [.own 29 1 vo cs.length cs])) (fun _ i _ => B - (intOf i).toNat)
      case atStart => exact ⟨0, _, [], rfl, by rw [show ((F + 0 : Nat) : Int) = x + 1 by have := HXF.out; omega], by omega, Lib.hid (by have h := Apart.nil w.heap.size w (.slice none 0 0); exact h), Lib.hid S.out.fix⟩
      case round =>
        clear S
        obtain ⟨k, vo, cs, rfl, rfl, hk, AP, S⟩ := hrel
        obtain ⟨m, hm⟩ : ∃ m, F + k = m := ⟨_, rfl⟩
        rw [hm]
        have HMN := Lib.hid hm
        by_cases hlt : m < B
        · have hmi : (m : Int) < (B : Int) := by omega
          have hkB : k < B - F := by omega
          obtain ⟨n, hn⟩ : ∃ n : Int, (m : Int) = n := ⟨_, rfl⟩
          have HNN := Lib.hid hn
          have HB0 := Lib.hid ((Below.refl wr.heap.size wr).alloc (Nat.le_refl _) (.cells #[] 3))
          have h01 : 0 < 1 := by decide
          have h63 : fl.length + 1 ≤ maxLen := by simp only [maxLen]; omega
          have hby : (fl.length + 1) * 8 ≤ 140737488355328 := by omega
          have hn0 : 0 ≤ n := by omega
          rw [hn] at hmi ⊢
          clear hn hm
          go_wp2_with (at_builtin; refine wpList_plain rfl fun K hK => ?_; refine RowKit.Hid.out ?_)
          refine Lib.hid ?_
          refine wp_append_fresh _ (.tmp 33) (.tmp 34) 29 rfl wr.heap.size 3 i0 (.int .i64 0) 1 8 Try.underlying29 hi hz0 hz1 hz2 rfl (by omega) wr.heap.size rfl (HGN.out wr) (Nat.le_refl _) (.slice (some ⟨bz, oz, none⟩) fl.length cl) fl.length ((ofN fl).map I) rfl (Reads.below HRD.out (bto S.out.bel HB0.out)) (ints_one (ofN fl)) (by simp only [maxLen]; omega) (by omega) HB0.out.size ?_
          intro v1 w2 hown hb
          have HB2 := Lib.hid (bto HB0.out hb)
          obtain ⟨Av1, cv1, rfl⟩ := own_shape hown
          have S1 := Lib.hid ((St.init wr).take HB2.out hown)
          refine hK _ _ ?_
          clear hb hown hK
          have T := Lib.hid (S1.out.alloc [I n] 3)
          go_wp2_with (at_builtin; refine RowKit.Hid.out ?_)
          refine Lib.hid ?_
          refine wpList_append_St T.out 1 rfl (.tmp 35) (.tmp 37) 29 rfl 3 i0 (.int .i64 0) 1 8 Try.underlying29 hi hz0 hz1 hz2 rfl h01 rfl rfl _ 1 [I n] rfl (reads_box1 (T.out.get 0 0 rfl rfl)) (ints_one [n]) h63 hby ?_
          intro v2' w3 hS3
          have S3 := Lib.hid hS3.tail
          clear hS3
          obtain ⟨Av2, cv2, rfl⟩ := own_shape (S3.out.own 0 rfl)
          go_wp2_with fail
          have HBX := Lib.hid S3.out.bel
          have hIX : Ints w3 (.slice Av2 (fl.length + 1) cv2) (ofN (fl ++ [m])) := by
            have q := Reads.of_own (S3.out.own 0 rfl)
            unfold Ints
            rw [show (ofN (fl ++ [m])).length = fl.length + 1 by simp [ofN], show (ofN (fl ++ [m])).map I = (ofN fl).map I ++ [I n] by simp [ofN, HNN.out]]
            exact q
          refine (ih _ (fl ++ [m]) _ hIX (by rw [List.length_append]; simp only [List.length_cons, List.length_nil]; omega) (fun x hx => by rcases List.mem_append.1 hx with h | h; exact HBL.out x h; rw [List.mem_singleton.1 h]; exact hlt)).mono ?_
          rintro e wY ⟨v', rfl, ds, hown, hll, hd0, hd1, hb⟩
          have hvo : ∀ g, vo.ownBlock = some g → g < wr.heap.size := fun g hg => (World.ownsRow.lt (S.out.own 0 rfl) g hg).2
          have hbY := bto S3.out.bel hb
          have S2 := Lib.hid (S.out.call hbY)
          have AP2 := Lib.hid (AP.out.below hbY)
          have hdl0 : ds.length = (mapN (listsD B d (fl ++ [m]))).length := hll.1
          have hap2 : Apart w.heap.size wY v' ds (mapN (listsD B d (fl ++ [m]))) ∧ ∀ b m c, (.slice (some ⟨b, 0, none⟩) m c : Value) ∈ ds → wr.heap.size ≤ b := by
            rcases Nat.eq_zero_or_pos d with h0 | h0
            · have hds := hd0 h0
              subst hds
              obtain ⟨g2, cap2, e2, k1, k2⟩ := own_shape_pos (S3.out.own 0 rfl) (by omega)
              injection e2 with e3 e4 e5
              subst e3
              have hne : v'.ownBlock ≠ some g2 := by
                rcases own_shape_pos hown (by simp) with ⟨g3, cap3, e3, k3, k4⟩
                rw [e3]
                intro e
                injection e with e
                simp only at e
                omega
              refine ⟨⟨hll.1, fun i i1 i2 => ?_⟩, fun b m c hm => ?_⟩
              · obtain rfl : i = 0 := by simpa using i1
                exact ⟨g2, _, _, rfl, Nat.le_trans S.out.bel.size k1, Nat.lt_of_lt_of_le k2 hb.size, hne, hll.2 0 i1 i2⟩
              · rw [List.mem_singleton] at hm
                injection hm with e6 e7 e8
                injection e6 with e6
                injection e6 with e6
                omega
            · have h1 := hd1 h0
              refine ⟨⟨h1.1, fun i i1 i2 => ?_⟩, fun b m c hm => ?_⟩
              · obtain ⟨b, m, c, e, k1, k2, k3, k4⟩ := h1.2 i i1 i2
                exact ⟨b, m, c, e, Nat.le_trans (Nat.le_trans S.out.bel.size S3.out.bel.size) k1, k2, k3, k4⟩
              · obtain ⟨i, i1, e⟩ := List.mem_iff_getElem.1 hm
                obtain ⟨b', m', c', e', k1, -⟩ := h1.2 i i1 (by rw [← h1.1]; exact i1)
                rw [e] at e'
                injection e' with e6 e7 e8
                injection e6 with e6
                injection e6 with e6
                have := S3.out.bel.size
                omega
          obtain ⟨hap2, hnew⟩ := hap2
          have hlen3 : ds.length ≤ 16777216 := by
            rw [hdl0, mapN, List.length_map]
            exact Nat.le_trans (listsD_size d _) (pow_mono hB8 d (by omega))
          have hlen1 : cs.length ≤ 134217728 := by
            have h1 := AP.out.1
            rw [mapN, List.length_map] at h1
            have h2 := listsK_size (B := B) d fl k
            have h3 := Nat.mul_le_mul (show k ≤ 8 by omega) (pow_mono hB8 d (by omega))
            omega
          have HOWN := Lib.hid hown
          have HAP := Lib.hid hap2
          have HNEW := Lib.hid hnew
          have HVO := Lib.hid hvo
          clear hb hown hll hd0 hd1 hap2 hnew hIX hdl0 hvo hbY
          have hb1 : cs.length + ds.length ≤ maxLen := by simp only [maxLen]; omega
          have hb2 : (cs.length + ds.length) * 24 ≤ 140737488355328 := by omega
          go_wp2_with (at_builtin; refine wpList_plain rfl fun K hK => ?_; refine RowKit.Hid.out ?_)
          refine Lib.hid ?_
          refine wp_append_src _ (.tmp 32) (.tmp 41) 88 rfl w.heap.size 29 iT (.slice none 0 0) 1 24 Try.underlying88 hiT hzT0 hzT1 hzT2 rfl h01 vo cs.length cs rfl (S2.out.own 0 rfl) v' ds.length ds rfl (Reads.of_own HOWN.out) HAP.out.ll.one hb1 hb2 S2.out.bel.size ?_
          intro v'' wZ hown2 hg hv
          have S4 := Lib.hid (S2.out.grown 0 rfl hown2 hg hv)
          have AP3 := Lib.hid (AP2.out.grown HAP.out hg hv (fun b m c hm e => by have h1 := HVO.out b e; have h2 := HNEW.out b m c hm; omega))
          refine hK _ _ ?_
          clear hK hown2 hg hv
          go_wp2_with fail
          have HSX := Lib.hid (show mapN (listsK B d fl (k + 1)) = mapN (listsK B d fl k) ++ mapN (listsD B d (fl ++ [m])) by rw [listsK_succ, HF.out, HMN.out, mapN, List.map_append]; rfl)
          go_roundw
          case rel => exact ⟨k + 1, v'', cs ++ ds, rfl, by rw [show ((F + (k + 1) : Nat) : Int) = n + 1 by have := HNN.out; have := HMN.out; omega], by omega, Lib.hid (by rw [HSX.out]; exact AP3.out), Lib.hid (by rw [List.length_append]; exact S4.out.fix)⟩
          case measure =>
            have := HNN.out
            first | (simp [intOf]; done) | (simp [intOf]; omega)
        · have hmi : ¬ (m : Int) < (B : Int) := by omega
          have HSX := Lib.hid (show listsK B d fl k = listsD B (d + 1) fl by
            rw [← listsK_all, HF.out]
            congr 1
            have := HMN.out
            omega)
          rw [HSX.out] at AP
          go_wp2_with fail
          go_ret
          exact ⟨vo, rfl, cs, S.out.own 0 rfl, AP.out.ll, AP.out, S.out.bel⟩

theorem clashTo_none_of {t : Twn} {M : Nat} : ∀ K, (∀ j, j < K → (listsD M j []).find? (badW t) = none) → clashTo t M K = none
  | 0, _ => rfl
  | K + 1, h => by rw [clashTo, clashTo_none_of K fun j hj => h j (by omega), h K (by omega)]
theorem clash_found {t : Twn} (hv : valid t = true) (h : openE t true = 3) {k : Nat} {l : List Nat} (hk : k ≤ t.snd.length + t.slp.length) (hn : ∀ j, j < k → (listsD (t.snd.length + t.slp.length) j []).find? (badW t) = none) (hf : (listsD (t.snd.length + t.slp.length) k []).find? (badW t) = some l) : clashP t = (l, 0) := by
  obtain ⟨M, hM⟩ : ∃ M, t.snd.length + t.slp.length = M := ⟨_, rfl⟩
  have hd : diagOk (closeM (baseM t)) = false := by
    rw [Bool.eq_false_iff]; intro e
    simp [openE, hv, e] at h
  rw [hM] at hk hn hf
  have h1 : clashTo t M (k + 1) = some l := by rw [clashTo, clashTo_none_of k hn]; exact hf
  have h2 := clashTo_some h1 (M - k)
  rw [show k + 1 + (M - k) = M + 1 by omega] at h2
  unfold clashP
  rw [if_pos hv, if_neg (by rw [hd]; simp), hM, h2]
theorem clash_all {t : Twn} (hv : valid t = true) (h : openE t true = 3) (hn : ∀ j, j < t.snd.length + t.slp.length → (listsD (t.snd.length + t.slp.length) j []).find? (badW t) = none) : clashP t = (allN t, 0) := by
  obtain ⟨l, e, hl⟩ := clash_said hv h
  have h1 := hl.lt
  have h2 : l.length = t.snd.length + t.slp.length := by
    have h3 : l.length ≤ t.snd.length + t.slp.length := by
      rw [asc_filter hl.asc h1]
      exact Nat.le_trans (List.length_filter_le _ _) (by simp)
    by_cases h4 : l.length < t.snd.length + t.slp.length
    · have h5 := List.find?_eq_none.1 (hn l.length h4) l (by simpa using listsD_all (M := t.snd.length + t.slp.length) l.length [] l (by simpa using hl.asc) (by simpa using h1) rfl)
      rw [hl.bad] at h5
      simp at h5
    · omega
  have h6 : l = allN t := by
    refine asc_eq _ _ hl.asc (asc_range _) fun x => ⟨fun hx => List.mem_range.2 (h1 x hx), fun hx => ?_⟩
    have hf := asc_filter hl.asc h1
    have h7 := List.length_filter_eq_length_iff.1 (show ((List.range (t.snd.length + t.slp.length)).filter (hasW l)).length = (List.range (t.snd.length + t.slp.length)).length by rw [← hf, h2, List.length_range])
    have := h7 x hx
    simpa [hasW] using this
  rw [e, h6]
theorem diag_good {t : Twn} {l : List Nat} (h : badW t l = false) : diagOk (closeM (baseM (sub t (hasW l)))) = true := by
  unfold badW at h
  cases g : diagOk (closeM (baseM (sub t (hasW l))))
  · rw [g] at h; cases h
  · rfl
theorem diag_bad {t : Twn} {l : List Nat} (h : badW t l = true) : diagOk (closeM (baseM (sub t (hasW l)))) = false := by
  unfold badW at h
  cases g : diagOk (closeM (baseM (sub t (hasW l))))
  · rfl
  · rw [g] at h; cases h
theorem small_sub {t : Twn} (h : valid t = true) (is : Nat → Bool) : Vl (sub t is) ∧ (sub t is).snd.length ≤ 1000 ∧ (sub t is).slp.length ≤ 1000 := by
  have hv := valid_iff'.1 (sub_valid h is)
  exact ⟨hv.1, by omega, by omega⟩
structure NoneTo (t : Twn) (M k : Nat) : Prop where
  no : ∀ j, j < k → (listsD M j []).find? (badW t) = none
structure BadIs (t : Twn) (l : List Nat) (b : Bool) : Prop where
  is : badW t l = b

theorem diag_three {t : Twn} (hv : valid t = true) (h : openE t true = 3) : diagOk (closeM (baseM t)) = false := by
  rw [Bool.eq_false_iff]; intro e
  simp [openE, hv, e] at h

set_option maxRecDepth 100000 in
set_option maxHeartbeats 8000000 in
theorem rClash_any (v : Value) (t : Twn) (w : World) (hv : TwnAt w v t) (h8 : valid t = true → t.snd.length + t.slp.length ≤ 8) :
    Calls Try.prog 22 #[v] w fun e w' => RetL w (ofN (clashP t).1) (clashP t).2 e w' := by
  obtain ⟨sv, pv, rfl, hs, hp⟩ := hv
  have HSN := Lib.hid hs
  have HSP := Lib.hid hp
  obtain ⟨A1, c1, rfl, -, -, -⟩ := id hs.open_
  obtain ⟨A2, c2, rfl, -, -, -⟩ := id hp.open_
  clear hs hp
  have S := Lib.hid (show St w (w.alloc (.cells #[I t.wells, .slice A1 t.snd.length c1, .slice A2 t.slp.length c2] 25)) (w.heap.size + 1) [.box w.heap.size [I t.wells, .slice A1 t.snd.length c1, .slice A2 t.slp.length c2]] from (St.init w).alloc [I t.wells, .slice A1 t.snd.length c1, .slice A2 t.slp.length c2] 25)
  cases hv : valid t
  · have HCH := Lib.hid (show chk t = 10 by simp [chk, hv])
    have HE := Lib.hid (show clashP t = ([], 10) by simp [clashP, hv])
    clear hv
    go_enter Try.func22, Try.ntmps22
    have q_town0 := S.out.get 0 0 rfl rfl
    have q_town1 := S.out.get 0 1 rfl rfl
    have q_town2 := S.out.get 0 2 rfl rfl
    go_wp2_with fail
    refine (rCheck_any _ t _ ⟨_, _, rfl, HSN.out.below S.out.bel, HSP.out.below S.out.bel⟩).mono ?_
    rintro e w1 ⟨rfl, hb⟩
    rw [HCH.out]
    have S := Lib.hid (S.out.call hb)
    clear hb
    clear q_town0 q_town1 q_town2
    have q_town0 := S.out.get 0 0 rfl rfl
    have q_town1 := S.out.get 0 1 rfl rfl
    have q_town2 := S.out.get 0 2 rfl rfl
    go_wp2_with fail
    go_ret2
    rw [HE.out]
    exact ⟨_, rfl, ints_nil' _, S.out.bel⟩
  · have HCH := Lib.hid (show chk t = 0 by simp [chk, hv])
    have HVV := Lib.hid hv
    have hv' := valid_iff'.1 hv
    have HVL := Lib.hid hv'.1
    have ht1 := hv'.2.1
    have ht2 := hv'.2.2
    obtain ⟨M, hM⟩ : ∃ M, t.snd.length + t.slp.length = M := ⟨_, rfl⟩
    have hm8 : M ≤ 8 := by rw [← hM]; exact h8 hv
    have HM := Lib.hid hM
    clear hv' hM h8
    rcases openE_cases hv with h | h
    · have HDG := Lib.hid (And.intro (openE_zero' h).2.2 trivial)
      have HE := Lib.hid (clash_zero h)
      clear h hv
      go_enter Try.func22, Try.ntmps22
      have q_town0 := S.out.get 0 0 rfl rfl
      have q_town1 := S.out.get 0 1 rfl rfl
      have q_town2 := S.out.get 0 2 rfl rfl
      go_wp2_with fail
      refine (rCheck_any _ t _ ⟨_, _, rfl, HSN.out.below S.out.bel, HSP.out.below S.out.bel⟩).mono ?_
      rintro e w1 ⟨rfl, hb⟩
      rw [HCH.out]
      have S := Lib.hid (S.out.call hb)
      clear hb
      clear q_town0 q_town1 q_town2
      have q_town0 := S.out.get 0 0 rfl rfl
      have q_town1 := S.out.get 0 1 rfl rfl
      have q_town2 := S.out.get 0 2 rfl rfl
      go_wp2_with fail
      refine (isOne_any _ t _ ⟨_, _, rfl, HSN.out.below S.out.bel, HSP.out.below S.out.bel⟩ HVL.out (by omega) (by omega)).mono ?_
      rintro e w2 ⟨rfl, hb⟩
      rw [HDG.out.1]
      have S := Lib.hid (S.out.call hb)
      clear hb
      clear q_town0 q_town1 q_town2
      go_wp2_with fail
      go_ret2
      rw [HE.out]
      exact ⟨_, rfl, ints_nil' _, S.out.bel⟩
    · have HDG := Lib.hid (And.intro (diag_three hv h) trivial)
      have HO := Lib.hid h
      have HN1 := Lib.hid (NoneTo.mk (t := t) (M := M) (k := 1) fun j hj => by
        obtain rfl : j = 0 := by omega
        simp [listsD, bad_nil hv])
      clear h hv
      go_enter Try.func22, Try.ntmps22
      have q_town0 := S.out.get 0 0 rfl rfl
      have q_town1 := S.out.get 0 1 rfl rfl
      have q_town2 := S.out.get 0 2 rfl rfl
      go_wp2_with fail
      refine (rCheck_any _ t _ ⟨_, _, rfl, HSN.out.below S.out.bel, HSP.out.below S.out.bel⟩).mono ?_
      rintro e w1 ⟨rfl, hb⟩
      rw [HCH.out]
      have S := Lib.hid (S.out.call hb)
      clear hb
      clear q_town0 q_town1 q_town2
      have q_town0 := S.out.get 0 0 rfl rfl
      have q_town1 := S.out.get 0 1 rfl rfl
      have q_town2 := S.out.get 0 2 rfl rfl
      go_wp2_with fail
      refine (isOne_any _ t _ ⟨_, _, rfl, HSN.out.below S.out.bel, HSP.out.below S.out.bel⟩ HVL.out (by omega) (by omega)).mono ?_
      rintro e w2 ⟨rfl, hb⟩
      rw [HDG.out.1]
      have S := Lib.hid (S.out.call hb)
      clear hb
      clear q_town0 q_town1 q_town2
      go_wp2_with fail
      go_loopw [5] (fun i wr => ∃ k : Nat, 0 < k ∧ k ≤ M + 1 ∧ i = I k ∧ Hid (NoneTo t M k) ∧ Hid (St w wr wr.heap.size [.box w.heap.size [I t.wells, .slice A1 t.snd.length c1, .slice A2 t.slp.length c2]])) (fun i _ => M + 1 - (intOf i).toNat)
      case atStart => exact ⟨1, by omega, by omega, rfl, HN1, Lib.hid S.out.fix⟩
      case round =>
        clear S HN1
        obtain ⟨k, hk0, hk, rfl, HNO, S⟩ := hrel
        obtain ⟨wo, rfl⟩ : ∃ wo : World, wo = wr := ⟨_, rfl⟩
        have q_town0 := S.out.get 0 0 rfl rfl
        have q_town1 := S.out.get 0 1 rfl rfl
        have q_town2 := S.out.get 0 2 rfl rfl
        go_wp2_with fail
        clear q_town0 q_town1 q_town2
        refine (many_any _ t _ ⟨_, _, rfl, HSN.out.below S.out.bel, HSP.out.below S.out.bel⟩ (by omega) (by omega)).mono ?_
        rintro e w3 ⟨rfl, hb⟩
        rw [HM.out]
        have S := Lib.hid (S.out.call hb)
        clear hb
        by_cases hlt : k < M
        · have hki : (k : Int) < (M : Int) := by omega
          have q_town0 := S.out.get 0 0 rfl rfl
          have q_town1 := S.out.get 0 1 rfl rfl
          have q_town2 := S.out.get 0 2 rfl rfl
          go_wp2_with fail
          clear q_town0 q_town1 q_town2
          refine (many_any _ t _ ⟨_, _, rfl, HSN.out.below S.out.bel, HSP.out.below S.out.bel⟩ (by omega) (by omega)).mono ?_
          rintro e w4 ⟨rfl, hb⟩
          rw [HM.out]
          have S := Lib.hid (S.out.call hb)
          clear hb
          go_wp2_with fail
          refine (rLists_any k M (by omega) hm8 k _ [] _ (ints_nil' _) (by simp) (by simp)).mono ?_
          rintro e w2 ⟨v', rfl, cs, hown, hll, -, -, hb⟩
          have SB := Lib.hid (S.out.call hb)
          have HQ0 := Lib.hid (SB.out.get 0 0 rfl rfl)
          have HQ1 := Lib.hid (SB.out.get 0 1 rfl rfl)
          have HQ2 := Lib.hid (SB.out.get 0 2 rfl rfl)
          have hrd := Reads.of_own hown
          obtain ⟨-, Al, cl, rfl, hl1, hl2, hlc⟩ := id hrd
          have HLL := Lib.hid hll
          have HLC := Lib.hid hlc
          have HCL := Lib.hid (show cs.length = (listsD M k []).length by have h := hll.1; simpa [mapN] using h)
          have hcb : cs.length ≤ 16777216 := by
            rw [HCL.out]
            exact Nat.le_trans (listsD_size k []) (pow_mono hm8 k (by omega))
          clear hll hlc hrd hown hb S
          have T := Lib.hid (St.init w2)
          go_wp2_with fail
          go_loopw [7] (fun x wr => ∃ i : Nat, i ≤ cs.length ∧ x = I i ∧ Hid (∀ z ∈ (listsD M k []).take i, badW t z = false) ∧ Hid (St w2 wr wr.heap.size [])) (fun x _ => cs.length - (intOf x).toNat)
          case atStart => exact ⟨0, by omega, rfl, Lib.hid (by simp), Lib.hid T.out.fix⟩
          case round =>
            clear T
            obtain ⟨i, hi, rfl, HNB, T⟩ := hrel
            by_cases hil : i < cs.length
            · have hii : (i : Int) < (cs.length : Int) := by omega
              have hiL : i < (listsD M k []).length := by have := HCL.out; omega
              obtain ⟨bl, ol, e, hcl⟩ := HLC.out (by omega)
              subst e
              have y0 := hcl i cs[i] (List.getElem?_eq_getElem hil)
              have hin := HLL.out.2 i hil (by simp [mapN]; exact hiL)
              obtain ⟨u, hu⟩ : ∃ x, cs[i] = x := ⟨_, rfl⟩
              rw [hu] at y0 hin
              have hin0 : Ints w2 u (ofN (listsD M k [])[i]) := by simpa [mapN] using hin
              have hmem := List.getElem_mem hiL
              have hasc := listsD_asc k [] _ List.Pairwise.nil (by simp) hmem
              have hlen := listsD_len k [] _ hmem
              have hpre : (listsD M k []).take (i + 1) = (listsD M k []).take i ++ [(listsD M k [])[i]] := List.take_succ_eq_append_getElem hiL
              obtain ⟨x, hx⟩ : ∃ x, (listsD M k [])[i] = x := ⟨_, rfl⟩
              rw [hx] at hin0 hasc hlen hpre
              obtain ⟨Au, cu, rfl, -, -, -⟩ := hin0.open_
              have HIN := Lib.hid hin0
              have Y0 := Lib.hid y0
              have HASC := Lib.hid hasc
              have HLX := Lib.hid (show x.length ≤ 1000 by simp at hlen; omega)
              have HPX := Lib.hid hpre
              have HXM := Lib.hid (show ∀ n ∈ x, n < t.snd.length + t.slp.length by rw [HM.out]; exact hasc.2)
              have HWS := Lib.hid (words_asc (t := t) hasc.1 HXM.out)
              have HSU := Lib.hid (small_sub HVV.out (hasW x))
              clear hcl hin hin0 y0 hu hmem hasc hlen hpre hx
              go_wp2_with fail
              cases hb3 : badW t x
              · have HBD := Lib.hid (BadIs.mk hb3)
                clear hb3
                refine wp_region_seg [([0, 1, 2, 3, 4], 5), ([], 6)] [7] [] 8 (by kernel_rfl) (by kernel_rfl) ?_
                intro KQ hKQ w4 hb
                have T := Lib.hid (T.out.call hb)
                clear hb
                have q0 := cell_regrown (keep_cell T.out.bel HQ0.out)
                have q1 := cell_regrown (keep_cell T.out.bel HQ1.out)
                have q2 := cell_regrown (keep_cell T.out.bel HQ2.out)
                have y0 := cell_regrown (keep_cell T.out.bel Y0.out)
                refine seg_next ?_
                simp only [opsAt, List.filterMap_cons, List.filterMap_nil, List.getElem?_toArray, List.getElem?_cons_succ, List.getElem?_cons_zero]
                repeat (first | go_big_quiet_step (fail) | quiet_step (fail))
                refine wpQuiet_nil ?_
                intro K hK
                refine loud_op rfl rfl ?_
                go_simp
                refine (words_any' _ _ t x _ ⟨_, _, rfl, HSN.out.below (bto SB.out.bel T.out.bel), HSP.out.below (bto SB.out.bel T.out.bel)⟩ (HIN.out.below T.out.bel) HLX.out HXM.out (by omega) (by omega)).mono ?_
                rintro e w5 ⟨v', rfl, ⟨sv', pv', rfl, ho1, ho2⟩, hb⟩
                rw [HWS.out] at ho1 ho2
                rw [wordsT_wells]
                have T := Lib.hid (T.out.take2 hb ho1 ho2 (by decide))
                refine hK _ _ hb ?_
                clear hK K hb ho1 ho2 q0 q1 q2 y0
                refine seg_next ?_
                simp only [opsAt, List.filterMap_nil]
                refine wpQuiet_nil ?_
                intro K hK
                refine loud_op rfl rfl ?_
                go_simp
                refine (isOne_any _ (sub t (hasW x)) _ ⟨_, _, rfl, T.out.row 0 rfl, T.out.row 1 rfl⟩ HSU.out.1 HSU.out.2.1 HSU.out.2.2).mono ?_
                rintro e w6 ⟨rfl, hb⟩
                rw [diag_good HBD.out.is]
                have T := Lib.hid (T.out.call hb)
                refine hK _ _ hb ?_
                clear hK K hb
                refine seg_last ?_
                simp only [opsAt, List.filterMap_cons, List.filterMap_nil, List.getElem?_toArray, List.getElem?_cons_succ, List.getElem?_cons_zero]
                repeat (first | go_big_quiet_step (fail) | quiet_step (fail))
                refine wpQuiet_nil ?_
                go_wp2_with fail
                go_roundw
                case rel => exact ⟨i + 1, by omega, by go_num, Lib.hid (by rw [HPX.out]; intro z hz; rcases List.mem_append.1 hz with h | h; exact HNB.out z h; rw [List.mem_singleton.1 h]; exact HBD.out.is), Lib.hid (T.out.less (List.nil_sublist _)).fix⟩
                case measure => first | (simp [intOf]; done) | (simp [intOf]; omega)
              · have HBD := Lib.hid (BadIs.mk hb3)
                have HE := Lib.hid (show clashP t = (x, 0) from clash_found (k := k) HVV.out HO.out (by rw [HM.out]; omega) (by rw [HM.out]; exact HNO.out.no) (by rw [HM.out]; exact find_prefix (pre := (listsD M k []).take i) (x := x) (all := listsD M k []) (by rw [← HPX.out]; exact List.take_prefix _ _) HNB.out hb3))
                clear hb3
                refine wp_region_seg [([0, 1, 2, 3, 4], 5), ([], 6)] [7] [] 8 (by kernel_rfl) (by kernel_rfl) ?_
                intro KQ hKQ w4 hb
                have T := Lib.hid (T.out.call hb)
                clear hb
                have q0 := cell_regrown (keep_cell T.out.bel HQ0.out)
                have q1 := cell_regrown (keep_cell T.out.bel HQ1.out)
                have q2 := cell_regrown (keep_cell T.out.bel HQ2.out)
                have y0 := cell_regrown (keep_cell T.out.bel Y0.out)
                refine seg_next ?_
                simp only [opsAt, List.filterMap_cons, List.filterMap_nil, List.getElem?_toArray, List.getElem?_cons_succ, List.getElem?_cons_zero]
                repeat (first | go_big_quiet_step (fail) | quiet_step (fail))
                refine wpQuiet_nil ?_
                intro K hK
                refine loud_op rfl rfl ?_
                go_simp
                refine (words_any' _ _ t x _ ⟨_, _, rfl, HSN.out.below (bto SB.out.bel T.out.bel), HSP.out.below (bto SB.out.bel T.out.bel)⟩ (HIN.out.below T.out.bel) HLX.out HXM.out (by omega) (by omega)).mono ?_
                rintro e w5 ⟨v', rfl, ⟨sv', pv', rfl, ho1, ho2⟩, hb⟩
                rw [HWS.out] at ho1 ho2
                rw [wordsT_wells]
                have T := Lib.hid (T.out.take2 hb ho1 ho2 (by decide))
                refine hK _ _ hb ?_
                clear hK K hb ho1 ho2 q0 q1 q2 y0
                refine seg_next ?_
                simp only [opsAt, List.filterMap_nil]
                refine wpQuiet_nil ?_
                intro K hK
                refine loud_op rfl rfl ?_
                go_simp
                refine (isOne_any _ (sub t (hasW x)) _ ⟨_, _, rfl, T.out.row 0 rfl, T.out.row 1 rfl⟩ HSU.out.1 HSU.out.2.1 HSU.out.2.2).mono ?_
                rintro e w6 ⟨rfl, hb⟩
                rw [diag_bad HBD.out.is]
                have T := Lib.hid (T.out.call hb)
                refine hK _ _ hb ?_
                clear hK K hb
                refine seg_last ?_
                simp only [opsAt, List.filterMap_cons, List.filterMap_nil, List.getElem?_toArray, List.getElem?_cons_succ, List.getElem?_cons_zero]
                repeat (first | go_big_quiet_step (fail) | quiet_step (fail))
                refine wpQuiet_nil ?_
                have y0 := keep_cell T.out.bel Y0.out
                go_wp2_with fail
                go_ret2
                rw [HE.out]
                exact ⟨_, rfl, HIN.out.below T.out.bel, bto SB.out.bel T.out.bel⟩
            · have hii : ¬ (i : Int) < (cs.length : Int) := by omega
              have HNO2 := Lib.hid (NoneTo.mk (t := t) (M := M) (k := k + 1) fun j hj => by
                by_cases e : j = k
                · subst e
                  refine List.find?_eq_none.2 fun z hz => ?_
                  rw [HNB.out z (by rw [List.take_of_length_le (by have := HCL.out; omega)]; exact hz)]
                  simp
                · exact HNO.out.no j (by omega))
              go_wp2_with fail
              have S := Lib.hid (SB.out.call T.out.bel)
              go_roundw
              case rel => exact ⟨k + 1, by omega, by omega, by go_num, HNO2, Lib.hid S.out.fix⟩
              case measure => first | (simp [intOf]; done) | (simp [intOf]; omega)
        · have hki : ¬ (k : Int) < (M : Int) := by omega
          have q_town0 := S.out.get 0 0 rfl rfl
          have q_town1 := S.out.get 0 1 rfl rfl
          have q_town2 := S.out.get 0 2 rfl rfl
          go_wp2_with fail
          clear q_town0 q_town1 q_town2
          have HE := Lib.hid (show clashP t = (allN t, 0) from clash_all HVV.out HO.out (by rw [HM.out]; exact fun j hj => HNO.out.no j (by omega)))
          refine (all_any _ t _ ⟨_, _, rfl, HSN.out.below S.out.bel, HSP.out.below S.out.bel⟩ (by omega) (by omega)).mono ?_
          rintro e w3 ⟨va, rfl, ho, hb⟩
          obtain ⟨Aa, ca, rfl⟩ := own_shape ho
          have HOA := Lib.hid ho
          have S := Lib.hid (S.out.call hb)
          clear hb ho
          go_wp2_with fail
          go_ret2
          rw [HE.out]
          exact ⟨_, rfl, Ints.of_own HOA.out, S.out.bel⟩

end Go.Proofs.Ytplbaijdnpfdgaa

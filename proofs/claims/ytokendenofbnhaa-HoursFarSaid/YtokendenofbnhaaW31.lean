/- Walks: the reference's lists of hours. -/
import Derived.Test.YtokendenofbnhaaW30
import Derived.Test.YtokendenofbnhaaSegC
import Derived.Test.YtokendenofbnhaaPlainC
namespace Go.Proofs.Ytokendenofbnhaa
open Go.RowKit Go.Sort

/-- Slices of one's own, apart from a row: what they hold. -/
def Apart (base : Nat) (w : World) (vo : Value) (cs : List Value) (L : List (List Int)) : Prop :=
  cs.length = L.length ∧ ∀ i (h1 : i < cs.length) (h2 : i < L.length), ∃ b m c, cs[i] = .slice (some ⟨b, 0, none⟩) m c ∧ base ≤ b ∧ b < w.heap.size ∧ vo.ownBlock ≠ some b ∧ Ints w cs[i] L[i]
/-- .. each one a list. -/
def LL (w : World) (cs : List Value) (L : List (List Int)) : Prop := cs.length = L.length ∧ ∀ i (h1 : i < cs.length) (h2 : i < L.length), Ints w cs[i] L[i]
theorem LL.below {w w' : World} {cs : List Value} {L : List (List Int)} (h : LL w cs L) (hb : Below w.heap.size w w') : LL w' cs L := ⟨h.1, fun i h1 h2 => (h.2 i h1 h2).below hb⟩
theorem Apart.ll {base : Nat} {w : World} {vo : Value} {cs : List Value} {L : List (List Int)} (h : Apart base w vo cs L) : LL w cs L := ⟨h.1, fun i h1 h2 => by
  obtain ⟨_, _, _, _, _, _, _, h⟩ := h.2 i h1 h2
  exact h⟩
theorem LL.one {w : World} {cs : List Value} {L : List (List Int)} (h : LL w cs L) : ∀ u ∈ cs, u.oneCell' = true := fun u hu => by
  obtain ⟨i, hi, rfl⟩ := List.mem_iff_getElem.1 hu
  obtain ⟨_, A, c, e, _⟩ := h.2 i hi (by rw [← h.1]; exact hi)
  rw [e]
  rfl
theorem Apart.nil (base : Nat) (w : World) (vo : Value) : Apart base w vo [] [] := ⟨rfl, fun i h1 _ => absurd h1 (by simp)⟩
theorem Apart.below {base : Nat} {w w' : World} {vo : Value} {cs : List Value} {L : List (List Int)} (h : Apart base w vo cs L) (hb : Below w.heap.size w w') : Apart base w' vo cs L := ⟨h.1, fun i h1 h2 => by
  obtain ⟨b, m, c, e, k1, k2, k3, k4⟩ := h.2 i h1 h2
  exact ⟨b, m, c, e, k1, Nat.lt_of_lt_of_le k2 hb.size, k3, k4.below hb⟩⟩
theorem Ints.grown {w w' : World} {b m c : Nat} {l : List Int} {ob : Option Nat} (h : Ints w (.slice (some ⟨b, 0, none⟩) m c) l) (hg : w.grownBy w' ob) (hb : b < w.heap.size) (hne : ob ≠ some b) : Ints w' (.slice (some ⟨b, 0, none⟩) m c) l := by
  obtain ⟨h1, A, c', e, h3, h4, h5⟩ := h
  injection e with e1 e2 e3
  subst e1
  subst e3
  refine ⟨h1, _, _, by rw [e2], h3, h4, fun hp => ⟨b, 0, rfl, fun j u hu => ?_⟩⟩
  obtain ⟨b', o', e', hc⟩ := h5 hp
  injection e' with e'
  injection e' with e6 e7 e8
  subst e6
  subst e7
  rw [World.cell?_of_block (hg.block b hb (fun e => hne e.symm))]
  exact hc j u hu
theorem grownBy.of_below {w w' : World} (h : Below w.heap.size w w') (ob : Option Nat) : w.grownBy w' ob := ⟨h.os, h.tape, h.output, h.size, fun k hk _ => h.block k hk⟩
/-- The row has grown by other lists of one's own. -/
theorem Apart.grown {base : Nat} {w w' : World} {vo vo' vs : Value} {cs ds : List Value} {L M : List (List Int)} (h : Apart base w vo cs L) (k : Apart base w vs ds M) (hg : w.grownBy w' vo.ownBlock) (hv : vo'.ownBlock = vo.ownBlock ∨ vo'.ownBlock = some w.heap.size)
    (hd : ∀ b m c, (.slice (some ⟨b, 0, none⟩) m c : Value) ∈ ds → vo.ownBlock ≠ some b) : Apart base w' vo' (cs ++ ds) (L ++ M) := by
  have hne : ∀ b, b < w.heap.size → vo.ownBlock ≠ some b → vo'.ownBlock ≠ some b := fun b hb hn => by
    rcases hv with hv | hv
    · rw [hv]; exact hn
    · rw [hv]; intro e; injection e with e; omega
  refine ⟨by rw [List.length_append, List.length_append, h.1, k.1], fun i h1 h2 => ?_⟩
  by_cases hi : i < cs.length
  · obtain ⟨b, m, c, e, k1, k2, k3, k4⟩ := h.2 i hi (by rw [← h.1]; exact hi)
    rw [List.getElem_append_left hi, List.getElem_append_left (by rw [← h.1]; exact hi)]
    rw [e] at k4
    exact ⟨b, m, c, e, k1, Nat.lt_of_lt_of_le k2 hg.size, hne b k2 k3, by rw [e]; exact k4.grown hg k2 k3⟩
  · have hi2 : i - cs.length < ds.length := by rw [List.length_append] at h1; omega
    have hi3 : i - L.length < M.length := by rw [List.length_append] at h2; rw [← h.1]; rw [← k.1]; omega
    obtain ⟨b, m, c, e, k1, k2, -, k4⟩ := k.2 (i - cs.length) hi2 (by rw [← k.1]; exact hi2)
    rw [List.getElem_append_right (by omega), List.getElem_append_right (by rw [← h.1]; omega)]
    have hb := hd b m c (by rw [← e]; exact List.getElem_mem _)
    have eL : M[i - L.length] = M[i - cs.length]'(by rw [← k.1]; exact hi2) := by congr 1; rw [h.1]
    rw [e] at k4
    exact ⟨b, m, c, e, k1, Nat.lt_of_lt_of_le k2 hg.size, hne b k2 hb, by rw [e, eL]; exact k4.grown hg k2 hb⟩
theorem St.ne2 {w0 w : World} {n : Nat} {L : List Item} (h : St w0 w n L) (i j : Nat) {x y : Item} {b c : Nat} (hi : L[i]? = some x) (hj : L[j]? = some y) (hij : i ≠ j) (hx : x.blk = some b) (hy : y.blk = some c) : b ≠ c := fun e =>
  hij (nodup_fm Item.blk L i j x y b h.apart hi hj hx (by rw [e]; exact hy))
theorem cut_laterH {p q : Prop} (h1 : Hid p → q) (h2 : p) : q := h1 (Lib.hid h2)
theorem heap_alloc_old {w : World} {o ob : Obj} {b : Nat} (h : w.heap[b]? = some o) : (w.alloc ob).heap[b]? = some o := by
  have hb : b < w.heap.size := (Array.getElem?_eq_some_iff.1 h).1
  have := ((Below.refl w.heap.size w).alloc (Nat.le_refl _) ob).block b hb
  rw [this]
  exact h

set_option maxRecDepth 20000 in
set_option maxHeartbeats 2000000 in
theorem rAsk_any (v : Value) (r : Ros) (is : Bool) (w : World) (hv : RosAt w v r) :
    Calls Try.prog 83 #[v, .bool is] w fun e w' => e = .returned (I (askE r is)) ∧ Below w.heap.size w w' := by
  obtain ⟨rv, sv, rfl, hr, hs⟩ := hv
  obtain ⟨A1, c1, rfl, hr1, hr2, -⟩ := hr.open_
  obtain ⟨A2, c2, rfl, hs1, hs2, -⟩ := hs.open_
  have HR := Lib.hid hr
  have HS := Lib.hid hs
  clear hr hs
  have S := Lib.hid (show St w (w.alloc (.cells #[.slice A1 r.room.length c1, .slice A2 r.strs.length c2] 25)) (w.heap.size + 1) [.box w.heap.size [.slice A1 r.room.length c1, .slice A2 r.strs.length c2]] from (St.init w).alloc [.slice A1 r.room.length c1, .slice A2 r.strs.length c2] 25)
  have q0 := S.out.get 0 0 rfl rfl
  have q1 := S.out.get 0 1 rfl rfl
  go_enter Try.func83, Try.ntmps83
  go_wp2_with fail
  clear q0 q1
  refine (rCheck_any _ r _ ⟨_, _, rfl, HR.out.below S.out.bel, HS.out.below S.out.bel⟩).mono ?_
  rintro e w1 ⟨rfl, hb⟩
  have S := Lib.hid (S.out.call hb)
  clear hb
  cases hvd : valid r
  · rw [show chk r = 80 by simp [chk, hvd]]
    have HE := Lib.hid (show askE r is = 80 by simp [askE, hvd])
    clear hvd
    go_wp2_with fail
    go_ret
    exact ⟨by rw [HE.out]; rfl, S.out.bel⟩
  · rw [show chk r = 0 by simp [chk, hvd]]
    cases is
    · have HE := Lib.hid (show askE r false = 1 by simp [askE, hvd])
      clear hvd
      go_wp2_with fail
      go_ret
      exact ⟨by rw [HE.out]; rfl, S.out.bel⟩
    · have HE := Lib.hid (show askE r true = 0 by simp [askE, hvd])
      clear hvd
      go_wp2_with fail
      go_ret
      exact ⟨by rw [HE.out]; rfl, S.out.bel⟩

set_option maxRecDepth 20000 in
set_option maxHeartbeats 8000000 in
theorem lists_any (r : Ros) (hvd : ROk r) : ∀ (d : Nat) (v v2 : Value) (fl : List Int) (w : World) (_ : RosAt w v r) (_ : Ints w v2 fl) (_ : fl.length + d = r.strs.length),
    Calls Try.prog 94 #[v, v2] w fun e w' => ∃ v', e = .returned v' ∧ ∃ cs, w'.ownsRow w.heap.size 22 1 v' cs.length cs ∧ LL w' cs (allFrom (r.strs.drop fl.length) fl) ∧ (d = 0 → cs = [v2]) ∧ (0 < d → Apart w.heap.size w' v' cs (allFrom (r.strs.drop fl.length) fl)) ∧ Below w.heap.size w w' := by
  obtain ⟨i0, hi, hz0, hz1, hz2⟩ := info_parts Try.info3
  obtain ⟨iT, hiT, hzT0, hzT1, hzT2⟩ := info_parts (P := Try.prog) (e := 22) (z := .slice none 0 0) (size := 1) (bytes := 24) (by kernel_rfl)
  intro d
  induction d with
  | zero =>
    intro v v2 fl w hv hl hd
    obtain ⟨rv, sv, rfl, hr, hs⟩ := hv
    obtain ⟨A1, c1, rfl, hr1, hr2, -⟩ := hr.open_
    obtain ⟨A2, c2, rfl, hs1, hs2, -⟩ := hs.open_
    have HR := Lib.hid hr
    have HS := Lib.hid hs
    clear hr hs
    have S := Lib.hid (show St w (w.alloc (.cells #[.slice A1 r.room.length c1, .slice A2 r.strs.length c2] 25)) (w.heap.size + 1) [.box w.heap.size [.slice A1 r.room.length c1, .slice A2 r.strs.length c2]] from (St.init w).alloc [.slice A1 r.room.length c1, .slice A2 r.strs.length c2] 25)
    obtain ⟨Al, cl, rfl, hl1, hl2, hlc⟩ := id hl.open_
    have HL := Lib.hid hl
    clear hl hlc
    have hq : ((fl.length : Int) == (r.strs.length : Int)) = true := by rw [beq_iff_eq]; omega
    have HDR := Lib.hid (show r.strs.drop fl.length = [] from List.drop_of_length_le (by omega))
    have q0 := S.out.get 0 0 rfl rfl
    have q1 := S.out.get 0 1 rfl rfl
    go_enter Try.func94, Try.ntmps94
    go_wp2_with fail
    have S2 := Lib.hid (S.out.alloc [.slice Al fl.length cl] 22)
    go_ret
    refine ⟨.slice (some ⟨w.heap.size + 1, 0, none⟩) 1 1, rfl, [.slice Al fl.length cl], by have q := World.ownsRow_lit (e := 22) (size := 1) (w.alloc (.cells #[.slice A1 r.room.length c1, .slice A2 r.strs.length c2] 25)) #[.slice Al fl.length cl] 1 S.out.bel.size (by decide) rfl; simpa using q, ?_, fun _ => rfl, fun h => absurd h (by omega), S2.out.bel⟩
    rw [HDR.out]
    refine ⟨rfl, fun i h1 h2 => ?_⟩
    obtain rfl : i = 0 := by simpa using h1
    exact HL.out.below S2.out.bel
  | succ d ih =>
    intro v v2 fl w hv hl hd
    obtain ⟨rv, sv, rfl, hr, hs⟩ := hv
    obtain ⟨A1, c1, rfl, hr1, hr2, -⟩ := hr.open_
    obtain ⟨A2, c2, rfl, hs1, hs2, -⟩ := hs.open_
    have HR := Lib.hid hr
    have HS := Lib.hid hs
    clear hr hs
    have S := Lib.hid (show St w (w.alloc (.cells #[.slice A1 r.room.length c1, .slice A2 r.strs.length c2] 25)) (w.heap.size + 1) [.box w.heap.size [.slice A1 r.room.length c1, .slice A2 r.strs.length c2]] from (St.init w).alloc [.slice A1 r.room.length c1, .slice A2 r.strs.length c2] 25)
    obtain ⟨Al, cl, rfl, hl1, hl2, hlc⟩ := id hl.open_
    have HL := Lib.hid hl
    clear hl hlc
    have hlt : fl.length < r.strs.length := by omega
    have hq : ((fl.length : Int) == (r.strs.length : Int)) = false := by rw [beq_eq_false_iff_ne]; omega
    have hfi : (fl.length : Int) < (r.strs.length : Int) := by omega
    have hsl6 := hvd.sl
    obtain ⟨_, _, e, _, _, hsc⟩ := HS.out.open_
    injection e with e1 e2 e3
    subst e1
    obtain ⟨b2, o2, rfl, hb2, hcell2⟩ := hsc (by omega)
    have hy := hcell2 fl.length hlt
    have hso := hvd.strs _ (List.getElem_mem hlt)
    have hdr := List.drop_eq_getElem_cons hlt
    obtain ⟨s, hs⟩ : ∃ s, r.strs[fl.length] = s := ⟨_, rfl⟩
    rw [hs] at hy hso hdr
    have HDR := Lib.hid hdr
    have HSO := Lib.hid hso
    clear hsc hcell2 hb2 e2 e3 hs hdr
    have sb1 := hso.frm0
    have sb2 := hso.ft
    have sb3 := hso.to1
    have HLEN := Lib.hid (show ∀ k : Nat, k ≤ 8 → (allTo (r.strs.drop (fl.length + 1)) fl s k).length ≤ 2097152 from fun k hk => by
      have a := allTo_len (p := fl) (s := s) (N := 262144) (fun p => Nat.le_trans (allFrom_len (r.strs.drop (fl.length + 1)) (fun s hs => hvd.strs s (List.mem_of_mem_drop hs)) p) (pow8 (by rw [List.length_drop]; omega))) k
      have b := Nat.mul_le_mul_right 262144 hk
      omega)
    have S := Lib.hid ((S.out.alloc [I s.has, I s.frm, I s.to, I s.cost] 33))
    have S := Lib.hid (show St w _ _ [.box (w.heap.size + 1) [I s.has, I s.frm, I s.to, I s.cost], .own 22 1 (.slice none 0 0) 0 [], .box w.heap.size [.slice A1 r.room.length c1, .slice (some ⟨b2, o2, none⟩) r.strs.length c2]] from (S.out.nil 22 1).perm (List.Perm.swap ..))
    have z1 := S.out.get 0 1 rfl rfl
    have S0 := Lib.hid (show St w (w.alloc (.cells #[.slice A1 r.room.length c1, .slice (some ⟨b2, o2, none⟩) r.strs.length c2] 25)) (w.heap.size + 1) [.box w.heap.size [.slice A1 r.room.length c1, .slice (some ⟨b2, o2, none⟩) r.strs.length c2]] from (St.init w).alloc [.slice A1 r.room.length c1, .slice (some ⟨b2, o2, none⟩) r.strs.length c2] 25)
    have q1 := S0.out.get 0 1 rfl rfl
    have y0 := keep_cell S0.out.bel hy.1
    have y1 := keep_cell S0.out.bel hy.2.1
    have y2 := keep_cell S0.out.bel hy.2.2.1
    have y3 := keep_cell S0.out.bel hy.2.2.2
    clear hy S0 hso
    go_enter Try.func94, Try.ntmps94
    go_wp2_with fail
    clear q1 y0 y1 y2 y3 z1
    go_loopw [5, 7] (fun u i wr => ∃ (k : Nat) (vo : Value) (cs : List Value), vo = u ∧ i = I (s.frm + (k : Int)) ∧ (k : Int) ≤ s.to - s.frm + 1 ∧ Hid (Apart w.heap.size wr vo cs (allTo (r.strs.drop (fl.length + 1)) fl s k)) ∧ Hid (St w wr wr.heap.size [.box (w.heap.size + 1) [I s.has, I s.frm, I s.to, I s.cost], .own 22 1 vo cs.length cs, .box w.heap.size [.slice A1 r.room.length c1, .slice (some ⟨b2, o2, none⟩) r.strs.length c2]])) (fun _ i _ => (s.to + 1 - intOf i).toNat)
    case atStart => exact ⟨0, _, [], rfl, by go_num, by omega, Lib.hid (Apart.nil _ _ _), Lib.hid S.out.fix⟩
    case round =>
      clear S
      obtain ⟨k, vo, cs, rfl, rfl, hk, AP, S⟩ := hrel
      obtain ⟨hx, hhx⟩ : ∃ x : Int, s.frm + (k : Int) = x := ⟨_, rfl⟩
      have HHX := Lib.hid hhx
      rw [hhx]
      have hxb : 0 ≤ hx := by omega
      have hxc : hx ≤ s.to + 1 := by omega
      clear hhx
      have z2 := S.out.get 0 2 rfl rfl
      by_cases hle : hx ≤ s.to
      · go_wp2_with fail
        clear z2
        refine wp_region_treeC (.node [0, 1, 3, 5] [2, 6] (fun l => if l = 2 then .node [] [4, 6] (fun l => if l = 4 then .node [] [6] (fun _ => .node [] [7] (fun _ => .node [] [8] (fun _ => .node [] [9] (fun _ => .last [10] [])))) else .node [] [4] (fun _ => .node [] [7] (fun _ => .node [] [8] (fun _ => .node [] [9] (fun _ => .last [10] []))))) else .node [] [2] (fun _ => .node [] [4] (fun _ => .node [] [7] (fun _ => .node [] [8] (fun _ => .node [] [9] (fun _ => .last [10] []))))))) 11 (by kernel_rfl) (by kernel_rfl) ?_
        intro KQ hKQ wq hb
        have AP := Lib.hid (AP.out.below hb)
        have S := Lib.hid (S.out.call hb)
        clear hb
        have x0 := S.out.get 2 0 rfl rfl
        have x1 := S.out.get 2 1 rfl rfl
        have hgx : ∃ g, g < wq.heap.size ∧ g ≠ w.heap.size ∧ (vo.ownBlock = some g ∨ vo.ownBlock = none) := by
          have hlb := S.out.lt 0 rfl
          rcases (S.out.own 1 rfl).2 with ⟨e, -⟩ | ⟨g, cap, cur, e, k1, k2, -⟩
          · exact ⟨w.heap.size + 1, hlb, by omega, .inr (by rw [e]; rfl)⟩
          · have hne := S.out.ne2 1 2 rfl rfl (by omega) (by rw [e]; rfl) rfl
            exact ⟨g, (Array.getElem?_eq_some_iff.1 k2).1, hne, .inl (by rw [e]; rfl)⟩
        obtain ⟨g, hgq, hgr, hgv⟩ := hgx
        refine ⟨CP wq g, CP.refl wq hgq, ?_⟩
        have x0 := cell_patched x0 (fun e => hgr e.symm)
        have x1 := cell_patched x1 (fun e => hgr e.symm)
        have HB := Lib.hid (Below.refl wq.heap.size wq)
        refine treeC_node ?_
        simp only [opsAt, List.filterMap_cons, List.filterMap_nil, List.getElem?_toArray, List.getElem?_cons_succ, List.getElem?_cons_zero]
        repeat (first | go_big_quiet_step (fail) | quiet_step (fail))
        refine wpQuiet_nil ?_
        clear x0
        apply cut_laterH
        · intro key
          refine all_two ?_ ?_
          · intro K hK
            refine loud_op rfl rfl ?_
            go_simp
            have hb := (Below.refl wq.heap.size wq).alloc (Nat.le_refl _) (.cells #[] 3)
            have hg := heap_alloc_new wq (.cells #[] 3)
            obtain ⟨wp1, hwd⟩ : ∃ x, wq.alloc (.cells #[] 3) = x := ⟨_, rfl⟩
            obtain ⟨gE, hgE⟩ : ∃ x, wq.heap.size = x := ⟨_, rfl⟩
            have hgl : wq.heap.size ≤ gE := by rw [← hgE]; exact HB.out.size
            rw [hwd] at hb hg ⊢
            rw [hgE] at hg ⊢
            clear hwd hgE
            have HB := Lib.hid (bto HB.out hb)
            have G0 := Lib.hid hg
            refine hK _ _ (CP.of (grownBy.of_below HB.out _) hgq) ?_
            clear hK K hb hg
            refine treeC_node ?_
            simp only [opsAt, List.filterMap_nil]
            refine wpQuiet_nil ?_
            refine all_two ?_ ?_
            · intro K hK
              refine loud_op rfl rfl ?_
              have hrd := HL.out.below (bto S.out.bel HB.out)
              refine wp_append_fresh _ (.tmp 32) (.tmp 33) 22 rfl wq.heap.size 3 i0 (.int .i64 0) 1 8 Try.underlying22 hi hz0 hz1 hz2 rfl (by omega) gE rfl G0.out hgl _ fl.length (fl.map I) rfl hrd (ints_one fl) (by simp only [maxLen]; omega) (by omega) HB.out.size ?_
              intro v1 wt hown hb
              have HB := Lib.hid (bto HB.out hb)
              obtain ⟨Av1, cv1, rfl⟩ := own_shape hown
              have O1 := Lib.hid hown
              refine hK _ _ (CP.of (grownBy.of_below HB.out _) hgq) ?_
              clear hK K hb hown hrd
              refine treeC_node ?_
              simp only [opsAt, List.filterMap_nil]
              refine wpQuiet_nil ?_
              refine all_one ?_
              intro K hK
              refine loud_op rfl rfl ?_
              go_simp
              have hb := (Below.refl wt.heap.size wt).alloc (Nat.le_refl _) (.cells #[I hx] 3)
              have hg := box_cell wt #[I hx] 3 0 rfl
              have O2 := O1.out.alloc (.cells #[I hx] 3)
              obtain ⟨wp2, hwd⟩ : ∃ x, wt.alloc (.cells #[I hx] 3) = x := ⟨_, rfl⟩
              obtain ⟨gB, hgB⟩ : ∃ x, wt.heap.size = x := ⟨_, rfl⟩
              rw [hwd] at hb hg O2 ⊢
              rw [hgB] at hg ⊢
              clear hwd hgB
              have HB := Lib.hid (bto HB.out hb)
              have B1 := Lib.hid hg
              replace O1 := Lib.hid O2
              clear O2
              refine hK _ _ (CP.of (grownBy.of_below HB.out _) hgq) ?_
              clear hK K hb hg
              refine treeC_node ?_
              simp only [opsAt, List.filterMap_nil]
              refine wpQuiet_nil ?_
              refine all_one ?_
              intro K hK
              refine loud_op rfl rfl ?_
              have T := (St.init wq).take HB.out O1.out
              refine wp_append_src _ (.tmp 34) (.tmp 36) 22 rfl wq.heap.size 3 i0 (.int .i64 0) 1 8 Try.underlying22 hi hz0 hz1 hz2 rfl (by omega) _ fl.length (fl.map I) rfl O1.out _ 1 [I hx] rfl (reads_box1 B1.out) (ints_one [hx]) (by simp only [maxLen]; omega) (by omega) HB.out.size ?_
              intro v2' wX hown hg hv
              have T2 := T.grown 0 rfl hown hg hv
              have HBX := Lib.hid T2.bel
              obtain ⟨Av2, cv2, rfl⟩ := own_shape hown
              have HOX := Lib.hid hown
              refine hK _ _ (CP.of (grownBy.of_below HBX.out _) hgq) ?_
              clear hK K hown hg hv T T2
              clear hgl G0 B1 O1
              revert HOX; revert HBX; revert wX; revert cv2; revert Av2; revert cv1; revert Av1; revert gB; revert gE
              exact key.out
            · intro K hK
              refine loud_op rfl rfl ?_
              go_simp
              have hb := (Below.refl wp1.heap.size wp1).alloc (Nat.le_refl _) (.cells #[I hx] 3)
              have hg := box_cell wp1 #[I hx] 3 0 rfl
              have G1 := heap_alloc_old (ob := .cells #[I hx] 3) G0.out
              obtain ⟨wp2, hwd⟩ : ∃ x, wp1.alloc (.cells #[I hx] 3) = x := ⟨_, rfl⟩
              obtain ⟨gB, hgB⟩ : ∃ x, wp1.heap.size = x := ⟨_, rfl⟩
              rw [hwd] at hb hg G1 ⊢
              rw [hgB] at hg ⊢
              clear hwd hgB
              have HB := Lib.hid (bto HB.out hb)
              have B1 := Lib.hid hg
              replace G0 := Lib.hid G1
              clear G1
              refine hK _ _ (CP.of (grownBy.of_below HB.out _) hgq) ?_
              clear hK K hb hg
              refine treeC_node ?_
              simp only [opsAt, List.filterMap_nil]
              refine wpQuiet_nil ?_
              refine all_one ?_
              intro K hK
              refine loud_op rfl rfl ?_
              have hrd := HL.out.below (bto S.out.bel HB.out)
              refine wp_append_fresh _ (.tmp 32) (.tmp 33) 22 rfl wq.heap.size 3 i0 (.int .i64 0) 1 8 Try.underlying22 hi hz0 hz1 hz2 rfl (by omega) gE rfl G0.out hgl _ fl.length (fl.map I) rfl hrd (ints_one fl) (by simp only [maxLen]; omega) (by omega) HB.out.size ?_
              intro v1 wt hown hb
              replace B1 := Lib.hid (keep_cell hb B1.out)
              have HB := Lib.hid (bto HB.out hb)
              obtain ⟨Av1, cv1, rfl⟩ := own_shape hown
              have O1 := Lib.hid hown
              refine hK _ _ (CP.of (grownBy.of_below HB.out _) hgq) ?_
              clear hK K hb hown hrd
              refine treeC_node ?_
              simp only [opsAt, List.filterMap_nil]
              refine wpQuiet_nil ?_
              refine all_one ?_
              intro K hK
              refine loud_op rfl rfl ?_
              have T := (St.init wq).take HB.out O1.out
              refine wp_append_src _ (.tmp 34) (.tmp 36) 22 rfl wq.heap.size 3 i0 (.int .i64 0) 1 8 Try.underlying22 hi hz0 hz1 hz2 rfl (by omega) _ fl.length (fl.map I) rfl O1.out _ 1 [I hx] rfl (reads_box1 B1.out) (ints_one [hx]) (by simp only [maxLen]; omega) (by omega) HB.out.size ?_
              intro v2' wX hown hg hv
              have T2 := T.grown 0 rfl hown hg hv
              have HBX := Lib.hid T2.bel
              obtain ⟨Av2, cv2, rfl⟩ := own_shape hown
              have HOX := Lib.hid hown
              refine hK _ _ (CP.of (grownBy.of_below HBX.out _) hgq) ?_
              clear hK K hown hg hv T T2
              exact key.out gE gB Av1 cv1 Av2 cv2 wX HBX HOX
          · intro K hK
            refine loud_op rfl rfl ?_
            go_simp
            have hb := (Below.refl wq.heap.size wq).alloc (Nat.le_refl _) (.cells #[I hx] 3)
            have hg := box_cell wq #[I hx] 3 0 rfl
            obtain ⟨wp1, hwd⟩ : ∃ x, wq.alloc (.cells #[I hx] 3) = x := ⟨_, rfl⟩
            obtain ⟨gB, hgB⟩ : ∃ x, wq.heap.size = x := ⟨_, rfl⟩
            rw [hwd] at hb hg ⊢
            rw [hgB] at hg ⊢
            clear hwd hgB
            have HB := Lib.hid (bto HB.out hb)
            have B1 := Lib.hid hg
            refine hK _ _ (CP.of (grownBy.of_below HB.out _) hgq) ?_
            clear hK K hb hg
            refine treeC_node ?_
            simp only [opsAt, List.filterMap_nil]
            refine wpQuiet_nil ?_
            refine all_one ?_
            intro K hK
            refine loud_op rfl rfl ?_
            go_simp
            have hb := (Below.refl wp1.heap.size wp1).alloc (Nat.le_refl _) (.cells #[] 3)
            have hg := heap_alloc_new wp1 (.cells #[] 3)
            obtain ⟨wp2, hwd⟩ : ∃ x, wp1.alloc (.cells #[] 3) = x := ⟨_, rfl⟩
            obtain ⟨gE, hgE⟩ : ∃ x, wp1.heap.size = x := ⟨_, rfl⟩
            have hgl : wq.heap.size ≤ gE := by rw [← hgE]; exact HB.out.size
            rw [hwd] at hb hg ⊢
            rw [hgE] at hg ⊢
            clear hwd hgE
            have HB := Lib.hid (bto HB.out hb)
            have G0 := Lib.hid hg
            replace B1 := Lib.hid (keep_cell hb B1.out)
            refine hK _ _ (CP.of (grownBy.of_below HB.out _) hgq) ?_
            clear hK K hb hg
            refine treeC_node ?_
            simp only [opsAt, List.filterMap_nil]
            refine wpQuiet_nil ?_
            refine all_one ?_
            intro K hK
            refine loud_op rfl rfl ?_
            have hrd := HL.out.below (bto S.out.bel HB.out)
            refine wp_append_fresh _ (.tmp 32) (.tmp 33) 22 rfl wq.heap.size 3 i0 (.int .i64 0) 1 8 Try.underlying22 hi hz0 hz1 hz2 rfl (by omega) gE rfl G0.out hgl _ fl.length (fl.map I) rfl hrd (ints_one fl) (by simp only [maxLen]; omega) (by omega) HB.out.size ?_
            intro v1 wt hown hb
            replace B1 := Lib.hid (keep_cell hb B1.out)
            have HB := Lib.hid (bto HB.out hb)
            obtain ⟨Av1, cv1, rfl⟩ := own_shape hown
            have O1 := Lib.hid hown
            refine hK _ _ (CP.of (grownBy.of_below HB.out _) hgq) ?_
            clear hK K hb hown hrd
            refine treeC_node ?_
            simp only [opsAt, List.filterMap_nil]
            refine wpQuiet_nil ?_
            refine all_one ?_
            intro K hK
            refine loud_op rfl rfl ?_
            have T := (St.init wq).take HB.out O1.out
            refine wp_append_src _ (.tmp 34) (.tmp 36) 22 rfl wq.heap.size 3 i0 (.int .i64 0) 1 8 Try.underlying22 hi hz0 hz1 hz2 rfl (by omega) _ fl.length (fl.map I) rfl O1.out _ 1 [I hx] rfl (reads_box1 B1.out) (ints_one [hx]) (by simp only [maxLen]; omega) (by omega) HB.out.size ?_
            intro v2' wX hown hg hv
            have T2 := T.grown 0 rfl hown hg hv
            have HBX := Lib.hid T2.bel
            obtain ⟨Av2, cv2, rfl⟩ := own_shape hown
            have HOX := Lib.hid hown
            refine hK _ _ (CP.of (grownBy.of_below HBX.out _) hgq) ?_
            clear hK K hown hg hv T T2
            exact key.out gE gB Av1 cv1 Av2 cv2 wX HBX HOX
        · intro gE gB Av1 cv1 Av2 cv2 wX HBX HOX
          clear x1
          refine treeC_node ?_
          simp only [opsAt, List.filterMap_nil]
          refine wpQuiet_nil ?_
          refine all_one ?_
          intro K hK
          refine loud_op rfl rfl ?_
          go_simp
          have hIX : Ints wX (.slice Av2 (fl.length + 1) cv2) (fl ++ [hx]) := Ints.of_own (by
            have q := HOX.out
            simp only [List.map_append, List.map_cons, List.map_nil]
            exact q)
          refine (ih _ _ (fl ++ [hx]) _ ⟨_, _, rfl, HR.out.below (bto S.out.bel HBX.out), HS.out.below (bto S.out.bel HBX.out)⟩ hIX (by rw [List.length_append]; simp only [List.length_cons, List.length_nil]; omega)).mono ?_
          rintro e wY ⟨v', rfl, ds, hown, hll, hd0, hd1, hb⟩
          rw [show (fl ++ [hx]).length = fl.length + 1 by simp] at hll hd1
          have hbY := bto HBX.out hb
          have S2 := Lib.hid (S.out.call hbY)
          have AP2 := Lib.hid (AP.out.below hbY)
          have hdl : ds.length = (allFrom (r.strs.drop (fl.length + 1)) (fl ++ [hx])).length := hll.1
          have hap2 : Apart w.heap.size wY v' ds (allFrom (r.strs.drop (fl.length + 1)) (fl ++ [hx])) ∧ ∀ b m c, (.slice (some ⟨b, 0, none⟩) m c : Value) ∈ ds → wq.heap.size ≤ b := by
            rcases Nat.eq_zero_or_pos d with h0 | h0
            · have hds := hd0 h0
              subst hds
              obtain ⟨g2, cap2, e2, k1, k2⟩ := own_shape_pos HOX.out (by omega)
              injection e2 with e3 e4 e5
              subst e3
              have hne : v'.ownBlock ≠ some g2 := by
                rcases own_shape_pos hown (by simp) with ⟨g3, cap3, e3, k3, k4⟩
                rw [e3]
                intro e
                injection e with e
                simp only at e
                omega
              refine ⟨⟨hll.1, fun i i1 i2 => ?_⟩, fun b m c hm => ?_⟩
              · obtain rfl : i = 0 := by simpa using i1
                exact ⟨g2, _, _, rfl, Nat.le_trans S.out.bel.size k1, Nat.lt_of_lt_of_le k2 hb.size, hne, hll.2 0 i1 i2⟩
              · rw [List.mem_singleton] at hm
                injection hm with e6 e7 e8
                injection e6 with e6
                injection e6 with e6
                omega
            · have h1 := hd1 h0
              refine ⟨⟨h1.1, fun i i1 i2 => ?_⟩, fun b m c hm => ?_⟩
              · obtain ⟨b, m, c, e, k1, k2, k3, k4⟩ := h1.2 i i1 i2
                exact ⟨b, m, c, e, Nat.le_trans (Nat.le_trans S.out.bel.size HBX.out.size) k1, k2, k3, k4⟩
              · obtain ⟨i, i1, e⟩ := List.mem_iff_getElem.1 hm
                obtain ⟨b', m', c', e', k1, -⟩ := h1.2 i i1 (by rw [← h1.1]; exact i1)
                rw [e] at e'
                injection e' with e6 e7 e8
                injection e6 with e6
                injection e6 with e6
                have := HBX.out.size
                omega
          obtain ⟨hap2, hnew⟩ := hap2
          have hlen2 := allFrom_len (r.strs.drop (fl.length + 1)) (fun s hs => hvd.strs s (List.mem_of_mem_drop hs)) (fl ++ [hx])
          have hlen3 : ds.length ≤ 262144 := by
            rw [hdl]
            exact Nat.le_trans hlen2 (pow8 (by rw [List.length_drop]; have := hvd.sl; omega))
          have hlen1 := HLEN.out k (by omega)
          have hcs := AP2.out.1
          have HOWN := Lib.hid hown
          have HAP := Lib.hid hap2
          have HNEW := Lib.hid hnew
          refine hK _ _ (CP.of (grownBy.of_below hbY _) hgq) ?_
          clear hK K hb hown hll hd0 hd1 hap2 hnew hIX hdl hlen2
          refine treeC_node ?_
          simp only [opsAt, List.filterMap_nil]
          refine wpQuiet_nil ?_
          refine all_one ?_
          intro K hK
          refine loud_op rfl rfl ?_
          refine wp_append_src _ (.tmp 30) (.tmp 38) 78 rfl w.heap.size 22 iT (.slice none 0 0) 1 24 Try.underlying78 hiT hzT0 hzT1 hzT2 rfl (by omega) vo cs.length cs rfl (S2.out.own 1 rfl) v' ds.length ds rfl (Reads.of_own HOWN.out) HAP.out.ll.one (by simp only [maxLen]; omega) (by omega) S2.out.bel.size ?_
          intro v'' wZ hown2 hg hv
          have hgn : ∀ b, wq.heap.size ≤ b → vo.ownBlock ≠ some b := fun b hbl e => by
            rcases hgv with hgv | hgv
            · rw [hgv] at e; injection e with e; omega
            · rw [hgv] at e; cases e
          have S3 := Lib.hid (S2.out.grown 1 rfl hown2 hg hv)
          have AP3 := Lib.hid (AP2.out.grown HAP.out hg hv (fun b m c hm => fun e => hgn b (HNEW.out b m c hm) e))
          have hgc : wq.grownBy wZ (some g) := ⟨hg.os.trans hbY.os, hg.tape.trans hbY.tape, hg.output.trans hbY.output, Nat.le_trans hbY.size hg.size, fun j hj hne => by
            rw [hg.block j (Nat.lt_of_lt_of_le hj hbY.size) (fun e => by
              rcases hgv with hgv | hgv
              · rw [hgv] at e; exact hne e
              · rw [hgv] at e; cases e), hbY.block j hj]⟩
          refine hK _ _ (CP.of hgc hgq) ?_
          clear hK K hg hv hown2 hgn hgc
          refine treeC_last ?_
          simp only [opsAt, List.filterMap_cons, List.filterMap_nil, List.getElem?_toArray, List.getElem?_cons_succ, List.getElem?_cons_zero]
          repeat (first | go_big_quiet_step (fail) | quiet_step (fail))
          refine wpQuiet_nil ?_
          have HSX := Lib.hid (allTo_succ (r.strs.drop (fl.length + 1)) fl s k)
          rw [← HHX.out] at AP3
          go_wp2_with fail
          go_roundw
          case rel => exact ⟨k + 1, v'', cs ++ ds, rfl, by rw [← HHX.out]; go_num, by have := HHX.out; omega, Lib.hid (by rw [HSX.out]; exact AP3.out), Lib.hid (by rw [List.length_append]; exact S3.out)⟩
          case measure => first | (simp [intOf]; done) | (simp [intOf]; omega)
      · have HSX := Lib.hid (show allTo (r.strs.drop (fl.length + 1)) fl s k = allFrom (r.strs.drop fl.length) fl by
          rw [HDR.out, ← allTo_all]
          congr 1
          have := HHX.out
          omega)
        rw [HSX.out] at AP
        go_wp2_with fail
        go_ret
        exact ⟨vo, rfl, cs, S.out.own 1 rfl, AP.out.ll, AP.out, S.out.bel⟩

end Go.Proofs.Ytokendenofbnhaa

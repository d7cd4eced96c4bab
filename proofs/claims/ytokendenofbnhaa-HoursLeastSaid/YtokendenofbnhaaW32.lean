/- Walks: the reference's lists of hours. -/
import Derived.Test.YtokendenofbnhaaW30
import Derived.Test.YtokendenofbnhaaSegC
import Derived.Test.YtokendenofbnhaaPlainC
namespace Go.Proofs.Ytokendenofbnhaa
open Go.RowKit Go.Sort

/-- Slices of one's own, apart from a row: what they hold. -/
def Apart (base : Nat) (w : World) (vo : Value) (cs : List Value) (L : List (List Int)) : Prop :=
  cs.length = L.length ∧ ∀ i (h1 : i < cs.length) (h2 : i < L.length), ∃ b m c, cs[i] = .slice (some ⟨b, 0, none⟩) m c ∧ base ≤ b ∧ b < w.heap.size ∧ vo.ownBlock ≠ some b ∧ Ints w cs[i] L[i]
/-- .. each one a list. -/
def LL (w : World) (cs : List Value) (L : List (List Int)) : Prop := cs.length = L.length ∧ ∀ i (h1 : i < cs.length) (h2 : i < L.length), Ints w cs[i] L[i]
theorem LL.below {w w' : World} {cs : List Value} {L : List (List Int)} (h : LL w cs L) (hb : Below w.heap.size w w') : LL w' cs L := ⟨h.1, fun i h1 h2 => (h.2 i h1 h2).below hb⟩
theorem Apart.ll {base : Nat} {w : World} {vo : Value} {cs : List Value} {L : List (List Int)} (h : Apart base w vo cs L) : LL w cs L := ⟨h.1, fun i h1 h2 => by
  obtain ⟨_, _, _, _, _, _, _, h⟩ := h.2 i h1 h2
  exact h⟩
theorem LL.one {w : World} {cs : List Value} {L : List (List Int)} (h : LL w cs L) : ∀ u ∈ cs, u.oneCell' = true := fun u hu => by
  obtain ⟨i, hi, rfl⟩ := List.mem_iff_getElem.1 hu
  obtain ⟨_, A, c, e, _⟩ := h.2 i hi (by rw [← h.1]; exact hi)
  rw [e]
  rfl
theorem Apart.nil (base : Nat) (w : World) (vo : Value) : Apart base w vo [] [] := ⟨rfl, fun i h1 _ => absurd h1 (by simp)⟩
theorem Apart.below {base : Nat} {w w' : World} {vo : Value} {cs : List Value} {L : List (List Int)} (h : Apart base w vo cs L) (hb : Below w.heap.size w w') : Apart base w' vo cs L := ⟨h.1, fun i h1 h2 => by
  obtain ⟨b, m, c, e, k1, k2, k3, k4⟩ := h.2 i h1 h2
  exact ⟨b, m, c, e, k1, Nat.lt_of_lt_of_le k2 hb.size, k3, k4.below hb⟩⟩
theorem Ints.grown {w w' : World} {b m c : Nat} {l : List Int} {ob : Option Nat} (h : Ints w (.slice (some ⟨b, 0, none⟩) m c) l) (hg : w.grownBy w' ob) (hb : b < w.heap.size) (hne : ob ≠ some b) : Ints w' (.slice (some ⟨b, 0, none⟩) m c) l := by
  obtain ⟨h1, A, c', e, h3, h4, h5⟩ := h
  injection e with e1 e2 e3
  subst e1
  subst e3
  refine ⟨h1, _, _, by rw [e2], h3, h4, fun hp => ⟨b, 0, rfl, fun j u hu => ?_⟩⟩
  obtain ⟨b', o', e', hc⟩ := h5 hp
  injection e' with e'
  injection e' with e6 e7 e8
  subst e6
  subst e7
  rw [World.cell?_of_block (hg.block b hb (fun e => hne e.symm))]
  exact hc j u hu
theorem grownBy.of_below {w w' : World} (h : Below w.heap.size w w') (ob : Option Nat) : w.grownBy w' ob := ⟨h.os, h.tape, h.output, h.size, fun k hk _ => h.block k hk⟩
/-- The row has grown by other lists of one's own. -/
theorem Apart.grown {base : Nat} {w w' : World} {vo vo' vs : Value} {cs ds : List Value} {L M : List (List Int)} (h : Apart base w vo cs L) (k : Apart base w vs ds M) (hg : w.grownBy w' vo.ownBlock) (hv : vo'.ownBlock = vo.ownBlock ∨ vo'.ownBlock = some w.heap.size)
    (hd : ∀ b m c, (.slice (some ⟨b, 0, none⟩) m c : Value) ∈ ds → vo.ownBlock ≠ some b) : Apart base w' vo' (cs ++ ds) (L ++ M) := by
  have hne : ∀ b, b < w.heap.size → vo.ownBlock ≠ some b → vo'.ownBlock ≠ some b := fun b hb hn => by
    rcases hv with hv | hv
    · rw [hv]; exact hn
    · rw [hv]; intro e; injection e with e; omega
  refine ⟨by rw [List.length_append, List.length_append, h.1, k.1], fun i h1 h2 => ?_⟩
  by_cases hi : i < cs.length
  · obtain ⟨b, m, c, e, k1, k2, k3, k4⟩ := h.2 i hi (by rw [← h.1]; exact hi)
    rw [List.getElem_append_left hi, List.getElem_append_left (by rw [← h.1]; exact hi)]
    rw [e] at k4
    exact ⟨b, m, c, e, k1, Nat.lt_of_lt_of_le k2 hg.size, hne b k2 k3, by rw [e]; exact k4.grown hg k2 k3⟩
  · have hi2 : i - cs.length < ds.length := by rw [List.length_append] at h1; omega
    have hi3 : i - L.length < M.length := by rw [List.length_append] at h2; rw [← h.1]; rw [← k.1]; omega
    obtain ⟨b, m, c, e, k1, k2, -, k4⟩ := k.2 (i - cs.length) hi2 (by rw [← k.1]; exact hi2)
    rw [List.getElem_append_right (by omega), List.getElem_append_right (by rw [← h.1]; omega)]
    have hb := hd b m c (by rw [← e]; exact List.getElem_mem _)
    have eL : M[i - L.length] = M[i - cs.length]'(by rw [← k.1]; exact hi2) := by congr 1; rw [h.1]
    rw [e] at k4
    exact ⟨b, m, c, e, k1, Nat.lt_of_lt_of_le k2 hg.size, hne b k2 hb, by rw [e, eL]; exact k4.grown hg k2 hb⟩
theorem St.ne2 {w0 w : World} {n : Nat} {L : List Item} (h : St w0 w n L) (i j : Nat) {x y : Item} {b c : Nat} (hi : L[i]? = some x) (hj : L[j]? = some y) (hij : i ≠ j) (hx : x.blk = some b) (hy : y.blk = some c) : b ≠ c := fun e =>
  hij (nodup_fm Item.blk L i j x y b h.apart hi hj hx (by rw [e]; exact hy))
theorem cut_laterH {p q : Prop} (h1 : Hid p → q) (h2 : p) : q := h1 (Lib.hid h2)
theorem heap_alloc_old {w : World} {o ob : Obj} {b : Nat} (h : w.heap[b]? = some o) : (w.alloc ob).heap[b]? = some o := by
  have hb : b < w.heap.size := (Array.getElem?_eq_some_iff.1 h).1
  have := ((Below.refl w.heap.size w).alloc (Nat.le_refl _) ob).block b hb
  rw [this]
  exact h

set_option maxRecDepth 20000 in
set_option maxHeartbeats 2000000 in
theorem rAsk_any (v : Value) (r : Ros) (is : Bool) (w : World) (hv : RosAt w v r) :
    Calls Try.prog 83 #[v, .bool is] w fun e w' => e = .returned (I (askE r is)) ∧ Below w.heap.size w w' := by
  obtain ⟨rv, sv, rfl, hr, hs⟩ := hv
  obtain ⟨A1, c1, rfl, hr1, hr2, -⟩ := hr.open_
  obtain ⟨A2, c2, rfl, hs1, hs2, -⟩ := hs.open_
  have HR := Lib.hid hr
  have HS := Lib.hid hs
  clear hr hs
  have S := Lib.hid (show St w (w.alloc (.cells #[.slice A1 r.room.length c1, .slice A2 r.strs.length c2] 25)) (w.heap.size + 1) [.box w.heap.size [.slice A1 r.room.length c1, .slice A2 r.strs.length c2]] from (St.init w).alloc [.slice A1 r.room.length c1, .slice A2 r.strs.length c2] 25)
  have q0 := S.out.get 0 0 rfl rfl
  have q1 := S.out.get 0 1 rfl rfl
  go_enter Try.func83, Try.ntmps83
  go_wp2_with fail
  clear q0 q1
  refine (rCheck_any _ r _ ⟨_, _, rfl, HR.out.below S.out.bel, HS.out.below S.out.bel⟩).mono ?_
  rintro e w1 ⟨rfl, hb⟩
  have S := Lib.hid (S.out.call hb)
  clear hb
  cases hvd : valid r
  · rw [show chk r = 80 by simp [chk, hvd]]
    have HE := Lib.hid (show askE r is = 80 by simp [askE, hvd])
    clear hvd
    go_wp2_with fail
    go_ret
    exact ⟨by rw [HE.out]; rfl, S.out.bel⟩
  · rw [show chk r = 0 by simp [chk, hvd]]
    cases is
    · have HE := Lib.hid (show askE r false = 1 by simp [askE, hvd])
      clear hvd
      go_wp2_with fail
      go_ret
      exact ⟨by rw [HE.out]; rfl, S.out.bel⟩
    · have HE := Lib.hid (show askE r true = 0 by simp [askE, hvd])
      clear hvd
      go_wp2_with fail
      go_ret
      exact ⟨by rw [HE.out]; rfl, S.out.bel⟩

set_option maxRecDepth 20000 in
set_option maxHeartbeats 8000000 in
theorem lists_any (r : Ros) (hvd : ROk r) : ∀ (d : Nat) (v v2 : Value) (fl : List Int) (w : World) (_ : RosAt w v r) (_ : Ints w v2 fl) (_ : fl.length + d = r.strs.length),
    Calls Try.prog 94 #[v, v2] w fun e w' => ∃ v', e = .returned v' ∧ ∃ cs, w'.ownsRow w.heap.size 22 1 v' cs.length cs ∧ LL w' cs (allFrom (r.strs.drop fl.length) fl) ∧ (d = 0 → cs = [v2]) ∧ (0 < d → Apart w.heap.size w' v' cs (allFrom (r.strs.drop fl.length) fl)) ∧ Below w.heap.size w w' := by
  obtain ⟨i0, hi, hz0, hz1, hz2⟩ := info_parts Try.info3
  obtain ⟨iT, hiT, hzT0, hzT1, hzT2⟩ := info_parts (P := Try.prog) (e := 22) (z := .slice none 0 0) (size := 1) (bytes := 24) (by kernel_rfl)
  intro d
  induction d with
  | zero =>
    intro v v2 fl w hv hl hd
    obtain ⟨rv, sv, rfl, hr, hs⟩ := hv
    obtain ⟨A1, c1, rfl, hr1, hr2, -⟩ := hr.open_
    obtain ⟨A2, c2, rfl, hs1, hs2, -⟩ := hs.open_
    have HR := Lib.hid hr
    have HS := Lib.hid hs
    clear hr hs
    have S := Lib.hid (show St w (w.alloc (.cells #[.slice A1 r.room.length c1, .slice A2 r.strs.length c2] 25)) (w.heap.size + 1) [.box w.heap.size [.slice A1 r.room.length c1, .slice A2 r.strs.length c2]] from (St.init w).alloc [.slice A1 r.room.length c1, .slice A2 r.strs.length c2] 25)
    obtain ⟨Al, cl, rfl, hl1, hl2, hlc⟩ := id hl.open_
    have HL := Lib.hid hl
    clear hl hlc
    have hq : ((fl.length : Int) == (r.strs.length : Int)) = true := by rw [beq_iff_eq]; omega
    have HDR := Lib.hid (show r.strs.drop fl.length = [] from List.drop_of_length_le (by omega))
    have q0 := S.out.get 0 0 rfl rfl
    have q1 := S.out.get 0 1 rfl rfl
    go_enter Try.func94, Try.ntmps94
    go_wp2_with fail
    have S2 := Lib.hid (S.out.alloc [.slice Al fl.length cl] 22)
    go_ret
    refine ⟨.slice (some ⟨w.heap.size + 1, 0, none⟩) 1 1, rfl, [.slice Al fl.length cl], by have q := World.ownsRow_lit (e := 22) (size := 1) (w.alloc (.cells #[.slice A1 r.room.length c1, .slice A2 r.strs.length c2] 25)) #[.slice Al fl.length cl] 1 S.out.bel.size (by decide) rfl; simpa using q, ?_, fun _ => rfl, fun h => absurd h (by omega), S2.out.bel⟩
    rw [HDR.out]
    refine ⟨rfl, fun i h1 h2 => ?_⟩
    obtain rfl : i = 0 := by simpa using h1
    exact HL.out.below S2.out.bel
  | succ d ih =>
    intro v v2 fl w hv hl hd
    obtain ⟨rv, sv, rfl, hr, hs⟩ := hv
    obtain ⟨A1, c1, rfl, hr1, hr2, -⟩ := hr.open_
    obtain ⟨A2, c2, rfl, hs1, hs2, -⟩ := hs.open_
    have HR := Lib.hid hr
    have HS := Lib.hid hs
    clear hr hs
    have S := Lib.hid (show St w (w.alloc (.cells #[.slice A1 r.room.length c1, .slice A2 r.strs.length c2] 25)) (w.heap.size + 1) [.box w.heap.size [.slice A1 r.room.length c1, .slice A2 r.strs.length c2]] from (St.init w).alloc [.slice A1 r.room.length c1, .slice A2 r.strs.length c2] 25)
    obtain ⟨Al, cl, rfl, hl1, hl2, hlc⟩ := id hl.open_
    have HL := Lib.hid hl
    clear hl hlc
    have hlt : fl.length < r.strs.length := by omega
    have hq : ((fl.length : Int) == (r.strs.length : Int)) = false := by rw [beq_eq_false_iff_ne]; omega
    have hfi : (fl.length : Int) < (r.strs.length : Int) := by omega
    have hsl6 := hvd.sl
    obtain ⟨_, _, e, _, _, hsc⟩ := HS.out.open_
    injection e with e1 e2 e3
    subst e1
    obtain ⟨b2, o2, rfl, hb2, hcell2⟩ := hsc (by omega)
    have hy := hcell2 fl.length hlt
    have hso := hvd.strs _ (List.getElem_mem hlt)
    have hdr := List.drop_eq_getElem_cons hlt
    obtain ⟨s, hs⟩ : ∃ s, r.strs[fl.length] = s := ⟨_, rfl⟩
    rw [hs] at hy hso hdr
    have HDR := Lib.hid hdr
    have HSO := Lib.hid hso
    clear hsc hcell2 hb2 e2 e3 hs hdr
    have sb1 := hso.frm0
    have sb2 := hso.ft
    have sb3 := hso.to1
    have HLEN := Lib.hid (show ∀ k : Nat, k ≤ 8 → (allTo (r.strs.drop (fl.length + 1)) fl s k).length ≤ 2097152 from fun k hk => by
      have a := allTo_len (p := fl) (s := s) (N := 262144) (fun p => Nat.le_trans (allFrom_len (r.strs.drop (fl.length + 1)) (fun s hs => hvd.strs s (List.mem_of_mem_drop hs)) p) (pow8 (by rw [List.length_drop]; omega))) k
      have b := Nat.mul_le_mul_right 262144 hk
      omega)
    have S := Lib.hid ((S.out.alloc [I s.has, I s.frm, I s.to, I s.cost] 33))
    have S := Lib.hid (show St w _ _ [.box (w.heap.size + 1) [I s.has, I s.frm, I s.to, I s.cost], .own 22 1 (.slice none 0 0) 0 [], .box w.heap.size [.slice A1 r.room.length c1, .slice (some ⟨b2, o2, none⟩) r.strs.length c2]] from (S.out.nil 22 1).perm (List.Perm.swap ..))
    have z1 := S.out.get 0 1 rfl rfl
    have S0 := Lib.hid (show St w (w.alloc (.cells #[.slice A1 r.room.length c1, .slice (some ⟨b2, o2, none⟩) r.strs.length c2] 25)) (w.heap.size + 1) [.box w.heap.size [.slice A1 r.room.length c1, .slice (some ⟨b2, o2, none⟩) r.strs.length c2]] from (St.init w).alloc [.slice A1 r.room.length c1, .slice (some ⟨b2, o2, none⟩) r.strs.length c2] 25)
    have q1 := S0.out.get 0 1 rfl rfl
    have y0 := keep_cell S0.out.bel hy.1
    have y1 := keep_cell S0.out.bel hy.2.1
    have y2 := keep_cell S0.out.bel hy.2.2.1
    have y3 := keep_cell S0.out.bel hy.2.2.2
    clear hy S0 hso
    go_enter Try.func94, Try.ntmps94
    go_wp2_with fail
    clear q1 y0 y1 y2 y3 z1
    go_loopw [5, 7] (fun u i wr => ∃ (k : Nat) (vo : Value) (cs : List Value), vo = u ∧ i = I (s.frm + (k : Int)) ∧ (k : Int) ≤ s.to - s.frm + 1 ∧ Hid (Apart w.heap.size wr vo cs (allTo (r.strs.drop (fl.length + 1)) fl s k)) ∧ Hid (St w wr wr.heap.size [.box (w.heap.size + 1) [I s.has, I s.frm, I s.to, I s.cost], .own 22 1 vo cs.length cs, .box w.heap.size [.slice A1 r.room.length c1, .slice (some ⟨b2, o2, none⟩) r.strs.length c2]])) (fun _ i _ => (s.to + 1 - intOf i).toNat)
    case atStart => exact ⟨0, _, [], rfl, by go_num, by omega, Lib.hid (Apart.nil _ _ _), Lib.hid S.out.fix⟩
    case round =>
      clear S
      obtain ⟨k, vo, cs, rfl, rfl, hk, AP, S⟩ := hrel
      obtain ⟨hx, hhx⟩ : ∃ x : Int, s.frm + (k : Int) = x := ⟨_, rfl⟩
      have HHX := Lib.hid hhx
      rw [hhx]
      have hxb : 0 ≤ hx := by omega
      have hxc : hx ≤ s.to + 1 := by omega
      clear hhx
      have z2 := S.out.get 0 2 rfl rfl
      by_cases hle : hx ≤ s.to
      · go_wp2_with fail
        clear z2
        refine wp_region_treeC (.node [0, 1, 3, 5] [2, 6] (fun l => if l = 2 then .node [] [4, 6] (fun l => if l = 4 then .node [] [6] (fun _ => .node [] [7] (fun _ => .node [] [8] (fun _ => .node [] [9] (fun _ => .last [10] [])))) else .node [] [4] (fun _ => .node [] [7] (fun _ => .node [] [8] (fun _ => .node [] [9] (fun _ => .last [10] []))))) else .node [] [2] (fun _ => .node [] [4] (fun _ => .node [] [7] (fun _ => .node [] [8] (fun _ => .node [] [9] (fun _ => .last [10] []))))))) 11 (by kernel_rfl) (by kernel_rfl) ?_
        intro KQ hKQ wq hb
        have AP := Lib.hid (AP.out.below hb)
        have S := Lib.hid (S.out.call hb)
        clear hb
        have x0 := S.out.get 2 0 rfl rfl
        have x1 := S.out.get 2 1 rfl rfl
        have hgx : ∃ g, g < wq.heap.size ∧ g ≠ w.heap.size ∧ (vo.ownBlock = some g ∨ vo.ownBlock = none) := by
          have hlb := S.out.lt 0 rfl
          rcases (S.out.own 1 rfl).2 with ⟨e, -⟩ | ⟨g, cap, cur, e, k1, k2, -⟩
          · exact ⟨w.heap.size + 1, hlb, by omega, .inr (by rw [e]; rfl)⟩
          · have hne := S.out.ne2 1 2 rfl rfl (by omega) (by rw [e]; rfl) rfl
            exact ⟨g, (Array.getElem?_eq_some_iff.1 k2).1, hne, .inl (by rw [e]; rfl)⟩
        obtain ⟨g, hgq, hgr, hgv⟩ := hgx
        refine ⟨CP wq g, CP.refl wq hgq, ?_⟩
        have x0 := cell_patched x0 (fun e => hgr e.symm)
        have x1 := cell_patched x1 (fun e => hgr e.symm)
        have HB := Lib.hid (Below.refl wq.heap.size wq)
        refine treeC_node ?_
        simp only [opsAt, List.filterMap_cons, List.filterMap_nil, List.getElem?_toArray, List.getElem?_cons_succ, List.getElem?_cons_zero]
        repeat (first | go_big_quiet_step (fail) | quiet_step (fail))
        refine wpQuiet_nil ?_
        clear x0
        apply cut_laterH
        · intro key
          refine all_two ?_ ?_
          · intro K hK
            refine loud_op rfl rfl ?_
            go_simp
            have hb := (Below.refl wq.heap.size wq).alloc (Nat.le_refl _) (.cells #[] 3)
            have hg := heap_alloc_new wq (.cells #[] 3)
            obtain ⟨wp1, hwd⟩ : ∃ x, wq.alloc (.cells #[] 3) = x := ⟨_, rfl⟩
            obtain ⟨gE, hgE⟩ : ∃ x, wq.heap.size = x := ⟨_, rfl⟩
            have hgl : wq.heap.size ≤ gE := by rw [← hgE]; exact HB.out.size
            rw [hwd] at hb hg ⊢
            rw [hgE] at hg ⊢
            clear hwd hgE
            have HB := Lib.hid (bto HB.out hb)
            have G0 := Lib.hid hg
            refine hK _ _ (CP.of (grownBy.of_below HB.out _) hgq) ?_
            clear hK K hb hg
            refine treeC_node ?_
            simp only [opsAt, List.filterMap_nil]
            refine wpQuiet_nil ?_
            refine all_two ?_ ?_
            · intro K hK
              refine loud_op rfl rfl ?_
              have hrd := HL.out.below (bto S.out.bel HB.out)
              refine wp_append_fresh _ (.tmp 32) (.tmp 33) 22 rfl wq.heap.size 3 i0 (.int .i64 0) 1 8 Try.underlying22 hi hz0 hz1 hz2 rfl (by omega) gE rfl G0.out hgl _ fl.length (fl.map I) rfl hrd (ints_one fl) (by simp only [maxLen]; omega) (by omega) HB.out.size ?_
              intro v1 wt hown hb
              have HB := Lib.hid (bto HB.out hb)
              obtain ⟨Av1, cv1, rfl⟩ := own_shape hown
              have O1 := Lib.hid hown
              refine hK _ _ (CP.of (grownBy.of_below HB.out _) hgq) ?_
              clear hK K hb hown hrd
              refine treeC_node ?_
              simp only [opsAt, List.filterMap_nil]
              refine wpQuiet_nil ?_
              refine all_one ?_
              intro K hK
              refine loud_op rfl rfl ?_
              go_simp
              have hb := (Below.refl wt.heap.size wt).alloc (Nat.le_refl _) (.cells #[I hx] 3)
              have hg := box_cell wt #[I hx] 3 0 rfl
              have O2 := O1.out.alloc (.cells #[I hx] 3)
              obtain ⟨wp2, hwd⟩ : ∃ x, wt.alloc (.cells #[I hx] 3) = x := ⟨_, rfl⟩
              obtain ⟨gB, hgB⟩ : ∃ x, wt.heap.size = x := ⟨_, rfl⟩
              rw [hwd] at hb hg O2 ⊢
              rw [hgB] at hg ⊢
              clear hwd hgB
              have HB := Lib.hid (bto HB.out hb)
              have B1 := Lib.hid hg
              replace O1 := Lib.hid O2
              clear O2
              refine hK _ _ (CP.of (grownBy.of_below HB.out _) hgq) ?_
              clear hK K hb hg
              refine treeC_node ?_
              simp only [opsAt, List.filterMap_nil]
              refine wpQuiet_nil ?_
              refine all_one ?_
              intro K hK
              refine loud_op rfl rfl ?_
              have T := (St.init wq).take HB.out O1.out
              refine wp_append_src _ (.tmp 34) (.tmp 36) 22 rfl wq.heap.size 3 i0 (.int .i64 0) 1 8 Try.underlying22 hi hz0 hz1 hz2 rfl (by omega) _ fl.length (fl.map I) rfl O1.out _ 1 [I hx] rfl (reads_box1 B1.out) (ints_one [hx]) (by simp only [maxLen]; omega) (by omega) HB.out.size ?_
              intro v2' wX hown hg hv
              have T2 := T.grown 0 rfl hown hg hv
              have HBX := Lib.hid T2.bel
              obtain ⟨Av2, cv2, rfl⟩ := own_shape hown
              have HOX := Lib.hid hown
              refine hK _ _ (CP.of (grownBy.of_below HBX.out _) hgq) ?_
              clear hK K hown hg hv T T2
              clear hgl G0 B1 O1
              revert HOX; revert HBX; revert wX; revert cv2; revert Av2; revert cv1; revert Av1; revert gB; revert gE
              exact key.out
            · intro K hK
              refine loud_op rfl rfl ?_
              go_simp
              have hb := (Below.refl wp1.heap.size wp1).alloc (Nat.le_refl _) (.cells #[I hx] 3)
              have hg := box_cell wp1 #[I hx] 3 0 rfl
              have G1 := heap_alloc_old (ob := .cells #[I hx] 3) G0.out
              obtain ⟨wp2, hwd⟩ : ∃ x, wp1.alloc (.cells #[I hx] 3) = x := ⟨_, rfl⟩
              obtain ⟨gB, hgB⟩ : ∃ x, wp1.heap.size = x := ⟨_, rfl⟩
              rw [hwd] at hb hg G1 ⊢
              rw [hgB] at hg ⊢
              clear hwd hgB
              have HB := Lib.hid (bto HB.out hb)
              have B1 := Lib.hid hg
              replace G0 := Lib.hid G1
              clear G1
              refine hK _ _ (CP.of (grownBy.of_below HB.out _) hgq) ?_
              clear hK K hb hg
              refine treeC_node ?_
              simp only [opsAt, List.filterMap_nil]
              refine wpQuiet_nil ?_
              refine all_one ?_
              intro K hK
              refine loud_op rfl rfl ?_
              have hrd := HL.out.below (bto S.out.bel HB.out)
              refine wp_append_fresh _ (.tmp 32) (.tmp 33) 22 rfl wq.heap.size 3 i0 (.int .i64 0) 1 8 Try.underlying22 hi hz0 hz1 hz2 rfl (by omega) gE rfl G0.out hgl _ fl.length (fl.map I) rfl hrd (ints_one fl) (by simp only [maxLen]; omega) (by omega) HB.out.size ?_
              intro v1 wt hown hb
              replace B1 := Lib.hid (keep_cell hb B1.out)
              have HB := Lib.hid (bto HB.out hb)
              obtain ⟨Av1, cv1, rfl⟩ := own_shape hown
              have O1 := Lib.hid hown
              refine hK _ _ (CP.of (grownBy.of_below HB.out _) hgq) ?_
              clear hK K hb hown hrd
              refine treeC_node ?_
              simp only [opsAt, List.filterMap_nil]
              refine wpQuiet_nil ?_
              refine all_one ?_
              intro K hK
              refine loud_op rfl rfl ?_
              have T := (St.init wq).take HB.out O1.out
              refine wp_append_src _ (.tmp 34) (.tmp 36) 22 rfl wq.heap.size 3 i0 (.int .i64 0) 1 8 Try.underlying22 hi hz0 hz1 hz2 rfl (by omega) _ fl.length (fl.map I) rfl O1.out _ 1 [I hx] rfl (reads_box1 B1.out) (ints_one [hx]) (by simp only [maxLen]; omega) (by omega) HB.out.size ?_
              intro v2' wX hown hg hv
              have T2 := T.grown 0 rfl hown hg hv
              have HBX := Lib.hid T2.bel
              obtain ⟨Av2, cv2, rfl⟩ := own_shape hown
              have HOX := Lib.hid hown
              refine hK _ _ (CP.of (grownBy.of_below HBX.out _) hgq) ?_
              clear hK K hown hg hv T T2
              exact key.out gE gB Av1 cv1 Av2 cv2 wX HBX HOX
          · intro K hK
            refine loud_op rfl rfl ?_
            go_simp
            have hb := (Below.refl wq.heap.size wq).alloc (Nat.le_refl _) (.cells #[I hx] 3)
            have hg := box_cell wq #[I hx] 3 0 rfl
            obtain ⟨wp1, hwd⟩ : ∃ x, wq.alloc (.cells #[I hx] 3) = x := ⟨_, rfl⟩
            obtain ⟨gB, hgB⟩ : ∃ x, wq.heap.size = x := ⟨_, rfl⟩
            rw [hwd] at hb hg ⊢
            rw [hgB] at hg ⊢
            clear hwd hgB
            have HB := Lib.hid (bto HB.out hb)
            have B1 := Lib.hid hg
            refine hK _ _ (CP.of (grownBy.of_below HB.out _) hgq) ?_
            clear hK K hb hg
            refine treeC_node ?_
            simp only [opsAt, List.filterMap_nil]
            refine wpQuiet_nil ?_
            refine all_one ?_
            intro K hK
            refine loud_op rfl rfl ?_
            go_simp
            have hb := (Below.refl wp1.heap.size wp1).alloc (Nat.le_refl _) (.cells #[] 3)
            have hg := heap_alloc_new wp1 (.cells #[] 3)
            obtain ⟨wp2, hwd⟩ : ∃ x, wp1.alloc (.cells #[] 3) = x := ⟨_, rfl⟩
            obtain ⟨gE, hgE⟩ : ∃ x, wp1.heap.size = x := ⟨_, rfl⟩
            have hgl : wq.heap.size ≤ gE := by rw [← hgE]; exact HB.out.size
            rw [hwd] at hb hg ⊢
            rw [hgE] at hg ⊢
            clear hwd hgE
            have HB := Lib.hid (bto HB.out hb)
            have G0 := Lib.hid hg
            replace B1 := Lib.hid (keep_cell hb B1.out)
            refine hK _ _ (CP.of (grownBy.of_below HB.out _) hgq) ?_
            clear hK K hb hg
            refine treeC_node ?_
            simp only [opsAt, List.filterMap_nil]
            refine wpQuiet_nil ?_
            refine all_one ?_
            intro K hK
            refine loud_op rfl rfl ?_
            have hrd := HL.out.below (bto S.out.bel HB.out)
            refine wp_append_fresh _ (.tmp 32) (.tmp 33) 22 rfl wq.heap.size 3 i0 (.int .i64 0) 1 8 Try.underlying22 hi hz0 hz1 hz2 rfl (by omega) gE rfl G0.out hgl _ fl.length (fl.map I) rfl hrd (ints_one fl) (by simp only [maxLen]; omega) (by omega) HB.out.size ?_
            intro v1 wt hown hb
            replace B1 := Lib.hid (keep_cell hb B1.out)
            have HB := Lib.hid (bto HB.out hb)
            obtain ⟨Av1, cv1, rfl⟩ := own_shape hown
            have O1 := Lib.hid hown
            refine hK _ _ (CP.of (grownBy.of_below HB.out _) hgq) ?_
            clear hK K hb hown hrd
            refine treeC_node ?_
            simp only [opsAt, List.filterMap_nil]
            refine wpQuiet_nil ?_
            refine all_one ?_
            intro K hK
            refine loud_op rfl rfl ?_
            have T := (St.init wq).take HB.out O1.out
            refine wp_append_src _ (.tmp 34) (.tmp 36) 22 rfl wq.heap.size 3 i0 (.int .i64 0) 1 8 Try.underlying22 hi hz0 hz1 hz2 rfl (by omega) _ fl.length (fl.map I) rfl O1.out _ 1 [I hx] rfl (reads_box1 B1.out) (ints_one [hx]) (by simp only [maxLen]; omega) (by omega) HB.out.size ?_
            intro v2' wX hown hg hv
            have T2 := T.grown 0 rfl hown hg hv
            have HBX := Lib.hid T2.bel
            obtain ⟨Av2, cv2, rfl⟩ := own_shape hown
            have HOX := Lib.hid hown
            refine hK _ _ (CP.of (grownBy.of_below HBX.out _) hgq) ?_
            clear hK K hown hg hv T T2
            exact key.out gE gB Av1 cv1 Av2 cv2 wX HBX HOX
        · intro gE gB Av1 cv1 Av2 cv2 wX HBX HOX
          clear x1
          refine treeC_node ?_
          simp only [opsAt, List.filterMap_nil]
          refine wpQuiet_nil ?_
          refine all_one ?_
          intro K hK
          refine loud_op rfl rfl ?_
          go_simp
          have hIX : Ints wX (.slice Av2 (fl.length + 1) cv2) (fl ++ [hx]) := Ints.of_own (by
            have q := HOX.out
            simp only [List.map_append, List.map_cons, List.map_nil]
            exact q)
          refine (ih _ _ (fl ++ [hx]) _ ⟨_, _, rfl, HR.out.below (bto S.out.bel HBX.out), HS.out.below (bto S.out.bel HBX.out)⟩ hIX (by rw [List.length_append]; simp only [List.length_cons, List.length_nil]; omega)).mono ?_
          rintro e wY ⟨v', rfl, ds, hown, hll, hd0, hd1, hb⟩
          rw [show (fl ++ [hx]).length = fl.length + 1 by simp] at hll hd1
          have hbY := bto HBX.out hb
          have S2 := Lib.hid (S.out.call hbY)
          have AP2 := Lib.hid (AP.out.below hbY)
          have hdl : ds.length = (allFrom (r.strs.drop (fl.length + 1)) (fl ++ [hx])).length := hll.1
          have hap2 : Apart w.heap.size wY v' ds (allFrom (r.strs.drop (fl.length + 1)) (fl ++ [hx])) ∧ ∀ b m c, (.slice (some ⟨b, 0, none⟩) m c : Value) ∈ ds → wq.heap.size ≤ b := by
            rcases Nat.eq_zero_or_pos d with h0 | h0
            · have hds := hd0 h0
              subst hds
              obtain ⟨g2, cap2, e2, k1, k2⟩ := own_shape_pos HOX.out (by omega)
              injection e2 with e3 e4 e5
              subst e3
              have hne : v'.ownBlock ≠ some g2 := by
                rcases own_shape_pos hown (by simp) with ⟨g3, cap3, e3, k3, k4⟩
                rw [e3]
                intro e
                injection e with e
                simp only at e
                omega
              refine ⟨⟨hll.1, fun i i1 i2 => ?_⟩, fun b m c hm => ?_⟩
              · obtain rfl : i = 0 := by simpa using i1
                exact ⟨g2, _, _, rfl, Nat.le_trans S.out.bel.size k1, Nat.lt_of_lt_of_le k2 hb.size, hne, hll.2 0 i1 i2⟩
              · rw [List.mem_singleton] at hm
                injection hm with e6 e7 e8
                injection e6 with e6
                injection e6 with e6
                omega
            · have h1 := hd1 h0
              refine ⟨⟨h1.1, fun i i1 i2 => ?_⟩, fun b m c hm => ?_⟩
              · obtain ⟨b, m, c, e, k1, k2, k3, k4⟩ := h1.2 i i1 i2
                exact ⟨b, m, c, e, Nat.le_trans (Nat.le_trans S.out.bel.size HBX.out.size) k1, k2, k3, k4⟩
              · obtain ⟨i, i1, e⟩ := List.mem_iff_getElem.1 hm
                obtain ⟨b', m', c', e', k1, -⟩ := h1.2 i i1 (by rw [← h1.1]; exact i1)
                rw [e] at e'
                injection e' with e6 e7 e8
                injection e6 with e6
                injection e6 with e6
                have := HBX.out.size
                omega
          obtain ⟨hap2, hnew⟩ := hap2
          have hlen2 := allFrom_len (r.strs.drop (fl.length + 1)) (fun s hs => hvd.strs s (List.mem_of_mem_drop hs)) (fl ++ [hx])
          have hlen3 : ds.length ≤ 262144 := by
            rw [hdl]
            exact Nat.le_trans hlen2 (pow8 (by rw [List.length_drop]; have := hvd.sl; omega))
          have hlen1 := HLEN.out k (by omega)
          have hcs := AP2.out.1
          have HOWN := Lib.hid hown
          have HAP := Lib.hid hap2
          have HNEW := Lib.hid hnew
          refine hK _ _ (CP.of (grownBy.of_below hbY _) hgq) ?_
          clear hK K hb hown hll hd0 hd1 hap2 hnew hIX hdl hlen2
          refine treeC_node ?_
          simp only [opsAt, List.filterMap_nil]
          refine wpQuiet_nil ?_
          refine all_one ?_
          intro K hK
          refine loud_op rfl rfl ?_
          refine wp_append_src _ (.tmp 30) (.tmp 38) 78 rfl w.heap.size 22 iT (.slice none 0 0) 1 24 Try.underlying78 hiT hzT0 hzT1 hzT2 rfl (by omega) vo cs.length cs rfl (S2.out.own 1 rfl) v' ds.length ds rfl (Reads.of_own HOWN.out) HAP.out.ll.one (by simp only [maxLen]; omega) (by omega) S2.out.bel.size ?_
          intro v'' wZ hown2 hg hv
          have hgn : ∀ b, wq.heap.size ≤ b → vo.ownBlock ≠ some b := fun b hbl e => by
            rcases hgv with hgv | hgv
            · rw [hgv] at e; injection e with e; omega
            · rw [hgv] at e; cases e
          have S3 := Lib.hid (S2.out.grown 1 rfl hown2 hg hv)
          have AP3 := Lib.hid (AP2.out.grown HAP.out hg hv (fun b m c hm => fun e => hgn b (HNEW.out b m c hm) e))
          have hgc : wq.grownBy wZ (some g) := ⟨hg.os.trans hbY.os, hg.tape.trans hbY.tape, hg.output.trans hbY.output, Nat.le_trans hbY.size hg.size, fun j hj hne => by
            rw [hg.block j (Nat.lt_of_lt_of_le hj hbY.size) (fun e => by
              rcases hgv with hgv | hgv
              · rw [hgv] at e; exact hne e
              · rw [hgv] at e; cases e), hbY.block j hj]⟩
          refine hK _ _ (CP.of hgc hgq) ?_
          clear hK K hg hv hown2 hgn hgc
          refine treeC_last ?_
          simp only [opsAt, List.filterMap_cons, List.filterMap_nil, List.getElem?_toArray, List.getElem?_cons_succ, List.getElem?_cons_zero]
          repeat (first | go_big_quiet_step (fail) | quiet_step (fail))
          refine wpQuiet_nil ?_
          have HSX := Lib.hid (allTo_succ (r.strs.drop (fl.length + 1)) fl s k)
          rw [← HHX.out] at AP3
          go_wp2_with fail
          go_roundw
          case rel => exact ⟨k + 1, v'', cs ++ ds, rfl, by rw [← HHX.out]; go_num, by have := HHX.out; omega, Lib.hid (by rw [HSX.out]; exact AP3.out), Lib.hid (by rw [List.length_append]; exact S3.out)⟩
          case measure => first | (simp [intOf]; done) | (simp [intOf]; omega)
      · have HSX := Lib.hid (show allTo (r.strs.drop (fl.length + 1)) fl s k = allFrom (r.strs.drop fl.length) fl by
          rw [HDR.out, ← allTo_all]
          congr 1
          have := HHX.out
          omega)
        rw [HSX.out] at AP
        go_wp2_with fail
        go_ret
        exact ⟨vo, rfl, cs, S.out.own 1 rfl, AP.out.ll, AP.out, S.out.bel⟩

end Go.Proofs.Ytokendenofbnhaa
/- Walks: the reference's news, least, Roster, Least. -/
namespace Go.Proofs.Ytokendenofbnhaa
open Go.RowKit Go.Sort

theorem allFrom_mem : ∀ (ss : List Str) (p l : List Int), l ∈ allFrom ss p → l.length = p.length + ss.length
  | [], p, l, h => by
    rw [allFrom, List.mem_singleton] at h
    rw [h]
    rfl
  | s :: ss, p, l, h => by
    simp only [allFrom, List.mem_flatMap] at h
    obtain ⟨x, _, h⟩ := h
    have := allFrom_mem ss _ _ h
    simp at this
    simp only [List.length_cons]
    omega
theorem ints_nil (w : World) : Ints w (.slice none 0 0) [] := ⟨rfl, none, 0, rfl, by simp, by omega, fun h => absurd h (by simp)⟩
theorem reads_nil (w : World) : Reads w 1 (.slice none 0 0) 0 [] := ⟨rfl, none, 0, rfl, by simp, by omega, fun h => absurd h (by simp)⟩
def newsE (r : Ros) (is : Bool) : Int := if askE r is = 0 then (if newsL r = [] then 3 else 0) else askE r is
def newsV (r : Ros) (is : Bool) : List (List Int) := if newsE r is = 0 then newsL r else []
/-- The lists of a row, as far as a loop has come, that are new rosters. -/
def newTo (r : Ros) (L : List (List Int)) (k : Nat) : List (List Int) := (L.take k).filter (newB r)
theorem newTo_yes {r : Ros} {L : List (List Int)} {k : Nat} (h : k < L.length) (hn : newB r L[k] = true) : newTo r L (k + 1) = newTo r L k ++ [L[k]] := by
  unfold newTo
  rw [List.take_succ_eq_append_getElem h, List.filter_append, List.filter_cons_of_pos hn]
  rfl
theorem newTo_no {r : Ros} {L : List (List Int)} {k : Nat} (h : k < L.length) (hn : newB r L[k] = false) : newTo r L (k + 1) = newTo r L k := by
  unfold newTo
  rw [List.take_succ_eq_append_getElem h, List.filter_append, List.filter_cons_of_neg (by rw [hn]; simp)]
  simp
def BestTo (r : Ros) (L : List (List Int)) (b k : Nat) : Prop := ∃ h : b < L.length, (∀ i (hi : i < L.length), i < b → costL r.strs L[b] < costL r.strs L[i]) ∧ ∀ i (hi : i < L.length), i < k → costL r.strs L[b] ≤ costL r.strs L[i]
theorem LL.snoc {w : World} {cs : List Value} {L : List (List Int)} {u : Value} {l : List Int} (h : LL w cs L) (hu : Ints w u l) : LL w (cs ++ [u]) (L ++ [l]) := by
  refine ⟨by simp [h.1], fun i h1 h2 => ?_⟩
  by_cases hi : i < cs.length
  · rw [List.getElem_append_left hi, List.getElem_append_left (by rw [← h.1]; exact hi)]
    exact h.2 i hi _
  · have e : i = cs.length := by simp at h1; omega
    subst e
    rw [List.getElem_append_right (by omega), List.getElem_append_right (by rw [h.1]; exact Nat.le_refl _)]
    simpa using hu
theorem firstMin_char {α : Type} {f : α → Int} : ∀ {L : List α} {m : α}, firstMin f L = some m → ∃ j, ∃ h : j < L.length, L[j] = m ∧ (∀ i (hi : i < L.length), i < j → f m < f L[i]) ∧ ∀ i (hi : i < L.length), f m ≤ f L[i]
  | [], _, h => by simp [firstMin] at h
  | x :: l, m, h => by
    have hle := firstMin_le h
    simp only [firstMin] at h
    cases hl : firstMin f l with
    | none =>
      rw [hl] at h
      injection h with h
      exact ⟨0, by simp, by simpa using h, fun i _ hi => absurd hi (by omega), fun i hi => hle _ (List.getElem_mem hi)⟩
    | some y =>
      rw [hl] at h
      simp only at h
      by_cases hy : f y < f x
      · rw [if_pos hy] at h
        injection h with h
        subst h
        obtain ⟨j, hj, e, h1, h2⟩ := firstMin_char hl
        refine ⟨j + 1, by simpa using hj, by simpa using e, fun i hi hij => ?_, fun i hi => hle _ (List.getElem_mem hi)⟩
        cases i with
        | zero => simpa using hy
        | succ i => simpa using h1 i (by simpa using hi) (by omega)
      · rw [if_neg hy] at h
        injection h with h
        exact ⟨0, by simp, by simpa using h, fun i _ hi => absurd hi (by omega), fun i hi => hle _ (List.getElem_mem hi)⟩

set_option maxRecDepth 20000 in
set_option maxHeartbeats 4000000 in
theorem rNews_any (v : Value) (r : Ros) (is : Bool) (w : World) (hv : RosAt w v r) :
    Calls Try.prog 72 #[v, .bool is] w fun e w' => ∃ v', e = .returned (.tuple #[v', I (newsE r is)]) ∧ ∃ cs, Reads w' 1 v' cs.length cs ∧ LL w' cs (newsV r is) ∧ Below w.heap.size w w' := by
  obtain ⟨iT, hiT, hzT0, hzT1, hzT2⟩ := info_parts (P := Try.prog) (e := 22) (z := .slice none 0 0) (size := 1) (bytes := 24) (by kernel_rfl)
  have h02 : 0 < 1 := by omega
  obtain ⟨rv, sv, rfl, hr, hs⟩ := hv
  obtain ⟨A1, c1, rfl, hr1, hr2, -⟩ := hr.open_
  obtain ⟨A2, c2, rfl, hs1, hs2, -⟩ := hs.open_
  have HR := Lib.hid hr
  have HS := Lib.hid hs
  clear hr hs
  have S := Lib.hid (show St w (w.alloc (.cells #[.slice A1 r.room.length c1, .slice A2 r.strs.length c2] 25)) (w.heap.size + 1) [.box w.heap.size [.slice A1 r.room.length c1, .slice A2 r.strs.length c2]] from (St.init w).alloc [.slice A1 r.room.length c1, .slice A2 r.strs.length c2] 25)
  have q0 := S.out.get 0 0 rfl rfl
  have q1 := S.out.get 0 1 rfl rfl
  go_enter Try.func72, Try.ntmps72
  go_wp2_with fail
  clear q0 q1
  refine (rAsk_any _ r is _ ⟨_, _, rfl, HR.out.below S.out.bel, HS.out.below S.out.bel⟩).mono ?_
  rintro e w1 ⟨rfl, hb⟩
  have S := Lib.hid (S.out.call hb)
  clear hb
  by_cases ha : askE r is = 0
  · have HVD := Lib.hid (valid_iff.1 (askE_zero.1 ha).1)
    have HNE := Lib.hid (show newsE r is = if newsL r = [] then 3 else 0 by unfold newsE; rw [if_pos ha])
    rw [ha]
    clear ha
    have q0 := S.out.get 0 0 rfl rfl
    have q1 := S.out.get 0 1 rfl rfl
    go_wp2_with fail
    clear q0 q1
    refine (lists_any r HVD.out r.strs.length _ _ [] _ ⟨_, _, rfl, HR.out.below S.out.bel, HS.out.below S.out.bel⟩ (ints_nil _) (by simp)).mono ?_
    rintro e w2 ⟨vl, rfl, asl, hown, hll, -, -, hb⟩
    rw [show r.strs.drop ([] : List Int).length = r.strs from rfl] at hll
    have S := Lib.hid (S.out.call hb)
    clear hb
    obtain ⟨L, hL⟩ : ∃ x, allFrom r.strs [] = x := ⟨_, rfl⟩
    have hnl : newsL r = newTo r L L.length := by unfold newsL newTo; rw [hL, List.take_length]
    have hmem : ∀ l ∈ L, l.length ≤ 1000 := fun l hl => by
      rw [← hL] at hl
      have := allFrom_mem _ _ _ hl
      have := HVD.out.sl
      simp at *
      omega
    have hcap : L.length ≤ 262144 := by
      rw [← hL]
      exact Nat.le_trans (allFrom_len _ HVD.out.strs _) (pow8 HVD.out.sl)
    rw [hL] at hll
    have HNL := Lib.hid hnl
    have HMEM := Lib.hid hmem
    have HLL := Lib.hid hll
    have hrd := Reads.of_own hown
    obtain ⟨-, Al, cl, rfl, hl1, hl2, hlc⟩ := id hrd
    have HRD := Lib.hid hrd
    have HLC := Lib.hid hlc
    have haL : asl.length = L.length := hll.1
    clear hL hnl hmem hll hrd hlc hown
    have T := Lib.hid ((St.init w2).nil 22 1)
    go_wp2_with fail
    go_loopw [7, 9] (fun u i wr => ∃ (k : Nat) (vo : Value) (cs : List Value), k ≤ asl.length ∧ vo = u ∧ i = I k ∧ Hid (LL w2 cs (newTo r L k)) ∧ Hid (St w2 wr wr.heap.size [.own 22 1 vo cs.length cs])) (fun _ i _ => asl.length - (intOf i).toNat)
    case atStart => exact ⟨0, _, [], by omega, rfl, rfl, Lib.hid ⟨rfl, fun i h1 _ => absurd h1 (by simp)⟩, Lib.hid T.out.fix⟩
    case round =>
      clear T
      obtain ⟨k, vo, cs, hk, rfl, rfl, HC, T⟩ := hrel
      by_cases hlt : k < asl.length
      · have hki : (k : Int) < (asl.length : Int) := by omega
        have hkL : k < L.length := by omega
        obtain ⟨bl, ol, e, hcl⟩ := HLC.out (by omega)
        subst e
        have y0 := hcl k asl[k] (List.getElem?_eq_getElem hlt)
        have hin := HLL.out.2 k hlt hkL
        obtain ⟨u, hu⟩ : ∃ x, asl[k] = x := ⟨_, rfl⟩
        rw [hu] at y0 hin
        have hin0 := hin
        obtain ⟨-, Au, cu, rfl, -⟩ := hin
        have HIN := Lib.hid hin0
        have Y0 := Lib.hid y0
        have hm := HMEM.out _ (List.getElem_mem hkL)
        obtain ⟨l, hl⟩ : ∃ x, L[k] = x := ⟨_, rfl⟩
        rw [hl] at HIN hm Y0
        have HL := Lib.hid hl
        clear hcl hin0 y0 hl hu
        go_wp2_with fail
        refine wp_region_seg [([0, 1, 2, 3, 4], 5)] [] [] 6 (by kernel_rfl) (by kernel_rfl) ?_
        intro KQ hKQ w4 hb
        have T := Lib.hid (T.out.call hb)
        clear hb
        have q0 := cell_regrown (keep_cell T.out.bel (S.out.get 0 0 rfl rfl))
        have q1 := cell_regrown (keep_cell T.out.bel (S.out.get 0 1 rfl rfl))
        have y0 := cell_regrown (keep_cell T.out.bel Y0.out)
        refine seg_next ?_
        simp only [opsAt, List.filterMap_cons, List.filterMap_nil, List.getElem?_toArray, List.getElem?_cons_succ, List.getElem?_cons_zero]
        repeat (first | go_big_quiet_step (fail) | quiet_step (fail))
        refine wpQuiet_nil ?_
        intro K hK
        refine loud_op rfl rfl ?_
        go_simp
        refine (isNew_any _ _ r l _ ⟨_, _, rfl, HR.out.below (bto S.out.bel T.out.bel), HS.out.below (bto S.out.bel T.out.bel)⟩ HVD.out (HIN.out.below T.out.bel) hm).mono ?_
        rintro e w5 ⟨rfl, hb⟩
        have T := Lib.hid (T.out.call hb)
        refine hK _ _ hb ?_
        clear hK K hb q0 q1 y0
        refine seg_last ?_
        simp only [opsAt, List.filterMap_nil]
        refine wpQuiet_nil ?_
        have hcl2 : cs.length ≤ 262144 := by
          rw [HC.out.1]
          unfold newTo
          have := List.length_filter_le (newB r) (L.take k)
          rw [List.length_take] at this
          omega
        cases hn : newB r l
        · have HNX := Lib.hid (newTo_no (r := r) hkL (by rw [HL.out, hn]))
          go_wp2_with fail
          try go_frame
          go_roundw
          case rel => exact ⟨k + 1, vo, cs, by omega, rfl, by go_num, Lib.hid (by rw [HNX.out]; exact HC.out), T⟩
          case measure => first | (simp [intOf]; done) | (simp [intOf]; omega)
        · have HNX := Lib.hid (newTo_yes (r := r) hkL (by rw [HL.out, hn]))
          rw [HL.out] at HNX
          clear hn
          have y0 := keep_cell T.out.bel Y0.out
          have h63 : cs.length + 1 ≤ maxLen := by simp only [maxLen]; omega
          have hby : (cs.length + 1) * 24 ≤ 140737488355328 := by omega
          have T := Lib.hid (T.out.alloc [.slice Au l.length cu] 22)
          go_wp2_with (at_builtin; refine wpList_append_St T.out 1 rfl _ _ 78 rfl 22 iT (.slice none 0 0) 1 24 Try.underlying78 hiT hzT0 hzT1 hzT2 rfl h02 rfl rfl _ 1 [.slice Au l.length cu] rfl (reads_box1 (T.out.get 0 0 rfl rfl)) (fun u hu => by rw [List.mem_singleton.1 hu]; rfl) h63 hby ?_; intro v' w6 hS6; have T := Lib.hid hS6.tail; clear hS6)
          clear y0
          try go_frame
          go_roundw
          case rel => exact ⟨k + 1, _, cs ++ [.slice Au l.length cu], by omega, rfl, by go_num, Lib.hid (by rw [HNX.out]; exact HC.out.snoc HIN.out), Lib.hid (by rw [List.length_append]; exact T.out)⟩
          case measure => first | (simp [intOf]; done) | (simp [intOf]; omega)
      · obtain rfl : k = asl.length := by omega
        rw [haL, ← HNL.out] at HC
        have hcs := HC.out.1
        obtain ⟨Ac, cc, rfl⟩ := own_shape (T.out.own 0 rfl)
        by_cases hnil : newsL r = []
        · rw [if_pos hnil] at HNE
          have hz : ((cs.length : Int) == 0) = true := by rw [hcs, hnil]; rfl
          have hz2 : cs.length = 0 := by rw [hcs, hnil]; rfl
          clear hcs hnil
          go_wp2_with fail
          go_ret2
          exact ⟨.slice none 0 0, by rw [HNE.out]; rfl, [], reads_nil _, by unfold newsV; rw [if_neg (by rw [HNE.out]; simp)]; exact ⟨rfl, fun i h1 _ => absurd h1 (by simp)⟩, bto S.out.bel T.out.bel⟩
        · rw [if_neg hnil] at HNE
          have hpos : cs.length ≠ 0 := by rw [hcs]; intro e; exact hnil (List.length_eq_zero_iff.1 e)
          have hz : ((cs.length : Int) == 0) = false := by rw [beq_eq_false_iff_ne]; omega
          have hz1 : ¬ (cs.length : Int) = 0 := by omega
          have hz3 : ¬ cs = [] := fun e => hpos (by rw [e]; rfl)
          clear hcs hnil
          go_wp2_with fail
          go_ret2
          exact ⟨_, by rw [HNE.out]; rfl, cs, T.out.row 0 rfl, by unfold newsV; rw [if_pos HNE.out]; exact HC.out.below T.out.bel, bto S.out.bel T.out.bel⟩
  · have hnz : newsE r is = askE r is := by unfold newsE; rw [if_neg ha]
    obtain ⟨er, her⟩ : ∃ x, askE r is = x := ⟨_, rfl⟩
    have hq : (er != 0) = true := by rw [← her]; simpa using ha
    have HNZ := Lib.hid (hnz.trans her)
    have HNE := Lib.hid (show er ≠ 0 from by rw [← her]; exact ha)
    rw [her]
    clear ha her hnz
    go_wp2_with fail
    go_ret2
    exact ⟨.slice none 0 0, by rw [HNZ.out]; rfl, [], reads_nil _, by unfold newsV; rw [if_neg (by rw [HNZ.out]; exact HNE.out)]; exact ⟨rfl, fun i h1 _ => absurd h1 (by simp)⟩, S.out.bel⟩

set_option maxRecDepth 20000 in
set_option maxHeartbeats 4000000 in
theorem rLeast0_any (v v2 : Value) (r : Ros) (asl : List Value) (L : List (List Int)) (m : List Int) (w : World) (hv : RosAt w v r) (hvd : ROk r) (hr : Reads w 1 v2 asl.length asl) (hll : LL w asl L) (hnew : ∀ l ∈ L, newB r l = true) (hm : firstMin (costL r.strs) L = some m) :
    Calls Try.prog 73 #[v, v2] w fun e w' => ∃ v', e = .returned v' ∧ Ints w' v' m ∧ Below w.heap.size w w' := by
  obtain ⟨rv, sv, rfl, hr, hs⟩ := hv
  obtain ⟨A1, c1, rfl, hr1, hr2, -⟩ := hr.open_
  obtain ⟨A2, c2, rfl, hs1, hs2, -⟩ := hs.open_
  have HR := Lib.hid hr
  have HS := Lib.hid hs
  clear hr hs
  have S := Lib.hid (show St w (w.alloc (.cells #[.slice A1 r.room.length c1, .slice A2 r.strs.length c2] 25)) (w.heap.size + 1) [.box w.heap.size [.slice A1 r.room.length c1, .slice A2 r.strs.length c2]] from (St.init w).alloc [.slice A1 r.room.length c1, .slice A2 r.strs.length c2] 25)
  obtain ⟨-, Al, cl, rfl, hl1, hl2, hlc⟩ := id hr
  have HLC := Lib.hid hlc
  have HLL := Lib.hid hll
  have HNEW := Lib.hid hnew
  have HVD := Lib.hid hvd
  have haL : asl.length = L.length := hll.1
  obtain ⟨j, hj, hje, hjlt, hjle⟩ := firstMin_char hm
  have HJ := Lib.hid (And.intro hje (And.intro hjlt hjle))
  have hpos : 0 < asl.length := by omega
  have hposi : (0 : Int) < (asl.length : Int) := by omega
  obtain ⟨bl, ol, e, hcl⟩ := hlc hpos
  subst e
  have HCL := Lib.hid hcl
  have y0 := hcl 0 asl[0] (List.getElem?_eq_getElem hpos)
  rw [Nat.add_zero] at y0
  have y0 := keep_cell S.out.bel y0
  have HAL := Lib.hid haL
  clear hlc hll hnew hvd hje hjlt hjle hcl hr hm haL
  go_enter Try.func73, Try.ntmps73
  go_wp2_with fail
  clear y0
  go_loopw [5, 6] (fun u i wr => ∃ (k b : Nat) (ub : Value), k ≤ asl.length ∧ ub = u ∧ asl[b]? = some ub ∧ i = I k ∧ Hid (BestTo r L b k) ∧ Hid (St w wr wr.heap.size [.box w.heap.size [.slice A1 r.room.length c1, .slice A2 r.strs.length c2]])) (fun _ i _ => asl.length - (intOf i).toNat)
  case atStart => exact ⟨0, 0, _, by omega, rfl, List.getElem?_eq_getElem hpos, rfl, Lib.hid ⟨by have := HAL.out; omega, fun i _ h => absurd h (by omega), fun i _ h => absurd h (by omega)⟩, Lib.hid S.out.fix⟩
  case round =>
    clear S
    obtain ⟨k, b, ub, hk, rfl, hub0, rfl, HI, S⟩ := hrel
    obtain ⟨hb2, -⟩ := HI.out
    have hb : b < asl.length := by have := HAL.out; omega
    have hub : asl[b] = ub := by rw [List.getElem?_eq_getElem hb] at hub0; injection hub0
    have hinb := HLL.out.2 b hb hb2
    rw [hub] at hinb
    have HUB := Lib.hid hub0
    have hinb0 := hinb
    obtain ⟨-, Ab, cb, rfl, -⟩ := hinb
    have HINB := Lib.hid hinb0
    obtain ⟨lb, hlb⟩ : ∃ x, L[b] = x := ⟨_, rfl⟩
    rw [hlb] at HINB HUB
    rw [hlb]
    have HLB := Lib.hid hlb
    clear hinb0 hub hlb hub0
    by_cases hlt : k < asl.length
    · have hki : (k : Int) < (asl.length : Int) := by omega
      have hkL : k < L.length := by have := HAL.out; omega
      have y0 := HCL.out k asl[k] (List.getElem?_eq_getElem hlt)
      have hin := HLL.out.2 k hlt hkL
      obtain ⟨u, hu⟩ : ∃ x, asl[k] = x := ⟨_, rfl⟩
      rw [hu] at y0 hin
      have HU := Lib.hid hu
      have hin0 := hin
      obtain ⟨-, Au, cu, rfl, -⟩ := hin
      have HIN := Lib.hid hin0
      have Y0 := Lib.hid y0
      obtain ⟨l, hl⟩ : ∃ x, L[k] = x := ⟨_, rfl⟩
      rw [hl] at HIN HU Y0
      have HL := Lib.hid hl
      obtain ⟨ck, hck⟩ : ∃ x, costL r.strs l = x := ⟨_, rfl⟩
      obtain ⟨cbb, hcb⟩ : ∃ x, costL r.strs lb = x := ⟨_, rfl⟩
      have HCK := Lib.hid hck
      have HCB := Lib.hid hcb
      clear hin0 y0 hl hu hck hcb
      go_wp2_with fail
      refine wp_region_seg [([0, 1, 2, 3, 4, 6, 7], 5), ([], 8)] [9] [] 10 (by kernel_rfl) (by kernel_rfl) ?_
      intro KQ hKQ w4 hb
      have S := Lib.hid (S.out.call hb)
      clear hb
      have q0 := cell_regrown (S.out.get 0 0 rfl rfl)
      have q1 := cell_regrown (S.out.get 0 1 rfl rfl)
      have y0 := cell_regrown (keep_cell S.out.bel Y0.out)
      refine seg_next ?_
      simp only [opsAt, List.filterMap_cons, List.filterMap_nil, List.getElem?_toArray, List.getElem?_cons_succ, List.getElem?_cons_zero]
      repeat (first | go_big_quiet_step (fail) | quiet_step (fail))
      refine wpQuiet_nil ?_
      intro K hK
      refine loud_op rfl rfl ?_
      go_simp
      refine (costOf_any _ _ r l _ ⟨_, _, rfl, HR.out.below S.out.bel, HS.out.below S.out.bel⟩ HVD.out (HIN.out.below S.out.bel) (InL.of_new (HNEW.out _ (by rw [← HL.out]; exact List.getElem_mem _)))).mono ?_
      rintro e w5 ⟨rfl, hb⟩
      rw [HCK.out]
      have S := Lib.hid (S.out.call hb)
      refine hK _ _ hb ?_
      clear hK K hb q0 q1 y0
      refine seg_next ?_
      simp only [opsAt, List.filterMap_nil]
      refine wpQuiet_nil ?_
      intro K hK
      refine loud_op rfl rfl ?_
      go_simp
      refine (costOf_any _ _ r lb _ ⟨_, _, rfl, HR.out.below S.out.bel, HS.out.below S.out.bel⟩ HVD.out (HINB.out.below S.out.bel) (InL.of_new (HNEW.out _ (by rw [← HLB.out]; exact List.getElem_mem _)))).mono ?_
      rintro e w5 ⟨rfl, hb⟩
      rw [HCB.out]
      have S := Lib.hid (S.out.call hb)
      refine hK _ _ hb ?_
      clear hK K hb
      refine seg_last ?_
      simp only [opsAt, List.filterMap_cons, List.filterMap_nil, List.getElem?_toArray, List.getElem?_cons_succ, List.getElem?_cons_zero]
      repeat (first | go_big_quiet_step (fail) | quiet_step (fail))
      refine wpQuiet_nil ?_
      have y0 := keep_cell S.out.bel Y0.out
      by_cases hlc : ck < cbb
      · have HCC := Lib.hid hlc
        go_wp2_with fail
        try go_frame
        go_roundw
        case rel => exact ⟨k + 1, k, _, by omega, rfl, by rw [List.getElem?_eq_getElem hlt, HU.out], by go_num, Lib.hid ⟨hkL, fun i hi hik => by
          have := HI.out.2.2 i hi hik
          rw [HLB.out, HCB.out] at this
          rw [HL.out, HCK.out]
          have := HCC.out
          omega, fun i hi hik => by
          rw [HL.out, HCK.out]
          by_cases e : i = k
          · subst e; rw [HL.out, HCK.out]; exact Int.le_refl _
          · have := HI.out.2.2 i hi (by omega)
            rw [HLB.out, HCB.out] at this
            have := HCC.out
            omega⟩, S⟩
        case measure => first | (simp [intOf]; done) | (simp [intOf]; omega)
      · have HCC := Lib.hid hlc
        go_wp2_with fail
        try go_frame
        go_roundw
        case rel => exact ⟨k + 1, b, _, by omega, rfl, HUB.out, by go_num, Lib.hid ⟨hb2, HI.out.2.1, fun i hi hik => by
          by_cases e : i = k
          · subst e; rw [HL.out, HCK.out, HLB.out, HCB.out]; have := HCC.out; omega
          · exact HI.out.2.2 i hi (by omega)⟩, S⟩
        case measure => first | (simp [intOf]; done) | (simp [intOf]; omega)
    · obtain rfl : k = asl.length := by omega
      have hbj : lb = m := by
        obtain ⟨e1, e2, e3⟩ := HJ.out
        have i1 := HI.out.2.1
        have i2 := HI.out.2.2
        have hbj : b = j := by
          rcases Nat.lt_trichotomy b j with h | h | h
          · have a := e2 b hb2 h
            have c := i2 j hj (by have := HAL.out; omega)
            rw [e1] at c
            omega
          · exact h
          · have a := i1 j hj h
            have c := e3 b hb2
            rw [e1] at a
            omega
        rw [← HLB.out, ← e1]
        congr 1
      have HBJ := Lib.hid hbj
      clear hbj
      go_wp2_with fail
      go_ret
      exact ⟨_, rfl, by have q := HINB.out.below S.out.bel; rw [HBJ.out] at q ⊢; exact q, S.out.bel⟩

end Go.Proofs.Ytokendenofbnhaa

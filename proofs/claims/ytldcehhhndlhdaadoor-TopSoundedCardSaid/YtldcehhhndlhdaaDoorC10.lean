/- Walks: TrailingZeros of small numbers; the list of some worlds. -/
import Derived.Test.YtldcehhhndlhdaaDoorC9
import Derived.Shelf.Abstract
import Derived.Test.YtldcehhhndlhdaaDoorC5
import Derived.Test.YtldcehhhndlhdaaDoorC7
namespace Go.Proofs.YtldcehhhndlhdaaDoor
open Go.RowKit Go.Sort Go.Shelf

/-- The table of the library, as far as small numbers ask it. -/
def TzAt (w : World) : Prop := ∀ k : Fin 6, w.cell? ⟨2, [0, 1, 3, 7, 15, 31].getD k.val 0, none⟩ = some (.int .u8 (k.val : Int))
theorem TzAt.below {w w' : World} (h : TzAt w) (hb : Below w.heap.size w w') : TzAt w' := fun k => keep_cell hb (h k)
/-- The first bit of a small number; the number without it; its bits. -/
def tzN (s : Nat) : Nat := ((List.range 6).find? fun i => s / 2 ^ i % 2 == 1).getD 0
def lowN (s : Nat) : Nat := s - 2 ^ tzN s
def listN (s : Nat) : List Int := ((List.range 6).filter fun i => s / 2 ^ i % 2 == 1).map fun i : Nat => (i : Int)
theorem tz_small : ∀ s : Fin 64, s.val ≠ 0 → tzN s.val < 6 ∧ IntKind.u64.wrap (bits BinOp.and IntKind.u64 (s.val : Int) (IntKind.u64.wrap (-(s.val : Int))) * 285870213051353865) / 288230376151711744 = (([0, 1, 3, 7, 15, 31].getD (tzN s.val) 0 : Nat) : Int) := by decide +kernel
theorem low_small : ∀ s : Fin 64, s.val ≠ 0 → bits BinOp.and IntKind.u64 (s.val : Int) (IntKind.u64.wrap ((s.val : Int) - 1)) = (lowN s.val : Int) ∧ lowN s.val < s.val ∧ listN s.val = (tzN s.val : Int) :: listN (lowN s.val) := by decide +kernel
theorem listN_zero : listN 0 = [] := by decide
theorem list_len : ∀ s : Fin 64, (listN s.val).length ≤ 6 := by decide +kernel

set_option maxRecDepth 20000 in
set_option maxHeartbeats 400000 in
theorem tz64_any (s : Nat) (w : World) (h0 : s ≠ 0) (h64 : s < 64) (hT : TzAt w) :
    Calls Tryd.prog 93 #[.int .u64 s] w fun e w' => e = .returned (I (tzN s)) ∧ w = w' := by
  obtain ⟨h6, he⟩ := tz_small ⟨s, h64⟩ h0
  have hc := hT ⟨tzN s, h6⟩
  dsimp only at he hc h6
  have hs0 : ((s : Int) == 0) = false := by simp; omega
  obtain ⟨ix, hix⟩ : ∃ x : Nat, [0, 1, 3, 7, 15, 31].getD (tzN s) 0 = x := ⟨_, rfl⟩
  rw [hix] at he hc
  have hl : ix < 64 := by
    rw [← hix]
    have : ∀ k : Fin 6, [0, 1, 3, 7, 15, 31].getD k.val 0 < 64 := by decide
    exact this ⟨_, h6⟩
  have hli : (ix : Int) < 64 := by omega
  obtain ⟨z, hz⟩ : ∃ z, tzN s = z := ⟨_, rfl⟩
  rw [hz] at hc h6 ⊢
  clear hix hz hT h0 h64
  have hz6 : (z : Int) < 6 := by omega
  go_enter Tryd.func93, Tryd.ntmps93
  go_wp2_with fail
  go_ret
  exact ⟨rfl, rfl⟩

set_option maxRecDepth 20000 in
set_option maxHeartbeats 400000 in
theorem tz_any (s : Nat) (w : World) (h0 : s ≠ 0) (h64 : s < 64) (hT : TzAt w) :
    Calls Tryd.prog 63 #[.int .u64 s] w fun e w' => e = .returned (I (tzN s)) ∧ w = w' := by
  go_enter Tryd.func63, Tryd.ntmps63
  go_wp2_with fail
  refine (tz64_any s _ h0 h64 hT).mono ?_
  rintro e w1 ⟨rfl, rfl⟩
  go_wp2_with fail
  go_ret
  exact ⟨rfl, rfl⟩

set_option maxRecDepth 20000 in
set_option maxHeartbeats 2000000 in
theorem qlist_any (s : Nat) (w : World) (h64 : s < 64) (hT : TzAt w) :
    Calls Tryd.prog 46 #[.int .u64 s] w fun e w' => ∃ v, e = .returned v ∧ w'.ownsRow w.heap.size 3 1 v (listN s).length ((listN s).map I) ∧ Below w.heap.size w w' := by
  have S := Lib.hid ((St.init w).nil 3 1)
  have HT := Lib.hid hT
  have H64 := Lib.hid h64
  obtain ⟨i0, hi, hz0, hz1, hz2⟩ := info_parts Tryd.info3
  have h02 : 0 < 1 := by decide
  clear hT
  go_enter Tryd.func46, Tryd.ntmps46
  go_wp2_with fail
  go_loopw [0, 3] (fun u v wr => ∃ (r : Nat) (l : List Int) (A : Option Addr) (c : Nat), Hid (r < 64 ∧ l ++ listN r = listN s) ∧ u = .int .u64 r ∧ v = .slice A l.length c ∧ Hid (St w wr wr.heap.size [.own 3 1 (.slice A l.length c) l.length (l.map I)])) (fun u _ _ => (intOf u).toNat)
  case atStart => exact ⟨s, [], none, 0, Lib.hid ⟨h64, rfl⟩, rfl, rfl, S⟩
  case round =>
    clear S
    obtain ⟨r, l, A, c, HR, rfl, rfl, S⟩ := hrel
    by_cases hr0 : r = 0
    · have HF := Lib.hid (show l = listN s by have := HR.out.2; rw [hr0, listN_zero, List.append_nil] at this; exact this)
      subst hr0
      go_wp2_with fail
      go_ret
      exact ⟨_, rfl, by rw [← HF.out]; exact S.out.own 0 rfl, S.out.bel⟩
    · have hrq : ((r : Int) == 0) = false := by simp; omega
      obtain ⟨e1, e2, e3⟩ := low_small ⟨r, HR.out.1⟩ hr0
      dsimp only at e1 e2 e3
      have HE := Lib.hid (And.intro e2 e3)
      have hlen : l.length ≤ 6 := by
        have h1 := list_len ⟨s, H64.out⟩
        dsimp only at h1
        rw [← HR.out.2] at h1
        simp at h1
        omega
      have h63 : l.length + 1 ≤ maxLen := by simp only [maxLen]; omega
      have hby : (l.length + 1) * 8 ≤ 140737488355328 := by omega
      obtain ⟨q, hq⟩ : ∃ q, lowN r = q := ⟨_, rfl⟩
      obtain ⟨z, hz⟩ : ∃ z, tzN r = z := ⟨_, rfl⟩
      rw [hq] at e1
      have HQ := Lib.hid hq
      have HZ := Lib.hid hz
      clear e2 e3 hq hz
      go_wp2_with fail
      refine (tz_any r _ hr0 HR.out.1 (HT.out.below S.out.bel)).mono ?_
      rintro e w1 ⟨rfl, rfl⟩
      rw [HZ.out]
      have T := Lib.hid (S.out.alloc [I (z : Nat)] 3)
      go_wp2_with (at_builtin; refine wpList_append_St T.out 1 rfl _ _ 53 rfl 3 i0 (.int .i64 0) 1 8 Tryd.underlying53 hi hz0 hz1 hz2 rfl h02 rfl rfl _ 1 [I (z : Nat)] rfl (reads_box1 (T.out.get 0 0 rfl rfl)) (ints_one [(z : Int)]) h63 hby ?_; intro v5 w5 hS5; have S := Lib.hid hS5; clear hS5)
      obtain ⟨A', c', rfl⟩ := own_shape (S.out.own 1 rfl)
      go_roundw
      case rel => exact ⟨q, l ++ [(z : Int)], A', c', Lib.hid ⟨by have := HE.out.1; have := HQ.out; have := HR.out.1; omega, by rw [List.append_assoc, ← HR.out.2, HE.out.2, HQ.out, HZ.out]; rfl⟩, rfl, by simp, Lib.hid (by have h := S.out.fix.tail; simpa using h)⟩
      case measure => have := HE.out.1; have := HQ.out; simp [intOf]; omega

end Go.Proofs.YtldcehhhndlhdaaDoor
/- Walks: a court that is opened. -/
namespace Go.Proofs.YtldcehhhndlhdaaDoor
open Go.RowKit Go.Sort Go.Shelf

/-- Whether a world agrees with a fact; with all facts; the worlds that are left, a bit for each. -/
def agrQ (ls : List (List Int)) (f : QFact) : Bool := inR (fallQ ls f.fr.toNat f.to.toNat * f.many) f.low f.high
def okW (t : QTown) (n : Nat) : Bool := t.fcs.all fun f => agrQ (t.wds.getD n []) f
def maskQ (t : QTown) : Nat → Nat
  | 0 => 0
  | k + 1 => maskQ t k + if okW t k then 2 ^ k else 0
theorem maskQ_lt (t : QTown) : ∀ k, maskQ t k < 2 ^ k
  | 0 => by simp [maskQ]
  | k + 1 => by
    have := maskQ_lt t k
    simp only [maskQ]
    rw [Nat.pow_succ]
    split <;> omega
/-- What must be so of a fact, that a world can be asked. -/
structure GoodF (ls : List (List Int)) (f : QFact) : Prop where
  fr : 0 ≤ f.fr ∧ f.fr.toNat < ls.length
  to : 0 ≤ f.to
  row : ∀ h : f.fr.toNat < ls.length, f.to.toNat < (ls[f.fr.toNat]).length
  bd : 0 ≤ fallQ ls f.fr.toNat f.to.toNat ∧ fallQ ls f.fr.toNat f.to.toNat ≤ 9
  many : 1 ≤ f.many ∧ f.many ≤ 9
theorem qValid_spec {t : QTown} (h : qValid t = true) : 0 ≤ t.wells ∧ t.wells ≤ 4 ∧ t.wds.length ≤ 6 ∧ t.fcs.length ≤ 6 ∧ (∀ ls ∈ t.wds, (ls.length : Int) = t.wells ∧ ∀ l ∈ ls, (l.length : Int) = t.wells ∧ ∀ x ∈ l, 0 ≤ x ∧ x ≤ 9) ∧ ∀ f ∈ t.fcs, (0 ≤ f.fr ∧ f.fr < t.wells) ∧ (0 ≤ f.to ∧ f.to < t.wells) ∧ (1 ≤ f.many ∧ f.many ≤ 9) ∧ (0 ≤ f.low ∧ f.low ≤ f.high) ∧ f.high ≤ 99 := by
  unfold qValid at h
  simp only [Bool.and_eq_true, decide_eq_true_eq, Bool.not_eq_true', List.any_eq_false, inR] at h
  obtain ⟨⟨⟨⟨h1, h2⟩, h3⟩, h4⟩, h5⟩ := h
  refine ⟨h1.1, h1.2, h2, h4, fun ls hls => ?_, fun f hf => ?_⟩
  · have h6 := h3 ls hls
    unfold badWd at h6
    simp only [Bool.or_eq_true, decide_eq_true_eq, List.any_eq_true, not_or, not_exists, not_and, Classical.not_not] at h6
    refine ⟨by simpa using h6.1, fun l hl => ?_⟩
    have h7 := h6.2 l hl
    unfold badRow inR at h7
    simp at h7
    refine ⟨h7.1, fun x hx => ?_⟩
    have := h7.2 x hx
    omega
  · have h6 := h5 f hf
    unfold badFct inR at h6
    simp at h6
    omega
theorem good_of {t : QTown} (h : qValid t = true) {ls : List (List Int)} (hls : ls ∈ t.wds) {f : QFact} (hf : f ∈ t.fcs) : GoodF ls f := by
  obtain ⟨h1, h2, h3, h4, h5, h6⟩ := qValid_spec h
  obtain ⟨a1, a2⟩ := h5 ls hls
  obtain ⟨b1, b2, b3, b4, b5⟩ := h6 f hf
  have hfr : f.fr.toNat < ls.length := by omega
  obtain ⟨c1, c2⟩ := a2 _ (List.getElem_mem hfr)
  have hto : f.to.toNat < (ls[f.fr.toNat]).length := by omega
  refine ⟨⟨b1.1, hfr⟩, b2.1, fun _ => hto, ?_, b3⟩
  have e : fallQ ls f.fr.toNat f.to.toNat = ls[f.fr.toNat][f.to.toNat] := by simp [fallQ, List.getElem?_eq_getElem hfr, List.getElem?_eq_getElem hto]
  rw [e]
  exact c2 _ (List.getElem_mem hto)

theorem agreesF_any (v : Value) (ls : List (List Int)) (f : QFact) (w : World) (hv : QWAt w v ls) (hg : GoodF ls f) :
    Calls Tryd.prog 44 #[v, f.val] w fun e w' => e = .returned (.bool (agrQ ls f)) ∧ Below w.heap.size w w' := by
  obtain ⟨⟨g1, g2⟩, g3, g4, g5, g6⟩ := hg
  have e1 : f.fr = ((f.fr.toNat : Nat) : Int) := by omega
  have e2 : f.to = ((f.to.toNat : Nat) : Int) := by omega
  have h := agrees_any v ls f.fr.toNat f.to.toNat f.many f.low f.high w hv g2 (g4 g2) g5 g6
  rw [← e1, ← e2] at h
  exact h
set_option maxRecDepth 20000 in
set_option maxHeartbeats 1000000 in
theorem qa1_any (fv : Value) (ls : List (List Int)) (f : QFact) (bx : Nat) (w : World) (hx : w.cell? ⟨bx, 0, none⟩ = some fv) (hl : LL w fv ls) (hg : GoodF ls f) :
    Calls Tryd.prog 62 #[f.val, .pointer (some ⟨bx, 0, none⟩)] w fun e w' => e = .returned (.bool (!agrQ ls f)) ∧ Below w.heap.size w w' := by
  have HX := Lib.hid hx
  have HL := Lib.hid hl
  obtain ⟨A, c, rfl, -, -, -⟩ := id hl.open_
  have hlx := World.block_lt_of_cell? w _ hx
  dsimp only at hlx
  have S := Lib.hid (show St w (w.alloc (.cells #[I f.fr, I f.many, I f.to, I f.low, I f.high] 49)) (w.heap.size + 1) [.box w.heap.size [I f.fr, I f.many, I f.to, I f.low, I f.high]] from (St.init w).alloc [I f.fr, I f.many, I f.to, I f.low, I f.high] 49)
  clear hl
  unfold QFact.val
  go_enter Tryd.func62, Tryd.ntmps62
  go_wp2_with fail
  refine (agreesF_any _ ls f _ ⟨_, rfl, HL.out.below S.out.bel⟩ hg).mono ?_
  rintro e w1 ⟨rfl, hb⟩
  have S := Lib.hid (S.out.call hb)
  clear hb hx hlx
  go_wp2_with fail
  go_ret
  exact ⟨rfl, S.out.bel⟩

set_option maxRecDepth 20000 in
set_option maxHeartbeats 2000000 in
theorem qAIx_no (v : Value) (xs : List QFact) (fv : Value) (ls : List (List Int)) (bx : Nat) (w : World) (hr : Fcts w v xs) (hx : w.cell? ⟨bx, 0, none⟩ = some fv) (hl : LL w fv ls) (hg : ∀ f ∈ xs, GoodF ls f) (hn : xs.any (fun f => !agrQ ls f) = false) :
    Calls Tryd.prog 108 #[v, .func (.func 62) #[] #[.pointer (some ⟨bx, 0, none⟩)]] w fun e w' => e = .returned (I (-1)) ∧ Below w.heap.size w w' := by
  obtain ⟨A, c, rfl, hnc, hcm, hc⟩ := hr.open_
  have HC := Lib.hid hc
  have HN := Lib.hid hn
  have HR := Lib.hid hr
  have HX := Lib.hid hx
  have HL := Lib.hid hl
  have HG := Lib.hid hg
  clear hc hn hr hx hl hg
  go_enter Tryd.func108, Tryd.ntmps108
  go_wp2_with fail
  go_loopw [8] (fun i wr => ∃ k : Nat, k ≤ xs.length ∧ i = I k ∧ Hid (Below w.heap.size w wr)) (fun i _ => xs.length - (intOf i).toNat)
  case atStart => exact ⟨0, by omega, rfl, Lib.hid (Below.refl _ _)⟩
  case round =>
    obtain ⟨k, hk, rfl, hbw⟩ := hrel
    by_cases hlt : k < xs.length
    · have hb : (fun f => !agrQ ls f) xs[k] = false := by
        have := HN.out
        simp only [List.any_eq_false] at this
        simpa using this _ (List.getElem_mem hlt)
      obtain ⟨b, o, rfl, hbl, hcell⟩ := HC.out (by omega)
      obtain ⟨f0, f1, f2, f3, f4⟩ := hcell k hlt
      have y0 := keep_cell hbw.out f0
      have y1 := keep_cell hbw.out f1
      have y2 := keep_cell hbw.out f2
      have y3 := keep_cell hbw.out f3
      have y4 := keep_cell hbw.out f4
      have hgk := HG.out _ (List.getElem_mem hlt)
      obtain ⟨f, hfe⟩ : ∃ f, xs[k] = f := ⟨_, rfl⟩
      rw [hfe] at y0 y1 y2 y3 y4 hgk
      have HGK := Lib.hid hgk
      rw [hfe] at hb
      clear hcell hfe hgk f0 f1 f2 f3 f4
      have HB := Lib.hid hb
      clear hb
      have hki : (k : Int) < (xs.length : Int) := by omega
      go_wp2_with fail
      clear y0 y1 y2 y3 y4
      refine (qa1_any fv ls f bx _ (keep_cell hbw.out HX.out) (HL.out.below hbw.out) HGK.out).mono ?_
      rintro e w' ⟨rfl, hb1⟩
      rw [HB.out]
      have hbw := Lib.hid (bto hbw.out hb1)
      clear hb1
      go_wp2_with fail
      go_roundw
      case rel => exact ⟨k + 1, by omega, by go_num, hbw⟩
      case measure => first | (simp [intOf]; done) | (simp [intOf]; omega)
    · go_wp2_with fail
      go_ret
      exact ⟨rfl, hbw.out⟩

set_option maxRecDepth 20000 in
set_option maxHeartbeats 2000000 in
theorem qAIx_yes (v : Value) (xs : List QFact) (fv : Value) (ls : List (List Int)) (bx : Nat) (w : World) (hr : Fcts w v xs) (hx : w.cell? ⟨bx, 0, none⟩ = some fv) (hl : LL w fv ls) (hg : ∀ f ∈ xs, GoodF ls f) (hn : xs.any (fun f => !agrQ ls f) = true) :
    Calls Tryd.prog 108 #[v, .func (.func 62) #[] #[.pointer (some ⟨bx, 0, none⟩)]] w fun e w' => RetNat w e w' := by
  obtain ⟨A, c, rfl, hnc, hcm, hc⟩ := hr.open_
  have HC := Lib.hid hc
  have HN := Lib.hid hn
  have HR := Lib.hid hr
  have HX := Lib.hid hx
  have HL := Lib.hid hl
  have HG := Lib.hid hg
  clear hc hn hr hx hl hg
  go_enter Tryd.func108, Tryd.ntmps108
  go_wp2_with fail
  go_loopw [8] (fun i wr => ∃ k : Nat, k ≤ xs.length ∧ i = I k ∧ (xs.drop k).any (fun f => !agrQ ls f) = true ∧ Hid (Below w.heap.size w wr)) (fun i _ => xs.length - (intOf i).toNat)
  case atStart => exact ⟨0, by omega, rfl, HN.out, Lib.hid (Below.refl _ _)⟩
  case round =>
    obtain ⟨k, hk, rfl, hd, hbw⟩ := hrel
    have hlt : k < xs.length := by
      apply Classical.byContradiction
      intro hge
      rw [List.drop_eq_nil_of_le (by omega)] at hd
      simp at hd
    rw [List.drop_eq_getElem_cons hlt, List.any_cons] at hd
    obtain ⟨b, o, rfl, hbl, hcell⟩ := HC.out (by omega)
    obtain ⟨f0, f1, f2, f3, f4⟩ := hcell k hlt
    have y0 := keep_cell hbw.out f0
    have y1 := keep_cell hbw.out f1
    have y2 := keep_cell hbw.out f2
    have y3 := keep_cell hbw.out f3
    have y4 := keep_cell hbw.out f4
    have hgk := HG.out _ (List.getElem_mem hlt)
    obtain ⟨f, hfe⟩ : ∃ f, xs[k] = f := ⟨_, rfl⟩
    rw [hfe] at y0 y1 y2 y3 y4 hgk
    have HGK := Lib.hid hgk
    rw [hfe] at hd
    clear hcell hfe hgk f0 f1 f2 f3 f4
    have HD := Lib.hid hd
    clear hd
    have hki : (k : Int) < (xs.length : Int) := by omega
    go_wp2_with fail
    clear y0 y1 y2 y3 y4
    refine (qa1_any fv ls f bx _ (keep_cell hbw.out HX.out) (HL.out.below hbw.out) HGK.out).mono ?_
    rintro e w' ⟨rfl, hb1⟩
    have hbw := Lib.hid (bto hbw.out hb1)
    clear hb1
    generalize hb : (!agrQ ls f) = pb
    rw [hb] at HD
    cases pb
    · have HB := Lib.hid hb
      clear hb
      go_wp2_with fail
      go_roundw
      case rel => exact ⟨k + 1, by omega, by go_num, by have := HD.out; simpa using this, hbw⟩
      case measure => first | (simp [intOf]; done) | (simp [intOf]; omega)
    · clear hb HD
      go_wp2_with fail
      go_ret
      exact ⟨k, rfl, hbw.out⟩

set_option maxRecDepth 20000 in
set_option maxHeartbeats 400000 in
theorem qACon_any (v : Value) (xs : List QFact) (fv : Value) (ls : List (List Int)) (bx : Nat) (w : World) (hr : Fcts w v xs) (hx : w.cell? ⟨bx, 0, none⟩ = some fv) (hl : LL w fv ls) (hg : ∀ f ∈ xs, GoodF ls f) :
    Calls Tryd.prog 91 #[v, .func (.func 62) #[] #[.pointer (some ⟨bx, 0, none⟩)]] w fun e w' => e = .returned (.bool (xs.any (fun f => !agrQ ls f))) ∧ Below w.heap.size w w' := by
  cases hb : xs.any (fun f => !agrQ ls f)
  · go_enter Tryd.func91, Tryd.ntmps91
    go_wp2_with fail
    refine (qAIx_no v xs fv ls bx _ hr hx hl hg hb).mono ?_
    rintro e w' ⟨rfl, hw⟩
    go_wp2_with fail
    go_ret
    exact ⟨rfl, hw⟩
  · go_enter Tryd.func91, Tryd.ntmps91
    go_wp2_with fail
    refine (qAIx_yes v xs fv ls bx _ hr hx hl hg hb).mono ?_
    rintro e w' ⟨k, rfl, hw⟩
    go_wp2_with fail
    go_ret
    exact ⟨rfl, hw⟩

set_option maxRecDepth 20000 in
set_option maxHeartbeats 400000 in
theorem qANone_any (v : Value) (xs : List QFact) (fv : Value) (ls : List (List Int)) (bx : Nat) (w : World) (hr : Fcts w v xs) (hx : w.cell? ⟨bx, 0, none⟩ = some fv) (hl : LL w fv ls) (hg : ∀ f ∈ xs, GoodF ls f) :
    Calls Tryd.prog 61 #[v, .func (.func 62) #[] #[.pointer (some ⟨bx, 0, none⟩)]] w fun e w' => e = .returned (.bool (!xs.any (fun f => !agrQ ls f))) ∧ Below w.heap.size w w' := by
  go_enter Tryd.func61, Tryd.ntmps61
  go_wp2_with fail
  refine (qACon_any v xs fv ls bx _ hr hx hl hg).mono ?_
  rintro e w' ⟨rfl, hw⟩
  go_wp2_with fail
  go_ret
  exact ⟨rfl, hw⟩

theorem qslice_inj {A A' : Option Addr} {n n' c c' : Nat} (h : Value.slice A n c = .slice A' n' c') : A = A' ∧ n = n' ∧ c = c' := by cases h; exact ⟨rfl, rfl, rfl⟩
theorem or_small : ∀ (k : Fin 6) (m : Fin 64), m.val < 2 ^ k.val → bits BinOp.or IntKind.u64 (m.val : Int) (IntKind.u64.wrap (2 ^ k.val)) = ((m.val + 2 ^ k.val : Nat) : Int) := by decide +kernel
theorem okW_any {t : QTown} {k : Nat} (hk : k < t.wds.length) {ls : List (List Int)} (hl : t.wds[k] = ls) : okW t k = !(t.fcs.any fun f => !agrQ ls f) := by
  subst hl
  unfold okW
  rw [show t.wds.getD k [] = t.wds[k] by simp [List.getElem?_eq_getElem hk]]
  simp [List.all_eq_not_any_not]
set_option maxRecDepth 20000 in
set_option maxHeartbeats 4000000 in
theorem qask_any (v : Value) (t : QTown) (w : World) (hv : QAt w v t) (hvd : qValid t = true) :
    Calls Tryd.prog 42 #[v, .bool true] w fun e w' => ∃ B, e = .returned (.tuple #[.pointer (some ⟨B, 0, none⟩), I 0]) ∧ w'.cell? ⟨B, 3, none⟩ = some (.int .u64 (maskQ t t.wds.length)) ∧ Below w.heap.size w w' := by
  obtain ⟨wv, fv, rfl, hw, hf⟩ := hv
  obtain ⟨A1, c1, rfl, -, -, -⟩ := id hw.open_
  obtain ⟨A2, c2, rfl, -, -, -⟩ := id hf.open_
  have HW := Lib.hid hw
  have HF := Lib.hid hf
  have HVD := Lib.hid hvd
  have HC := Lib.hid (show qChk t = 0 by unfold qChk; rw [if_pos hvd])
  have h6 : t.wds.length ≤ 6 := (qValid_spec hvd).2.2.1
  have S := Lib.hid (show St w (w.alloc (.cells #[I t.wells, .slice A1 t.wds.length c1, .slice A2 t.fcs.length c2] 29)) (w.heap.size + 1) [.box w.heap.size [I t.wells, .slice A1 t.wds.length c1, .slice A2 t.fcs.length c2]] from (St.init w).alloc [I t.wells, .slice A1 t.wds.length c1, .slice A2 t.fcs.length c2] 29)
  clear hw hf hvd
  have hmm := @run_makeMap Tryd.prog
  have q0 := S.out.get 0 0 rfl rfl
  have q1 := S.out.get 0 1 rfl rfl
  have q2 := S.out.get 0 2 rfl rfl
  go_enter Tryd.func42, Tryd.ntmps42
  go_wp2_with fail
  refine (qCheck_any _ t _ ⟨_, _, rfl, HW.out.below S.out.bel, HF.out.below S.out.bel⟩).mono ?_
  rintro e w1 ⟨rfl, hb⟩
  rw [HC.out]
  have S := Lib.hid (S.out.call hb)
  clear hb q0 q1 q2
  have q0 := S.out.get 0 0 rfl rfl
  have q1 := S.out.get 0 1 rfl rfl
  have q2 := S.out.get 0 2 rfl rfl
  have hl0 := S.out.lt 0 rfl
  have hl1 : w.heap.size < w1.heap.size + 1 := by omega
  have S := Lib.hid ((S.out.allocO (.map #[] 0) (fun _ => True) trivial).alloc [I t.wells, .slice A1 t.wds.length c1, .slice A2 t.fcs.length c2, .int .u64 (0), .map (some (w1.heap.size))] 99)
  go_wp2_with fail
  clear q0 q1 q2 hl0 hl1 hmm
  have S := Lib.hid (show St w _ _ [.box (w1.heap.size + 1) [I t.wells, .slice A1 t.wds.length c1, .slice A2 t.fcs.length c2, .int .u64 (((0 : Nat) : Int)), .map (some (w1.heap.size))], .box w.heap.size [I t.wells, .slice A1 t.wds.length c1, .slice A2 t.fcs.length c2]] from S.out.drop 1)
  go_loopw [24] (fun i wr => ∃ k : Nat, k ≤ t.wds.length ∧ i = I k ∧ Hid (St w wr wr.heap.size [.box (w1.heap.size + 1) [I t.wells, .slice A1 t.wds.length c1, .slice A2 t.fcs.length c2, .int .u64 ((maskQ t k : Nat)), .map (some (w1.heap.size))], .box w.heap.size [I t.wells, .slice A1 t.wds.length c1, .slice A2 t.fcs.length c2]])) (fun i _ => t.wds.length - (intOf i).toNat)
  case atStart => exact ⟨0, by omega, rfl, Lib.hid S.out.fix⟩
  case round =>
    clear S
    obtain ⟨k, hk, rfl, S⟩ := hrel
    by_cases hlt : k < t.wds.length
    · have hki : (k : Int) < (t.wds.length : Int) := by omega
      obtain ⟨A, c, e, -, -, hwc⟩ := HW.out.open_
      obtain ⟨rfl, -, rfl⟩ := qslice_inj e
      obtain ⟨b1, o1, hA1, -, hc1⟩ := hwc (by omega)
      subst hA1
      obtain ⟨u, hu, hl⟩ := hc1 k hlt
      obtain ⟨Au, cu, rfl, -, -, -⟩ := id hl.open_
      have hm := List.getElem_mem hlt
      obtain ⟨ls, hls⟩ : ∃ ls, t.wds[k] = ls := ⟨_, rfl⟩
      rw [hls] at hu hl hm
      have HO := Lib.hid (okW_any hlt hls)
      have HL := Lib.hid hl
      have HMM := Lib.hid hm
      have y0 := keep_cell S.out.bel hu
      have q1 := S.out.get 1 1 rfl rfl
      have q2 := S.out.get 1 2 rfl rfl
      have hl0 := S.out.lt 1 rfl
      have T := Lib.hid (S.out.alloc [.slice Au ls.length cu] 80)
      clear e hwc hc1 hu hl hm hls
      go_wp2_with fail
      clear y0 q1 q2 hl0 S
      refine (qANone_any _ t.fcs _ ls _ _ (HF.out.below T.out.bel) (T.out.get 0 0 rfl rfl) (HL.out.below T.out.bel) (fun f hf => good_of HVD.out HMM.out hf)).mono ?_
      rintro e w3 ⟨rfl, hb⟩
      rw [← HO.out]
      have S := Lib.hid ((T.out.call hb).tail)
      clear hb T
      cases hok : okW t k
      · have HM := Lib.hid (show maskQ t (k + 1) = maskQ t k by simp [maskQ, hok])
        clear hok
        go_wp2_with fail
        go_roundw
        case rel => exact ⟨k + 1, by omega, by go_num, Lib.hid (by rw [HM.out]; exact S.out.fix)⟩
        case measure => first | (simp [intOf]; done) | (simp [intOf]; omega)
      · have HM := Lib.hid (show maskQ t (k + 1) = maskQ t k + 2 ^ k by simp [maskQ, hok])
        clear hok
        have hml := maskQ_lt t k
        obtain ⟨m, hm⟩ : ∃ m, maskQ t k = m := ⟨_, rfl⟩
        rw [hm] at hml HM S
        have hk6 : k < 6 := by omega
        have hm64 : m < 64 := Nat.lt_of_lt_of_le hml (Nat.le_trans (Nat.pow_le_pow_right (by omega) (show k ≤ 6 by omega)) (by decide))
        have hor := or_small ⟨k, hk6⟩ ⟨m, hm64⟩ hml
        dsimp only at hor
        clear hm hml hm64
        go_wp2_with fail
        refine wp_region_segK [] [0, 1, 2, 3, 4, 5, 6] [7, 8, 9] 7 (by kernel_rfl) (by kernel_rfl) ?_
        intro KQ hKQ wn hb
        have S := Lib.hid (S.out.call hb)
        have p3 := cell_regrown (S.out.get 0 3 rfl rfl)
        clear hb
        refine seg_last ?_
        simp only [opsAt, List.filterMap_cons, List.filterMap_nil, List.getElem?_toArray, List.getElem?_cons_succ, List.getElem?_cons_zero]
        repeat (first | go_big_quiet_step (fail) | quiet_step (fail))
        refine wpQuiet_nil ?_
        clear p3
        have p3 := S.out.get 0 3 rfl rfl
        have z3 := S.out.free 0 3 rfl
        have S2 := Lib.hid (S.out.set 0 3 (.int .u64 ((m + 2 ^ k : Nat) : Int)) rfl)
        dsimp only [List.set_cons_zero, List.set_cons_succ] at S2
        go_wp2_with fail
        go_roundw
        case rel => exact ⟨k + 1, by omega, by go_num, Lib.hid (by rw [HM.out]; exact S2.out.fix)⟩
        case measure => first | (simp [intOf]; done) | (simp [intOf]; omega)
    · obtain rfl : k = t.wds.length := by omega
      go_wp2_with fail
      go_ret2
      exact ⟨_, rfl, S.out.get 0 3 rfl rfl, S.out.bel⟩

end Go.Proofs.YtldcehhhndlhdaaDoor
/- Layer 1: some of the words of a town. No program here. -/
namespace Go.Proofs.YtldcehhhndlhdaaDoor
def subL {α : Type} (is : Nat → Bool) : Nat → List α → List α
  | _, [] => []
  | i, x :: l => if is i then x :: subL is (i + 1) l else subL is (i + 1) l
def sub (t : Twn) (is : Nat → Bool) : Twn := ⟨t.wells, subL is 0 t.snd, subL is t.snd.length t.slp⟩
theorem subL_all {α : Type} (is : Nat → Bool) (h : ∀ i, is i = true) : ∀ (i : Nat) (l : List α), subL is i l = l
  | _, [] => rfl
  | i, x :: l => by rw [subL, if_pos (h i), subL_all is h]
theorem sub_all (t : Twn) : sub t (fun _ => true) = t := by simp [sub, subL_all]
theorem subL_snoc {α : Type} (is : Nat → Bool) : ∀ (l : List α) (i k : Nat) (h : k < l.length), subL is i (l.take (k + 1)) = subL is i (l.take k) ++ (if is (i + k) then [l[k]] else [])
  | [], _, _, h => absurd h (by simp)
  | x :: l, i, 0, _ => by simp [subL]
  | x :: l, i, k + 1, h => by
    have := subL_snoc is l (i + 1) k (by simpa using h)
    rw [List.take_succ_cons, List.take_succ_cons, subL, subL, this, show i + 1 + k = i + (k + 1) by omega]
    split <;> simp
theorem subL_sublist {α : Type} (is : Nat → Bool) : ∀ (i : Nat) (l : List α), (subL is i l).Sublist l
  | _, [] => .slnil
  | i, x :: l => by
    rw [subL]
    split
    · exact (subL_sublist is (i + 1) l).cons_cons x
    · exact (subL_sublist is (i + 1) l).cons x
theorem Vl.sub {t : Twn} (h : Vl t) (is : Nat → Bool) : Vl (sub t is) := by
  have s1 := subL_sublist is 0 t.snd
  have s2 := subL_sublist is t.snd.length t.slp
  exact ⟨h.w0, h.w6, fun s hs => h.snd s (s1.subset hs), fun s hs => h.slp s (s2.subset hs)⟩
/-- The bounds while the words are taken in. -/
def sndTo (t : Twn) (is : Nat → Bool) (k : Nat) : List Int := (subL is 0 (t.snd.take k)).foldl soundM (rock t.wells)
def slpTo (t : Twn) (is : Nat → Bool) (k : Nat) : List Int := (subL is t.snd.length (t.slp.take k)).foldl slopeM (sndTo t is t.snd.length)
theorem sndTo_succ {t : Twn} (is : Nat → Bool) {k : Nat} (h : k < t.snd.length) : sndTo t is (k + 1) = if is k then soundM (sndTo t is k) t.snd[k] else sndTo t is k := by
  rw [sndTo, subL_snoc is t.snd 0 k h, Nat.zero_add]
  split <;> simp [sndTo, List.foldl_append]
theorem slpTo_succ {t : Twn} (is : Nat → Bool) {k : Nat} (h : k < t.slp.length) : slpTo t is (k + 1) = if is (t.snd.length + k) then slopeM (slpTo t is k) t.slp[k] else slpTo t is k := by
  rw [slpTo, subL_snoc is t.slp t.snd.length k h]
  split <;> simp [slpTo, List.foldl_append]
theorem slpTo_all (t : Twn) (is : Nat → Bool) : slpTo t is t.slp.length = baseM (sub t is) := by simp [slpTo, sndTo, baseM, sub]
theorem sndTo_len (t : Twn) (is : Nat → Bool) (k : Nat) : (sndTo t is k).length = 49 := by rw [sndTo, sounds_len, rock_len]
theorem slpTo_len (t : Twn) (is : Nat → Bool) (k : Nat) : (slpTo t is k).length = 49 := by rw [slpTo, slopes_len, sndTo_len]
end Go.Proofs.YtldcehhhndlhdaaDoor
/- Walks: said, with each function value that it is called with. -/
namespace Go.Proofs.YtldcehhhndlhdaaDoor
open Go.RowKit Go.Sort

/-- Bounds in new memory, and whether there is a truth. -/
def RetSaid (t : Twn) (is : Nat → Bool) (w : World) (e : Ending) (w' : World) : Prop :=
  ∃ B, e = .returned (.tuple #[.pointer (some ⟨B, 0, none⟩), .bool (diagOk (closeM (baseM (sub t is))))]) ∧ w.heap.size ≤ B ∧ MatAt w' B (closeM (baseM (sub t is))) ∧ Below w.heap.size w w'
/-- The bounds, as a thing of the call's own. -/
def mat (B : Nat) (ms : List Int) : Item := .any B (fun o => o = .cells (ms.map I).toArray 163 (0, 0))
section
variable {w0 w w' : World} {n : Nat} {L : List Item}
theorem mat_ok {base : Nat} {B : Nat} {ms : List Int} (h : (mat B ms).ok base w) : MatAt w B ms := by
  obtain ⟨_, o, h1, rfl⟩ := h
  exact h1
theorem mat_mk {base : Nat} {B : Nat} {ms : List Int} (hB : base ≤ B) (h : MatAt w B ms) : (mat B ms).ok base w := ⟨hB, _, h, rfl⟩
theorem St.mat (h : St w0 w n L) (i : Nat) {B : Nat} {ms : List Int} (hi : L[i]? = some (mat B ms)) : MatAt w B ms := mat_ok (h.ok _ (List.mem_of_getElem? hi))
theorem St.upd (h : St w0 w n L) (i : Nat) {B : Nat} {ms ms' : List Int} (hi : L[i]? = some (Go.Proofs.YtldcehhhndlhdaaDoor.mat B ms)) (hg : w.grownBy w' (some B)) (hm : MatAt w' B ms') : St w0 w' w'.heap.size (L.set i (Go.Proofs.YtldcehhhndlhdaaDoor.mat B ms')) :=
  h.turn i _ hi hg (mat_mk (h.baseO i hi) hm) (fun _ e => .inl e)
theorem St.takeM (h : St w0 w n L) (hb : Below w.heap.size w w') {B : Nat} {ms : List Int} (hB : w.heap.size ≤ B) (hm : MatAt w' B ms) : St w0 w' w'.heap.size (Go.Proofs.YtldcehhhndlhdaaDoor.mat B ms :: L) := by
  have h2 := h.call hb
  refine ⟨rfl, h2.bel, fun x hx => ?_, ?_⟩
  · rcases List.mem_cons.1 hx with hx | hx
    · rw [hx]; exact mat_mk (Nat.le_trans h.bel.size hB) hm
    · exact h2.ok x hx
  · have e0 : (Go.Proofs.YtldcehhhndlhdaaDoor.mat B ms).blk = some B := rfl
    rw [List.filterMap_cons, e0]
    refine List.nodup_cons.2 ⟨fun hx => ?_, h.apart⟩
    have := (h.lt_of hx).2
    have := h.size
    omega
end

/-- This function value tells of each word whether it was said. -/
def TellsAll (w : World) (is : Nat → Bool) : Prop :=
  ∀ (W : World) (n : Nat), n ≤ 100 → Below w.heap.size w W → Calls Tryd.prog 81 #[I n] W fun e w' => e = .returned (.bool (is n)) ∧ Below W.heap.size W w'

set_option maxRecDepth 20000 in
set_option maxHeartbeats 8000000 in
theorem saidAll_any (v : Value) (t : Twn) (is : Nat → Bool) (w : World) (hv : TwnAt w v t) (hvl : Vl t) (hl1 : t.snd.length ≤ 8) (hl2 : t.slp.length ≤ 8) (hf : TellsAll w is) :
    Calls Tryd.prog 80 #[v, .func (.func 81) #[] #[]] w fun e w' => RetSaid t is w e w' := by
  obtain ⟨sv, pv, rfl, hs, hp⟩ := hv
  obtain ⟨A1, c1, rfl, hsl1, hsl2, hc1⟩ := hs.open_
  obtain ⟨A2, c2, rfl, hpl1, hpl2, hc2⟩ := hp.open_
  have HC1 := Lib.hid hc1
  have HC2 := Lib.hid hc2
  have HF := Lib.hid hf
  have HVL := Lib.hid hvl
  have hw0 := hvl.w0
  have hw6 := hvl.w6
  clear hc1 hc2 hs hp hf hvl
  have S := Lib.hid (show St w (w.alloc (.cells #[I t.wells, .slice A1 t.snd.length c1, .slice A2 t.slp.length c2] 25)) (w.heap.size + 1) [.box w.heap.size [I t.wells, .slice A1 t.snd.length c1, .slice A2 t.slp.length c2]] from (St.init w).alloc [I t.wells, .slice A1 t.snd.length c1, .slice A2 t.slp.length c2] 25)
  have q0 := S.out.get 0 0 rfl rfl
  have q1 := S.out.get 0 1 rfl rfl
  have q2 := S.out.get 0 2 rfl rfl
  go_enter Tryd.func80, Tryd.ntmps80
  go_wp2_with fail
  refine (rock_any t.wells _ hw0 hw6).mono ?_
  rintro e w1 ⟨rfl, hm, hb⟩
  have S := Lib.hid (S.out.takeM hb (Nat.le_refl _) hm)
  have hB : (w.alloc (.cells #[I t.wells, .slice A1 t.snd.length c1, .slice A2 t.slp.length c2] 25)).heap.size = w.heap.size + 1 := by simp
  rw [hB] at S ⊢
  clear hB q0 q1 q2 hm hb
  have q1 := S.out.get 1 1 rfl rfl
  have hb0 := S.out.lt 1 rfl
  have S := Lib.hid (show St w w1 w1.heap.size [mat (w.heap.size + 1) (sndTo t is 0), .box w.heap.size [I t.wells, .slice A1 t.snd.length c1, .slice A2 t.slp.length c2]] from S.out)
  go_wp2_with fail
  go_loopw [17] (fun i wr => ∃ k : Nat, k ≤ t.snd.length ∧ i = I k ∧ Hid (St w wr wr.heap.size [mat (w.heap.size + 1) (sndTo t is k), .box w.heap.size [I t.wells, .slice A1 t.snd.length c1, .slice A2 t.slp.length c2]])) (fun i _ => t.snd.length - (intOf i).toNat)
  case atStart => exact ⟨0, by omega, rfl, S⟩
  case round =>
    clear q1 hb0 S
    obtain ⟨k, hk, rfl, S⟩ := hrel
    by_cases hlt : k < t.snd.length
    · obtain ⟨b1, o1, rfl, hb1, hcell1⟩ := HC1.out (by omega)
      obtain ⟨x0, x1, x2⟩ := hcell1 k hlt
      have x0 := keep_cell S.out.bel x0
      have x1 := keep_cell S.out.bel x1
      have x2 := keep_cell S.out.bel x2
      have hst := sndTo_succ is hlt
      have hok := HVL.out.snd' _ (List.getElem_mem hlt)
      have hlow := HVL.out.snd _ (List.getElem_mem hlt)
      clear hcell1
      obtain ⟨⟨sw, sl, sh⟩, hs⟩ : ∃ s, t.snd[k] = s := ⟨_, rfl⟩
      rw [hs] at x0 x1 x2 hst hok hlow
      have HST := Lib.hid hst
      have HOK := Lib.hid hok
      have HLOW := Lib.hid hlow
      clear hs hst hok hlow
      dsimp only at x0 x1 x2
      have hlt0 := S.out.lt 1 rfl
      have y1 := S.out.get 1 1 rfl rfl
      have y2 := S.out.get 1 2 rfl rfl
      go_wp2_with fail
      have S := Lib.hid (S.out.alloc [I sw, I sl, I sh] 31)
      clear x0 x1 x2 hlt0 y1 y2
      refine (HF.out _ k (by omega) S.out.bel).mono ?_
      rintro e w2 ⟨rfl, hb⟩
      have S := Lib.hid (S.out.call hb)
      clear hb
      cases hi : is k
      · have HST := Lib.hid (show sndTo t is (k + 1) = sndTo t is k by rw [HST.out, if_neg (by rw [hi]; simp)])
        clear hi
        go_wp2_with fail
        go_roundw
        case rel => exact ⟨k + 1, by omega, by go_num, Lib.hid (by rw [HST.out]; exact S.out.tail)⟩
        case measure => first | (simp [intOf]; done) | (simp [intOf]; omega)
      · have HST := Lib.hid (HST.out.trans (if_pos hi))
        clear hi
        have z0 := S.out.get 0 0 rfl rfl
        have z1 := S.out.get 0 1 rfl rfl
        have z2 := S.out.get 0 2 rfl rfl
        go_wp2_with fail
        clear z0 z1 z2
        refine (sound_any (w.heap.size + 1) ⟨sw, sl, sh⟩ _ _ (S.out.mat 1 rfl) (sndTo_len _ _ _) (by have := HOK.out; dsimp only at this ⊢; omega) (by have := HOK.out; dsimp only at this ⊢; omega) (by have := HLOW.out; dsimp only at this ⊢; omega) (by have := HLOW.out; dsimp only at this ⊢; omega)).mono ?_
        rintro e w3 ⟨rfl, hg, hm⟩
        have S := Lib.hid (S.out.upd 1 rfl hg hm)
        clear hg hm
        go_wp2_with fail
        go_roundw
        case rel => exact ⟨k + 1, by omega, by go_num, Lib.hid (by rw [HST.out]; exact S.out.tail)⟩
        case measure => first | (simp [intOf]; done) | (simp [intOf]; omega)
    · obtain rfl : k = t.snd.length := by omega
      have S := Lib.hid (show St w wr wr.heap.size [mat (w.heap.size + 1) (slpTo t is 0), .box w.heap.size [I t.wells, .slice A1 t.snd.length c1, .slice A2 t.slp.length c2]] from S.out)
      have q1 := S.out.get 1 2 rfl rfl
      have hb0 := S.out.lt 1 rfl
      go_wp2_with fail
      go_loopw [32] (fun i wr => ∃ k : Nat, k ≤ t.slp.length ∧ i = I k ∧ Hid (St w wr wr.heap.size [mat (w.heap.size + 1) (slpTo t is k), .box w.heap.size [I t.wells, .slice A1 t.snd.length c1, .slice A2 t.slp.length c2]])) (fun i _ => t.slp.length - (intOf i).toNat)
      case atStart => exact ⟨0, by omega, rfl, S⟩
      case round =>
        clear q1 hb0 S
        obtain ⟨k, hk, rfl, S⟩ := hrel
        by_cases hlt : k < t.slp.length
        · obtain ⟨b1, o1, rfl, hb1, hcell1⟩ := HC2.out (by omega)
          obtain ⟨x0, x1, x2, x3⟩ := hcell1 k hlt
          have x0 := keep_cell S.out.bel x0
          have x1 := keep_cell S.out.bel x1
          have x2 := keep_cell S.out.bel x2
          have x3 := keep_cell S.out.bel x3
          have hst := slpTo_succ is hlt
          have hok := HVL.out.slp' _ (List.getElem_mem hlt)
          have hlow := HVL.out.slp _ (List.getElem_mem hlt)
          clear hcell1
          obtain ⟨⟨sa, sb, sl, sh⟩, hs⟩ : ∃ s, t.slp[k] = s := ⟨_, rfl⟩
          rw [hs] at x0 x1 x2 x3 hst hok hlow
          have HST := Lib.hid hst
          have HOK := Lib.hid hok
          have HLOW := Lib.hid hlow
          clear hs hst hok hlow
          dsimp only at x0 x1 x2 x3
          have hlt0 := S.out.lt 1 rfl
          have y1 := S.out.get 1 1 rfl rfl
          have y2 := S.out.get 1 2 rfl rfl
          go_wp2_with fail
          have S := Lib.hid (S.out.alloc [I sa, I sb, I sl, I sh] 77)
          clear x0 x1 x2 x3 hlt0 y1 y2
          rw [show ((t.snd.length : Int) + (k : Int)) = ((t.snd.length + k : Nat) : Int) by omega]
          refine (HF.out _ (t.snd.length + k) (by omega) S.out.bel).mono ?_
          rintro e w2 ⟨rfl, hb⟩
          have S := Lib.hid (S.out.call hb)
          clear hb
          cases hi : is (t.snd.length + k)
          · have HST := Lib.hid (show slpTo t is (k + 1) = slpTo t is k by rw [HST.out, if_neg (by rw [hi]; simp)])
            clear hi
            go_wp2_with fail
            go_roundw
            case rel => exact ⟨k + 1, by omega, by go_num, Lib.hid (by rw [HST.out]; exact S.out.tail)⟩
            case measure => first | (simp [intOf]; done) | (simp [intOf]; omega)
          · have HST := Lib.hid (HST.out.trans (if_pos hi))
            clear hi
            have z0 := S.out.get 0 0 rfl rfl
            have z1 := S.out.get 0 1 rfl rfl
            have z2 := S.out.get 0 2 rfl rfl
            have z3 := S.out.get 0 3 rfl rfl
            go_wp2_with fail
            clear z0 z1 z2 z3
            refine (slope_any (w.heap.size + 1) ⟨sa, sb, sl, sh⟩ _ _ (S.out.mat 1 rfl) (slpTo_len _ _ _) (by have := HOK.out; dsimp only at this ⊢; omega) (by have := HOK.out; dsimp only at this ⊢; omega) (by have := HOK.out; dsimp only at this ⊢; omega) (by have := HOK.out; dsimp only at this ⊢; omega) (by have := HLOW.out; dsimp only at this ⊢; omega) (by have := HLOW.out; dsimp only at this ⊢; omega)).mono ?_
            rintro e w3 ⟨rfl, hg, hm⟩
            have S := Lib.hid (S.out.upd 1 rfl hg hm)
            clear hg hm
            go_wp2_with fail
            go_roundw
            case rel => exact ⟨k + 1, by omega, by go_num, Lib.hid (by rw [HST.out]; exact S.out.tail)⟩
            case measure => first | (simp [intOf]; done) | (simp [intOf]; omega)
        · have hall := slpTo_all t is
          have hk' : k = t.slp.length := by omega
          rw [← hk'] at hall
          have HALL := Lib.hid hall
          have S := Lib.hid (show St w wr wr.heap.size [mat (w.heap.size + 1) (baseM (sub t is)), .box w.heap.size [I t.wells, .slice A1 t.snd.length c1, .slice A2 t.slp.length c2]] from by rw [← HALL.out]; exact S.out)
          clear hall hk'
          go_wp2_with fail
          refine (close_any (w.heap.size + 1) _ _ (S.out.mat 0 rfl) (baseM_bd (HVL.out.sub is))).mono ?_
          rintro e w4 ⟨rfl, hg, hm⟩
          have S := Lib.hid (S.out.upd 0 rfl hg hm)
          clear hg hm
          go_wp2_with fail
          go_ret2
          exact ⟨_, rfl, by simp, S.out.mat 0 rfl, S.out.bel⟩

end Go.Proofs.YtldcehhhndlhdaaDoor

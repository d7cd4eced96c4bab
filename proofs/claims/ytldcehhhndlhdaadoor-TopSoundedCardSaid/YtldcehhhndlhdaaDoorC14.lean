/- Layer 1: one sounding more; each level between the ends is that of a truth. No program here. -/
import Derived.Test.YtldcehhhndlhdaaDoorC10
import Derived.Test.YtldcehhhndlhdaaDoorC12
namespace Go.Proofs.YtldcehhhndlhdaaDoor
def addS (t : Twn) (s : Snd) : Twn := ⟨t.wells, t.snd ++ [s], t.slp⟩
def addP (t : Twn) (s : Slp) : Twn := ⟨t.wells, t.snd, t.slp ++ [s]⟩
section
theorem Vl.addS {t : Twn} (h : Vl t) {s : Snd} (hs : 0 ≤ s.well ∧ s.well < t.wells ∧ 0 ≤ s.low ∧ s.low ≤ s.high ∧ s.high ≤ 99) : Vl (addS t s) := by
  refine ⟨h.w0, h.w6, fun u hu => ?_, h.slp⟩
  rcases List.mem_append.1 hu with hu | hu
  · exact h.snd u hu
  · rw [List.mem_singleton.1 hu]; exact hs
theorem tr_addS {t : Twn} {s : Snd} {x : Nat → Int} : Tr (addS t s) x ↔ Tr t x ∧ s.low ≤ x s.well.toNat ∧ x s.well.toNat ≤ s.high := by
  constructor
  · intro h
    exact ⟨⟨h.own, fun u hu => h.snd u (List.mem_append_left _ hu), h.slp⟩, h.snd s (List.mem_append_right _ (List.mem_singleton.2 rfl))⟩
  · rintro ⟨h, h2⟩
    refine ⟨h.own, fun u hu => ?_, h.slp⟩
    rcases List.mem_append.1 hu with hu | hu
    · exact h.snd u hu
    · rw [List.mem_singleton.1 hu]; exact h2
theorem tr_addP {t : Twn} {s : Slp} {x : Nat → Int} : Tr (addP t s) x ↔ Tr t x ∧ s.low ≤ x s.b.toNat - x s.a.toNat ∧ x s.b.toNat - x s.a.toNat ≤ s.high := by
  constructor
  · intro h
    exact ⟨⟨h.own, h.snd, fun u hu => h.slp u (List.mem_append_left _ hu)⟩, h.slp s (List.mem_append_right _ (List.mem_singleton.2 rfl))⟩
  · rintro ⟨h, h2⟩
    refine ⟨h.own, h.snd, fun u hu => ?_⟩
    rcases List.mem_append.1 hu with hu | hu
    · exact h.slp u hu
    · rw [List.mem_singleton.1 hu]; exact h2
theorem Tight.bd {t : Twn} (hv : Vl t) {ms : List Int} (ht : Tight t ms) (hl : ms.length = 49) (hi : Iso t.wells ms) (hd : ∀ i, i < 7 → at_ ms i i = 0) : Bd 99 99 ms := by
  have h6 := hv.w6
  have key : ∀ i j, i < 7 → j < 7 → at_ ms i j = 1048576 ∨ (-99 ≤ at_ ms i j ∧ at_ ms i j ≤ 99) := by
    intro i j hi7 hj7
    by_cases ha : act t.wells i ∧ act t.wells j
    · have := ht.fin i j ha.1 ha.2
      exact .inr (by omega)
    · by_cases e : i = j
      · subst e
        have := hd i hi7
        exact .inr (by omega)
      · exact .inl (hi i j hi7 hj7 e ha)
  exact ⟨hl, fun i j a b => by have := key i j a b; omega, fun i j a b => (key i j a b).imp id (fun e => e.2)⟩
/-- The closed bounds of a town that has a truth say what the town says. -/
theorem says_closed {t : Twn} (hv : Vl t) {ms : List Int} (hs : Says t ms) (hd : diagOk (closeM ms) = true) : Says t (closeM ms) ∧ Tight t (closeM ms) := by
  have ht := (says_ok hv hs).2 hd
  have hle : Le (closeM ms) ms := Le.closeK hs.bd.len 7 (by omega)
  have hl : (closeM ms).length = 49 := by rw [closeM_len, hs.bd.len]
  have hiso : Iso t.wells (closeM ms) := Iso.closeK hs.bd.len hs.iso 7 (by omega)
  have hz : ∀ i, i < 7 → at_ (closeM ms) i i = 0 := fun i hi => by
    have := hle i i hi hi
    have := hs.diag i hi
    have := diagOk_iff.1 hd i hi
    omega
  refine ⟨⟨ht.bd hv hl hiso hz, fun i hi => Int.le_of_eq (hz i hi), hiso, fun w hw => ?_, fun x => ?_⟩, ht⟩
  · have h6 := hv.w6
    have := hs.grd w hw
    have := hle 6 w (by omega) (by omega)
    have := hle w 6 (by omega) (by omega)
    omega
  · rw [Sol.closeM (hs.bd.top (by omega)), hs.sol x]
theorem says_sound {t : Twn} (hv : Vl t) {ms : List Int} (hs : Says t ms) {s : Snd} (h : 0 ≤ s.well ∧ s.well < t.wells ∧ 0 ≤ s.low ∧ s.low ≤ s.high ∧ s.high ≤ 99) : Says (addS t s) (soundM ms s) := by
  have h6 := hv.w6
  have htop := hs.bd.top (by omega)
  have hle : Le (soundM ms s) ms := (leave_le (by rw [leave_len]; exact hs.bd.len) (by omega) (by omega)).trans (leave_le hs.bd.len (by omega) (by omega))
  refine ⟨soundM_bd hs.bd h.1 (by omega) (by omega) (by omega) (by omega) (by omega) (by omega), fun i hi => Int.le_trans (hle i i hi hi) (hs.diag i hi), ?_, fun w hw => ?_, fun x => ?_⟩
  · have ha : act t.wells s.well.toNat := .inl (by omega)
    exact (hs.iso.leave hs.bd.len (by omega) (by omega) (.inr rfl) ha).leave (by rw [leave_len]; exact hs.bd.len) (by omega) (by omega) ha (.inr rfl)
  · have hw' : (w : Int) < t.wells := hw
    have := hs.grd w hw'
    have := hle 6 w (by omega) (by omega)
    have := hle w 6 (by omega) (by omega)
    omega
  · rw [soundM_sol htop h.1 (by omega) (by omega) (by omega), hs.sol x, tr_addS]
/-- Each level between the ends is that of a truth. -/
theorem mid_truth {t : Twn} (hv : Vl t) {l : List Sp} (he : Exact t l) {w : Nat} (hw : (w : Int) < t.wells) {n : Int} (h1 : (spAt l w).low ≤ n) (h2 : n ≤ (spAt l w).high) : ∃ x, Tr t x ∧ x w = n := by
  have h6 := hv.w6
  have h0 := hv.w0
  have hle : ∀ v : Nat, (v : Int) < t.wells → (spAt l v).low ≤ (spAt l v).high := fun v hv' => (he.all _ he.low v (by rw [he.len]; omega)).2
  refine ⟨fun v => max (spAt l v).low ((spAt l v).high - ((spAt l w).high - n)), ⟨fun v hv' => ?_, fun s hs => ?_, fun s hs => ?_⟩, ?_⟩
  · have a : 0 ≤ (spAt l v).low ∧ (spAt l v).low ≤ 99 := he.low.own v hv'
    have b : 0 ≤ (spAt l v).high ∧ (spAt l v).high ≤ 99 := he.high.own v hv'
    have c := hle v hv'
    show 0 ≤ max _ _ ∧ max _ _ ≤ 99
    omega
  · have hw' := hv.snd s hs
    have a : s.low ≤ (spAt l s.well.toNat).low ∧ (spAt l s.well.toNat).low ≤ s.high := he.low.snd s hs
    have b : s.low ≤ (spAt l s.well.toNat).high ∧ (spAt l s.well.toNat).high ≤ s.high := he.high.snd s hs
    show s.low ≤ max _ _ ∧ max _ _ ≤ s.high
    omega
  · have a : s.low ≤ (spAt l s.b.toNat).low - (spAt l s.a.toNat).low ∧ (spAt l s.b.toNat).low - (spAt l s.a.toNat).low ≤ s.high := he.low.slp s hs
    have b : s.low ≤ (spAt l s.b.toNat).high - (spAt l s.a.toNat).high ∧ (spAt l s.b.toNat).high - (spAt l s.a.toNat).high ≤ s.high := he.high.slp s hs
    show s.low ≤ max _ _ - max _ _ ∧ max _ _ - max _ _ ≤ s.high
    omega
  · have c := hle w hw
    show max _ _ = n
    omega
end
end Go.Proofs.YtldcehhhndlhdaaDoor
/- Walks: Higher, worst, Ask. -/
namespace Go.Proofs.YtldcehhhndlhdaaDoor
open Go.RowKit Go.Sort

def higherP (t : Twn) (a b : Int) : Int × Int := if (differP t b a).2 ≠ 0 then (0, (differP t b a).2) else if 0 < (differP t b a).1.low then (1, 0) else if (differP t b a).1.high ≤ 0 then (2, 0) else (3, 0)
/-- Closed bounds of a town that has a truth are small. -/
theorem says_okm {t : Twn} (hv : Vl t) {ms : List Int} (hs : Says t ms) (hd : diagOk (closeM ms) = true) : Okm (closeM ms) ∧ Sml (closeM ms) t.wells.toNat := by
  obtain ⟨h1, ht⟩ := says_closed hv hs hd
  have h0 := hv.w0
  refine ⟨tight_ok hv ht h1.bd.len h1.iso, fun i hi => ?_⟩
  have h1 := ht.fin i 6 (.inl (by omega)) (.inr rfl)
  have h2 := ht.fin 6 i (.inr rfl) (.inl (by omega))
  simp only [lvl]
  omega
theorem lvl_exact {t : Twn} (hv : Vl t) {ms : List Int} {l : List Sp} (ht : Tight t ms) (he : Exact t l) {w : Nat} (hw : (w : Int) < t.wells) : lvl ms w = spAt l w := by
  obtain ⟨h1, h2⟩ := tight_low hv ht he hw
  unfold lvl
  rw [h1, h2]
/-- A level between the ends leaves a truth. -/
theorem sound_ok {t : Twn} (h : openE t true = 0) {w : Nat} (hw : (w : Int) < t.wells) {n : Int} (h1 : (lvl (closeM (baseM t)) w).low ≤ n) (h2 : n ≤ (lvl (closeM (baseM t)) w).high) :
    0 ≤ n ∧ n ≤ 99 ∧ Says (addS t ⟨w, n, n⟩) (soundM (closeM (baseM t)) ⟨w, n, n⟩) ∧ diagOk (closeM (soundM (closeM (baseM t)) ⟨w, n, n⟩)) = true ∧ Vl (addS t ⟨w, n, n⟩) := by
  obtain ⟨hv, -, hd⟩ := openE_zero h
  obtain ⟨hs, ht⟩ := says_closed hv (baseM_says hv) hd
  obtain ⟨x, hx, -⟩ := ht.one 6 6 (.inr rfl) (.inr rfl)
  rcases spansR_cases hv with ⟨l, -, he⟩ | ⟨-, hn⟩
  · rw [lvl_exact hv ht he hw] at h1 h2
    obtain ⟨y, hy, hyn⟩ := mid_truth hv he hw h1 h2
    have hb := hy.own w hw
    rw [hyn] at hb
    have hok : (0 : Int) ≤ (⟨w, n, n⟩ : Snd).well ∧ (⟨w, n, n⟩ : Snd).well < t.wells ∧ 0 ≤ (⟨w, n, n⟩ : Snd).low ∧ (⟨w, n, n⟩ : Snd).low ≤ (⟨w, n, n⟩ : Snd).high ∧ (⟨w, n, n⟩ : Snd).high ≤ 99 := by
      dsimp only
      omega
    have hv2 : Vl (addS t ⟨w, n, n⟩) := hv.addS hok
    have hs2 := says_sound hv hs hok
    refine ⟨hb.1, hb.2, hs2, (says_ok hv2 hs2).1.2 ⟨y, tr_addS.2 ⟨hy, ?_⟩⟩, hv2⟩
    simp only [Int.toNat_natCast]
    omega
  · exact absurd ⟨x, hx⟩ hn
/-- The greatest width, if a well is sounded: of the first k levels that it can have. -/
def worstN (ms : List Int) (N w : Nat) : Nat → Int
  | 0 => 0
  | k + 1 => max (worstN ms N w k) (widL (closeM (soundM ms ⟨w, (lvl ms w).low + k, (lvl ms w).low + k⟩)) (List.range N))
def worstP (ms : List Int) (N w : Nat) : Int := worstN ms N w ((lvl ms w).high + 1 - (lvl ms w).low).toNat
theorem load_mat {P : Program} {ops : Array Oper} {rest : List Oper} {o : Oper} {a : Act} {w : World} {Q : Exit → Act → World → Prop} (hgd : o.guard = none) (ty : TypeId) (x : Operand) (ho : o.op = .load ty x)
    {B : Nat} {ms : List Int} (hm : MatAt w B ms) (hx : a.eval x = .pointer (some ⟨B, 0, none⟩)) (d : TypeDesc) (hu : P.underlying ty = some d) (hd : (match d with | .struct _ | .array _ _ => true | _ => false) = true)
    (hsz : (P.info? ty).map (·.size) = some 49) (hl : ms.length = 49) (h : wpList P ops Q rest (a.put o.dst (.agg (ms.map I).toArray)) w) : wpList P ops Q (o :: rest) a w :=
  wpList_load_row hgd ty x ho B hx _ (ms.map I).toArray (0, 0) d hm hu hd (by rw [hsz]; simp [hl]) h
theorem store_mat {P : Program} {ops : Array Oper} {rest : List Oper} {o : Oper} {a : Act} {w : World} {Q : Exit → Act → World → Prop} (hgd : o.guard = none) (ty : TypeId) (x y : Operand) (ho : o.op = .store ty x y)
    {B : Nat} {m0 ms : List Int} (hm : MatAt w B m0) (hx : a.eval x = .pointer (some ⟨B, 0, none⟩)) (hy : a.eval y = .agg (ms.map I).toArray)
    (hsz : (P.info? ty).map (·.size) = some 49) (hl0 : m0.length = 49) (hl : ms.length = 49) (h : ∀ w', w.grownBy w' (some B) → MatAt w' B ms → wpList P ops Q rest (a.put o.dst undef) w') : wpList P ops Q (o :: rest) a w :=
  wpList_store_row hgd ty x y ho B (ms.map I).toArray hx hy _ (m0.map I).toArray hm (by rw [hsz]; simp [hl]) (by simp [hl, hl0]) (by rw [Array.all_eq_true_iff_forall_mem]; intro v hv; exact ints_one ms v (by simpa using hv)) (h _ (grown_setRow _) (setRow_heap _ _ _ _ _ _ hm))
theorem info_bounds : (Tryd.prog.info? 163).map (·.size) = some 49 := by kernel_rfl

/-- Which well's worst is the least, of the first k: and how much it is. -/
def askTo (ms : List Int) (N : Nat) : Nat → Int × Int
  | 0 => (0, 1048576)
  | k + 1 => if worstP ms N k < (askTo ms N k).2 then ((k : Int), worstP ms N k) else askTo ms N k
def askP (t : Twn) : Int × Int := if openE t true = 0 then (if widL (closeM (baseM t)) (List.range t.wells.toNat) = 0 then (0, 3) else ((askTo (closeM (baseM t)) t.wells.toNat t.wells.toNat).1, 0)) else (0, openE t true)

end Go.Proofs.YtldcehhhndlhdaaDoor
/- Walks: Idle. -/
namespace Go.Proofs.YtldcehhhndlhdaaDoor
open Go.RowKit Go.Sort

theorem Tr.sub {t : Twn} {is : Nat → Bool} {x : Nat → Int} (h : Tr t x) : Tr (sub t is) x :=
  ⟨h.own, fun s hs => h.snd s ((subL_sublist _ _ _).subset hs), fun s hs => h.slp s ((subL_sublist _ _ _).subset hs)⟩
def butW (n : Nat) (w : Nat) : Bool := w != n
/-- The words, of the first k, that say nothing more. -/
def idleTo (t : Twn) (k : Nat) : List Int := ((List.range k).filter fun n => sameL (closeM (baseM t)) (closeM (baseM (sub t (butW n)))) (List.range t.wells.toNat)).map fun (n : Nat) => (n : Int)
def idleP (t : Twn) : List Int × Int := if openE t true = 0 then (idleTo t (t.snd.length + t.slp.length), 0) else ([], openE t true)
theorem idleTo_snoc (t : Twn) (k : Nat) : idleTo t (k + 1) = if sameL (closeM (baseM t)) (closeM (baseM (sub t (butW k)))) (List.range t.wells.toNat) = true then idleTo t k ++ [(k : Int)] else idleTo t k := by
  unfold idleTo
  rw [List.range_succ, List.filter_append]
  cases h : sameL (closeM (baseM t)) (closeM (baseM (sub t (butW k)))) (List.range t.wells.toNat) <;> simp [h]
theorem idleTo_len (t : Twn) (k : Nat) : (idleTo t k).length ≤ k := by
  unfold idleTo
  rw [List.length_map]
  exact Nat.le_trans (List.length_filter_le _ _) (by simp)
/-- The closed bounds of fewer words are small. -/
theorem sub_okm {t : Twn} (h : openE t true = 0) (is : Nat → Bool) : Okm (closeM (baseM (sub t is))) := by
  obtain ⟨hv, -, hd⟩ := openE_zero h
  have hv2 := hv.sub is
  obtain ⟨x, hx⟩ := (says_ok hv (baseM_says hv)).1.1 hd
  exact (says_okm hv2 (baseM_says hv2) ((says_ok hv2 (baseM_says hv2)).1.2 ⟨x, hx.sub⟩)).1
end Go.Proofs.YtldcehhhndlhdaaDoor
/- Walks: slices.Index, Contains, Clone at []int; the function value of Clash. -/
namespace Go.Proofs.YtldcehhhndlhdaaDoor
open Go.RowKit Go.Sort

/-- A place of a number in a list, or -1. -/
def RetIdx (n : Int) (xs : List Int) (w : World) (e : Ending) (w' : World) : Prop := ∃ r : Int, e = .returned (I r) ∧ (0 ≤ r ↔ n ∈ xs) ∧ Below w.heap.size w w'

set_option maxRecDepth 20000 in
set_option maxHeartbeats 1000000 in
theorem cloneI_any (v : Value) (ps : List Int) (w : World) (hv : Ints w v ps) (hlen : ps.length ≤ 1000) :
    Calls Tryd.prog 98 #[v] w fun e w' => ∃ v', e = .returned v' ∧ w'.ownsRow w.heap.size 3 1 v' ps.length (ps.map I) ∧ Below w.heap.size w w' := by
  obtain ⟨i0, hi, hz0, hz1, hz2⟩ := info_parts Tryd.info3
  have h02 : 0 < 1 := by omega
  have h63 : 0 + ps.length ≤ maxLen := by simp only [maxLen]; omega
  have hby : (0 + ps.length) * 8 ≤ 140737488355328 := by omega
  have HV := Lib.hid (show Reads w 1 v ps.length (ps.map I) from hv)
  have hm0 : (0 : Nat) ≤ maxLen := by omega
  have hown := World.ownsRow_made (e := 3) (size := 1) w #[] 0 (Nat.le_refl w.heap.size) hm0 rfl
  have hb0 : Below w.heap.size w (w.alloc (.cells #[] 3)) := (Below.refl _ _).alloc (Nat.le_refl _) _
  have hs0 := hb0.size
  obtain ⟨_, A, c, rfl, hmc, hc, hcell⟩ := hv
  rcases A with _ | ad
  · have hp : ps = [] := by
      rcases Nat.eq_zero_or_pos ps.length with h0 | h0
      · exact List.eq_nil_of_length_eq_zero h0
      · obtain ⟨b, o, h, _⟩ := hcell h0
        cases h
    subst hp
    clear hcell
    have hq := fun w => run_eql_slice_nil (P := Tryd.prog) w 53 3 none 0 c Tryd.underlying53
    go_enter Tryd.func98, Tryd.ntmps98
    go_wp2_with fail
    go_ret
    exact ⟨_, rfl, World.ownsRow_nil _ _ _ _, Below.refl _ _⟩
  · clear hcell
    have hq := fun w => run_eql_slice_nil (P := Tryd.prog) w 53 3 (some ad) ps.length c Tryd.underlying53
    go_enter Tryd.func98, Tryd.ntmps98
    go_wp2_with (at_builtin; refine wpList_append_src _ rfl _ _ 53 rfl w.heap.size 3 i0 (.int .i64 0) 1 8 Tryd.underlying53 hi hz0 hz1 hz2 rfl h02 _ _ _ rfl hown _ _ _ rfl (Reads.below HV.out hb0) (ints_one _) h63 hby hs0 ?_; intro v' w4 hown' hgrow _)
    go_ret
    rw [Nat.zero_add, List.nil_append] at hown'
    exact ⟨_, rfl, hown', hb0.grown hgrow hs0 (fun q hq => (hown.lt q hq).1)⟩

def hasW (l : List Nat) (w : Nat) : Bool := decide (w ∈ l)
/-- Numbers of words, as a list of integers. -/
def ofN (l : List Nat) : List Int := l.map fun (x : Nat) => (x : Int)
theorem mem_ofN {l : List Nat} {n : Nat} : (n : Int) ∈ ofN l ↔ n ∈ l := by
  unfold ofN
  rw [List.mem_map]
  exact ⟨fun ⟨a, h, e⟩ => (show a = n by omega) ▸ h, fun h => ⟨n, h, rfl⟩⟩
end Go.Proofs.YtldcehhhndlhdaaDoor
/- Walks: the reference's Copy, Many; Huge, isKnown, inside. -/
namespace Go.Proofs.YtldcehhhndlhdaaDoor
open Go.RowKit Go.Sort

theorem snds_one (ss : List Snd) : ∀ u ∈ sndCells ss, u.oneCell' = true := fun u hu => by
  obtain ⟨p, _, hu⟩ := List.mem_flatMap.1 hu
  simp at hu
  rcases hu with rfl | rfl | rfl <;> rfl
theorem slps_one (ss : List Slp) : ∀ u ∈ slpCells ss, u.oneCell' = true := fun u hu => by
  obtain ⟨p, _, hu⟩ := List.mem_flatMap.1 hu
  simp at hu
  rcases hu with rfl | rfl | rfl | rfl <;> rfl
/-- A town in memory that the call has made. -/
def OwnTwn (w : World) (base : Nat) (v : Value) (t : Twn) : Prop := ∃ sv pv, v = .agg #[I t.wells, sv, pv] ∧ w.ownsRow base 31 3 sv t.snd.length (sndCells t.snd) ∧ w.ownsRow base 77 4 pv t.slp.length (slpCells t.slp)
theorem OwnTwn.twn {w : World} {base : Nat} {v : Value} {t : Twn} (h : OwnTwn w base v t) : TwnAt w v t := by
  obtain ⟨sv, pv, rfl, h1, h2⟩ := h
  exact ⟨sv, pv, rfl, Reads.of_own h1, Reads.of_own h2⟩
theorem OwnTwn.below {w w' : World} {base : Nat} {v : Value} {t : Twn} (h : OwnTwn w base v t) (hb : Below w.heap.size w w') : OwnTwn w' base v t := by
  obtain ⟨sv, pv, rfl, h1, h2⟩ := h
  exact ⟨sv, pv, rfl, own_below h1 hb, own_below h2 hb⟩
theorem own_ne {W : World} {B B' e e' s s' n n' : Nat} {v v' : Value} {xs xs' : List Value} (h : W.ownsRow B e s v n xs) (h' : W.ownsRow B' e' s' v' n' xs') (hne : e ≠ e') {g : Nat} (hg : v.ownBlock = some g) : v'.ownBlock ≠ some g := by
  intro hg'
  rcases h.2 with ⟨rfl, _⟩ | ⟨g1, cap, cur, rfl, _, hh, _⟩
  · cases hg
  · rcases h'.2 with ⟨rfl, _⟩ | ⟨g2, cap', cur', rfl, _, hh', _⟩
    · cases hg'
    · have e1 : g1 = g := by simpa [Value.ownBlock] using hg
      have e2 : g2 = g := by simpa [Value.ownBlock] using hg'
      rw [e1] at hh
      rw [e2] at hh'
      rw [hh] at hh'
      injection hh' with hh'
      injection hh' with _ ht
      exact hne ht
/-- Two rows in new memory, of two kinds. -/
theorem St.take2 {w0 w w' : World} {n : Nat} {L : List Item} (h : St w0 w n L) (hb : Below w.heap.size w w') {e e' s s' m m' : Nat} {v v' : Value} {xs xs' : List Value} (ho : w'.ownsRow w.heap.size e s v m xs) (ho' : w'.ownsRow w.heap.size e' s' v' m' xs') (hne : e ≠ e') : St w0 w' w'.heap.size (.own e s v m xs :: .own e' s' v' m' xs' :: L) := by
  have h1 := h.take hb ho'
  refine ⟨rfl, h1.bel, fun x hx => ?_, ?_⟩
  · rcases List.mem_cons.1 hx with hx | hx
    · rw [hx]; exact own_base' ho h.bel.size
    · exact h1.ok x hx
  · rw [List.filterMap_cons]
    split
    · exact h1.apart
    · rename_i b hb'
      refine List.nodup_cons.2 ⟨fun hm => ?_, h1.apart⟩
      rw [List.filterMap_cons] at hm
      split at hm
      · have h3 := (ho.lt b hb').1
        have h4 := (h.lt_of hm).2
        have := h.size
        omega
      · rename_i c hc
        rcases List.mem_cons.1 hm with rfl | hm
        · exact own_ne ho ho' hne hb' hc
        · have h3 := (ho.lt b hb').1
          have h4 := (h.lt_of hm).2
          have := h.size
          omega

set_option maxRecDepth 20000 in
set_option maxHeartbeats 4000000 in
theorem copy_any (v : Value) (t : Twn) (w : World) (hv : TwnAt w v t) (hlen : t.snd.length ≤ 1000) (hlen' : t.slp.length ≤ 1000) :
    Calls Tryd.prog 45 #[v] w fun e w' => ∃ v', e = .returned v' ∧ OwnTwn w' w.heap.size v' t ∧ Below w.heap.size w w' := by
  obtain ⟨sv, pv, rfl, hs, hp⟩ := hv
  have HSN := Lib.hid hs
  have HSP := Lib.hid hp
  obtain ⟨A1, c1, rfl, -, -, -⟩ := id hs.open_
  obtain ⟨A2, c2, rfl, -, -, -⟩ := id hp.open_
  clear hs hp
  have S := Lib.hid (show St w (w.alloc (.cells #[I t.wells, .slice A1 t.snd.length c1, .slice A2 t.slp.length c2] 25)) (w.heap.size + 1) [.box w.heap.size [I t.wells, .slice A1 t.snd.length c1, .slice A2 t.slp.length c2]] from (St.init w).alloc [I t.wells, .slice A1 t.snd.length c1, .slice A2 t.slp.length c2] 25)
  obtain ⟨i0, hi, hz0, hz1, hz2⟩ := info_parts (P := Tryd.prog) (e := 31) (z := .agg #[.int .i64 0, .int .i64 0, .int .i64 0]) (size := 3) (bytes := 24) (by kernel_rfl)
  obtain ⟨j0, ki, kz0, kz1, kz2⟩ := info_parts (P := Tryd.prog) (e := 77) (z := .agg #[.int .i64 0, .int .i64 0, .int .i64 0, .int .i64 0]) (size := 4) (bytes := 32) (by kernel_rfl)
  have S := Lib.hid (S.out.alloc [I 0, .slice none 0 0, .slice none 0 0] 25)
  go_enter Tryd.func45, Tryd.ntmps45
  go_wp2_with fail
  refine wp_region_treeB (.node [0, 1, 3, 4, 7, 8] [2, 6] (fun l => if l = 2 then .node [] [5, 6] (fun l => if l = 5 then .node [] [6] (fun _ => .node [] [9] (fun _ => .last [10] [11])) else .node [] [5] (fun _ => .node [] [9] (fun _ => .last [10] [11]))) else .node [] [2] (fun _ => .node [] [5] (fun _ => .node [] [9] (fun _ => .last [10] [11]))))) 11 (by kernel_rfl) (by kernel_rfl) ?_
  intro KQ hKQ w1 hb
  have S := Lib.hid (S.out.call hb)
  clear hb
  have k0 := cell_regrown (S.out.get 1 0 rfl rfl)
  have k1 := cell_regrown (S.out.get 1 1 rfl rfl)
  have k2 := cell_regrown (S.out.get 1 2 rfl rfl)
  have HB := Lib.hid (Below.refl w1.heap.size w1)
  refine treeB_node ?_
  simp only [opsAt, List.filterMap_cons, List.filterMap_nil, List.getElem?_toArray, List.getElem?_cons_succ, List.getElem?_cons_zero]
  repeat (first | go_big_quiet_step (fail) | quiet_step (fail))
  refine wpQuiet_nil ?_
  refine all_two ?_ ?_
  · have le2 := Lib.hid HB.out.size
    intro K hK
    refine loud_op rfl rfl ?_
    go_simp
    have hb := (Below.refl w1.heap.size w1).alloc (Nat.le_refl _) (.cells #[] 31)
    have hg := heap_alloc_new w1 (.cells #[] 31)
    obtain ⟨w2, hwd⟩ : ∃ x, w1.alloc (.cells #[] 31) = x := ⟨_, rfl⟩
    rw [hwd] at hb hg ⊢
    clear hwd
    have HB := Lib.hid (bto HB.out hb)
    have G2 := Lib.hid hg
    refine hK _ _ HB.out ?_
    clear hK K hb hg
    refine treeB_node ?_
    simp only [opsAt, List.filterMap_nil]
    refine wpQuiet_nil ?_
    refine all_two ?_ ?_
    · intro K hK
      refine loud_op rfl rfl ?_
      have hrd : Reads w2 3 _ t.snd.length (sndCells t.snd) := (HSN.out.below (bto S.out.bel HB.out))
      refine wp_append_fresh _ (.tmp 5) (.tmp 7) 22 rfl w1.heap.size 31 i0 (.agg #[.int .i64 0, .int .i64 0, .int .i64 0]) 3 24 Tryd.underlying22 hi hz0 hz1 hz2 rfl (by omega) w1.heap.size rfl G2.out le2.out _ t.snd.length (sndCells t.snd) rfl hrd (snds_one t.snd) (by simp only [maxLen]; omega) (by omega) HB.out.size ?_
      intro v1 w3 hown hb
      have HB := Lib.hid (bto HB.out hb)
      have O1 := Lib.hid hown
      refine hK _ _ HB.out ?_
      clear hK K hb hown hrd
      refine treeB_node ?_
      simp only [opsAt, List.filterMap_nil]
      refine wpQuiet_nil ?_
      refine all_one ?_
      have le6 := Lib.hid HB.out.size
      intro K hK
      refine loud_op rfl rfl ?_
      go_simp
      have hb := (Below.refl w3.heap.size w3).alloc (Nat.le_refl _) (.cells #[] 77)
      have hg := heap_alloc_new w3 (.cells #[] 77)
      obtain ⟨w4, hwd⟩ : ∃ x, w3.alloc (.cells #[] 77) = x := ⟨_, rfl⟩
      rw [hwd] at hb hg ⊢
      clear hwd
      have O1 := Lib.hid (own_below O1.out hb)
      have HB := Lib.hid (bto HB.out hb)
      have G6 := Lib.hid hg
      refine hK _ _ HB.out ?_
      clear hK K hb hg
      refine treeB_node ?_
      simp only [opsAt, List.filterMap_nil]
      refine wpQuiet_nil ?_
      refine all_one ?_
      intro K hK
      refine loud_op rfl rfl ?_
      have hrd : Reads w4 4 _ t.slp.length (slpCells t.slp) := (HSP.out.below (bto S.out.bel HB.out))
      refine wp_append_fresh _ (.tmp 9) (.tmp 11) 23 rfl w1.heap.size 77 j0 (.agg #[.int .i64 0, .int .i64 0, .int .i64 0, .int .i64 0]) 4 32 Tryd.underlying23 ki kz0 kz1 kz2 rfl (by omega) w3.heap.size rfl G6.out le6.out _ t.slp.length (slpCells t.slp) rfl hrd (slps_one t.slp) (by simp only [maxLen]; omega) (by omega) HB.out.size ?_
      intro v2 w5 hown hb
      have O1 := Lib.hid (own_below O1.out hb)
      have HB := Lib.hid (bto HB.out hb)
      have O2 := Lib.hid hown
      refine hK _ _ HB.out ?_
      clear hK K hb hown hrd
      obtain ⟨Av1, cv1, rfl⟩ := own_shape O1.out
      obtain ⟨Av2, cv2, rfl⟩ := own_shape O2.out
      refine treeB_last ?_
      simp only [opsAt, List.filterMap_cons, List.filterMap_nil, List.getElem?_toArray, List.getElem?_cons_succ, List.getElem?_cons_zero]
      repeat (first | go_big_quiet_step (fail) | quiet_step (fail))
      refine wpQuiet_nil ?_
      have S := Lib.hid (S.out.take2 HB.out O1.out O2.out (by decide))
      have S2 := ((S.out.set 2 0 (I t.wells) rfl).set 2 1 (.slice Av1 t.snd.length cv1) rfl).set 2 2 (.slice Av2 t.slp.length cv2) rfl
      have u0 := S.out.get 2 0 rfl rfl
      have u1 := S.out.get 2 1 rfl rfl
      have u2 := S.out.get 2 2 rfl rfl
      have u3 := S.out.free 2 0 rfl
      have u4 := S.out.free 2 1 rfl
      have u5 := S.out.free 2 2 rfl
      have r0 := S2.get 2 0 rfl rfl
      have r1 := S2.get 2 1 rfl rfl
      have r2 := S2.get 2 2 rfl rfl
      clear k0 k1 k2
      go_wp2_with fail
      refine bodyPost_ret (v := .agg #[I t.wells, .slice Av1 t.snd.length cv1, .slice Av2 t.slp.length cv2]) (by simp [results, Tryd.results45, go_sem, r0, r1, r2]) rfl ⟨_, rfl, ⟨_, _, rfl, S2.own 0 rfl, S2.own 1 rfl⟩, S2.bel⟩
    · have le6 := Lib.hid HB.out.size
      intro K hK
      refine loud_op rfl rfl ?_
      go_simp
      have hb := (Below.refl w2.heap.size w2).alloc (Nat.le_refl _) (.cells #[] 77)
      have hg := heap_alloc_new w2 (.cells #[] 77)
      have ho := (heap_alloc_old w2 (.cells #[] 77) (r := w1.heap.size) (lt_of_block G2.out)).trans G2.out
      obtain ⟨w3, hwd⟩ : ∃ x, w2.alloc (.cells #[] 77) = x := ⟨_, rfl⟩
      rw [hwd] at hb hg ho ⊢
      clear hwd
      have HB := Lib.hid (bto HB.out hb)
      have G6 := Lib.hid hg
      have G2 := Lib.hid ho
      clear ho
      refine hK _ _ HB.out ?_
      clear hK K hb hg
      refine treeB_node ?_
      simp only [opsAt, List.filterMap_nil]
      refine wpQuiet_nil ?_
      refine all_one ?_
      intro K hK
      refine loud_op rfl rfl ?_
      have hrd : Reads w3 3 _ t.snd.length (sndCells t.snd) := (HSN.out.below (bto S.out.bel HB.out))
      refine wp_append_fresh _ (.tmp 5) (.tmp 7) 22 rfl w1.heap.size 31 i0 (.agg #[.int .i64 0, .int .i64 0, .int .i64 0]) 3 24 Tryd.underlying22 hi hz0 hz1 hz2 rfl (by omega) w1.heap.size rfl G2.out le2.out _ t.snd.length (sndCells t.snd) rfl hrd (snds_one t.snd) (by simp only [maxLen]; omega) (by omega) HB.out.size ?_
      intro v1 w4 hown hb
      have G6 := Lib.hid ((hb.block _ (lt_of_block G6.out)).trans G6.out)
      have HB := Lib.hid (bto HB.out hb)
      have O1 := Lib.hid hown
      refine hK _ _ HB.out ?_
      clear hK K hb hown hrd
      refine treeB_node ?_
      simp only [opsAt, List.filterMap_nil]
      refine wpQuiet_nil ?_
      refine all_one ?_
      intro K hK
      refine loud_op rfl rfl ?_
      have hrd : Reads w4 4 _ t.slp.length (slpCells t.slp) := (HSP.out.below (bto S.out.bel HB.out))
      refine wp_append_fresh _ (.tmp 9) (.tmp 11) 23 rfl w1.heap.size 77 j0 (.agg #[.int .i64 0, .int .i64 0, .int .i64 0, .int .i64 0]) 4 32 Tryd.underlying23 ki kz0 kz1 kz2 rfl (by omega) w2.heap.size rfl G6.out le6.out _ t.slp.length (slpCells t.slp) rfl hrd (slps_one t.slp) (by simp only [maxLen]; omega) (by omega) HB.out.size ?_
      intro v2 w5 hown hb
      have O1 := Lib.hid (own_below O1.out hb)
      have HB := Lib.hid (bto HB.out hb)
      have O2 := Lib.hid hown
      refine hK _ _ HB.out ?_
      clear hK K hb hown hrd
      obtain ⟨Av1, cv1, rfl⟩ := own_shape O1.out
      obtain ⟨Av2, cv2, rfl⟩ := own_shape O2.out
      refine treeB_last ?_
      simp only [opsAt, List.filterMap_cons, List.filterMap_nil, List.getElem?_toArray, List.getElem?_cons_succ, List.getElem?_cons_zero]
      repeat (first | go_big_quiet_step (fail) | quiet_step (fail))
      refine wpQuiet_nil ?_
      have S := Lib.hid (S.out.take2 HB.out O1.out O2.out (by decide))
      have S2 := ((S.out.set 2 0 (I t.wells) rfl).set 2 1 (.slice Av1 t.snd.length cv1) rfl).set 2 2 (.slice Av2 t.slp.length cv2) rfl
      have u0 := S.out.get 2 0 rfl rfl
      have u1 := S.out.get 2 1 rfl rfl
      have u2 := S.out.get 2 2 rfl rfl
      have u3 := S.out.free 2 0 rfl
      have u4 := S.out.free 2 1 rfl
      have u5 := S.out.free 2 2 rfl
      have r0 := S2.get 2 0 rfl rfl
      have r1 := S2.get 2 1 rfl rfl
      have r2 := S2.get 2 2 rfl rfl
      clear k0 k1 k2
      go_wp2_with fail
      refine bodyPost_ret (v := .agg #[I t.wells, .slice Av1 t.snd.length cv1, .slice Av2 t.slp.length cv2]) (by simp [results, Tryd.results45, go_sem, r0, r1, r2]) rfl ⟨_, rfl, ⟨_, _, rfl, S2.own 0 rfl, S2.own 1 rfl⟩, S2.bel⟩
  · have le6 := Lib.hid HB.out.size
    intro K hK
    refine loud_op rfl rfl ?_
    go_simp
    have hb := (Below.refl w1.heap.size w1).alloc (Nat.le_refl _) (.cells #[] 77)
    have hg := heap_alloc_new w1 (.cells #[] 77)
    obtain ⟨w2, hwd⟩ : ∃ x, w1.alloc (.cells #[] 77) = x := ⟨_, rfl⟩
    rw [hwd] at hb hg ⊢
    clear hwd
    have HB := Lib.hid (bto HB.out hb)
    have G6 := Lib.hid hg
    refine hK _ _ HB.out ?_
    clear hK K hb hg
    refine treeB_node ?_
    simp only [opsAt, List.filterMap_nil]
    refine wpQuiet_nil ?_
    refine all_one ?_
    have le2 := Lib.hid HB.out.size
    intro K hK
    refine loud_op rfl rfl ?_
    go_simp
    have hb := (Below.refl w2.heap.size w2).alloc (Nat.le_refl _) (.cells #[] 31)
    have hg := heap_alloc_new w2 (.cells #[] 31)
    have ho := (heap_alloc_old w2 (.cells #[] 31) (r := w1.heap.size) (lt_of_block G6.out)).trans G6.out
    obtain ⟨w3, hwd⟩ : ∃ x, w2.alloc (.cells #[] 31) = x := ⟨_, rfl⟩
    rw [hwd] at hb hg ho ⊢
    clear hwd
    have HB := Lib.hid (bto HB.out hb)
    have G2 := Lib.hid hg
    have G6 := Lib.hid ho
    clear ho
    refine hK _ _ HB.out ?_
    clear hK K hb hg
    refine treeB_node ?_
    simp only [opsAt, List.filterMap_nil]
    refine wpQuiet_nil ?_
    refine all_one ?_
    intro K hK
    refine loud_op rfl rfl ?_
    have hrd : Reads w3 3 _ t.snd.length (sndCells t.snd) := (HSN.out.below (bto S.out.bel HB.out))
    refine wp_append_fresh _ (.tmp 5) (.tmp 7) 22 rfl w1.heap.size 31 i0 (.agg #[.int .i64 0, .int .i64 0, .int .i64 0]) 3 24 Tryd.underlying22 hi hz0 hz1 hz2 rfl (by omega) w2.heap.size rfl G2.out le2.out _ t.snd.length (sndCells t.snd) rfl hrd (snds_one t.snd) (by simp only [maxLen]; omega) (by omega) HB.out.size ?_
    intro v1 w4 hown hb
    have G6 := Lib.hid ((hb.block _ (lt_of_block G6.out)).trans G6.out)
    have HB := Lib.hid (bto HB.out hb)
    have O1 := Lib.hid hown
    refine hK _ _ HB.out ?_
    clear hK K hb hown hrd
    refine treeB_node ?_
    simp only [opsAt, List.filterMap_nil]
    refine wpQuiet_nil ?_
    refine all_one ?_
    intro K hK
    refine loud_op rfl rfl ?_
    have hrd : Reads w4 4 _ t.slp.length (slpCells t.slp) := (HSP.out.below (bto S.out.bel HB.out))
    refine wp_append_fresh _ (.tmp 9) (.tmp 11) 23 rfl w1.heap.size 77 j0 (.agg #[.int .i64 0, .int .i64 0, .int .i64 0, .int .i64 0]) 4 32 Tryd.underlying23 ki kz0 kz1 kz2 rfl (by omega) w1.heap.size rfl G6.out le6.out _ t.slp.length (slpCells t.slp) rfl hrd (slps_one t.slp) (by simp only [maxLen]; omega) (by omega) HB.out.size ?_
    intro v2 w5 hown hb
    have O1 := Lib.hid (own_below O1.out hb)
    have HB := Lib.hid (bto HB.out hb)
    have O2 := Lib.hid hown
    refine hK _ _ HB.out ?_
    clear hK K hb hown hrd
    obtain ⟨Av1, cv1, rfl⟩ := own_shape O1.out
    obtain ⟨Av2, cv2, rfl⟩ := own_shape O2.out
    refine treeB_last ?_
    simp only [opsAt, List.filterMap_cons, List.filterMap_nil, List.getElem?_toArray, List.getElem?_cons_succ, List.getElem?_cons_zero]
    repeat (first | go_big_quiet_step (fail) | quiet_step (fail))
    refine wpQuiet_nil ?_
    have S := Lib.hid (S.out.take2 HB.out O1.out O2.out (by decide))
    have S2 := ((S.out.set 2 0 (I t.wells) rfl).set 2 1 (.slice Av1 t.snd.length cv1) rfl).set 2 2 (.slice Av2 t.slp.length cv2) rfl
    have u0 := S.out.get 2 0 rfl rfl
    have u1 := S.out.get 2 1 rfl rfl
    have u2 := S.out.get 2 2 rfl rfl
    have u3 := S.out.free 2 0 rfl
    have u4 := S.out.free 2 1 rfl
    have u5 := S.out.free 2 2 rfl
    have r0 := S2.get 2 0 rfl rfl
    have r1 := S2.get 2 1 rfl rfl
    have r2 := S2.get 2 2 rfl rfl
    clear k0 k1 k2
    go_wp2_with fail
    refine bodyPost_ret (v := .agg #[I t.wells, .slice Av1 t.snd.length cv1, .slice Av2 t.slp.length cv2]) (by simp [results, Tryd.results45, go_sem, r0, r1, r2]) rfl ⟨_, rfl, ⟨_, _, rfl, S2.own 0 rfl, S2.own 1 rfl⟩, S2.bel⟩

set_option maxRecDepth 20000 in
set_option maxHeartbeats 1000000 in
theorem many_any (v : Value) (t : Twn) (w : World) (hv : TwnAt w v t) (hl1 : t.snd.length ≤ 1000) (hl2 : t.slp.length ≤ 1000) :
    Calls Tryd.prog 32 #[v] w fun e w' => e = .returned (I ((t.snd.length + t.slp.length : Nat) : Int)) ∧ Below w.heap.size w w' := by
  obtain ⟨sv, pv, rfl, hs, hp⟩ := hv
  have HSN := Lib.hid hs
  have HSP := Lib.hid hp
  obtain ⟨A1, c1, rfl, -, -, -⟩ := id hs.open_
  obtain ⟨A2, c2, rfl, -, -, -⟩ := id hp.open_
  clear hs hp
  have S := Lib.hid (show St w (w.alloc (.cells #[I t.wells, .slice A1 t.snd.length c1, .slice A2 t.slp.length c2] 25)) (w.heap.size + 1) [.box w.heap.size [I t.wells, .slice A1 t.snd.length c1, .slice A2 t.slp.length c2]] from (St.init w).alloc [I t.wells, .slice A1 t.snd.length c1, .slice A2 t.slp.length c2] 25)
  have q0 := S.out.get 0 0 rfl rfl
  have q1 := S.out.get 0 1 rfl rfl
  have q2 := S.out.get 0 2 rfl rfl
  go_enter Tryd.func32, Tryd.ntmps32
  go_wp2_with fail
  go_ret
  exact ⟨rfl, S.out.bel⟩

def hugeB (t : Twn) : Bool := decide ((40 : Int) < (t.snd.length : Int)) || decide ((40 : Int) < (t.slp.length : Int))
set_option maxRecDepth 20000 in
set_option maxHeartbeats 2000000 in
theorem huge_any (v : Value) (t : Twn) (w : World) (hv : TwnAt w v t) :
    Calls Tryd.prog 31 #[v] w fun e w' => e = .returned (.bool (hugeB t)) ∧ Below w.heap.size w w' := by
  obtain ⟨sv, pv, rfl, hs, hp⟩ := hv
  have HSN := Lib.hid hs
  have HSP := Lib.hid hp
  obtain ⟨A1, c1, rfl, -, -, -⟩ := id hs.open_
  obtain ⟨A2, c2, rfl, -, -, -⟩ := id hp.open_
  clear hs hp
  have S := Lib.hid (show St w (w.alloc (.cells #[I t.wells, .slice A1 t.snd.length c1, .slice A2 t.slp.length c2] 25)) (w.heap.size + 1) [.box w.heap.size [I t.wells, .slice A1 t.snd.length c1, .slice A2 t.slp.length c2]] from (St.init w).alloc [I t.wells, .slice A1 t.snd.length c1, .slice A2 t.slp.length c2] 25)
  have q0 := S.out.get 0 0 rfl rfl
  have q1 := S.out.get 0 1 rfl rfl
  have q2 := S.out.get 0 2 rfl rfl
  by_cases g1 : 40 < t.snd.length
  · have HE := Lib.hid (show hugeB t = true by simp [hugeB]; omega)
    go_enter Tryd.func31, Tryd.ntmps31
    go_wp2_with fail
    all_goals
      go_ret
      refine ⟨?_, S.out.bel⟩
      rw [HE.out]
      first | rfl | (simp; done) | (simp; omega)
  · by_cases g2 : 40 < t.slp.length
    · have HE := Lib.hid (show hugeB t = true by simp [hugeB]; omega)
      go_enter Tryd.func31, Tryd.ntmps31
      go_wp2_with fail
      all_goals
        go_ret
        refine ⟨?_, S.out.bel⟩
        rw [HE.out]
        first | rfl | (simp; done) | (simp; omega)
    · have HE := Lib.hid (show hugeB t = false by simp [hugeB]; omega)
      go_enter Tryd.func31, Tryd.ntmps31
      go_wp2_with fail
      all_goals
        go_ret
        refine ⟨?_, S.out.bel⟩
        rw [HE.out]
        first | rfl | (simp; done) | (simp; omega)

def isKnownB (n : Int) : Bool := n == 0 || n == 3
def insideS (a b : Sp) : Bool := decide (b.low ≤ a.low) && decide (a.low ≤ a.high) && decide (a.high ≤ b.high)
set_option maxHeartbeats 1000000 in
theorem sameInts_any (va vb : Value) (xs ys : List Int) (w : World) (ha : Ints w va xs) (hb : Ints w vb ys) (hlen : xs.length ≤ 1000) (hlen' : ys.length ≤ 1000) :
    Calls Tryd.prog 39 #[va, vb] w fun e w' => e = .returned (.bool (decide (xs = ys))) ∧ Below w.heap.size w w' := by
  obtain ⟨A, c, rfl, hac, hcm, ha⟩ := ha.open_
  obtain ⟨A', c', rfl, hac', hcm', ha'⟩ := hb.open_
  have HA := Lib.hid ha
  have HA' := Lib.hid ha'
  clear ha ha' hb
  by_cases hl : xs.length = ys.length
  · have hl1 : ((xs.length : Int) != (ys.length : Int)) = false := by simp; omega
    have HL := Lib.hid hl
    clear hl
    go_enter Tryd.func39, Tryd.ntmps39
    go_wp2_with fail
    go_loopw [5] (fun i wr => ∃ k : Nat, k ≤ xs.length ∧ i = I k ∧ Hid (xs.take k = ys.take k) ∧ Hid (Below w.heap.size w wr)) (fun i _ => xs.length - (intOf i).toNat)
    case atStart => exact ⟨0, by omega, rfl, Lib.hid (by simp), Lib.hid (Below.refl _ _)⟩
    case round =>
      obtain ⟨k, hk, rfl, hj, hbw⟩ := hrel
      by_cases hlt : k < xs.length
      · have hlt' : k < ys.length := by have := HL.out; omega
        obtain ⟨b, o, rfl, hbl, hcell⟩ := HA.out (by omega)
        obtain ⟨b', o', rfl, hbl', hcell'⟩ := HA'.out (by omega)
        have y0 := cell_regrown (keep_cell hbw.out (hcell k hlt))
        have y1 := cell_regrown (keep_cell hbw.out (hcell' k hlt'))
        have q1 : (k : Int) < (xs.length : Int) := by omega
        have q2 : (k : Int) < (ys.length : Int) := by omega
        clear hcell hcell'
        by_cases he : xs[k] = ys[k]
        · have hq : (xs[k] != ys[k]) = false := by simp [he]
          have HE := Lib.hid (show xs.take (k + 1) = ys.take (k + 1) by rw [List.take_succ_eq_append_getElem hlt, List.take_succ_eq_append_getElem hlt', hj.out, he])
          clear he
          go_wp2_with fail
          refine wp_region_ext (by kernel_rfl) (by kernel_rfl) ?_
          repeat (first | go_big_quiet_step (fail) | quiet_step (fail))
          refine wpQuiet_nil ?_
          clear y0 y1
          intro w1 hb1
          go_wp2_with fail
          go_roundw
          case rel => exact ⟨k + 1, by omega, by go_num, HE, Lib.hid (bto hbw.out hb1)⟩
          case measure => first | (simp [intOf]; done) | (simp [intOf]; omega)
        · have hq : (xs[k] != ys[k]) = true := by simp [he]
          have HE := Lib.hid (show ¬ xs = ys from fun h => he (by subst h; rfl))
          clear he
          go_wp2_with fail
          refine wp_region_ext (by kernel_rfl) (by kernel_rfl) ?_
          repeat (first | go_big_quiet_step (fail) | quiet_step (fail))
          refine wpQuiet_nil ?_
          clear y0 y1
          intro w1 hb1
          go_wp2_with fail
          go_ret
          exact ⟨by rw [decide_eq_false HE.out]; rfl, bto hbw.out hb1⟩
      · obtain rfl : k = xs.length := by omega
        have HE := Lib.hid (show xs = ys by
          have h1 := hj.out
          have h2 := HL.out
          rw [List.take_length, h2, List.take_length] at h1
          exact h1)
        go_wp2_with fail
        go_ret
        exact ⟨by rw [decide_eq_true HE.out]; rfl, hbw.out⟩
  · have hl1 : ((xs.length : Int) != (ys.length : Int)) = true := by simp; omega
    have HE := Lib.hid (show ¬ xs = ys from fun h => hl (by rw [h]))
    clear hl
    go_enter Tryd.func39, Tryd.ntmps39
    go_wp2_with fail
    go_ret
    exact ⟨by rw [decide_eq_false HE.out]; rfl, Below.refl _ _⟩
end Go.Proofs.YtldcehhhndlhdaaDoor

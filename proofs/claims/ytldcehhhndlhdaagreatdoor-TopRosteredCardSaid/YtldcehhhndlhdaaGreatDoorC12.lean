/- Walks: ends, Lowest, Highest. -/
import Derived.Test.YtldcehhhndlhdaaGreatDoorC11
import Derived.Shelf.Abstract
namespace Go.Proofs.YtldcehhhndlhdaaGreatDoor
open Go.RowKit Go.Sort Go.Shelf
attribute [local go_sem] Oper.semAt_some

/-- A list of numbers, and an error. -/
def RetL (w : World) (l : List Int) (err : Int) (e : Ending) (w' : World) : Prop := ∃ v, e = .returned (.tuple #[v, I err]) ∧ Ints w' v l ∧ Below w.heap.size w w'
theorem ints_nil (w : World) : Ints w (.slice none 0 0) [] := ⟨rfl, none, 0, rfl, by simp, by omega, fun h => absurd h (by simp)⟩
def endsP (t : Twn) (g : Sp → Int) : List Int × Int := if openE t true = 0 then ((List.range t.wells.toNat).map fun w => g (lvl (closeM (baseM t)) w), 0) else ([], openE t true)
theorem tight_ok {t : Twn} {ms : List Int} (hv : Vl t) (h : Tight t ms) (hl : ms.length = 49) (hi : Iso t.wells ms) : Okm ms := by
  refine ⟨hl, fun i hi7 => ?_⟩
  have h6 := hv.w6
  by_cases ha : act t.wells i
  · have h1 := h.fin i 6 ha (.inr rfl)
    have h2 := h.fin 6 i (.inr rfl) ha
    omega
  · have hne : i ≠ 6 := fun e => ha (.inr e)
    have h1 := hi i 6 hi7 (by omega) hne (fun h => ha h.1)
    have h2 := hi 6 i (by omega) hi7 (fun e => hne e.symm) (fun h => ha h.2)
    omega
/-- The closed bounds of a town that has a truth are small. -/
theorem open_ok {t : Twn} {is : Bool} (h : openE t is = 0) : Okm (closeM (baseM t)) ∧ Sml (closeM (baseM t)) t.wells.toNat := by
  obtain ⟨hv, -, -⟩ := openE_zero h
  have hs := baseM_says hv
  have ht := open_tight h
  refine ⟨tight_ok hv ht (closeBase_len t) (Iso.closeK hs.bd.len hs.iso 7 (by omega)), fun i hi => ?_⟩
  have h1 := ht.fin i 6 (.inl (by omega)) (.inr rfl)
  have h2 := ht.fin 6 i (.inr rfl) (.inl (by omega))
  simp only [lvl]
  omega

def overL (l : List Int) (n : Int) (k : Nat) : List Int := ((List.range k).filter fun i => decide (n ≤ l.getD i 0)).map fun (i : Nat) => (i : Int)
theorem overL_snoc {l : List Int} {n : Int} {k : Nat} (h : k < l.length) : overL l n (k + 1) = if n ≤ l[k] then overL l n k ++ [(k : Int)] else overL l n k := by
  unfold overL
  rw [List.range_succ, List.filter_append]
  by_cases hn : n ≤ l[k] <;> simp [hn, List.getElem?_eq_getElem h]
theorem overL_len (l : List Int) (n : Int) (k : Nat) : (overL l n k).length ≤ k := by
  unfold overL
  rw [List.length_map]
  exact Nat.le_trans (List.length_filter_le _ _) (by simp)
theorem ints_lenE {t : Twn} {g : Sp → Int} : (endsP t g).1.length ≤ 6 := by
  unfold endsP
  split
  · rename_i h
    have := (openE_zero h).1.w6
    simp
    omega
  · simp

end Go.Proofs.YtldcehhhndlhdaaGreatDoor
/- Layer 1: one sounding more; each level between the ends is that of a truth. No program here. -/
namespace Go.Proofs.YtldcehhhndlhdaaGreatDoor
def addS (t : Twn) (s : Snd) : Twn := ⟨t.wells, t.snd ++ [s], t.slp⟩
def addP (t : Twn) (s : Slp) : Twn := ⟨t.wells, t.snd, t.slp ++ [s]⟩
section
theorem Vl.addS {t : Twn} (h : Vl t) {s : Snd} (hs : 0 ≤ s.well ∧ s.well < t.wells ∧ 0 ≤ s.low ∧ s.low ≤ s.high ∧ s.high ≤ 99) : Vl (addS t s) := by
  refine ⟨h.w0, h.w6, fun u hu => ?_, h.slp⟩
  rcases List.mem_append.1 hu with hu | hu
  · exact h.snd u hu
  · rw [List.mem_singleton.1 hu]; exact hs
theorem tr_addS {t : Twn} {s : Snd} {x : Nat → Int} : Tr (addS t s) x ↔ Tr t x ∧ s.low ≤ x s.well.toNat ∧ x s.well.toNat ≤ s.high := by
  constructor
  · intro h
    exact ⟨⟨h.own, fun u hu => h.snd u (List.mem_append_left _ hu), h.slp⟩, h.snd s (List.mem_append_right _ (List.mem_singleton.2 rfl))⟩
  · rintro ⟨h, h2⟩
    refine ⟨h.own, fun u hu => ?_, h.slp⟩
    rcases List.mem_append.1 hu with hu | hu
    · exact h.snd u hu
    · rw [List.mem_singleton.1 hu]; exact h2
theorem tr_addP {t : Twn} {s : Slp} {x : Nat → Int} : Tr (addP t s) x ↔ Tr t x ∧ s.low ≤ x s.b.toNat - x s.a.toNat ∧ x s.b.toNat - x s.a.toNat ≤ s.high := by
  constructor
  · intro h
    exact ⟨⟨h.own, h.snd, fun u hu => h.slp u (List.mem_append_left _ hu)⟩, h.slp s (List.mem_append_right _ (List.mem_singleton.2 rfl))⟩
  · rintro ⟨h, h2⟩
    refine ⟨h.own, h.snd, fun u hu => ?_⟩
    rcases List.mem_append.1 hu with hu | hu
    · exact h.slp u hu
    · rw [List.mem_singleton.1 hu]; exact h2
theorem Tight.bd {t : Twn} (hv : Vl t) {ms : List Int} (ht : Tight t ms) (hl : ms.length = 49) (hi : Iso t.wells ms) (hd : ∀ i, i < 7 → at_ ms i i = 0) : Bd 99 99 ms := by
  have h6 := hv.w6
  have key : ∀ i j, i < 7 → j < 7 → at_ ms i j = 1048576 ∨ (-99 ≤ at_ ms i j ∧ at_ ms i j ≤ 99) := by
    intro i j hi7 hj7
    by_cases ha : act t.wells i ∧ act t.wells j
    · have := ht.fin i j ha.1 ha.2
      exact .inr (by omega)
    · by_cases e : i = j
      · subst e
        have := hd i hi7
        exact .inr (by omega)
      · exact .inl (hi i j hi7 hj7 e ha)
  exact ⟨hl, fun i j a b => by have := key i j a b; omega, fun i j a b => (key i j a b).imp id (fun e => e.2)⟩
/-- The closed bounds of a town that has a truth say what the town says. -/
theorem says_closed {t : Twn} (hv : Vl t) {ms : List Int} (hs : Says t ms) (hd : diagOk (closeM ms) = true) : Says t (closeM ms) ∧ Tight t (closeM ms) := by
  have ht := (says_ok hv hs).2 hd
  have hle : Le (closeM ms) ms := Le.closeK hs.bd.len 7 (by omega)
  have hl : (closeM ms).length = 49 := by rw [closeM_len, hs.bd.len]
  have hiso : Iso t.wells (closeM ms) := Iso.closeK hs.bd.len hs.iso 7 (by omega)
  have hz : ∀ i, i < 7 → at_ (closeM ms) i i = 0 := fun i hi => by
    have := hle i i hi hi
    have := hs.diag i hi
    have := diagOk_iff.1 hd i hi
    omega
  refine ⟨⟨ht.bd hv hl hiso hz, fun i hi => Int.le_of_eq (hz i hi), hiso, fun w hw => ?_, fun x => ?_⟩, ht⟩
  · have h6 := hv.w6
    have := hs.grd w hw
    have := hle 6 w (by omega) (by omega)
    have := hle w 6 (by omega) (by omega)
    omega
  · rw [Sol.closeM (hs.bd.top (by omega)), hs.sol x]
theorem says_sound {t : Twn} (hv : Vl t) {ms : List Int} (hs : Says t ms) {s : Snd} (h : 0 ≤ s.well ∧ s.well < t.wells ∧ 0 ≤ s.low ∧ s.low ≤ s.high ∧ s.high ≤ 99) : Says (addS t s) (soundM ms s) := by
  have h6 := hv.w6
  have htop := hs.bd.top (by omega)
  have hle : Le (soundM ms s) ms := (leave_le (by rw [leave_len]; exact hs.bd.len) (by omega) (by omega)).trans (leave_le hs.bd.len (by omega) (by omega))
  refine ⟨soundM_bd hs.bd h.1 (by omega) (by omega) (by omega) (by omega) (by omega) (by omega), fun i hi => Int.le_trans (hle i i hi hi) (hs.diag i hi), ?_, fun w hw => ?_, fun x => ?_⟩
  · have ha : act t.wells s.well.toNat := .inl (by omega)
    exact (hs.iso.leave hs.bd.len (by omega) (by omega) (.inr rfl) ha).leave (by rw [leave_len]; exact hs.bd.len) (by omega) (by omega) ha (.inr rfl)
  · have hw' : (w : Int) < t.wells := hw
    have := hs.grd w hw'
    have := hle 6 w (by omega) (by omega)
    have := hle w 6 (by omega) (by omega)
    omega
  · rw [soundM_sol htop h.1 (by omega) (by omega) (by omega), hs.sol x, tr_addS]
/-- Each level between the ends is that of a truth. -/
theorem mid_truth {t : Twn} (hv : Vl t) {l : List Sp} (he : Exact t l) {w : Nat} (hw : (w : Int) < t.wells) {n : Int} (h1 : (spAt l w).low ≤ n) (h2 : n ≤ (spAt l w).high) : ∃ x, Tr t x ∧ x w = n := by
  have h6 := hv.w6
  have h0 := hv.w0
  have hle : ∀ v : Nat, (v : Int) < t.wells → (spAt l v).low ≤ (spAt l v).high := fun v hv' => (he.all _ he.low v (by rw [he.len]; omega)).2
  refine ⟨fun v => max (spAt l v).low ((spAt l v).high - ((spAt l w).high - n)), ⟨fun v hv' => ?_, fun s hs => ?_, fun s hs => ?_⟩, ?_⟩
  · have a : 0 ≤ (spAt l v).low ∧ (spAt l v).low ≤ 99 := he.low.own v hv'
    have b : 0 ≤ (spAt l v).high ∧ (spAt l v).high ≤ 99 := he.high.own v hv'
    have c := hle v hv'
    show 0 ≤ max _ _ ∧ max _ _ ≤ 99
    omega
  · have hw' := hv.snd s hs
    have a : s.low ≤ (spAt l s.well.toNat).low ∧ (spAt l s.well.toNat).low ≤ s.high := he.low.snd s hs
    have b : s.low ≤ (spAt l s.well.toNat).high ∧ (spAt l s.well.toNat).high ≤ s.high := he.high.snd s hs
    show s.low ≤ max _ _ ∧ max _ _ ≤ s.high
    omega
  · have a : s.low ≤ (spAt l s.b.toNat).low - (spAt l s.a.toNat).low ∧ (spAt l s.b.toNat).low - (spAt l s.a.toNat).low ≤ s.high := he.low.slp s hs
    have b : s.low ≤ (spAt l s.b.toNat).high - (spAt l s.a.toNat).high ∧ (spAt l s.b.toNat).high - (spAt l s.a.toNat).high ≤ s.high := he.high.slp s hs
    show s.low ≤ max _ _ - max _ _ ∧ max _ _ - max _ _ ≤ s.high
    omega
  · have c := hle w hw
    show max _ _ = n
    omega
end
end Go.Proofs.YtldcehhhndlhdaaGreatDoor
/- Walks: Higher, worst, Ask. -/
namespace Go.Proofs.YtldcehhhndlhdaaGreatDoor
open Go.RowKit Go.Sort

def higherP (t : Twn) (a b : Int) : Int × Int := if (differP t b a).2 ≠ 0 then (0, (differP t b a).2) else if 0 < (differP t b a).1.low then (1, 0) else if (differP t b a).1.high ≤ 0 then (2, 0) else (3, 0)
/-- Closed bounds of a town that has a truth are small. -/
theorem says_okm {t : Twn} (hv : Vl t) {ms : List Int} (hs : Says t ms) (hd : diagOk (closeM ms) = true) : Okm (closeM ms) ∧ Sml (closeM ms) t.wells.toNat := by
  obtain ⟨h1, ht⟩ := says_closed hv hs hd
  have h0 := hv.w0
  refine ⟨tight_ok hv ht h1.bd.len h1.iso, fun i hi => ?_⟩
  have h1 := ht.fin i 6 (.inl (by omega)) (.inr rfl)
  have h2 := ht.fin 6 i (.inr rfl) (.inl (by omega))
  simp only [lvl]
  omega
theorem lvl_exact {t : Twn} (hv : Vl t) {ms : List Int} {l : List Sp} (ht : Tight t ms) (he : Exact t l) {w : Nat} (hw : (w : Int) < t.wells) : lvl ms w = spAt l w := by
  obtain ⟨h1, h2⟩ := tight_low hv ht he hw
  unfold lvl
  rw [h1, h2]
/-- A level between the ends leaves a truth. -/
theorem sound_ok {t : Twn} (h : openE t true = 0) {w : Nat} (hw : (w : Int) < t.wells) {n : Int} (h1 : (lvl (closeM (baseM t)) w).low ≤ n) (h2 : n ≤ (lvl (closeM (baseM t)) w).high) :
    0 ≤ n ∧ n ≤ 99 ∧ Says (addS t ⟨w, n, n⟩) (soundM (closeM (baseM t)) ⟨w, n, n⟩) ∧ diagOk (closeM (soundM (closeM (baseM t)) ⟨w, n, n⟩)) = true ∧ Vl (addS t ⟨w, n, n⟩) := by
  obtain ⟨hv, -, hd⟩ := openE_zero h
  obtain ⟨hs, ht⟩ := says_closed hv (baseM_says hv) hd
  obtain ⟨x, hx, -⟩ := ht.one 6 6 (.inr rfl) (.inr rfl)
  rcases spansR_cases hv with ⟨l, -, he⟩ | ⟨-, hn⟩
  · rw [lvl_exact hv ht he hw] at h1 h2
    obtain ⟨y, hy, hyn⟩ := mid_truth hv he hw h1 h2
    have hb := hy.own w hw
    rw [hyn] at hb
    have hok : (0 : Int) ≤ (⟨w, n, n⟩ : Snd).well ∧ (⟨w, n, n⟩ : Snd).well < t.wells ∧ 0 ≤ (⟨w, n, n⟩ : Snd).low ∧ (⟨w, n, n⟩ : Snd).low ≤ (⟨w, n, n⟩ : Snd).high ∧ (⟨w, n, n⟩ : Snd).high ≤ 99 := by
      dsimp only
      omega
    have hv2 : Vl (addS t ⟨w, n, n⟩) := hv.addS hok
    have hs2 := says_sound hv hs hok
    refine ⟨hb.1, hb.2, hs2, (says_ok hv2 hs2).1.2 ⟨y, tr_addS.2 ⟨hy, ?_⟩⟩, hv2⟩
    simp only [Int.toNat_natCast]
    omega
  · exact absurd ⟨x, hx⟩ hn
/-- The greatest width, if a well is sounded: of the first k levels that it can have. -/
def worstN (ms : List Int) (N w : Nat) : Nat → Int
  | 0 => 0
  | k + 1 => max (worstN ms N w k) (widL (closeM (soundM ms ⟨w, (lvl ms w).low + k, (lvl ms w).low + k⟩)) (List.range N))
def worstP (ms : List Int) (N w : Nat) : Int := worstN ms N w ((lvl ms w).high + 1 - (lvl ms w).low).toNat
/-- Which well's worst is the least, of the first k: and how much it is. -/
def askTo (ms : List Int) (N : Nat) : Nat → Int × Int
  | 0 => (0, 1048576)
  | k + 1 => if worstP ms N k < (askTo ms N k).2 then ((k : Int), worstP ms N k) else askTo ms N k
def askP (t : Twn) : Int × Int := if openE t true = 0 then (if widL (closeM (baseM t)) (List.range t.wells.toNat) = 0 then (0, 3) else ((askTo (closeM (baseM t)) t.wells.toNat t.wells.toNat).1, 0)) else (0, openE t true)

end Go.Proofs.YtldcehhhndlhdaaGreatDoor
/- Walks: Idle. -/
namespace Go.Proofs.YtldcehhhndlhdaaGreatDoor
open Go.RowKit Go.Sort

theorem Tr.sub {t : Twn} {is : Nat → Bool} {x : Nat → Int} (h : Tr t x) : Tr (sub t is) x :=
  ⟨h.own, fun s hs => h.snd s ((subL_sublist _ _ _).subset hs), fun s hs => h.slp s ((subL_sublist _ _ _).subset hs)⟩
def butW (n : Nat) (w : Nat) : Bool := w != n
/-- The words, of the first k, that say nothing more. -/
def idleTo (t : Twn) (k : Nat) : List Int := ((List.range k).filter fun n => sameL (closeM (baseM t)) (closeM (baseM (sub t (butW n)))) (List.range t.wells.toNat)).map fun (n : Nat) => (n : Int)
def idleP (t : Twn) : List Int × Int := if openE t true = 0 then (idleTo t (t.snd.length + t.slp.length), 0) else ([], openE t true)
theorem idleTo_snoc (t : Twn) (k : Nat) : idleTo t (k + 1) = if sameL (closeM (baseM t)) (closeM (baseM (sub t (butW k)))) (List.range t.wells.toNat) = true then idleTo t k ++ [(k : Int)] else idleTo t k := by
  unfold idleTo
  rw [List.range_succ, List.filter_append]
  cases h : sameL (closeM (baseM t)) (closeM (baseM (sub t (butW k)))) (List.range t.wells.toNat) <;> simp [h]
theorem idleTo_len (t : Twn) (k : Nat) : (idleTo t k).length ≤ k := by
  unfold idleTo
  rw [List.length_map]
  exact Nat.le_trans (List.length_filter_le _ _) (by simp)
/-- The closed bounds of fewer words are small. -/
theorem sub_okm {t : Twn} (h : openE t true = 0) (is : Nat → Bool) : Okm (closeM (baseM (sub t is))) := by
  obtain ⟨hv, -, hd⟩ := openE_zero h
  have hv2 := hv.sub is
  obtain ⟨x, hx⟩ := (says_ok hv (baseM_says hv)).1.1 hd
  exact (says_okm hv2 (baseM_says hv2) ((says_ok hv2 (baseM_says hv2)).1.2 ⟨x, hx.sub⟩)).1
end Go.Proofs.YtldcehhhndlhdaaGreatDoor
/- Walks: slices.Index, Contains, Clone at []int; the function value of Clash. -/
namespace Go.Proofs.YtldcehhhndlhdaaGreatDoor
open Go.RowKit Go.Sort

/-- A place of a number in a list, or -1. -/
def RetIdx (n : Int) (xs : List Int) (w : World) (e : Ending) (w' : World) : Prop := ∃ r : Int, e = .returned (I r) ∧ (0 ≤ r ↔ n ∈ xs) ∧ Below w.heap.size w w'

set_option maxRecDepth 20000 in
set_option maxHeartbeats 1000000 in
theorem cloneI_any (v : Value) (ps : List Int) (w : World) (hv : Ints w v ps) (hlen : ps.length ≤ 1000) :
    Calls Tryz.prog 43 #[v] w fun e w' => ∃ v', e = .returned v' ∧ w'.ownsRow w.heap.size 3 1 v' ps.length (ps.map I) ∧ Below w.heap.size w w' := by
  obtain ⟨i0, hi, hz0, hz1, hz2⟩ := info_parts Tryz.info3
  have h02 : 0 < 1 := by omega
  have h63 : 0 + ps.length ≤ maxLen := by simp only [maxLen]; omega
  have hby : (0 + ps.length) * 8 ≤ 140737488355328 := by omega
  have HV := Lib.hid (show Reads w 1 v ps.length (ps.map I) from hv)
  have hm0 : (0 : Nat) ≤ maxLen := by omega
  have hown := World.ownsRow_made (e := 3) (size := 1) w #[] 0 (Nat.le_refl w.heap.size) hm0 rfl
  have hb0 : Below w.heap.size w (w.alloc (.cells #[] 3)) := (Below.refl _ _).alloc (Nat.le_refl _) _
  have hs0 := hb0.size
  obtain ⟨_, A, c, rfl, hmc, hc, hcell⟩ := hv
  rcases A with _ | ad
  · have hp : ps = [] := by
      rcases Nat.eq_zero_or_pos ps.length with h0 | h0
      · exact List.eq_nil_of_length_eq_zero h0
      · obtain ⟨b, o, h, _⟩ := hcell h0
        cases h
    subst hp
    clear hcell
    have hq := fun w => run_eql_slice_nil (P := Tryz.prog) w 22 3 none 0 c Tryz.underlying22
    go_enter Tryz.func43, Tryz.ntmps43
    go_wp2_with fail
    go_ret
    exact ⟨_, rfl, World.ownsRow_nil _ _ _ _, Below.refl _ _⟩
  · clear hcell
    have hq := fun w => run_eql_slice_nil (P := Tryz.prog) w 22 3 (some ad) ps.length c Tryz.underlying22
    go_enter Tryz.func43, Tryz.ntmps43
    go_wp2_with (at_builtin; refine wpList_append_src _ rfl _ _ 22 rfl w.heap.size 3 i0 (.int .i64 0) 1 8 Tryz.underlying22 hi hz0 hz1 hz2 rfl h02 _ _ _ rfl hown _ _ _ rfl (Reads.below HV.out hb0) (ints_one _) h63 hby hs0 ?_; intro v' w4 hown' hgrow _)
    go_ret
    rw [Nat.zero_add, List.nil_append] at hown'
    exact ⟨_, rfl, hown', hb0.grown hgrow hs0 (fun q hq => (hown.lt q hq).1)⟩

def hasW (l : List Nat) (w : Nat) : Bool := decide (w ∈ l)
/-- Numbers of words, as a list of integers. -/
def ofN (l : List Nat) : List Int := l.map fun (x : Nat) => (x : Int)
theorem mem_ofN {l : List Nat} {n : Nat} : (n : Int) ∈ ofN l ↔ n ∈ l := by
  unfold ofN
  rw [List.mem_map]
  exact ⟨fun ⟨a, h, e⟩ => (show a = n by omega) ▸ h, fun h => ⟨n, h, rfl⟩⟩
end Go.Proofs.YtldcehhhndlhdaaGreatDoor
/- Walks: the reference's Copy, Many; Huge, isKnown, inside. -/
namespace Go.Proofs.YtldcehhhndlhdaaGreatDoor
open Go.RowKit Go.Sort

theorem snds_one (ss : List Snd) : ∀ u ∈ sndCells ss, u.oneCell' = true := fun u hu => by
  obtain ⟨p, _, hu⟩ := List.mem_flatMap.1 hu
  simp at hu
  rcases hu with rfl | rfl | rfl <;> rfl
theorem slps_one (ss : List Slp) : ∀ u ∈ slpCells ss, u.oneCell' = true := fun u hu => by
  obtain ⟨p, _, hu⟩ := List.mem_flatMap.1 hu
  simp at hu
  rcases hu with rfl | rfl | rfl | rfl <;> rfl
theorem own_ne {W : World} {B B' e e' s s' n n' : Nat} {v v' : Value} {xs xs' : List Value} (h : W.ownsRow B e s v n xs) (h' : W.ownsRow B' e' s' v' n' xs') (hne : e ≠ e') {g : Nat} (hg : v.ownBlock = some g) : v'.ownBlock ≠ some g := by
  intro hg'
  rcases h.2 with ⟨rfl, _⟩ | ⟨g1, cap, cur, rfl, _, hh, _⟩
  · cases hg
  · rcases h'.2 with ⟨rfl, _⟩ | ⟨g2, cap', cur', rfl, _, hh', _⟩
    · cases hg'
    · have e1 : g1 = g := by simpa [Value.ownBlock] using hg
      have e2 : g2 = g := by simpa [Value.ownBlock] using hg'
      rw [e1] at hh
      rw [e2] at hh'
      rw [hh] at hh'
      injection hh' with hh'
      injection hh' with _ ht
      exact hne ht
/-- Two rows in new memory, of two kinds. -/
theorem St.take2 {w0 w w' : World} {n : Nat} {L : List Item} (h : St w0 w n L) (hb : Below w.heap.size w w') {e e' s s' m m' : Nat} {v v' : Value} {xs xs' : List Value} (ho : w'.ownsRow w.heap.size e s v m xs) (ho' : w'.ownsRow w.heap.size e' s' v' m' xs') (hne : e ≠ e') : St w0 w' w'.heap.size (.own e s v m xs :: .own e' s' v' m' xs' :: L) := by
  have h1 := h.take hb ho'
  refine ⟨rfl, h1.bel, fun x hx => ?_, ?_⟩
  · rcases List.mem_cons.1 hx with hx | hx
    · rw [hx]; exact own_base' ho h.bel.size
    · exact h1.ok x hx
  · rw [List.filterMap_cons]
    split
    · exact h1.apart
    · rename_i b hb'
      refine List.nodup_cons.2 ⟨fun hm => ?_, h1.apart⟩
      rw [List.filterMap_cons] at hm
      split at hm
      · have h3 := (ho.lt b hb').1
        have h4 := (h.lt_of hm).2
        have := h.size
        omega
      · rename_i c hc
        rcases List.mem_cons.1 hm with rfl | hm
        · exact own_ne ho ho' hne hb' hc
        · have h3 := (ho.lt b hb').1
          have h4 := (h.lt_of hm).2
          have := h.size
          omega

def hugeB (t : Twn) : Bool := decide ((40 : Int) < (t.snd.length : Int)) || decide ((40 : Int) < (t.slp.length : Int))
def isKnownB (n : Int) : Bool := n == 0 || n == 3
def insideS (a b : Sp) : Bool := decide (b.low ≤ a.low) && decide (a.low ≤ a.high) && decide (a.high ≤ b.high)
set_option maxHeartbeats 1000000 in
theorem sameInts_any (va vb : Value) (xs ys : List Int) (w : World) (ha : Ints w va xs) (hb : Ints w vb ys) (hlen : xs.length ≤ 1000) (hlen' : ys.length ≤ 1000) :
    Calls Tryz.prog 24 #[va, vb] w fun e w' => e = .returned (.bool (decide (xs = ys))) ∧ Below w.heap.size w w' := by
  obtain ⟨A, c, rfl, hac, hcm, ha⟩ := ha.open_
  obtain ⟨A', c', rfl, hac', hcm', ha'⟩ := hb.open_
  have HA := Lib.hid ha
  have HA' := Lib.hid ha'
  clear ha ha' hb
  by_cases hl : xs.length = ys.length
  · have hl1 : ((xs.length : Int) != (ys.length : Int)) = false := by simp; omega
    have HL := Lib.hid hl
    clear hl
    go_enter Tryz.func24, Tryz.ntmps24
    go_wp2_with fail
    go_loopw [5] (fun i wr => ∃ k : Nat, k ≤ xs.length ∧ i = I k ∧ Hid (xs.take k = ys.take k) ∧ Hid (Below w.heap.size w wr)) (fun i _ => xs.length - (intOf i).toNat)
    case atStart => exact ⟨0, by omega, rfl, Lib.hid (by simp), Lib.hid (Below.refl _ _)⟩
    case round =>
      obtain ⟨k, hk, rfl, hj, hbw⟩ := hrel
      by_cases hlt : k < xs.length
      · have hlt' : k < ys.length := by have := HL.out; omega
        obtain ⟨b, o, rfl, hbl, hcell⟩ := HA.out (by omega)
        obtain ⟨b', o', rfl, hbl', hcell'⟩ := HA'.out (by omega)
        have y0 := cell_regrown (keep_cell hbw.out (hcell k hlt))
        have y1 := cell_regrown (keep_cell hbw.out (hcell' k hlt'))
        have q1 : (k : Int) < (xs.length : Int) := by omega
        have q2 : (k : Int) < (ys.length : Int) := by omega
        clear hcell hcell'
        by_cases he : xs[k] = ys[k]
        · have hq : (xs[k] != ys[k]) = false := by simp [he]
          have HE := Lib.hid (show xs.take (k + 1) = ys.take (k + 1) by rw [List.take_succ_eq_append_getElem hlt, List.take_succ_eq_append_getElem hlt', hj.out, he])
          clear he
          go_wp2_with fail
          refine wp_region_ext (by kernel_rfl) (by kernel_rfl) ?_
          repeat (first | go_big_quiet_step (fail) | quiet_step (fail))
          refine wpQuiet_nil ?_
          clear y0 y1
          intro w1 hb1
          go_wp2_with fail
          go_roundw
          case rel => exact ⟨k + 1, by omega, by go_num, HE, Lib.hid (bto hbw.out hb1)⟩
          case measure => first | (simp [intOf]; done) | (simp [intOf]; omega)
        · have hq : (xs[k] != ys[k]) = true := by simp [he]
          have HE := Lib.hid (show ¬ xs = ys from fun h => he (by subst h; rfl))
          clear he
          go_wp2_with fail
          refine wp_region_ext (by kernel_rfl) (by kernel_rfl) ?_
          repeat (first | go_big_quiet_step (fail) | quiet_step (fail))
          refine wpQuiet_nil ?_
          clear y0 y1
          intro w1 hb1
          go_wp2_with fail
          go_ret
          exact ⟨by rw [decide_eq_false HE.out]; rfl, bto hbw.out hb1⟩
      · obtain rfl : k = xs.length := by omega
        have HE := Lib.hid (show xs = ys by
          have h1 := hj.out
          have h2 := HL.out
          rw [List.take_length, h2, List.take_length] at h1
          exact h1)
        go_wp2_with fail
        go_ret
        exact ⟨by rw [decide_eq_true HE.out]; rfl, hbw.out⟩
  · have hl1 : ((xs.length : Int) != (ys.length : Int)) = true := by simp; omega
    have HE := Lib.hid (show ¬ xs = ys from fun h => hl (by rw [h]))
    clear hl
    go_enter Tryz.func24, Tryz.ntmps24
    go_wp2_with fail
    go_ret
    exact ⟨by rw [decide_eq_false HE.out]; rfl, Below.refl _ _⟩
end Go.Proofs.YtldcehhhndlhdaaGreatDoor
/- Walks: the reference's Sounded; sounded, Example. -/
namespace Go.Proofs.YtldcehhhndlhdaaGreatDoor
open Go.RowKit Go.Sort

/-- A box reads as a slice of all its cells. -/
theorem St.boxReads {w0 w : World} {n : Nat} {L : List Item} (h : St w0 w n L) (i : Nat) {b : Nat} {cs : List Value} (hi : L[i]? = some (.box b cs)) {size m : Nat} (hm : cs.length = m * size) (hl : m ≤ 1000) : Reads w size (.slice (some ⟨b, 0, none⟩) m m) m cs := by
  refine ⟨hm, _, _, rfl, Nat.le_refl _, by omega, fun _ => ⟨b, 0, rfl, fun j u hu => ?_⟩⟩
  rw [Nat.zero_add]
  exact h.get i j hi hu

theorem sndCells_snoc (l : List Snd) (s : Snd) : sndCells (l ++ [s]) = sndCells l ++ [I s.well, I s.low, I s.high] := by simp [sndCells]
theorem slpCells_snoc (l : List Slp) (s : Slp) : slpCells (l ++ [s]) = slpCells l ++ [I s.a, I s.b, I s.low, I s.high] := by simp [slpCells]
def exT : Twn := ⟨3, [⟨0, 10, 12⟩, ⟨2, 20, 30⟩], [⟨0, 1, 3, 5⟩, ⟨1, 2, 4, 8⟩]⟩
def exQ : Twn := addS exT ⟨1, 18, 19⟩
end Go.Proofs.YtldcehhhndlhdaaGreatDoor
/- Towns of buckets; the reference's small words. -/
namespace Go.Proofs.YtldcehhhndlhdaaGreatDoor
open Go.RowKit Go.Sort Go.Shelf

/-- A town of buckets: what the houses want, what the wells have, the ways (a house, and a well: a pair). -/
structure BTown where
  hs : List Int
  ws : List Int
  ys : List Sp
def BAt (w : World) (v : Value) (t : BTown) : Prop := ∃ hv wv yv, v = .agg #[hv, wv, yv] ∧ Ints w hv t.hs ∧ Ints w wv t.ws ∧ Sps w yv t.ys
theorem BAt.below {w w' : World} {v : Value} {t : BTown} (h : BAt w v t) (hb : Below w.heap.size w w') : BAt w' v t := by
  obtain ⟨a, b, c, e, h1, h2, h3⟩ := h
  exact ⟨a, b, c, e, h1.below hb, h2.below hb, h3.below hb⟩
def hugeB3 (t : BTown) : Bool := decide (40 < t.hs.length) || (decide (40 < t.ws.length) || decide (40 < t.ys.length))
def befY (a b : Sp) : Bool := decide (a.low < b.low) || (decide (a.low = b.low) && decide (a.high < b.high))
def isH3 (t : BTown) (n : Int) : Bool := inR n 0 ((t.hs.length : Int) - 1)
def isW3 (t : BTown) (n : Int) : Bool := inR n 0 ((t.ws.length : Int) - 1)
/-- The way i, seen from what comes ahead of it, is as it must be. -/
def okY (t : BTown) (i : Nat) : Bool := isH3 t (spAt t.ys i).low && isW3 t (spAt t.ys i).high && (decide (i = 0) || befY (spAt t.ys (i - 1)) (spAt t.ys i))
def bVal (t : BTown) : Bool := decide (t.hs.length ≤ 6) && decide (t.ws.length ≤ 5) && t.hs.all (fun n => inR n 0 9) && t.ws.all (fun n => inR n 0 20) && (List.range t.ys.length).all (okY t)
def bValid (t : BTown) : Bool := decide (t.ys.length ≤ 12) && bVal t
def bChk (t : BTown) : Int := if bValid t then 0 else 30
set_option maxRecDepth 20000 in
set_option maxHeartbeats 400000 in
theorem rWithin3_any (n lo hi : Int) (w : World) :
    Calls Tryz.prog 48 #[I n, I lo, I hi] w fun e w' => e = .returned (.bool (inR n lo hi)) ∧ w = w' := by
  go_enter Tryz.func48, Tryz.ntmps48
  go_wp2_with fail
  refine (rWithin_any _ _ _ _).mono ?_
  rintro e w1 ⟨rfl, rfl⟩
  go_wp2_with fail
  go_ret
  exact ⟨rfl, rfl⟩

set_option maxRecDepth 20000 in
set_option maxHeartbeats 400000 in
theorem rIsHouse3_any (n : Int) (A1 A2 A3 : Option Addr) (m1 c1 m2 c2 m3 c3 : Nat) (w : World) (hm : m1 ≤ 1000) :
    Calls Tryz.prog 49 #[.agg #[.slice A1 m1 c1, .slice A2 m2 c2, .slice A3 m3 c3], I n] w fun e w' => e = .returned (.bool (inR n 0 ((m1 : Int) - 1))) ∧ Below w.heap.size w w' := by
  go_enter Tryz.func49, Tryz.ntmps49
  go_wp2_with fail
  refine (rWithin3_any _ _ _ _).mono ?_
  rintro e w1 ⟨rfl, rfl⟩
  go_wp2_with fail
  go_ret
  exact ⟨rfl, (Below.refl _ _).alloc (Nat.le_refl _) _⟩

set_option maxRecDepth 20000 in
set_option maxHeartbeats 400000 in
theorem rIsWell3_any (n : Int) (A1 A2 A3 : Option Addr) (m1 c1 m2 c2 m3 c3 : Nat) (w : World) (hm : m2 ≤ 1000) :
    Calls Tryz.prog 50 #[.agg #[.slice A1 m1 c1, .slice A2 m2 c2, .slice A3 m3 c3], I n] w fun e w' => e = .returned (.bool (inR n 0 ((m2 : Int) - 1))) ∧ Below w.heap.size w w' := by
  go_enter Tryz.func50, Tryz.ntmps50
  go_wp2_with fail
  refine (rWithin3_any _ _ _ _).mono ?_
  rintro e w1 ⟨rfl, rfl⟩
  go_wp2_with fail
  go_ret
  exact ⟨rfl, (Below.refl _ _).alloc (Nat.le_refl _) _⟩

set_option maxRecDepth 20000 in
set_option maxHeartbeats 800000 in
theorem rBefore3_any (a b c d : Int) (w : World) :
    Calls Tryz.prog 51 #[.agg #[I a, I b], .agg #[I c, I d]] w fun e w' => e = .returned (.bool (befY ⟨a, b⟩ ⟨c, d⟩)) ∧ Below w.heap.size w w' := by
  go_enter Tryz.func51, Tryz.ntmps51
  have hb : Below w.heap.size w ((w.alloc (.cells #[I a, I b] 47)).alloc (.cells #[I c, I d] 47)) := ((Below.refl _ _).alloc (Nat.le_refl _) _).alloc (by simp) _
  by_cases h1 : a < c
  · go_wp2_with fail
    go_ret
    exact ⟨by simp [befY, h1], hb⟩
  · by_cases h2 : a = c
    · subst h2
      by_cases h3 : b < d
      · go_wp2_with fail
        go_ret
        exact ⟨by simp [befY, h3], hb⟩
      · go_wp2_with fail
        go_ret
        exact ⟨by simp [befY, h3], hb⟩
    · go_wp2_with fail
      go_ret
      exact ⟨by simp [befY, h1, h2], hb⟩

set_option maxRecDepth 20000 in
set_option maxHeartbeats 800000 in
theorem huge3_any (v : Value) (t : BTown) (w : World) (hv : BAt w v t) :
    Calls Tryz.prog 26 #[v] w fun e w' => e = .returned (.bool (hugeB3 t)) ∧ Below w.heap.size w w' := by
  obtain ⟨hv, wv, yv, rfl, hh, hw, hy⟩ := hv
  obtain ⟨A1, c1, rfl, -, -, -⟩ := id hh.open_
  obtain ⟨A2, c2, rfl, -, -, -⟩ := id hw.open_
  obtain ⟨A3, c3, rfl, -, -, -⟩ := id hy.open_
  have HH := Lib.hid hh
  have HW := Lib.hid hw
  have HY := Lib.hid hy
  clear hh hw hy
  have S := Lib.hid ((St.init w).alloc [.slice A1 t.hs.length c1, .slice A2 t.ws.length c2, .slice A3 t.ys.length c3] 32)
  have q0 := S.out.get 0 0 rfl rfl
  have q1 := S.out.get 0 1 rfl rfl
  have q2 := S.out.get 0 2 rfl rfl
  go_enter Tryz.func26, Tryz.ntmps26
  by_cases h1 : (40 : Int) < (t.hs.length : Int)
  · go_wp2_with fail
    go_ret
    exact ⟨by simp [hugeB3]; omega, S.out.bel⟩
  · by_cases h2 : (40 : Int) < (t.ws.length : Int)
    · go_wp2_with fail
      go_ret
      exact ⟨by simp [hugeB3]; omega, S.out.bel⟩
    · by_cases h3 : (40 : Int) < (t.ys.length : Int)
      · go_wp2_with fail
        go_ret
        exact ⟨by simp [hugeB3]; omega, S.out.bel⟩
      · go_wp2_with fail
        go_ret
        exact ⟨by simp [hugeB3]; omega, S.out.bel⟩

end Go.Proofs.YtldcehhhndlhdaaGreatDoor
/- One more number behind a slice that has no room: 'append(l[:len(l):len(l)], n)'. No function here; no conditions. -/
namespace Go.Proofs.YtldcehhhndlhdaaGreatDoor
open Go.RowKit Go.Sort

theorem run_append_full {P : Program} (w : World) (t ty e : TypeId) (i : TypeInfo) (z : Value) (bytes : Nat) (ht : P.underlying t = some (.slice e)) (hi : P.info? e = some i) (hz : i.zero = some z)
    (hsize : i.size = 1) (hby : i.bytes = bytes) (hzs : z.cells.size = 1) (A : Option Addr) (n : Nat) (xs : List Value) (hr : Reads w 1 (.slice A n n) n xs) (hnil : A = none → n = 0)
    (sv : Value) (u : Value) (hs : Reads w 1 sv 1 [u]) (h1 : u.oneCell' = true) (h63 : n + 1 ≤ maxLen) (hbytes : (n + 1) * bytes ≤ 140737488355328) :
    ∃ v' w', (Builtin.append_ #[t, t] ty #[.slice A n n, sv]).run P w = .ok v' w' ∧ w'.ownsRow w.heap.size e 1 v' (n + 1) (xs ++ [u]) ∧ Below w.heap.size w w' := by
  cases A with
  | none =>
    obtain rfl := hnil rfl
    have hx : xs = [] := List.eq_nil_of_length_eq_zero (by simpa using hr.1)
    subst hx
    obtain ⟨v', w', h, h2, h3, h4⟩ := run_append_src (P := P) w w.heap.size t ty e i z 1 bytes ht hi hz hsize hby hzs (by omega) (.slice none 0 0) 0 [] (World.ownsRow_nil _ _ _ _) sv 1 [u] hs (fun x hx => by rw [List.mem_singleton.1 hx]; exact h1) (by omega) (by omega) (Nat.le_refl _)
    exact ⟨v', w', h, by simpa using h2, ⟨h3.os, h3.tape, h3.output, h3.size, fun k hk => h3.block k hk (by simp [Value.ownBlock])⟩⟩
  | some ad =>
    obtain ⟨hl, _, _, e, _, _, hc⟩ := hr
    injection e with e1 e2 e3
    subst e1
    obtain ⟨sl, B, c, rfl, _, _, hn⟩ := hs
    obtain ⟨b, o, rfl, hcn⟩ := hn (by omega)
    subst hby
    have hsmall : n + 1 ≤ 9223372036854775807 := by simp only [maxLen] at h63; omega
    have hold : ∀ j v, xs[j]? = some v → w.cell? (ad.add j) = some v := by
      intro j v hv
      rcases Nat.eq_zero_or_pos n with h0 | h0
      · subst h0
        have hx : xs = [] := List.eq_nil_of_length_eq_zero (by simpa using hl)
        subst hx
        simp at hv
      · obtain ⟨b', o', h, hc'⟩ := hc h0
        injection h with h
        subst h
        rw [add_plain]
        exact hc' j v hv
    have hrun := run_append_grow (P := P) w t ty e i z ht hi hz ad n n xs (by rw [hl, hsize]) hold ⟨b, o, none⟩ 1 c [u] (by simp [hsize]) (fun j v hv => by rw [add_plain]; exact hcn j v hv) (by omega) (by omega) (growslice_fits (by omega) hbytes)
    have hge := grownCap_ge w (n + 1) n e
    have hcm : grownCap w (n + 1) n e ≤ maxLen := grownCap_le_maxLen w (n + 1) n e h63
    have hl' : xs.length = n := by simpa using hl
    refine ⟨_, _, hrun, ⟨by simp [hl'], .inr ⟨w.heap.size, _, _, rfl, Nat.le_refl _, heap_alloc_new w.drew _, hge, hcm, ?_, ?_⟩⟩, ⟨rfl, rfl, rfl, by simp, fun k hk => Below.heap_alloc w.drew _ k hk⟩⟩
    · simp only [Array.size_append, List.size_toArray, size_zeroCells, hzs, hl', List.length_singleton, Nat.mul_one]
      omega
    · simp only [Array.toList_append, Nat.mul_one]
      have : n + 1 = (xs ++ [u]).length := by simp [hl']
      rw [this]
      exact List.take_left
theorem wp_append_full {P : Program} (w : World) {o : Oper} {a : Act} {K : Act → World → Prop} {Q : Exit → Act → World → Prop} (s x : Operand) (t : TypeId)
    (ho : o.op = .call { callee := .builtin .append, args := #[s, x], argTypes := #[t, t] })
    (e : TypeId) (i : TypeInfo) (z : Value) (bytes : Nat) (ht : P.underlying t = some (.slice e)) (hi : P.info? e = some i) (hz : i.zero = some z)
    (hsize : i.size = 1) (hby : i.bytes = bytes) (hzs : z.cells.size = 1) (A : Option Addr) (n : Nat) (xs : List Value) (hse : a.eval s = .slice A n n) (hr : Reads w 1 (.slice A n n) n xs) (hnil : A = none → n = 0)
    (sv : Value) (u : Value) (hx : a.eval x = sv) (hs : Reads w 1 sv 1 [u]) (h1 : u.oneCell' = true) (h63 : n + 1 ≤ maxLen) (hbytes : (n + 1) * bytes ≤ 140737488355328)
    (h : ∀ v' w', w'.ownsRow w.heap.size e 1 v' (n + 1) (xs ++ [u]) → Below w.heap.size w w' → K (a.put o.dst v') w') : o.wp P a w K Q := by
  obtain ⟨v', w', hrun, h2, h3⟩ := run_append_full (P := P) w t o.type e i z bytes ht hi hz hsize hby hzs A n xs hr hnil sv u hs h1 h63 hbytes
  unfold Oper.wp execOp
  simp only [ho, resolve, invoke, builtin, Sem.run_bind, Sem.run_pure, Result.andThen_ok, List.map_toArray, List.map_cons, List.map_nil, hse, hx, hrun]
  exact h v' w' h2 h3
theorem run_store_func (P : Program) (w : World) (a : Addr) (m : Mode) (fn : Fn) (first caps : Array Value) : (store a (.func fn first caps) m).run P w = stored P w a (.func fn first caps) m := run_store P w a _ m rfl
/-- What is cells lies as it lay. -/
structure KpC (W W' : World) : Prop where
  size : W.heap.size ≤ W'.heap.size
  same : ∀ (k : Nat) (o : Obj), W.heap[k]? = some o → o.isCells = true → W'.heap[k]? = some o
theorem KpC.refl (W : World) : KpC W W := ⟨Nat.le_refl _, fun _ _ h _ => h⟩
theorem KpC.trans {A B C : World} (h : KpC A B) (k : KpC B C) : KpC A C := ⟨Nat.le_trans h.size k.size, fun i o hi ho => k.same i o (h.same i o hi ho) ho⟩
theorem KpC.below {W W' : World} (h : Below W.heap.size W W') : KpC W W' := ⟨h.size, fun k _ hk _ => (h.block k (Array.getElem?_eq_some_iff.1 hk).1).trans hk⟩
theorem KpC.putObj (W : World) (l : Nat) : ∀ (o o' : Obj), W.heap[l]? = some o → o.isCells = false → KpC W (W.putObj l o') := fun o _ hl ho =>
  ⟨by simp, fun k x hk hx => (World.putObj_heap_other (by rintro rfl; rw [hl] at hk; cases hk; rw [ho] at hx; cases hx)).trans hk⟩
theorem KpC.cell {W W' : World} (h : KpC W W') {a : Addr} {v : Value} (hc : W.cell? a = some v) : W'.cell? a = some v := by
  obtain ⟨o, ho, hcs⟩ := cells_of_cell hc
  exact (World.cell?_of_block ((h.same _ _ ho hcs).trans ho.symm)).trans hc
theorem KpC.reads {W W' : World} (h : KpC W W') {size n : Nat} {v : Value} {xs : List Value} (hr : Reads W size v n xs) : Reads W' size v n xs := by
  obtain ⟨h1, A, c, h2, h3, h4, h5⟩ := hr
  refine ⟨h1, A, c, h2, h3, h4, fun hn => ?_⟩
  obtain ⟨b, o, rfl, hc⟩ := h5 hn
  exact ⟨b, o, rfl, fun j u hu => h.cell (hc j u hu)⟩
end Go.Proofs.YtldcehhhndlhdaaGreatDoor
/- Layer 1: all lists of so many numbers below a number, ascending. No program here. -/
namespace Go.Proofs.YtldcehhhndlhdaaGreatDoor
def nextN (l : List Nat) : Nat := match l.getLast? with | none => 0 | some x => x + 1
/-- The lists that begin with one, and have so many numbers more. -/
def listsD (below : Nat) : Nat → List Nat → List (List Nat)
  | 0, l => [l]
  | d + 1, l => (List.range' (nextN l) (below - nextN l)).flatMap fun n => listsD below d (l ++ [n])
/-- The same, of the first k numbers that may come next. -/
def listsK (below d : Nat) (l : List Nat) (k : Nat) : List (List Nat) := (List.range' (nextN l) k).flatMap fun n => listsD below d (l ++ [n])
theorem listsK_all (below d : Nat) (l : List Nat) : listsK below d l (below - nextN l) = listsD below (d + 1) l := rfl
theorem listsK_succ (below d : Nat) (l : List Nat) (k : Nat) : listsK below d l (k + 1) = listsK below d l k ++ listsD below d (l ++ [nextN l + k]) := by
  unfold listsK
  rw [List.range'_concat, List.flatMap_append]
  simp
theorem listsK_prefix (below d : Nat) (l : List Nat) (k : Nat) (h : k ≤ below - nextN l) : listsK below d l k <+: listsD below (d + 1) l := by
  rw [← listsK_all]
  unfold listsK
  obtain ⟨m, hm⟩ : ∃ m, below - nextN l = k + m := ⟨below - nextN l - k, by omega⟩
  rw [hm, ← List.range'_append_1, List.flatMap_append]
  exact List.prefix_append _ _
theorem listsD_len {below : Nat} : ∀ (d : Nat) (l x : List Nat), x ∈ listsD below d l → x.length = l.length + d
  | 0, l, x, h => by
    have : x = l := by simpa [listsD] using h
    rw [this]; rfl
  | d + 1, l, x, h => by
    obtain ⟨n, _, hx⟩ := List.mem_flatMap.1 h
    have := listsD_len d (l ++ [n]) x hx
    simp at this
    omega
theorem nextN_snoc (l : List Nat) (x : Nat) : nextN (l ++ [x]) = x + 1 := by simp [nextN]
end Go.Proofs.YtldcehhhndlhdaaGreatDoor
/- The iterator over the lists of words: its contract. -/
namespace Go.Proofs.YtldcehhhndlhdaaGreatDoor
open Go.RowKit Go.Sort Go.Shelf
attribute [local go_sem] Oper.semAt_some

theorem yield_any {m m' l : Nat} {args : Array Value} {W : World} {R : Ending → World → Prop} (h : YieldAt Fence.wide m Tryz.prog l args W R) : YieldAt Fence.wide m' Tryz.prog l args W R := by
  obtain ⟨fn, tmps, assign, body, hy, hR⟩ := h
  exact ⟨fn, tmps, assign, body, hy, hR.1, fun c cs _ => hR.2 c cs (room_wide _)⟩
/-- A list that is yielded: its value, and its numbers. -/
abbrev YL := Value × List Nat
def encY (x : YL) : Array Value := #[x.1]
/-- What is so of each list, when it is yielded. -/
structure RY (all : List (List Nat)) (pre : List YL) (x : YL) (W : World) : Prop where
  reads : Ints W x.1 (ofN x.2)
  pre : (pre.map Prod.snd ++ [x.2]) <+: all
/-- How the recursive function ends. -/
def FromPost (J Jx : List YL → World → Prop) (pre : List YL) (new : List (List Nat)) (w : World) (e : Ending) (w' : World) : Prop :=
  (e = .returned (.bool true) ∧ ∃ q : List YL, q.map Prod.snd = new ∧ J (pre ++ q) w' ∧ KpC w w') ∨ (e = .returned (.bool false) ∧ ∃ q : List YL, Jx q w')
theorem ofN_snoc (l : List Nat) (x : Nat) : ofN (l ++ [x]) = ofN l ++ [(x : Int)] := by simp [ofN]
theorem ofN_len (l : List Nat) : (ofN l).length = l.length := by simp [ofN]

theorem reads_full {w : World} {A : Option Addr} {m c : Nat} {xs : List Value} (h : Reads w 1 (.slice A m c) m xs) : Reads w 1 (.slice A m m) m xs := by
  obtain ⟨h1, A', c', e, h2, h3, h4⟩ := h
  injection e with e1 e2 e3
  subst e1
  exact ⟨h1, A, m, rfl, Nat.le_refl _, by omega, h4⟩

end Go.Proofs.YtldcehhhndlhdaaGreatDoor
/- The iterator over the lists of words: its contract. -/
namespace Go.Proofs.YtldcehhhndlhdaaGreatDoor
open Go.RowKit Go.Sort Go.Shelf
attribute [local go_sem] Oper.semAt_some run_store_func

end Go.Proofs.YtldcehhhndlhdaaGreatDoor
/- A range over a function within a loop: the marks that each of them leaves among the deferred calls. No function here; no conditions. -/
namespace Go.Proofs.YtldcehhhndlhdaaGreatDoor
open Go.RowKit Go.Sort

/-- The mark that a loop leaves, and its block as a thing of the call's own. -/
def markD (D : Nat) : Deferred := { target := .collected D, args := #[] }
def markI (D : Nat) : Item := .any D (fun o => o = .deferred (some []))
section
variable {w0 w w' : World} {n : Nat} {L : List Item}
theorem St.other2 (h : St w0 w n L) {row : Option Nat} {B : Nat} (hg : w.grownBy w' row) (hr : ∀ r, row = some r → B ≤ r ∧ ∃ o : Obj, w.heap[r]? = some o ∧ o.isCells = false) (hB : w0.heap.size ≤ B) (hL : ∀ x ∈ L, x.cel ∨ ∀ b, x.blk = some b → b < B) : St w0 w' w'.heap.size L := by
  refine ⟨rfl, h.bel.trans ⟨hg.os, hg.tape, hg.output, hg.size, fun k hk => hg.block k (by have := h.bel.size; omega) (fun e => ?_)⟩, fun x hx => ?_, h.apart⟩
  · have := (hr k e.symm).1
    omega
  · have hok := h.ok x hx
    refine hok.same fun b hb => hg.block b (hok.lt hb).2 (fun e => ?_)
    obtain ⟨hBb, o, ho, hc⟩ := hr b e.symm
    rcases hL x hx with h' | h'
    · rw [hok.cells h' hb ho] at hc
      cases hc
    · have := h' b hb
      omega
theorem St.mark (h : St w0 w n L) {D : Nat} (hD : w0.heap.size ≤ D) (hk : w.heap[D]? = some (.deferred (some []))) (hne : ∀ x ∈ L, ∀ b, x.blk = some b → b ≠ D) : St w0 w n (markI D :: L) := by
  refine ⟨h.size, h.bel, fun x hx => ?_, ?_⟩
  · rcases List.mem_cons.1 hx with hx | hx
    · rw [hx]; exact ⟨hD, _, hk, rfl⟩
    · exact h.ok x hx
  · have e0 : (markI D).blk = some D := rfl
    rw [List.filterMap_cons, e0]
    refine List.nodup_cons.2 ⟨fun hm => ?_, h.apart⟩
    obtain ⟨x, hx, hb⟩ := List.mem_filterMap.1 hm
    exact hne x hx D hb rfl
/-- The marks are taken up, one behind the other; what is said in T stays. -/
theorem leaves_marks {F : Fence} {m : Nat} {P : Program} {fn : Func} {tmps : Array Value} {R : Ending → World → Prop} (F1 : List Item) (hF : ∀ x ∈ F1, x.cel) :
    ∀ (Ds : List Nat) (w : World), St w0 w w.heap.size (F1 ++ Ds.map markI) → (∀ w', St w0 w' w'.heap.size F1 → LeavesInM F m P fn tmps R [] .returning w') → LeavesInM F m P fn tmps R (Ds.map markD) .returning w
  | [], w, h, hR => hR w (by simpa using h)
  | D :: Ds, w, h, hR => by
    have hm : markI D ∈ F1 ++ (D :: Ds).map markI := List.mem_append_right _ (by simp)
    obtain ⟨hD, o, hk, rfl⟩ := h.ok _ hm
    refine ⟨by simp, .inl ⟨D, _, rfl, run_takeDeferred hk, ?_⟩⟩
    refine leaves_marks F1 hF Ds _ ?_ hR
    have h2 : St w0 w w.heap.size (markI D :: (F1 ++ Ds.map markI)) := h.perm (by
      rw [List.map_cons]
      exact List.perm_middle)
    have h3 := h2.apart
    have e0 : (markI D).blk = some D := rfl
    rw [List.filterMap_cons, e0] at h3
    have hnd := (List.nodup_cons.1 h3).1
    have hg := grownBy_putObj' w D (.deferred none)
    refine ⟨rfl, ?_, fun x hx => ?_, (List.nodup_cons.1 h3).2⟩
    · exact h.bel.trans ⟨hg.os, hg.tape, hg.output, hg.size, fun k hk' => hg.block k (by have := h.bel.size; omega) (fun e => by injection e with e; omega)⟩
    · have hok := h2.ok x (List.mem_cons_of_mem _ hx)
      refine hok.same fun b hb => hg.block b (hok.lt hb).2 (fun e => ?_)
      injection e with e
      subst e
      exact hnd (List.mem_filterMap.2 ⟨x, hx, hb⟩)
end
end Go.Proofs.YtldcehhhndlhdaaGreatDoor

/- Layer 1: one sounding more; each level between the ends is that of a truth. No program here. -/
import Derived.Test.YtplbaijdnpfdgaaPlain4
namespace Go.Proofs.Ytplbaijdnpfdgaa
def addS (t : Twn) (s : Snd) : Twn := ⟨t.wells, t.snd ++ [s], t.slp⟩
def addP (t : Twn) (s : Slp) : Twn := ⟨t.wells, t.snd, t.slp ++ [s]⟩
section
theorem Vl.addS {t : Twn} (h : Vl t) {s : Snd} (hs : 0 ≤ s.well ∧ s.well < t.wells ∧ 0 ≤ s.low ∧ s.low ≤ s.high ∧ s.high ≤ 99) : Vl (addS t s) := by
  refine ⟨h.w0, h.w6, fun u hu => ?_, h.slp⟩
  rcases List.mem_append.1 hu with hu | hu
  · exact h.snd u hu
  · rw [List.mem_singleton.1 hu]; exact hs
theorem tr_addS {t : Twn} {s : Snd} {x : Nat → Int} : Tr (addS t s) x ↔ Tr t x ∧ s.low ≤ x s.well.toNat ∧ x s.well.toNat ≤ s.high := by
  constructor
  · intro h
    exact ⟨⟨h.own, fun u hu => h.snd u (List.mem_append_left _ hu), h.slp⟩, h.snd s (List.mem_append_right _ (List.mem_singleton.2 rfl))⟩
  · rintro ⟨h, h2⟩
    refine ⟨h.own, fun u hu => ?_, h.slp⟩
    rcases List.mem_append.1 hu with hu | hu
    · exact h.snd u hu
    · rw [List.mem_singleton.1 hu]; exact h2
theorem tr_addP {t : Twn} {s : Slp} {x : Nat → Int} : Tr (addP t s) x ↔ Tr t x ∧ s.low ≤ x s.b.toNat - x s.a.toNat ∧ x s.b.toNat - x s.a.toNat ≤ s.high := by
  constructor
  · intro h
    exact ⟨⟨h.own, h.snd, fun u hu => h.slp u (List.mem_append_left _ hu)⟩, h.slp s (List.mem_append_right _ (List.mem_singleton.2 rfl))⟩
  · rintro ⟨h, h2⟩
    refine ⟨h.own, h.snd, fun u hu => ?_⟩
    rcases List.mem_append.1 hu with hu | hu
    · exact h.slp u hu
    · rw [List.mem_singleton.1 hu]; exact h2
theorem Tight.bd {t : Twn} (hv : Vl t) {ms : List Int} (ht : Tight t ms) (hl : ms.length = 49) (hi : Iso t.wells ms) (hd : ∀ i, i < 7 → at_ ms i i = 0) : Bd 99 99 ms := by
  have h6 := hv.w6
  have key : ∀ i j, i < 7 → j < 7 → at_ ms i j = 1048576 ∨ (-99 ≤ at_ ms i j ∧ at_ ms i j ≤ 99) := by
    intro i j hi7 hj7
    by_cases ha : act t.wells i ∧ act t.wells j
    · have := ht.fin i j ha.1 ha.2
      exact .inr (by omega)
    · by_cases e : i = j
      · subst e
        have := hd i hi7
        exact .inr (by omega)
      · exact .inl (hi i j hi7 hj7 e ha)
  exact ⟨hl, fun i j a b => by have := key i j a b; omega, fun i j a b => (key i j a b).imp id (fun e => e.2)⟩
/-- The closed bounds of a town that has a truth say what the town says. -/
theorem says_closed {t : Twn} (hv : Vl t) {ms : List Int} (hs : Says t ms) (hd : diagOk (closeM ms) = true) : Says t (closeM ms) ∧ Tight t (closeM ms) := by
  have ht := (says_ok hv hs).2 hd
  have hle : Le (closeM ms) ms := Le.closeK hs.bd.len 7 (by omega)
  have hl : (closeM ms).length = 49 := by rw [closeM_len, hs.bd.len]
  have hiso : Iso t.wells (closeM ms) := Iso.closeK hs.bd.len hs.iso 7 (by omega)
  have hz : ∀ i, i < 7 → at_ (closeM ms) i i = 0 := fun i hi => by
    have := hle i i hi hi
    have := hs.diag i hi
    have := diagOk_iff.1 hd i hi
    omega
  refine ⟨⟨ht.bd hv hl hiso hz, fun i hi => Int.le_of_eq (hz i hi), hiso, fun w hw => ?_, fun x => ?_⟩, ht⟩
  · have h6 := hv.w6
    have := hs.grd w hw
    have := hle 6 w (by omega) (by omega)
    have := hle w 6 (by omega) (by omega)
    omega
  · rw [Sol.closeM (hs.bd.top (by omega)), hs.sol x]
theorem says_sound {t : Twn} (hv : Vl t) {ms : List Int} (hs : Says t ms) {s : Snd} (h : 0 ≤ s.well ∧ s.well < t.wells ∧ 0 ≤ s.low ∧ s.low ≤ s.high ∧ s.high ≤ 99) : Says (addS t s) (soundM ms s) := by
  have h6 := hv.w6
  have htop := hs.bd.top (by omega)
  have hle : Le (soundM ms s) ms := (leave_le (by rw [leave_len]; exact hs.bd.len) (by omega) (by omega)).trans (leave_le hs.bd.len (by omega) (by omega))
  refine ⟨soundM_bd hs.bd h.1 (by omega) (by omega) (by omega) (by omega) (by omega) (by omega), fun i hi => Int.le_trans (hle i i hi hi) (hs.diag i hi), ?_, fun w hw => ?_, fun x => ?_⟩
  · have ha : act t.wells s.well.toNat := .inl (by omega)
    exact (hs.iso.leave hs.bd.len (by omega) (by omega) (.inr rfl) ha).leave (by rw [leave_len]; exact hs.bd.len) (by omega) (by omega) ha (.inr rfl)
  · have hw' : (w : Int) < t.wells := hw
    have := hs.grd w hw'
    have := hle 6 w (by omega) (by omega)
    have := hle w 6 (by omega) (by omega)
    omega
  · rw [soundM_sol htop h.1 (by omega) (by omega) (by omega), hs.sol x, tr_addS]
/-- Each level between the ends is that of a truth. -/
theorem mid_truth {t : Twn} (hv : Vl t) {l : List Sp} (he : Exact t l) {w : Nat} (hw : (w : Int) < t.wells) {n : Int} (h1 : (spAt l w).low ≤ n) (h2 : n ≤ (spAt l w).high) : ∃ x, Tr t x ∧ x w = n := by
  have h6 := hv.w6
  have h0 := hv.w0
  have hle : ∀ v : Nat, (v : Int) < t.wells → (spAt l v).low ≤ (spAt l v).high := fun v hv' => (he.all _ he.low v (by rw [he.len]; omega)).2
  refine ⟨fun v => max (spAt l v).low ((spAt l v).high - ((spAt l w).high - n)), ⟨fun v hv' => ?_, fun s hs => ?_, fun s hs => ?_⟩, ?_⟩
  · have a : 0 ≤ (spAt l v).low ∧ (spAt l v).low ≤ 99 := he.low.own v hv'
    have b : 0 ≤ (spAt l v).high ∧ (spAt l v).high ≤ 99 := he.high.own v hv'
    have c := hle v hv'
    show 0 ≤ max _ _ ∧ max _ _ ≤ 99
    omega
  · have hw' := hv.snd s hs
    have a : s.low ≤ (spAt l s.well.toNat).low ∧ (spAt l s.well.toNat).low ≤ s.high := he.low.snd s hs
    have b : s.low ≤ (spAt l s.well.toNat).high ∧ (spAt l s.well.toNat).high ≤ s.high := he.high.snd s hs
    show s.low ≤ max _ _ ∧ max _ _ ≤ s.high
    omega
  · have a : s.low ≤ (spAt l s.b.toNat).low - (spAt l s.a.toNat).low ∧ (spAt l s.b.toNat).low - (spAt l s.a.toNat).low ≤ s.high := he.low.slp s hs
    have b : s.low ≤ (spAt l s.b.toNat).high - (spAt l s.a.toNat).high ∧ (spAt l s.b.toNat).high - (spAt l s.a.toNat).high ≤ s.high := he.high.slp s hs
    show s.low ≤ max _ _ - max _ _ ∧ max _ _ - max _ _ ≤ s.high
    omega
  · have c := hle w hw
    show max _ _ = n
    omega
end
end Go.Proofs.Ytplbaijdnpfdgaa

/- Layer 1: what the bounds of a town say: its truths. No program here. -/
import Derived.Test.YtplbaijdnpfdgaaPlain
namespace Go.Proofs.Ytplbaijdnpfdgaa
section
theorem leave_le {ms : List Int} {f t : Nat} {v : Int} (hl : ms.length = 49) (hf : f < 7) (ht : t < 7) : Le (leave ms f t v) ms := by
  intro i j hi hj
  rw [at_leave _ _ _ _ _ _ hl hf ht hj]
  split
  · rename_i hc; obtain ⟨rfl, rfl⟩ := hc; omega
  · exact Int.le_refl _
theorem leave_top {ms : List Int} {f t : Nat} {v : Int} (h : Top ms) (hf : f < 7) (ht : t < 7) : Top (leave ms f t v) := h.le (leave_len _ _ _ _) (leave_le h.1 hf ht)
theorem rock0_top : Top rock0 := rock0_bd.top (by omega)
theorem rock0_sol (x : Nat → Int) : Sol rock0 x := by
  intro i j hi hj
  have : ∀ i, i < 7 → ∀ j, j < 7 → i = j ∧ at_ rock0 i j = 0 ∨ at_ rock0 i j = 1048576 := by decide +kernel
  rcases this i hi j hj with ⟨rfl, h⟩ | h
  · omega
  · omega
theorem rockTo_top : ∀ n, n ≤ 6 → Top (rockTo rock0 n)
  | 0, _ => rock0_top
  | n + 1, h => leave_top (leave_top (rockTo_top n (by omega)) (by omega) (by omega)) (by omega) (by omega)
theorem rockTo_sol (x : Nat → Int) : ∀ n, n ≤ 6 → (Sol (rockTo rock0 n) x ↔ ∀ w, w < n → 0 ≤ x w - x 6 ∧ x w - x 6 ≤ 99)
  | 0, _ => ⟨fun _ w h => by omega, fun _ => rock0_sol x⟩
  | n + 1, h => by
    have t0 := rockTo_top n (by omega)
    have t1 := leave_top (v := 99) (f := 6) (t := n) t0 (by omega) (by omega)
    rw [rockTo, Sol.leave t1.1 (by omega) (by omega) (by omega) (t1.2 _ _ (by omega) (by omega)), Sol.leave t0.1 (by omega) (by omega) (by omega) (t0.2 _ _ (by omega) (by omega)), rockTo_sol x n (by omega)]
    constructor
    · rintro ⟨⟨h1, h2⟩, h3⟩ w hw
      by_cases e : w = n
      · subst e; omega
      · exact h1 w (by omega)
    · intro h1
      have := h1 n (by omega)
      exact ⟨⟨fun w hw => h1 w (by omega), by omega⟩, by omega⟩
theorem soundM_top {ms : List Int} {s : Snd} (h : Top ms) (h0 : 0 ≤ s.well) (h1 : s.well < 6) : Top (soundM ms s) := leave_top (leave_top h (by omega) (by omega)) (by omega) (by omega)
theorem slopeM_top {ms : List Int} {s : Slp} (h : Top ms) (h0 : 0 ≤ s.a) (h1 : s.a < 6) (h2 : 0 ≤ s.b) (h3 : s.b < 6) : Top (slopeM ms s) := leave_top (leave_top h (by omega) (by omega)) (by omega) (by omega)
theorem soundM_sol {ms : List Int} {s : Snd} {x : Nat → Int} (h : Top ms) (h0 : 0 ≤ s.well) (h1 : s.well < 6) (h2 : 0 ≤ s.low) (h3 : s.high ≤ 99) : Sol (soundM ms s) x ↔ Sol ms x ∧ s.low ≤ x s.well.toNat - x 6 ∧ x s.well.toNat - x 6 ≤ s.high := by
  have t1 := leave_top (v := s.high) (f := 6) (t := s.well.toNat) h (by omega) (by omega)
  rw [soundM, Sol.leave t1.1 (by omega) (by omega) (by omega) (t1.2 _ _ (by omega) (by omega)), Sol.leave h.1 (by omega) (by omega) (by omega) (h.2 _ _ (by omega) (by omega))]
  constructor
  · rintro ⟨⟨a, b⟩, c⟩; exact ⟨a, by omega, b⟩
  · rintro ⟨a, b, c⟩; exact ⟨⟨a, c⟩, by omega⟩
theorem slopeM_sol {ms : List Int} {s : Slp} {x : Nat → Int} (h : Top ms) (h0 : 0 ≤ s.a) (h1 : s.a < 6) (h2 : 0 ≤ s.b) (h3 : s.b < 6) (h4 : -99 ≤ s.low) (h5 : s.high ≤ 99) : Sol (slopeM ms s) x ↔ Sol ms x ∧ s.low ≤ x s.b.toNat - x s.a.toNat ∧ x s.b.toNat - x s.a.toNat ≤ s.high := by
  have t1 := leave_top (v := s.high) (f := s.a.toNat) (t := s.b.toNat) h (by omega) (by omega)
  rw [slopeM, Sol.leave t1.1 (by omega) (by omega) (by omega) (t1.2 _ _ (by omega) (by omega)), Sol.leave h.1 (by omega) (by omega) (by omega) (h.2 _ _ (by omega) (by omega))]
  constructor
  · rintro ⟨⟨a, b⟩, c⟩; exact ⟨a, by omega, b⟩
  · rintro ⟨a, b, c⟩; exact ⟨⟨a, c⟩, by omega⟩
theorem sounds_sol {x : Nat → Int} : ∀ (l : List Snd) (ms : List Int), Top ms → (∀ s ∈ l, 0 ≤ s.well ∧ s.well < 6 ∧ 0 ≤ s.low ∧ s.high ≤ 99) → Top (l.foldl soundM ms) ∧ (Sol (l.foldl soundM ms) x ↔ Sol ms x ∧ ∀ s ∈ l, s.low ≤ x s.well.toNat - x 6 ∧ x s.well.toNat - x 6 ≤ s.high)
  | [], ms, h, _ => ⟨h, by simp⟩
  | s :: l, ms, h, hs => by
    obtain ⟨a, b, c, d⟩ := hs s (by simp)
    obtain ⟨h1, h2⟩ := sounds_sol (x := x) l (soundM ms s) (soundM_top h a b) (fun u hu => hs u (by simp [hu]))
    refine ⟨h1, ?_⟩
    rw [List.foldl_cons, h2, soundM_sol h a b c d]
    simp only [List.mem_cons, forall_eq_or_imp]
    exact ⟨fun ⟨⟨p, q⟩, r⟩ => ⟨p, q, r⟩, fun ⟨p, q, r⟩ => ⟨⟨p, q⟩, r⟩⟩
theorem slopes_sol {x : Nat → Int} : ∀ (l : List Slp) (ms : List Int), Top ms → (∀ s ∈ l, 0 ≤ s.a ∧ s.a < 6 ∧ 0 ≤ s.b ∧ s.b < 6 ∧ -99 ≤ s.low ∧ s.high ≤ 99) → Top (l.foldl slopeM ms) ∧ (Sol (l.foldl slopeM ms) x ↔ Sol ms x ∧ ∀ s ∈ l, s.low ≤ x s.b.toNat - x s.a.toNat ∧ x s.b.toNat - x s.a.toNat ≤ s.high)
  | [], ms, h, _ => ⟨h, by simp⟩
  | s :: l, ms, h, hs => by
    obtain ⟨a, b, c, d, e, f⟩ := hs s (by simp)
    obtain ⟨h1, h2⟩ := slopes_sol (x := x) l (slopeM ms s) (slopeM_top h a b c d) (fun u hu => hs u (by simp [hu]))
    refine ⟨h1, ?_⟩
    rw [List.foldl_cons, h2, slopeM_sol h a b c d e f]
    simp only [List.mem_cons, forall_eq_or_imp]
    exact ⟨fun ⟨⟨p, q⟩, r⟩ => ⟨p, q, r⟩, fun ⟨p, q, r⟩ => ⟨⟨p, q⟩, r⟩⟩
theorem Vl.snd' {t : Twn} (h : Vl t) : ∀ s ∈ t.snd, 0 ≤ s.well ∧ s.well < 6 ∧ 0 ≤ s.low ∧ s.high ≤ 99 := fun s hs => by have := h.snd s hs; have := h.w6; omega
theorem Vl.slp' {t : Twn} (h : Vl t) : ∀ s ∈ t.slp, 0 ≤ s.a ∧ s.a < 6 ∧ 0 ≤ s.b ∧ s.b < 6 ∧ -99 ≤ s.low ∧ s.high ≤ 99 := fun s hs => by have := h.slp s hs; have := h.w6; omega
theorem baseM_top {t : Twn} (h : Vl t) : Top (baseM t) :=
  (slopes_sol (x := fun _ => 0) t.slp _ (sounds_sol (x := fun _ => 0) t.snd (rock t.wells) (rockTo_top _ (by have := h.w6; omega)) h.snd').1 h.slp').1
/-- The bounds of a town say what its words say. -/
theorem baseM_sol {t : Twn} (h : Vl t) {x : Nat → Int} : Sol (baseM t) x ↔ Tr t (fun w => x w - x 6) := by
  have h6 := h.w6
  have h0 := h.w0
  have t0 := rockTo_top t.wells.toNat (by omega)
  have s1 := sounds_sol (x := x) t.snd (rock t.wells) t0 h.snd'
  have s2 := slopes_sol (x := x) t.slp _ s1.1 h.slp'
  rw [baseM, s2.2, s1.2, rock, rockTo_sol x _ (by omega)]
  constructor
  · rintro ⟨⟨a, b⟩, c⟩
    exact ⟨fun w hw => a w (by omega), b, fun s hs => by have := c s hs; show _ ≤ (x _ - x 6) - (x _ - x 6) ∧ (x _ - x 6) - (x _ - x 6) ≤ _; omega⟩
  · intro k
    exact ⟨⟨fun w hw => k.own w (by omega), k.snd⟩, fun s hs => by have := k.slp s hs; change _ ≤ (x _ - x 6) - (x _ - x 6) ∧ (x _ - x 6) - (x _ - x 6) ≤ _ at this; omega⟩
/-! What is no well of the town stays apart. -/
def act (W : Int) (i : Nat) : Prop := (i : Int) < W ∨ i = 6
instance (W : Int) (i : Nat) : Decidable (act W i) := inferInstanceAs (Decidable (_ ∨ _))
def Iso (W : Int) (ms : List Int) : Prop := ∀ i j, i < 7 → j < 7 → i ≠ j → ¬ (act W i ∧ act W j) → at_ ms i j = 1048576
theorem Iso.leave {W : Int} {ms : List Int} {f t : Nat} {v : Int} (hl : ms.length = 49) (hf : f < 7) (ht : t < 7) (af : act W f) (at' : act W t) (h : Iso W ms) : Iso W (leave ms f t v) := by
  intro i j hi hj hij hn
  rw [at_leave _ _ _ _ _ _ hl hf ht hj]
  split
  · rename_i hc; obtain ⟨rfl, rfl⟩ := hc
    exact absurd ⟨af, at'⟩ hn
  · exact h i j hi hj hij hn
theorem Iso.relax {W : Int} {ms : List Int} {k i j : Nat} (hl : ms.length = 49) (hk : k < 7) (hi : i < 7) (hj : j < 7) (h : Iso W ms) : Iso W (relax k i j ms) := by
  unfold Go.Proofs.Ytplbaijdnpfdgaa.relax
  split
  · rename_i hc
    intro p q hp hq hpq hn
    rw [at_leave _ _ _ _ _ _ hl hi hj hq]
    split
    · rename_i he; obtain ⟨rfl, rfl⟩ := he
      have hd := h p q hp hq hpq hn
      exfalso
      by_cases hap : act W p
      · have haq : ¬ act W q := fun e => hn ⟨hap, e⟩
        by_cases e : k = q
        · subst e; omega
        · have := h k q hk hq e (fun e => haq e.2); omega
      · by_cases e : p = k
        · subst e; omega
        · have := h p k hp hk e (fun e => hap e.1); omega
    · exact h p q hp hq hpq hn
  · exact h
theorem Iso.closeJ {W : Int} {ms : List Int} {k i : Nat} (hl : ms.length = 49) (hk : k < 7) (hi : i < 7) (h : Iso W ms) : ∀ n, n ≤ 7 → Iso W (closeJ k i ms n)
  | 0, _ => h
  | n + 1, hn => (Iso.closeJ hl hk hi h n (by omega)).relax (by rw [closeJ_len, hl]) hk hi (by omega)
theorem Iso.closeI {W : Int} {ms : List Int} {k : Nat} (hl : ms.length = 49) (hk : k < 7) (h : Iso W ms) : ∀ n, n ≤ 7 → Iso W (closeI k ms n)
  | 0, _ => h
  | n + 1, hn => (Iso.closeI hl hk h n (by omega)).closeJ (by rw [closeI_len, hl]) hk (by omega) 7 (by omega)
theorem Iso.closeK {W : Int} {ms : List Int} (hl : ms.length = 49) (h : Iso W ms) : ∀ n, n ≤ 7 → Iso W (closeK ms n)
  | 0, _ => h
  | n + 1, hn => (Iso.closeK hl h n (by omega)).closeI (by rw [closeK_len, hl]) (by omega) 7 (by omega)
theorem rock0_iso (W : Int) : Iso W rock0 := by
  intro i j hi hj hij _
  have : ∀ i, i < 7 → ∀ j, j < 7 → i ≠ j → at_ rock0 i j = 1048576 := by decide +kernel
  exact this i hi j hj hij
theorem rockTo_iso (W : Int) : ∀ n : Nat, n ≤ 6 → (n : Int) ≤ W → Iso W (rockTo rock0 n)
  | 0, _, _ => rock0_iso W
  | n + 1, h, hW => ((rockTo_iso W n (by omega) (by omega)).leave (rockTo_top n (by omega)).1 (by omega) (by omega) (.inr rfl) (.inl (by omega))).leave (leave_top (rockTo_top n (by omega)) (by omega) (by omega)).1 (by omega) (by omega) (.inl (by omega)) (.inr rfl)
theorem sounds_iso {W : Int} (hW : W ≤ 6) : ∀ (l : List Snd) (ms : List Int), ms.length = 49 → Iso W ms → (∀ s ∈ l, 0 ≤ s.well ∧ s.well < W) → Iso W (l.foldl soundM ms)
  | [], _, _, h, _ => h
  | s :: l, ms, hl, h, hs => by
    obtain ⟨a, b⟩ := hs s (by simp)
    refine sounds_iso hW l (soundM ms s) (by rw [soundM_len, hl]) ?_ (fun u hu => hs u (by simp [hu]))
    exact (h.leave hl (by omega) (by omega) (.inr rfl) (.inl (by omega))).leave (by rw [leave_len, hl]) (by omega) (by omega) (.inl (by omega)) (.inr rfl)
theorem slopes_iso {W : Int} (hW : W ≤ 6) : ∀ (l : List Slp) (ms : List Int), ms.length = 49 → Iso W ms → (∀ s ∈ l, 0 ≤ s.a ∧ s.a < W ∧ 0 ≤ s.b ∧ s.b < W) → Iso W (l.foldl slopeM ms)
  | [], _, _, h, _ => h
  | s :: l, ms, hl, h, hs => by
    obtain ⟨a, b, c, d⟩ := hs s (by simp)
    refine slopes_iso hW l (slopeM ms s) (by rw [slopeM_len, hl]) ?_ (fun u hu => hs u (by simp [hu]))
    exact (h.leave hl (by omega) (by omega) (.inl (by omega)) (.inl (by omega))).leave (by rw [leave_len, hl]) (by omega) (by omega) (.inl (by omega)) (.inl (by omega))
theorem baseM_iso {t : Twn} (h : Vl t) : Iso t.wells (baseM t) := by
  have := h.w6; have := h.w0
  refine slopes_iso h.w6 t.slp _ (by rw [sounds_len, rock_len]) (sounds_iso h.w6 t.snd _ (rock_len _) (rockTo_iso _ _ (by omega) (by omega)) (fun s hs => ?_)) (fun s hs => ?_)
  · have := h.snd s hs; omega
  · have := h.slp s hs; omega
theorem sounds_le : ∀ (l : List Snd) (ms : List Int), ms.length = 49 → (∀ s ∈ l, 0 ≤ s.well ∧ s.well < 6) → Le (l.foldl soundM ms) ms
  | [], _, _, _ => Le.refl _
  | s :: l, ms, hl, hs => by
    obtain ⟨a, b⟩ := hs s (by simp)
    exact (sounds_le l (soundM ms s) (by rw [soundM_len, hl]) (fun u hu => hs u (by simp [hu]))).trans ((leave_le (by rw [leave_len, hl]) (by omega) (by omega)).trans (leave_le hl (by omega) (by omega)))
theorem slopes_le : ∀ (l : List Slp) (ms : List Int), ms.length = 49 → (∀ s ∈ l, 0 ≤ s.a ∧ s.a < 6 ∧ 0 ≤ s.b ∧ s.b < 6) → Le (l.foldl slopeM ms) ms
  | [], _, _, _ => Le.refl _
  | s :: l, ms, hl, hs => by
    obtain ⟨a, b, c, d⟩ := hs s (by simp)
    exact (slopes_le l (slopeM ms s) (by rw [slopeM_len, hl]) (fun u hu => hs u (by simp [hu]))).trans ((leave_le (by rw [leave_len, hl]) (by omega) (by omega)).trans (leave_le hl (by omega) (by omega)))
theorem sounds_bd : ∀ (l : List Snd) (ms : List Int), Bd 99 99 ms → (∀ s ∈ l, 0 ≤ s.well ∧ s.well < 6 ∧ 0 ≤ s.low ∧ s.low ≤ s.high ∧ s.high ≤ 99) → Bd 99 99 (l.foldl soundM ms)
  | [], _, h, _ => h
  | s :: l, ms, h, hs => by
    obtain ⟨a, b, c, d, e⟩ := hs s (by simp)
    exact sounds_bd l (soundM ms s) (soundM_bd h a b (by omega) (by omega) (by omega) (by omega) (by omega)) (fun u hu => hs u (by simp [hu]))
theorem slopes_bd : ∀ (l : List Slp) (ms : List Int), Bd 99 99 ms → (∀ s ∈ l, 0 ≤ s.a ∧ s.a < 6 ∧ 0 ≤ s.b ∧ s.b < 6 ∧ -99 ≤ s.low ∧ s.low ≤ s.high ∧ s.high ≤ 99) → Bd 99 99 (l.foldl slopeM ms)
  | [], _, h, _ => h
  | s :: l, ms, h, hs => by
    obtain ⟨a, b, c, d, e, f, g⟩ := hs s (by simp)
    exact slopes_bd l (slopeM ms s) (slopeM_bd h a b c d (by omega) (by omega) (by omega) (by omega) (by omega)) (fun u hu => hs u (by simp [hu]))
theorem baseM_bd {t : Twn} (h : Vl t) : Bd 99 99 (baseM t) := by
  have h6 := h.w6
  refine slopes_bd t.slp _ (sounds_bd t.snd _ (rock_bd h6) (fun s hs => ?_)) (fun s hs => ?_)
  · have := h.snd s hs; omega
  · have := h.slp s hs; omega
theorem rock0_diag {i : Nat} (hi : i < 7) : at_ rock0 i i = 0 := by
  have : ∀ i, i < 7 → at_ rock0 i i = 0 := by decide +kernel
  exact this i hi
theorem rockTo_le : ∀ n, n ≤ 6 → Le (rockTo rock0 n) rock0
  | 0, _ => Le.refl _
  | n + 1, h => (leave_le (leave_top (rockTo_top n (by omega)) (by omega) (by omega)).1 (by omega) (by omega)).trans ((leave_le (rockTo_top n (by omega)).1 (by omega) (by omega)).trans (rockTo_le n (by omega)))
theorem baseM_le {t : Twn} (h : Vl t) : Le (baseM t) (rock t.wells) :=
  (slopes_le t.slp _ (by rw [sounds_len, rock_len]) (fun s hs => by have := h.slp' s hs; omega)).trans (sounds_le t.snd _ (rock_len _) (fun s hs => by have := h.snd' s hs; omega))
theorem baseM_diag {t : Twn} (h : Vl t) {i : Nat} (hi : i < 7) : at_ (baseM t) i i ≤ 0 := by
  have := baseM_le h i i hi hi
  have := rockTo_le t.wells.toNat (by have := h.w6; omega) i i hi hi
  have := rock0_diag hi
  simp only [rock] at *
  omega
theorem rockTo_ground : ∀ n, n ≤ 6 → ∀ w, w < n → at_ (rockTo rock0 n) 6 w ≤ 99 ∧ at_ (rockTo rock0 n) w 6 ≤ 0
  | 0, _, w, h => by omega
  | n + 1, h, w, hw => by
    have t0 := rockTo_top n (by omega)
    have t1 := leave_top (v := 99) (f := 6) (t := n) t0 (by omega) (by omega)
    have e1 : ∀ i j, j < 7 → at_ (leave (leave (rockTo rock0 n) 6 n 99) n 6 0) i j = if i = n ∧ j = 6 then min (at_ (leave (rockTo rock0 n) 6 n 99) n 6) 0 else at_ (leave (rockTo rock0 n) 6 n 99) i j := fun i j hj => at_leave _ _ _ _ _ _ t1.1 (by omega) (by omega) hj
    have e2 : ∀ i j, j < 7 → at_ (leave (rockTo rock0 n) 6 n 99) i j = if i = 6 ∧ j = n then min (at_ (rockTo rock0 n) 6 n) 99 else at_ (rockTo rock0 n) i j := fun i j hj => at_leave _ _ _ _ _ _ t0.1 (by omega) (by omega) hj
    rw [rockTo, e1 6 w (by omega), e1 w 6 (by omega), e2 6 w (by omega), e2 w 6 (by omega)]
    by_cases e : w = n
    · subst e
      rw [if_neg (by omega), if_pos ⟨rfl, rfl⟩, if_pos ⟨rfl, rfl⟩]
      omega
    · have := rockTo_ground n (by omega) w (by omega)
      rw [if_neg (by omega), if_neg (by omega), if_neg (by omega), if_neg (by omega)]
      exact this

/-! Closed bounds of a town. -/
def lift (x : Nat → Int) (i : Nat) : Int := if i = 6 then 0 else x i
theorem diagOk_iff {ms : List Int} : diagOk ms = true ↔ ∀ i, i < 7 → 0 ≤ at_ ms i i := by simp [diagOk]
theorem Tr.congr {t : Twn} (hv : Vl t) {x y : Nat → Int} (h : ∀ w : Nat, (w : Int) < t.wells → x w = y w) (k : Tr t x) : Tr t y := by
  refine ⟨fun w hw => by rw [← h w hw]; exact k.own w hw, fun s hs => ?_, fun s hs => ?_⟩
  · have := hv.snd s hs
    rw [← h _ (by omega)]
    exact k.snd s hs
  · have := hv.slp s hs
    rw [← h _ (by omega), ← h _ (by omega)]
    exact k.slp s hs
/-- Bounds that say what a town says. -/
structure Says (t : Twn) (ms : List Int) : Prop where
  bd : Bd 99 99 ms
  diag : ∀ i, i < 7 → at_ ms i i ≤ 0
  iso : Iso t.wells ms
  grd : ∀ w : Nat, (w : Int) < t.wells → at_ ms 6 w ≤ 99 ∧ at_ ms w 6 ≤ 0
  sol : ∀ x : Nat → Int, Sol ms x ↔ Tr t (fun w => x w - x 6)
theorem baseM_says {t : Twn} (h : Vl t) : Says t (baseM t) := by
  refine ⟨baseM_bd h, fun i hi => baseM_diag h hi, baseM_iso h, fun w hw => ?_, fun x => baseM_sol h⟩
  have := h.w6
  have hg := rockTo_ground t.wells.toNat (by omega) w (by omega)
  have h1 := baseM_le h 6 w (by omega) (by omega)
  have h2 := baseM_le h w 6 (by omega) (by omega)
  simp only [rock] at h1 h2
  omega
theorem sol_of_tr {t : Twn} {ms : List Int} (hs : Says t ms) (hv : Vl t) {x : Nat → Int} (h : Tr t x) : Sol (closeM ms) (lift x) := by
  refine (Sol.closeM (hs.bd.top (by omega))).2 ((hs.sol (lift x)).2 ?_)
  have := hv.w6
  exact h.congr hv fun w hw => by simp [lift, show w ≠ 6 by omega]
/-- The closed bounds of a town that has a truth, and of one that has none. -/
structure Tight (t : Twn) (ms : List Int) : Prop where
  fin : ∀ i j, act t.wells i → act t.wells j → at_ ms i j ≤ 99 ∧ -99 ≤ at_ ms i j
  all : ∀ x, Tr t x → ∀ i j, act t.wells i → act t.wells j → lift x j - lift x i ≤ at_ ms i j
  one : ∀ i j, act t.wells i → act t.wells j → ∃ x, Tr t x ∧ lift x j - lift x i = at_ ms i j
theorem act_lt {W : Int} (h : W ≤ 6) {i : Nat} (ha : act W i) : i < 7 := by rcases ha with a | a <;> omega
theorem says_ok {t : Twn} (hv : Vl t) {ms : List Int} (hs : Says t ms) : (diagOk (closeM ms) = true ↔ ∃ x, Tr t x) ∧ (diagOk (closeM ms) = true → Tight t (closeM ms)) := by
  have h6 := hv.w6
  have hiso : Iso t.wells (closeM ms) := Iso.closeK hs.bd.len hs.iso 7 (by omega)
  have hle : Le (closeM ms) ms := Le.closeK hs.bd.len 7 (by omega)
  have key : diagOk (closeM ms) = true → Tri (closeM ms) 7 ∧ (∀ i j, act t.wells i → act t.wells j → at_ (closeM ms) i j ≤ 99) ∧ (∀ i j, act t.wells i → act t.wells j → ∃ x, Tr t x ∧ lift x j - lift x i = at_ (closeM ms) i j) := by
    intro hok
    rw [diagOk_iff] at hok
    have htri := closeM_tri hs.bd (by omega) (by omega) (by omega) (by omega) hs.diag hok
    have hd : ∀ i, i < 7 → at_ (closeM ms) i i = 0 := fun i hi => by have := hok i hi; have := hle i i hi hi; have := hs.diag i hi; omega
    have hg : ∀ i, act t.wells i → at_ (closeM ms) 6 i ≤ 99 ∧ at_ (closeM ms) i 6 ≤ 0 := by
      intro i hi
      by_cases e : i = 6
      · subst e
        have := hd 6 (by omega)
        omega
      · have hi' : (i : Int) < t.wells := by rcases hi with a | a <;> omega
        have := hs.grd i hi'
        have := hle 6 i (by omega) (by omega)
        have := hle i 6 (by omega) (by omega)
        omega
    have hfin : ∀ i j, act t.wells i → act t.wells j → at_ (closeM ms) i j ≤ 99 := by
      intro i j hi hj
      have h1 := hg i hi
      have h2 := hg j hj
      have := htri 6 (by omega) i j (act_lt h6 hi) (act_lt h6 hj) (by omega) (by omega)
      omega
    refine ⟨htri, hfin, fun i j hi hj => ?_⟩
    have hi7 := act_lt h6 hi
    have hj7 := act_lt h6 hj
    let y : Nat → Int := fun q => if act t.wells q then at_ (closeM ms) i q else 0
    have hy : Sol (closeM ms) y := by
      intro p q hp hq hlt
      by_cases e : p = q
      · subst e
        have := hok p hp
        omega
      · by_cases ha : act t.wells p ∧ act t.wells q
        · obtain ⟨ap, aq⟩ := ha
          have := htri p hp i q hi7 hq (by have := hfin i p hi ap; omega) hlt
          simp only [y, if_pos ap, if_pos aq]
          omega
        · have := hiso p q hp hq e ha
          omega
    have ht := (hs.sol y).1 ((Sol.closeM (hs.bd.top (by omega))).1 hy)
    refine ⟨_, ht, ?_⟩
    have e : ∀ q, act t.wells q → lift (fun w => y w - y 6) q = at_ (closeM ms) i q - at_ (closeM ms) i 6 := by
      intro q hq
      have h6' : act t.wells 6 := .inr rfl
      simp only [lift]
      split
      · rename_i e; subst e; omega
      · simp only [y, if_pos hq, if_pos h6']
    rw [e i hi, e j hj, hd i hi7]
    omega
  refine ⟨⟨fun h => ?_, fun ⟨x, hx⟩ => ?_⟩, fun h => ?_⟩
  · obtain ⟨x, hx, _⟩ := (key h).2.2 6 6 (.inr rfl) (.inr rfl)
    exact ⟨x, hx⟩
  · rw [diagOk_iff]
    intro i hi
    have h := sol_of_tr hs hv hx i i hi hi
    by_cases hlt : at_ (closeM ms) i i < 1048576
    · have := h hlt
      omega
    · omega
  · have hall : ∀ x, Tr t x → ∀ i j, act t.wells i → act t.wells j → lift x j - lift x i ≤ at_ (closeM ms) i j := by
      intro x hx i j hi hj
      have hf := (key h).2.1 i j hi hj
      exact sol_of_tr hs hv hx i j (act_lt h6 hi) (act_lt h6 hj) (by omega)
    refine ⟨fun i j hi hj => ⟨(key h).2.1 i j hi hj, ?_⟩, hall, (key h).2.2⟩
    obtain ⟨x, hx, _⟩ := (key h).2.2 6 6 (.inr rfl) (.inr rfl)
    have := hall x hx i j hi hj
    have hb : ∀ i, act t.wells i → 0 ≤ lift x i ∧ lift x i ≤ 99 := by
      intro i hi
      simp only [lift]
      split
      · omega
      · exact hx.own i (by rcases hi with a | a <;> omega)
    have := hb i hi
    have := hb j hj
    omega
end
end Go.Proofs.Ytplbaijdnpfdgaa

/- Layer 1: what the bounds of a town say: its truths. No program here. -/
import Derived.Test.YtldcehhhndlhdaaGreatDoorC9
namespace Go.Proofs.YtldcehhhndlhdaaGreatDoor
section
theorem leave_le {ms : List Int} {f t : Nat} {v : Int} (hl : ms.length = 49) (hf : f < 7) (ht : t < 7) : Le (leave ms f t v) ms := by
  intro i j hi hj
  rw [at_leave _ _ _ _ _ _ hl hf ht hj]
  split
  · rename_i hc; obtain ⟨rfl, rfl⟩ := hc; omega
  · exact Int.le_refl _
theorem leave_top {ms : List Int} {f t : Nat} {v : Int} (h : Top ms) (hf : f < 7) (ht : t < 7) : Top (leave ms f t v) := h.le (leave_len _ _ _ _) (leave_le h.1 hf ht)
theorem rock0_top : Top rock0 := rock0_bd.top (by omega)
theorem rock0_sol (x : Nat → Int) : Sol rock0 x := by
  intro i j hi hj
  have : ∀ i, i < 7 → ∀ j, j < 7 → i = j ∧ at_ rock0 i j = 0 ∨ at_ rock0 i j = 1048576 := by decide +kernel
  rcases this i hi j hj with ⟨rfl, h⟩ | h
  · omega
  · omega
theorem rockTo_top : ∀ n, n ≤ 6 → Top (rockTo rock0 n)
  | 0, _ => rock0_top
  | n + 1, h => leave_top (leave_top (rockTo_top n (by omega)) (by omega) (by omega)) (by omega) (by omega)
theorem rockTo_sol (x : Nat → Int) : ∀ n, n ≤ 6 → (Sol (rockTo rock0 n) x ↔ ∀ w, w < n → 0 ≤ x w - x 6 ∧ x w - x 6 ≤ 99)
  | 0, _ => ⟨fun _ w h => by omega, fun _ => rock0_sol x⟩
  | n + 1, h => by
    have t0 := rockTo_top n (by omega)
    have t1 := leave_top (v := 99) (f := 6) (t := n) t0 (by omega) (by omega)
    rw [rockTo, Sol.leave t1.1 (by omega) (by omega) (by omega) (t1.2 _ _ (by omega) (by omega)), Sol.leave t0.1 (by omega) (by omega) (by omega) (t0.2 _ _ (by omega) (by omega)), rockTo_sol x n (by omega)]
    constructor
    · rintro ⟨⟨h1, h2⟩, h3⟩ w hw
      by_cases e : w = n
      · subst e; omega
      · exact h1 w (by omega)
    · intro h1
      have := h1 n (by omega)
      exact ⟨⟨fun w hw => h1 w (by omega), by omega⟩, by omega⟩
theorem soundM_top {ms : List Int} {s : Snd} (h : Top ms) (h0 : 0 ≤ s.well) (h1 : s.well < 6) : Top (soundM ms s) := leave_top (leave_top h (by omega) (by omega)) (by omega) (by omega)
theorem slopeM_top {ms : List Int} {s : Slp} (h : Top ms) (h0 : 0 ≤ s.a) (h1 : s.a < 6) (h2 : 0 ≤ s.b) (h3 : s.b < 6) : Top (slopeM ms s) := leave_top (leave_top h (by omega) (by omega)) (by omega) (by omega)
theorem soundM_sol {ms : List Int} {s : Snd} {x : Nat → Int} (h : Top ms) (h0 : 0 ≤ s.well) (h1 : s.well < 6) (h2 : 0 ≤ s.low) (h3 : s.high ≤ 99) : Sol (soundM ms s) x ↔ Sol ms x ∧ s.low ≤ x s.well.toNat - x 6 ∧ x s.well.toNat - x 6 ≤ s.high := by
  have t1 := leave_top (v := s.high) (f := 6) (t := s.well.toNat) h (by omega) (by omega)
  rw [soundM, Sol.leave t1.1 (by omega) (by omega) (by omega) (t1.2 _ _ (by omega) (by omega)), Sol.leave h.1 (by omega) (by omega) (by omega) (h.2 _ _ (by omega) (by omega))]
  constructor
  · rintro ⟨⟨a, b⟩, c⟩; exact ⟨a, by omega, b⟩
  · rintro ⟨a, b, c⟩; exact ⟨⟨a, c⟩, by omega⟩
theorem slopeM_sol {ms : List Int} {s : Slp} {x : Nat → Int} (h : Top ms) (h0 : 0 ≤ s.a) (h1 : s.a < 6) (h2 : 0 ≤ s.b) (h3 : s.b < 6) (h4 : -99 ≤ s.low) (h5 : s.high ≤ 99) : Sol (slopeM ms s) x ↔ Sol ms x ∧ s.low ≤ x s.b.toNat - x s.a.toNat ∧ x s.b.toNat - x s.a.toNat ≤ s.high := by
  have t1 := leave_top (v := s.high) (f := s.a.toNat) (t := s.b.toNat) h (by omega) (by omega)
  rw [slopeM, Sol.leave t1.1 (by omega) (by omega) (by omega) (t1.2 _ _ (by omega) (by omega)), Sol.leave h.1 (by omega) (by omega) (by omega) (h.2 _ _ (by omega) (by omega))]
  constructor
  · rintro ⟨⟨a, b⟩, c⟩; exact ⟨a, by omega, b⟩
  · rintro ⟨a, b, c⟩; exact ⟨⟨a, c⟩, by omega⟩
theorem sounds_sol {x : Nat → Int} : ∀ (l : List Snd) (ms : List Int), Top ms → (∀ s ∈ l, 0 ≤ s.well ∧ s.well < 6 ∧ 0 ≤ s.low ∧ s.high ≤ 99) → Top (l.foldl soundM ms) ∧ (Sol (l.foldl soundM ms) x ↔ Sol ms x ∧ ∀ s ∈ l, s.low ≤ x s.well.toNat - x 6 ∧ x s.well.toNat - x 6 ≤ s.high)
  | [], ms, h, _ => ⟨h, by simp⟩
  | s :: l, ms, h, hs => by
    obtain ⟨a, b, c, d⟩ := hs s (by simp)
    obtain ⟨h1, h2⟩ := sounds_sol (x := x) l (soundM ms s) (soundM_top h a b) (fun u hu => hs u (by simp [hu]))
    refine ⟨h1, ?_⟩
    rw [List.foldl_cons, h2, soundM_sol h a b c d]
    simp only [List.mem_cons, forall_eq_or_imp]
    exact ⟨fun ⟨⟨p, q⟩, r⟩ => ⟨p, q, r⟩, fun ⟨p, q, r⟩ => ⟨⟨p, q⟩, r⟩⟩
theorem slopes_sol {x : Nat → Int} : ∀ (l : List Slp) (ms : List Int), Top ms → (∀ s ∈ l, 0 ≤ s.a ∧ s.a < 6 ∧ 0 ≤ s.b ∧ s.b < 6 ∧ -99 ≤ s.low ∧ s.high ≤ 99) → Top (l.foldl slopeM ms) ∧ (Sol (l.foldl slopeM ms) x ↔ Sol ms x ∧ ∀ s ∈ l, s.low ≤ x s.b.toNat - x s.a.toNat ∧ x s.b.toNat - x s.a.toNat ≤ s.high)
  | [], ms, h, _ => ⟨h, by simp⟩
  | s :: l, ms, h, hs => by
    obtain ⟨a, b, c, d, e, f⟩ := hs s (by simp)
    obtain ⟨h1, h2⟩ := slopes_sol (x := x) l (slopeM ms s) (slopeM_top h a b c d) (fun u hu => hs u (by simp [hu]))
    refine ⟨h1, ?_⟩
    rw [List.foldl_cons, h2, slopeM_sol h a b c d e f]
    simp only [List.mem_cons, forall_eq_or_imp]
    exact ⟨fun ⟨⟨p, q⟩, r⟩ => ⟨p, q, r⟩, fun ⟨p, q, r⟩ => ⟨⟨p, q⟩, r⟩⟩
theorem Vl.snd' {t : Twn} (h : Vl t) : ∀ s ∈ t.snd, 0 ≤ s.well ∧ s.well < 6 ∧ 0 ≤ s.low ∧ s.high ≤ 99 := fun s hs => by have := h.snd s hs; have := h.w6; omega
theorem Vl.slp' {t : Twn} (h : Vl t) : ∀ s ∈ t.slp, 0 ≤ s.a ∧ s.a < 6 ∧ 0 ≤ s.b ∧ s.b < 6 ∧ -99 ≤ s.low ∧ s.high ≤ 99 := fun s hs => by have := h.slp s hs; have := h.w6; omega
theorem baseM_top {t : Twn} (h : Vl t) : Top (baseM t) :=
  (slopes_sol (x := fun _ => 0) t.slp _ (sounds_sol (x := fun _ => 0) t.snd (rock t.wells) (rockTo_top _ (by have := h.w6; omega)) h.snd').1 h.slp').1
/-- The bounds of a town say what its words say. -/
theorem baseM_sol {t : Twn} (h : Vl t) {x : Nat → Int} : Sol (baseM t) x ↔ Tr t (fun w => x w - x 6) := by
  have h6 := h.w6
  have h0 := h.w0
  have t0 := rockTo_top t.wells.toNat (by omega)
  have s1 := sounds_sol (x := x) t.snd (rock t.wells) t0 h.snd'
  have s2 := slopes_sol (x := x) t.slp _ s1.1 h.slp'
  rw [baseM, s2.2, s1.2, rock, rockTo_sol x _ (by omega)]
  constructor
  · rintro ⟨⟨a, b⟩, c⟩
    exact ⟨fun w hw => a w (by omega), b, fun s hs => by have := c s hs; show _ ≤ (x _ - x 6) - (x _ - x 6) ∧ (x _ - x 6) - (x _ - x 6) ≤ _; omega⟩
  · intro k
    exact ⟨⟨fun w hw => k.own w (by omega), k.snd⟩, fun s hs => by have := k.slp s hs; change _ ≤ (x _ - x 6) - (x _ - x 6) ∧ (x _ - x 6) - (x _ - x 6) ≤ _ at this; omega⟩
/-! What is no well of the town stays apart. -/
def act (W : Int) (i : Nat) : Prop := (i : Int) < W ∨ i = 6
instance (W : Int) (i : Nat) : Decidable (act W i) := inferInstanceAs (Decidable (_ ∨ _))
def Iso (W : Int) (ms : List Int) : Prop := ∀ i j, i < 7 → j < 7 → i ≠ j → ¬ (act W i ∧ act W j) → at_ ms i j = 1048576
theorem Iso.leave {W : Int} {ms : List Int} {f t : Nat} {v : Int} (hl : ms.length = 49) (hf : f < 7) (ht : t < 7) (af : act W f) (at' : act W t) (h : Iso W ms) : Iso W (leave ms f t v) := by
  intro i j hi hj hij hn
  rw [at_leave _ _ _ _ _ _ hl hf ht hj]
  split
  · rename_i hc; obtain ⟨rfl, rfl⟩ := hc
    exact absurd ⟨af, at'⟩ hn
  · exact h i j hi hj hij hn
theorem Iso.relax {W : Int} {ms : List Int} {k i j : Nat} (hl : ms.length = 49) (hk : k < 7) (hi : i < 7) (hj : j < 7) (h : Iso W ms) : Iso W (relax k i j ms) := by
  unfold Go.Proofs.YtldcehhhndlhdaaGreatDoor.relax
  split
  · rename_i hc
    intro p q hp hq hpq hn
    rw [at_leave _ _ _ _ _ _ hl hi hj hq]
    split
    · rename_i he; obtain ⟨rfl, rfl⟩ := he
      have hd := h p q hp hq hpq hn
      exfalso
      by_cases hap : act W p
      · have haq : ¬ act W q := fun e => hn ⟨hap, e⟩
        by_cases e : k = q
        · subst e; omega
        · have := h k q hk hq e (fun e => haq e.2); omega
      · by_cases e : p = k
        · subst e; omega
        · have := h p k hp hk e (fun e => hap e.1); omega
    · exact h p q hp hq hpq hn
  · exact h
theorem Iso.closeJ {W : Int} {ms : List Int} {k i : Nat} (hl : ms.length = 49) (hk : k < 7) (hi : i < 7) (h : Iso W ms) : ∀ n, n ≤ 7 → Iso W (closeJ k i ms n)
  | 0, _ => h
  | n + 1, hn => (Iso.closeJ hl hk hi h n (by omega)).relax (by rw [closeJ_len, hl]) hk hi (by omega)
theorem Iso.closeI {W : Int} {ms : List Int} {k : Nat} (hl : ms.length = 49) (hk : k < 7) (h : Iso W ms) : ∀ n, n ≤ 7 → Iso W (closeI k ms n)
  | 0, _ => h
  | n + 1, hn => (Iso.closeI hl hk h n (by omega)).closeJ (by rw [closeI_len, hl]) hk (by omega) 7 (by omega)
theorem Iso.closeK {W : Int} {ms : List Int} (hl : ms.length = 49) (h : Iso W ms) : ∀ n, n ≤ 7 → Iso W (closeK ms n)
  | 0, _ => h
  | n + 1, hn => (Iso.closeK hl h n (by omega)).closeI (by rw [closeK_len, hl]) (by omega) 7 (by omega)
theorem rock0_iso (W : Int) : Iso W rock0 := by
  intro i j hi hj hij _
  have : ∀ i, i < 7 → ∀ j, j < 7 → i ≠ j → at_ rock0 i j = 1048576 := by decide +kernel
  exact this i hi j hj hij
theorem rockTo_iso (W : Int) : ∀ n : Nat, n ≤ 6 → (n : Int) ≤ W → Iso W (rockTo rock0 n)
  | 0, _, _ => rock0_iso W
  | n + 1, h, hW => ((rockTo_iso W n (by omega) (by omega)).leave (rockTo_top n (by omega)).1 (by omega) (by omega) (.inr rfl) (.inl (by omega))).leave (leave_top (rockTo_top n (by omega)) (by omega) (by omega)).1 (by omega) (by omega) (.inl (by omega)) (.inr rfl)
theorem sounds_iso {W : Int} (hW : W ≤ 6) : ∀ (l : List Snd) (ms : List Int), ms.length = 49 → Iso W ms → (∀ s ∈ l, 0 ≤ s.well ∧ s.well < W) → Iso W (l.foldl soundM ms)
  | [], _, _, h, _ => h
  | s :: l, ms, hl, h, hs => by
    obtain ⟨a, b⟩ := hs s (by simp)
    refine sounds_iso hW l (soundM ms s) (by rw [soundM_len, hl]) ?_ (fun u hu => hs u (by simp [hu]))
    exact (h.leave hl (by omega) (by omega) (.inr rfl) (.inl (by omega))).leave (by rw [leave_len, hl]) (by omega) (by omega) (.inl (by omega)) (.inr rfl)
theorem slopes_iso {W : Int} (hW : W ≤ 6) : ∀ (l : List Slp) (ms : List Int), ms.length = 49 → Iso W ms → (∀ s ∈ l, 0 ≤ s.a ∧ s.a < W ∧ 0 ≤ s.b ∧ s.b < W) → Iso W (l.foldl slopeM ms)
  | [], _, _, h, _ => h
  | s :: l, ms, hl, h, hs => by
    obtain ⟨a, b, c, d⟩ := hs s (by simp)
    refine slopes_iso hW l (slopeM ms s) (by rw [slopeM_len, hl]) ?_ (fun u hu => hs u (by simp [hu]))
    exact (h.leave hl (by omega) (by omega) (.inl (by omega)) (.inl (by omega))).leave (by rw [leave_len, hl]) (by omega) (by omega) (.inl (by omega)) (.inl (by omega))
theorem baseM_iso {t : Twn} (h : Vl t) : Iso t.wells (baseM t) := by
  have := h.w6; have := h.w0
  refine slopes_iso h.w6 t.slp _ (by rw [sounds_len, rock_len]) (sounds_iso h.w6 t.snd _ (rock_len _) (rockTo_iso _ _ (by omega) (by omega)) (fun s hs => ?_)) (fun s hs => ?_)
  · have := h.snd s hs; omega
  · have := h.slp s hs; omega
theorem sounds_le : ∀ (l : List Snd) (ms : List Int), ms.length = 49 → (∀ s ∈ l, 0 ≤ s.well ∧ s.well < 6) → Le (l.foldl soundM ms) ms
  | [], _, _, _ => Le.refl _
  | s :: l, ms, hl, hs => by
    obtain ⟨a, b⟩ := hs s (by simp)
    exact (sounds_le l (soundM ms s) (by rw [soundM_len, hl]) (fun u hu => hs u (by simp [hu]))).trans ((leave_le (by rw [leave_len, hl]) (by omega) (by omega)).trans (leave_le hl (by omega) (by omega)))
theorem slopes_le : ∀ (l : List Slp) (ms : List Int), ms.length = 49 → (∀ s ∈ l, 0 ≤ s.a ∧ s.a < 6 ∧ 0 ≤ s.b ∧ s.b < 6) → Le (l.foldl slopeM ms) ms
  | [], _, _, _ => Le.refl _
  | s :: l, ms, hl, hs => by
    obtain ⟨a, b, c, d⟩ := hs s (by simp)
    exact (slopes_le l (slopeM ms s) (by rw [slopeM_len, hl]) (fun u hu => hs u (by simp [hu]))).trans ((leave_le (by rw [leave_len, hl]) (by omega) (by omega)).trans (leave_le hl (by omega) (by omega)))
theorem sounds_bd : ∀ (l : List Snd) (ms : List Int), Bd 99 99 ms → (∀ s ∈ l, 0 ≤ s.well ∧ s.well < 6 ∧ 0 ≤ s.low ∧ s.low ≤ s.high ∧ s.high ≤ 99) → Bd 99 99 (l.foldl soundM ms)
  | [], _, h, _ => h
  | s :: l, ms, h, hs => by
    obtain ⟨a, b, c, d, e⟩ := hs s (by simp)
    exact sounds_bd l (soundM ms s) (soundM_bd h a b (by omega) (by omega) (by omega) (by omega) (by omega)) (fun u hu => hs u (by simp [hu]))
theorem slopes_bd : ∀ (l : List Slp) (ms : List Int), Bd 99 99 ms → (∀ s ∈ l, 0 ≤ s.a ∧ s.a < 6 ∧ 0 ≤ s.b ∧ s.b < 6 ∧ -99 ≤ s.low ∧ s.low ≤ s.high ∧ s.high ≤ 99) → Bd 99 99 (l.foldl slopeM ms)
  | [], _, h, _ => h
  | s :: l, ms, h, hs => by
    obtain ⟨a, b, c, d, e, f, g⟩ := hs s (by simp)
    exact slopes_bd l (slopeM ms s) (slopeM_bd h a b c d (by omega) (by omega) (by omega) (by omega) (by omega)) (fun u hu => hs u (by simp [hu]))
theorem baseM_bd {t : Twn} (h : Vl t) : Bd 99 99 (baseM t) := by
  have h6 := h.w6
  refine slopes_bd t.slp _ (sounds_bd t.snd _ (rock_bd h6) (fun s hs => ?_)) (fun s hs => ?_)
  · have := h.snd s hs; omega
  · have := h.slp s hs; omega
theorem rock0_diag {i : Nat} (hi : i < 7) : at_ rock0 i i = 0 := by
  have : ∀ i, i < 7 → at_ rock0 i i = 0 := by decide +kernel
  exact this i hi
theorem rockTo_le : ∀ n, n ≤ 6 → Le (rockTo rock0 n) rock0
  | 0, _ => Le.refl _
  | n + 1, h => (leave_le (leave_top (rockTo_top n (by omega)) (by omega) (by omega)).1 (by omega) (by omega)).trans ((leave_le (rockTo_top n (by omega)).1 (by omega) (by omega)).trans (rockTo_le n (by omega)))
theorem baseM_le {t : Twn} (h : Vl t) : Le (baseM t) (rock t.wells) :=
  (slopes_le t.slp _ (by rw [sounds_len, rock_len]) (fun s hs => by have := h.slp' s hs; omega)).trans (sounds_le t.snd _ (rock_len _) (fun s hs => by have := h.snd' s hs; omega))
theorem baseM_diag {t : Twn} (h : Vl t) {i : Nat} (hi : i < 7) : at_ (baseM t) i i ≤ 0 := by
  have := baseM_le h i i hi hi
  have := rockTo_le t.wells.toNat (by have := h.w6; omega) i i hi hi
  have := rock0_diag hi
  simp only [rock] at *
  omega
theorem rockTo_ground : ∀ n, n ≤ 6 → ∀ w, w < n → at_ (rockTo rock0 n) 6 w ≤ 99 ∧ at_ (rockTo rock0 n) w 6 ≤ 0
  | 0, _, w, h => by omega
  | n + 1, h, w, hw => by
    have t0 := rockTo_top n (by omega)
    have t1 := leave_top (v := 99) (f := 6) (t := n) t0 (by omega) (by omega)
    have e1 : ∀ i j, j < 7 → at_ (leave (leave (rockTo rock0 n) 6 n 99) n 6 0) i j = if i = n ∧ j = 6 then min (at_ (leave (rockTo rock0 n) 6 n 99) n 6) 0 else at_ (leave (rockTo rock0 n) 6 n 99) i j := fun i j hj => at_leave _ _ _ _ _ _ t1.1 (by omega) (by omega) hj
    have e2 : ∀ i j, j < 7 → at_ (leave (rockTo rock0 n) 6 n 99) i j = if i = 6 ∧ j = n then min (at_ (rockTo rock0 n) 6 n) 99 else at_ (rockTo rock0 n) i j := fun i j hj => at_leave _ _ _ _ _ _ t0.1 (by omega) (by omega) hj
    rw [rockTo, e1 6 w (by omega), e1 w 6 (by omega), e2 6 w (by omega), e2 w 6 (by omega)]
    by_cases e : w = n
    · subst e
      rw [if_neg (by omega), if_pos ⟨rfl, rfl⟩, if_pos ⟨rfl, rfl⟩]
      omega
    · have := rockTo_ground n (by omega) w (by omega)
      rw [if_neg (by omega), if_neg (by omega), if_neg (by omega), if_neg (by omega)]
      exact this

/-! Closed bounds of a town. -/
def lift (x : Nat → Int) (i : Nat) : Int := if i = 6 then 0 else x i
theorem diagOk_iff {ms : List Int} : diagOk ms = true ↔ ∀ i, i < 7 → 0 ≤ at_ ms i i := by simp [diagOk]
theorem Tr.congr {t : Twn} (hv : Vl t) {x y : Nat → Int} (h : ∀ w : Nat, (w : Int) < t.wells → x w = y w) (k : Tr t x) : Tr t y := by
  refine ⟨fun w hw => by rw [← h w hw]; exact k.own w hw, fun s hs => ?_, fun s hs => ?_⟩
  · have := hv.snd s hs
    rw [← h _ (by omega)]
    exact k.snd s hs
  · have := hv.slp s hs
    rw [← h _ (by omega), ← h _ (by omega)]
    exact k.slp s hs
/-- Bounds that say what a town says. -/
structure Says (t : Twn) (ms : List Int) : Prop where
  bd : Bd 99 99 ms
  diag : ∀ i, i < 7 → at_ ms i i ≤ 0
  iso : Iso t.wells ms
  grd : ∀ w : Nat, (w : Int) < t.wells → at_ ms 6 w ≤ 99 ∧ at_ ms w 6 ≤ 0
  sol : ∀ x : Nat → Int, Sol ms x ↔ Tr t (fun w => x w - x 6)
theorem baseM_says {t : Twn} (h : Vl t) : Says t (baseM t) := by
  refine ⟨baseM_bd h, fun i hi => baseM_diag h hi, baseM_iso h, fun w hw => ?_, fun x => baseM_sol h⟩
  have := h.w6
  have hg := rockTo_ground t.wells.toNat (by omega) w (by omega)
  have h1 := baseM_le h 6 w (by omega) (by omega)
  have h2 := baseM_le h w 6 (by omega) (by omega)
  simp only [rock] at h1 h2
  omega
theorem sol_of_tr {t : Twn} {ms : List Int} (hs : Says t ms) (hv : Vl t) {x : Nat → Int} (h : Tr t x) : Sol (closeM ms) (lift x) := by
  refine (Sol.closeM (hs.bd.top (by omega))).2 ((hs.sol (lift x)).2 ?_)
  have := hv.w6
  exact h.congr hv fun w hw => by simp [lift, show w ≠ 6 by omega]
/-- The closed bounds of a town that has a truth, and of one that has none. -/
structure Tight (t : Twn) (ms : List Int) : Prop where
  fin : ∀ i j, act t.wells i → act t.wells j → at_ ms i j ≤ 99 ∧ -99 ≤ at_ ms i j
  all : ∀ x, Tr t x → ∀ i j, act t.wells i → act t.wells j → lift x j - lift x i ≤ at_ ms i j
  one : ∀ i j, act t.wells i → act t.wells j → ∃ x, Tr t x ∧ lift x j - lift x i = at_ ms i j
theorem act_lt {W : Int} (h : W ≤ 6) {i : Nat} (ha : act W i) : i < 7 := by rcases ha with a | a <;> omega
theorem says_ok {t : Twn} (hv : Vl t) {ms : List Int} (hs : Says t ms) : (diagOk (closeM ms) = true ↔ ∃ x, Tr t x) ∧ (diagOk (closeM ms) = true → Tight t (closeM ms)) := by
  have h6 := hv.w6
  have hiso : Iso t.wells (closeM ms) := Iso.closeK hs.bd.len hs.iso 7 (by omega)
  have hle : Le (closeM ms) ms := Le.closeK hs.bd.len 7 (by omega)
  have key : diagOk (closeM ms) = true → Tri (closeM ms) 7 ∧ (∀ i j, act t.wells i → act t.wells j → at_ (closeM ms) i j ≤ 99) ∧ (∀ i j, act t.wells i → act t.wells j → ∃ x, Tr t x ∧ lift x j - lift x i = at_ (closeM ms) i j) := by
    intro hok
    rw [diagOk_iff] at hok
    have htri := closeM_tri hs.bd (by omega) (by omega) (by omega) (by omega) hs.diag hok
    have hd : ∀ i, i < 7 → at_ (closeM ms) i i = 0 := fun i hi => by have := hok i hi; have := hle i i hi hi; have := hs.diag i hi; omega
    have hg : ∀ i, act t.wells i → at_ (closeM ms) 6 i ≤ 99 ∧ at_ (closeM ms) i 6 ≤ 0 := by
      intro i hi
      by_cases e : i = 6
      · subst e
        have := hd 6 (by omega)
        omega
      · have hi' : (i : Int) < t.wells := by rcases hi with a | a <;> omega
        have := hs.grd i hi'
        have := hle 6 i (by omega) (by omega)
        have := hle i 6 (by omega) (by omega)
        omega
    have hfin : ∀ i j, act t.wells i → act t.wells j → at_ (closeM ms) i j ≤ 99 := by
      intro i j hi hj
      have h1 := hg i hi
      have h2 := hg j hj
      have := htri 6 (by omega) i j (act_lt h6 hi) (act_lt h6 hj) (by omega) (by omega)
      omega
    refine ⟨htri, hfin, fun i j hi hj => ?_⟩
    have hi7 := act_lt h6 hi
    have hj7 := act_lt h6 hj
    let y : Nat → Int := fun q => if act t.wells q then at_ (closeM ms) i q else 0
    have hy : Sol (closeM ms) y := by
      intro p q hp hq hlt
      by_cases e : p = q
      · subst e
        have := hok p hp
        omega
      · by_cases ha : act t.wells p ∧ act t.wells q
        · obtain ⟨ap, aq⟩ := ha
          have := htri p hp i q hi7 hq (by have := hfin i p hi ap; omega) hlt
          simp only [y, if_pos ap, if_pos aq]
          omega
        · have := hiso p q hp hq e ha
          omega
    have ht := (hs.sol y).1 ((Sol.closeM (hs.bd.top (by omega))).1 hy)
    refine ⟨_, ht, ?_⟩
    have e : ∀ q, act t.wells q → lift (fun w => y w - y 6) q = at_ (closeM ms) i q - at_ (closeM ms) i 6 := by
      intro q hq
      have h6' : act t.wells 6 := .inr rfl
      simp only [lift]
      split
      · rename_i e; subst e; omega
      · simp only [y, if_pos hq, if_pos h6']
    rw [e i hi, e j hj, hd i hi7]
    omega
  refine ⟨⟨fun h => ?_, fun ⟨x, hx⟩ => ?_⟩, fun h => ?_⟩
  · obtain ⟨x, hx, _⟩ := (key h).2.2 6 6 (.inr rfl) (.inr rfl)
    exact ⟨x, hx⟩
  · rw [diagOk_iff]
    intro i hi
    have h := sol_of_tr hs hv hx i i hi hi
    by_cases hlt : at_ (closeM ms) i i < 1048576
    · have := h hlt
      omega
    · omega
  · have hall : ∀ x, Tr t x → ∀ i j, act t.wells i → act t.wells j → lift x j - lift x i ≤ at_ (closeM ms) i j := by
      intro x hx i j hi hj
      have hf := (key h).2.1 i j hi hj
      exact sol_of_tr hs hv hx i j (act_lt h6 hi) (act_lt h6 hj) (by omega)
    refine ⟨fun i j hi hj => ⟨(key h).2.1 i j hi hj, ?_⟩, hall, (key h).2.2⟩
    obtain ⟨x, hx, _⟩ := (key h).2.2 6 6 (.inr rfl) (.inr rfl)
    have := hall x hx i j hi hj
    have hb : ∀ i, act t.wells i → 0 ≤ lift x i ∧ lift x i ≤ 99 := by
      intro i hi
      simp only [lift]
      split
      · omega
      · exact hx.own i (by rcases hi with a | a <;> omega)
    have := hb i hi
    have := hb j hj
    omega
end
end Go.Proofs.YtldcehhhndlhdaaGreatDoor
/- Layer 1: the spans of the reference, and that the closed bounds say the same. No program here. -/
namespace Go.Proofs.YtldcehhhndlhdaaGreatDoor
structure Sp where
  low : Int
  high : Int
  deriving DecidableEq, Inhabited
def cutS (a b : Sp) : Sp := ⟨max a.low b.low, min a.high b.high⟩
def spAt (l : List Sp) (i : Nat) : Sp := l.getD i ⟨0, 0⟩
def sndS (l : List Sp) (s : Snd) : List Sp := l.set s.well.toNat (cutS (spAt l s.well.toNat) ⟨s.low, s.high⟩)
def span0 (t : Twn) : List Sp := t.snd.foldl sndS (List.replicate t.wells.toNat ⟨0, 99⟩)
def slpS1 (l : List Sp) (s : Slp) : List Sp := l.set s.b.toNat (cutS (spAt l s.b.toNat) ⟨(spAt l s.a.toNat).low + s.low, (spAt l s.a.toNat).high + s.high⟩)
def slpS (l : List Sp) (s : Slp) : List Sp := (slpS1 l s).set s.a.toNat (cutS (spAt l s.a.toNat) ⟨(spAt l s.b.toNat).low - s.high, (spAt l s.b.toNat).high - s.low⟩)
def slpC (l : List Sp) (s : Slp) : Bool := decide (spAt (slpS l s) s.a.toNat ≠ spAt l s.a.toNat) || decide (spAt (slpS l s) s.b.toNat ≠ spAt l s.b.toNat)
def stepS (p : List Sp × Bool) (s : Slp) : List Sp × Bool := (slpS p.1 s, p.2 || slpC p.1 s)
def roundS (t : Twn) (l : List Sp) : List Sp × Bool := t.slp.foldl stepS (l, false)
def emptyS (l : List Sp) : Bool := l.any fun s => decide (s.high < s.low)
def spansF (t : Twn) : Nat → List Sp → Option (List Sp)
  | 0, _ => none
  | f + 1, l => if emptyS l then none else if (roundS t l).2 then spansF t f (roundS t l).1 else some (roundS t l).1
def spansR (t : Twn) : Option (List Sp) := spansF t 1000 (span0 t)

section
theorem spAt_len (l : List Sp) (i : Nat) (h : i < l.length) : spAt l i = l[i] := by simp [spAt, List.getElem?_eq_getElem h]
theorem spAt_set (l : List Sp) (i j : Nat) (v : Sp) (h : i < l.length) : spAt (l.set i v) j = if j = i then v else spAt l j := by
  unfold spAt
  simp only [List.getD_eq_getElem?_getD, List.getElem?_set]
  by_cases e : i = j
  · subst e; simp [h]
  · rw [if_neg e, if_neg (fun x => e x.symm)]
/-- Spans hold a truth. -/
def Has (l : List Sp) (x : Nat → Int) : Prop := ∀ w, w < l.length → (spAt l w).low ≤ x w ∧ x w ≤ (spAt l w).high
theorem sndS_len (l : List Sp) (s : Snd) : (sndS l s).length = l.length := by simp [sndS]
theorem sndS_has {l : List Sp} {s : Snd} {x : Nat → Int} (h : s.well.toNat < l.length) : Has (sndS l s) x ↔ Has l x ∧ s.low ≤ x s.well.toNat ∧ x s.well.toNat ≤ s.high := by
  constructor
  · intro k
    have k0 := k s.well.toNat (by rw [sndS_len]; exact h)
    rw [sndS, spAt_set _ _ _ _ h, if_pos rfl] at k0
    simp only [cutS] at k0
    refine ⟨fun w hw => ?_, by omega⟩
    have k1 := k w (by rw [sndS_len]; exact hw)
    rw [sndS, spAt_set _ _ _ _ h] at k1
    split at k1
    · rename_i e; subst e; omega
    · exact k1
  · rintro ⟨k, a, b⟩ w hw
    rw [sndS_len] at hw
    rw [sndS, spAt_set _ _ _ _ h]
    have k1 := k w hw
    split
    · rename_i e; subst e; simp only [cutS]; omega
    · exact k1
theorem sndsS_has {x : Nat → Int} : ∀ (ss : List Snd) (l : List Sp), (∀ s ∈ ss, s.well.toNat < l.length) → (ss.foldl sndS l).length = l.length ∧ (Has (ss.foldl sndS l) x ↔ Has l x ∧ ∀ s ∈ ss, s.low ≤ x s.well.toNat ∧ x s.well.toNat ≤ s.high)
  | [], l, _ => ⟨rfl, by simp⟩
  | s :: ss, l, h => by
    have hs := h s (by simp)
    obtain ⟨h1, h2⟩ := sndsS_has (x := x) ss (sndS l s) (fun u hu => by rw [sndS_len]; exact h u (by simp [hu]))
    refine ⟨by rw [List.foldl_cons, h1, sndS_len], ?_⟩
    rw [List.foldl_cons, h2, sndS_has hs]
    simp only [List.mem_cons, forall_eq_or_imp]
    exact ⟨fun ⟨⟨p, q⟩, r⟩ => ⟨p, q, r⟩, fun ⟨p, q, r⟩ => ⟨⟨p, q⟩, r⟩⟩
theorem Vl.sndL {t : Twn} (hv : Vl t) {n : Nat} (hn : n = t.wells.toNat) : ∀ s ∈ t.snd, s.well.toNat < n := fun s hs => by have := hv.snd s hs; omega
theorem span0_len {t : Twn} (hv : Vl t) : (span0 t).length = t.wells.toNat := by
  rw [span0, (sndsS_has (x := fun _ => 0) t.snd _ (by rw [List.length_replicate]; exact hv.sndL rfl)).1, List.length_replicate]
theorem span0_has {t : Twn} (hv : Vl t) {x : Nat → Int} : Has (span0 t) x ↔ (∀ w : Nat, (w : Int) < t.wells → 0 ≤ x w ∧ x w ≤ 99) ∧ ∀ s ∈ t.snd, s.low ≤ x s.well.toNat ∧ x s.well.toNat ≤ s.high := by
  have h0 := hv.w0
  rw [span0, (sndsS_has (x := x) t.snd _ (by rw [List.length_replicate]; exact hv.sndL rfl)).2]
  have e : Has (List.replicate t.wells.toNat ⟨0, 99⟩) x ↔ ∀ w : Nat, (w : Int) < t.wells → 0 ≤ x w ∧ x w ≤ 99 := by
    constructor
    · intro h w hw
      have := h w (by rw [List.length_replicate]; omega)
      rw [spAt_len _ _ (by rw [List.length_replicate]; omega)] at this
      simpa using this
    · intro h w hw
      rw [List.length_replicate] at hw
      rw [spAt_len _ _ (by rw [List.length_replicate]; omega)]
      simpa using h w (by omega)
  rw [e]
theorem slpS1_len (l : List Sp) (s : Slp) : (slpS1 l s).length = l.length := by simp [slpS1]
theorem slpS_len (l : List Sp) (s : Slp) : (slpS l s).length = l.length := by simp [slpS, slpS1]
theorem slpS_at {l : List Sp} {s : Slp} (ha : s.a.toNat < l.length) (hb : s.b.toNat < l.length) (w : Nat) :
    spAt (slpS l s) w = if w = s.a.toNat then cutS (spAt l s.a.toNat) ⟨(spAt l s.b.toNat).low - s.high, (spAt l s.b.toNat).high - s.low⟩ else if w = s.b.toNat then cutS (spAt l s.b.toNat) ⟨(spAt l s.a.toNat).low + s.low, (spAt l s.a.toNat).high + s.high⟩ else spAt l w := by
  rw [slpS, spAt_set _ _ _ _ (by rw [slpS1_len]; exact ha), slpS1, spAt_set _ _ _ _ hb]
theorem slpS_has {l : List Sp} {s : Slp} {x : Nat → Int} (ha : s.a.toNat < l.length) (hb : s.b.toNat < l.length) (h : Has l x) (h1 : s.low ≤ x s.b.toNat - x s.a.toNat ∧ x s.b.toNat - x s.a.toNat ≤ s.high) : Has (slpS l s) x := by
  intro w hw
  rw [slpS_len] at hw
  rw [slpS_at ha hb]
  have k := h w hw
  have ka := h _ ha
  have kb := h _ hb
  split
  · rename_i e; subst e; simp only [cutS]; omega
  · split
    · rename_i e; subst e; simp only [cutS]; omega
    · exact k
/-- Nothing is wider behind a step; and if nothing is said to have changed, nothing has. -/
structure Nar (l l' : List Sp) : Prop where
  len : l'.length = l.length
  low : ∀ w, (spAt l w).low ≤ (spAt l' w).low
  high : ∀ w, (spAt l' w).high ≤ (spAt l w).high
theorem Nar.refl (l : List Sp) : Nar l l := ⟨rfl, fun _ => Int.le_refl _, fun _ => Int.le_refl _⟩
theorem Nar.trans {a b c : List Sp} (h : Nar a b) (k : Nar b c) : Nar a c := ⟨k.len.trans h.len, fun w => Int.le_trans (h.low w) (k.low w), fun w => Int.le_trans (k.high w) (h.high w)⟩
theorem slpS_nar {l : List Sp} {s : Slp} (ha : s.a.toNat < l.length) (hb : s.b.toNat < l.length) : Nar l (slpS l s) := by
  refine ⟨slpS_len _ _, fun w => ?_, fun w => ?_⟩ <;> rw [slpS_at ha hb] <;> split
  · rename_i e; subst e; simp only [cutS]; omega
  · split
    · rename_i e; subst e; simp only [cutS]; omega
    · exact Int.le_refl _
  · rename_i e; subst e; simp only [cutS]; omega
  · split
    · rename_i e; subst e; simp only [cutS]; omega
    · exact Int.le_refl _
theorem list_ext_spAt {l l' : List Sp} (hl : l'.length = l.length) (h : ∀ w, w < l.length → spAt l' w = spAt l w) : l' = l := by
  apply List.ext_getElem hl
  intro i h1 h2
  have := h i h2
  rwa [spAt_len _ _ h1, spAt_len _ _ h2] at this
theorem slpC_false {l : List Sp} {s : Slp} (ha : s.a.toNat < l.length) (hb : s.b.toNat < l.length) (h : slpC l s = false) : slpS l s = l := by
  simp only [slpC, Bool.or_eq_false_iff, decide_eq_false_iff_not, Decidable.not_not] at h
  refine list_ext_spAt (slpS_len _ _) fun w _ => ?_
  by_cases e1 : w = s.a.toNat
  · subst e1; exact h.1
  · by_cases e2 : w = s.b.toNat
    · subst e2; exact h.2
    · rw [slpS_at ha hb, if_neg e1, if_neg e2]
/-- What is narrower by a number, together. -/
def wid (l : List Sp) : Int := (l.map fun s => s.high - s.low).sum
theorem wid_set : ∀ (l : List Sp) (i : Nat) (v : Sp) (h : i < l.length), wid (l.set i v) = wid l - (l[i].high - l[i].low) + (v.high - v.low)
  | s :: l, 0, v, _ => by simp [wid]; omega
  | s :: l, i + 1, v, h => by
    have := wid_set l i v (by simpa using h)
    simp only [wid, List.set_cons_succ, List.map_cons, List.sum_cons, List.getElem_cons_succ] at this ⊢
    omega
theorem Nar.wid_le {l l' : List Sp} (h : Nar l l') : wid l' ≤ wid l := by
  obtain ⟨h1, h2, h3⟩ := h
  induction l generalizing l' with
  | nil => rw [List.length_nil] at h1; rw [List.eq_nil_of_length_eq_zero h1]; exact Int.le_refl _
  | cons s l ih =>
    cases l' with
    | nil => simp at h1
    | cons s' l' =>
      have a := h2 0
      have b := h3 0
      have := ih (l' := l') (by simpa using h1) (fun w => by have := h2 (w + 1); simpa [spAt] using this) (fun w => by have := h3 (w + 1); simpa [spAt] using this)
      simp only [wid, spAt, List.map_cons, List.sum_cons, List.getD_cons_zero] at this a b ⊢
      omega
theorem Nar.wid_lt {l l' : List Sp} (h : Nar l l') {i : Nat} (hi : i < l.length) (hne : spAt l' i ≠ spAt l i) : wid l' < wid l := by
  obtain ⟨h1, h2, h3⟩ := h
  induction l generalizing l' i with
  | nil => simp at hi
  | cons s l ih =>
    cases l' with
    | nil => simp at h1
    | cons s' l' =>
      have a := h2 0
      have b := h3 0
      have hn : Nar l l' := ⟨by simpa using h1, fun w => by have := h2 (w + 1); simpa [spAt] using this, fun w => by have := h3 (w + 1); simpa [spAt] using this⟩
      simp only [spAt, List.getD_cons_zero] at a b
      cases i with
      | zero =>
        have := hn.wid_le
        have : s' ≠ s := by simpa [spAt] using hne
        have : s'.low ≠ s.low ∨ s'.high ≠ s.high := by
          obtain ⟨p, q⟩ := s'
          obtain ⟨p', q'⟩ := s
          simp only [ne_eq, Sp.mk.injEq] at this ⊢
          omega
        simp only [wid, List.map_cons, List.sum_cons] at *
        omega
      | succ i =>
        have := ih (l' := l') (i := i) (by simpa using hi) (by simpa [spAt] using hne) hn.len hn.low hn.high
        simp only [wid, List.map_cons, List.sum_cons] at *
        omega
theorem slpC_true {l : List Sp} {s : Slp} (ha : s.a.toNat < l.length) (hb : s.b.toNat < l.length) (h : slpC l s = true) : wid (slpS l s) < wid l := by
  simp only [slpC, Bool.or_eq_true, decide_eq_true_eq] at h
  rcases h with h | h
  · exact (slpS_nar ha hb).wid_lt ha h
  · exact (slpS_nar ha hb).wid_lt hb h
theorem steps_nar : ∀ (ss : List Slp) (l : List Sp) (c : Bool), (∀ s ∈ ss, s.a.toNat < l.length ∧ s.b.toNat < l.length) → Nar l (ss.foldl stepS (l, c)).1 ∧ ((ss.foldl stepS (l, c)).2 = true → c = true ∨ wid (ss.foldl stepS (l, c)).1 < wid l) ∧ ((ss.foldl stepS (l, c)).2 = false → c = false ∧ (ss.foldl stepS (l, c)).1 = l ∧ ∀ s ∈ ss, slpS l s = l)
  | [], l, c, _ => ⟨Nar.refl l, fun h => .inl h, fun h => ⟨h, rfl, by simp⟩⟩
  | s :: ss, l, c, h => by
    obtain ⟨ha, hb⟩ := h s (by simp)
    have hn := slpS_nar ha hb
    obtain ⟨h1, h2, h3⟩ := steps_nar ss (slpS l s) (c || slpC l s) (fun u hu => by rw [slpS_len]; exact h u (by simp [hu]))
    rw [List.foldl_cons, show stepS (l, c) s = (slpS l s, c || slpC l s) from rfl]
    refine ⟨hn.trans h1, fun hc => ?_, fun hc => ?_⟩
    · rcases h2 hc with h4 | h4
      · rcases Bool.or_eq_true _ _ ▸ h4 with h5 | h5
        · exact .inl h5
        · exact .inr (Int.lt_of_le_of_lt h1.wid_le (slpC_true ha hb h5))
      · exact .inr (Int.lt_of_lt_of_le h4 hn.wid_le)
    · obtain ⟨h4, h5, h6⟩ := h3 hc
      rw [Bool.or_eq_false_iff] at h4
      have e := slpC_false ha hb h4.2
      refine ⟨h4.1, h5.trans e, fun u hu => ?_⟩
      rcases List.mem_cons.1 hu with rfl | hu
      · exact e
      · have := h6 u hu
        rwa [e] at this
theorem steps_has {x : Nat → Int} : ∀ (ss : List Slp) (l : List Sp) (c : Bool), (∀ s ∈ ss, s.a.toNat < l.length ∧ s.b.toNat < l.length) → (∀ s ∈ ss, s.low ≤ x s.b.toNat - x s.a.toNat ∧ x s.b.toNat - x s.a.toNat ≤ s.high) → Has l x → Has (ss.foldl stepS (l, c)).1 x
  | [], l, c, _, _, h => h
  | s :: ss, l, c, h, k, hx => by
    obtain ⟨ha, hb⟩ := h s (by simp)
    exact steps_has ss (slpS l s) (c || slpC l s) (fun u hu => by rw [slpS_len]; exact h u (by simp [hu])) (fun u hu => k u (by simp [hu])) (slpS_has ha hb hx (k s (by simp)))
theorem Vl.slpL {t : Twn} (hv : Vl t) {l : List Sp} (hn : l.length = t.wells.toNat) : ∀ s ∈ t.slp, s.a.toNat < l.length ∧ s.b.toNat < l.length := fun s hs => by have := hv.slp s hs; omega
theorem wid_nonneg {l : List Sp} (h : emptyS l = false) : 0 ≤ wid l := by
  induction l with
  | nil => exact Int.le_refl _
  | cons s l ih =>
    simp only [emptyS, List.any_cons, Bool.or_eq_false_iff, decide_eq_false_iff_not] at h
    have := ih h.2
    simp only [wid, List.map_cons, List.sum_cons] at this ⊢
    omega
theorem emptyS_iff {l : List Sp} : emptyS l = false ↔ ∀ w, w < l.length → (spAt l w).low ≤ (spAt l w).high := by
  simp only [emptyS, List.any_eq_false, decide_eq_true_eq, Int.not_lt]
  constructor
  · intro h w hw
    rw [spAt_len _ _ hw]
    exact h _ (List.getElem_mem hw)
  · intro h s hs
    obtain ⟨i, hi, rfl⟩ := List.getElem_of_mem hs
    have := h i hi
    rwa [spAt_len _ _ hi] at this
/-- What the loop of the reference keeps. -/
structure Inv (t : Twn) (l : List Sp) : Prop where
  len : l.length = t.wells.toNat
  nar : Nar (span0 t) l
  has : ∀ x, Tr t x → Has l x
theorem Inv.start {t : Twn} (hv : Vl t) : Inv t (span0 t) := ⟨span0_len hv, Nar.refl _, fun _ hx => (span0_has hv).2 ⟨hx.own, hx.snd⟩⟩
theorem Inv.round {t : Twn} (hv : Vl t) {l : List Sp} (h : Inv t l) : Inv t (roundS t l).1 := by
  have hn := (steps_nar t.slp l false (hv.slpL h.len)).1
  exact ⟨hn.len.trans h.len, h.nar.trans hn, fun x hx => steps_has t.slp l false (hv.slpL h.len) hx.slp (h.has x hx)⟩
theorem Inv.lt {t : Twn} (hv : Vl t) {l : List Sp} (h : Inv t l) (hc : (roundS t l).2 = true) : wid (roundS t l).1 < wid l := by
  rcases (steps_nar t.slp l false (hv.slpL h.len)).2.1 hc with h | h
  · simp at h
  · exact h
theorem Inv.stay {t : Twn} (hv : Vl t) {l : List Sp} (h : Inv t l) (hc : (roundS t l).2 = false) : (roundS t l).1 = l ∧ ∀ s ∈ t.slp, slpS l s = l :=
  ((steps_nar t.slp l false (hv.slpL h.len)).2.2 hc).2
theorem span0_bd {t : Twn} (hv : Vl t) (w : Nat) (hw : w < (span0 t).length) : 0 ≤ (spAt (span0 t) w).low ∧ (spAt (span0 t) w).high ≤ 99 := by
  have key : ∀ (ss : List Snd) (l : List Sp), (∀ s ∈ ss, s.well.toNat < l.length) → (∀ w, w < l.length → 0 ≤ (spAt l w).low ∧ (spAt l w).high ≤ 99) → ∀ w, w < l.length → 0 ≤ (spAt (ss.foldl sndS l) w).low ∧ (spAt (ss.foldl sndS l) w).high ≤ 99 := by
    intro ss
    induction ss with
    | nil => intro l _ h; exact h
    | cons s ss ih =>
      intro l hs h w hw
      refine ih (sndS l s) (fun u hu => by rw [sndS_len]; exact hs u (by simp [hu])) (fun w hw => ?_) w (by rw [sndS_len]; exact hw)
      rw [sndS_len] at hw
      rw [sndS, spAt_set _ _ _ _ (hs s (by simp))]
      have := h w hw
      split
      · rename_i e; subst e; simp only [cutS]; omega
      · exact this
  refine key t.snd _ (by rw [List.length_replicate]; exact hv.sndL rfl) (fun w hw => ?_) w (by rw [List.length_replicate, ← span0_len hv]; exact hw)
  rw [spAt_len _ _ hw]
  simp
theorem Inv.bd {t : Twn} (hv : Vl t) {l : List Sp} (h : Inv t l) (w : Nat) (hw : w < l.length) : 0 ≤ (spAt l w).low ∧ (spAt l w).high ≤ 99 := by
  have := span0_bd hv w (by rw [← h.nar.len]; exact hw)
  have := h.nar.low w
  have := h.nar.high w
  omega
theorem wid_le_all : ∀ (l : List Sp), (∀ w, w < l.length → 0 ≤ (spAt l w).low ∧ (spAt l w).high ≤ 99) → wid l ≤ 99 * l.length
  | [], _ => by simp [wid]
  | s :: l, h => by
    have := wid_le_all l (fun w hw => by have := h (w + 1) (by simp; omega); simpa [spAt] using this)
    have h0 := h 0 (by simp)
    simp only [spAt, List.getD_cons_zero] at h0
    simp only [wid, List.map_cons, List.sum_cons, List.length_cons] at this ⊢
    omega
theorem Inv.wid {t : Twn} (hv : Vl t) {l : List Sp} (h : Inv t l) : wid l ≤ 594 := by
  have := wid_le_all l (h.bd hv)
  have := h.len
  have := hv.w6
  omega
/-- The spans of a town say what can be. -/
structure Exact (t : Twn) (l : List Sp) : Prop where
  len : l.length = t.wells.toNat
  low : Tr t fun w => (spAt l w).low
  high : Tr t fun w => (spAt l w).high
  all : ∀ x, Tr t x → Has l x
theorem Inv.exact {t : Twn} (hv : Vl t) {l : List Sp} (h : Inv t l) (he : emptyS l = false) (hc : (roundS t l).2 = false) : Exact t l := by
  have hs := (h.stay hv hc).2
  have hne := emptyS_iff.1 he
  have h0 := span0_has hv (x := fun w => (spAt l w).low)
  have h1 := span0_has hv (x := fun w => (spAt l w).high)
  have k0 : Has (span0 t) fun w => (spAt l w).low := fun w hw => by
    have := h.nar.low w
    have := h.nar.high w
    have := hne w (by rw [h.nar.len]; exact hw)
    show _ ≤ (spAt l w).low ∧ (spAt l w).low ≤ _
    omega
  have k1 : Has (span0 t) fun w => (spAt l w).high := fun w hw => by
    have := h.nar.low w
    have := h.nar.high w
    have := hne w (by rw [h.nar.len]; exact hw)
    show _ ≤ (spAt l w).high ∧ (spAt l w).high ≤ _
    omega
  have k0 := h0.1 k0
  have k1 := h1.1 k1
  refine ⟨h.len, ⟨k0.1, k0.2, fun s hs' => ?_⟩, ⟨k1.1, k1.2, fun s hs' => ?_⟩, h.has⟩
  all_goals
    obtain ⟨ha, hb⟩ := hv.slpL h.len s hs'
    have hab := (hv.slp s hs').2.2.2.2.1
    have ha0 := (hv.slp s hs').1
    have hb0 := (hv.slp s hs').2.2.1
    have e := hs s hs'
    have ea := slpS_at ha hb s.a.toNat
    have eb := slpS_at ha hb s.b.toNat
    rw [e, if_pos rfl] at ea
    rw [e, if_neg (by omega), if_pos rfl] at eb
    have na := hne _ ha
    have nb := hne _ hb
    have ea1 := congrArg Sp.low ea
    have ea2 := congrArg Sp.high ea
    have eb1 := congrArg Sp.low eb
    have eb2 := congrArg Sp.high eb
    simp only [cutS] at ea1 ea2 eb1 eb2
    show _ ≤ _ - _ ∧ _ - _ ≤ _
    omega
theorem spansF_exact {t : Twn} (hv : Vl t) : ∀ (f : Nat) (l : List Sp), Inv t l → (wid l + 1).toNat < f → (∃ l', spansF t f l = some l' ∧ Exact t l') ∨ (spansF t f l = none ∧ ¬ ∃ x, Tr t x)
  | 0, _, _, h => by omega
  | f + 1, l, h, hf => by
    by_cases he : emptyS l = true
    · refine .inr ⟨by rw [spansF, if_pos he], fun ⟨x, hx⟩ => ?_⟩
      have : emptyS l = false := emptyS_iff.2 fun w hw => by have := h.has x hx w hw; omega
      rw [he] at this
      cases this
    · have he' : emptyS l = false := by simpa using he
      by_cases hc : (roundS t l).2 = true
      · have hlt := h.lt hv hc
        have hnn := wid_nonneg he'
        have := spansF_exact hv f _ (h.round hv) (by omega)
        rw [spansF, if_neg he, if_pos hc]
        exact this
      · have hc' : (roundS t l).2 = false := by simpa using hc
        refine .inl ⟨l, by rw [spansF, if_neg he, if_neg hc, (h.stay hv hc').1], h.exact hv he' hc'⟩
theorem spansR_cases {t : Twn} (hv : Vl t) : (∃ l, spansR t = some l ∧ Exact t l) ∨ (spansR t = none ∧ ¬ ∃ x, Tr t x) :=
  spansF_exact hv 1000 _ (Inv.start hv) (by have := (Inv.start hv).wid hv; omega)
theorem spansR_some {t : Twn} (hv : Vl t) {l : List Sp} (h : spansR t = some l) : Exact t l := by
  rcases spansR_cases hv with ⟨l', h1, h2⟩ | ⟨h1, _⟩
  · rw [h] at h1; injection h1 with h1; rw [h1]; exact h2
  · rw [h] at h1; cases h1
theorem spansR_none {t : Twn} (hv : Vl t) (h : spansR t = none) : ¬ ∃ x, Tr t x := by
  rcases spansR_cases hv with ⟨l', h1, h2⟩ | ⟨_, h1⟩
  · rw [h] at h1; cases h1
  · exact h1
theorem spansR_isSome {t : Twn} (hv : Vl t) : (spansR t).isSome = true ↔ ∃ x, Tr t x := by
  rcases spansR_cases hv with ⟨l', h1, h2⟩ | ⟨h1, h2⟩
  · rw [h1]; exact ⟨fun _ => ⟨_, h2.low⟩, fun _ => rfl⟩
  · rw [h1]; exact ⟨fun h => by simp at h, fun h => absurd h h2⟩
/-- The closed bounds and the spans are the same. -/
theorem says_spans {t : Twn} (hv : Vl t) {ms : List Int} (hs : Says t ms) : diagOk (closeM ms) = (spansR t).isSome := by
  rw [Bool.eq_iff_iff, (says_ok hv hs).1, spansR_isSome hv]
theorem tight_low {t : Twn} (hv : Vl t) {ms : List Int} {l : List Sp} (ht : Tight t ms) (he : Exact t l) {w : Nat} (hw : (w : Int) < t.wells) : -at_ ms w 6 = (spAt l w).low ∧ at_ ms 6 w = (spAt l w).high := by
  have h6 := hv.w6
  have hw' : act t.wells w := .inl hw
  have h6' : act t.wells 6 := .inr rfl
  have hlen := he.len
  have e6 : ∀ x : Nat → Int, lift x 6 = 0 := fun x => rfl
  have ew : ∀ x : Nat → Int, lift x w = x w := fun x => by simp [lift, show w ≠ 6 by omega]
  obtain ⟨x1, hx1, k1⟩ := ht.one 6 w h6' hw'
  obtain ⟨x2, hx2, k2⟩ := ht.one w 6 hw' h6'
  have a1 := he.all x1 hx1 w (by omega)
  have a2 := he.all x2 hx2 w (by omega)
  have b1 := ht.all _ he.low w 6 hw' h6'
  have b2 := ht.all _ he.high 6 w h6' hw'
  rw [e6, ew] at k1 k2 b1 b2
  omega
end
end Go.Proofs.YtldcehhhndlhdaaGreatDoor

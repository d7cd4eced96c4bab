/- Walk of Freed. -/
import Derived.Test.YtbddaemekgflmaaW18
namespace Go.Proofs.Ytbddaemekgflmaa
open Go.RowKit Go.Sort

theorem own_ne {W : World} {B B' e e' s s' n n' : Nat} {v v' : Value} {xs xs' : List Value} (h : W.ownsRow B e s v n xs) (h' : W.ownsRow B' e' s' v' n' xs') (hne : e ≠ e') {g : Nat} (hg : v.ownBlock = some g) : v'.ownBlock ≠ some g := by
  intro hg'
  rcases h.2 with ⟨rfl, _⟩ | ⟨g1, cap, cur, rfl, _, hh, _⟩
  · cases hg
  · rcases h'.2 with ⟨rfl, _⟩ | ⟨g2, cap', cur', rfl, _, hh', _⟩
    · cases hg'
    · have e1 : g1 = g := by simpa [Value.ownBlock] using hg
      have e2 : g2 = g := by simpa [Value.ownBlock] using hg'
      rw [e1] at hh
      rw [e2] at hh'
      rw [hh] at hh'
      injection hh' with hh'
      injection hh' with _ ht
      exact hne ht
theorem own_setOther {W : World} {base e size n : Nat} {v : Value} {xs : List Value} (h : W.ownsRow base e size v n xs) (q : Addr) (u : Value) (hq : v.ownBlock ≠ some q.block) : (W.setCell q u).ownsRow base e size v n xs :=
  h.kept (row := some q.block) ⟨rfl, rfl, rfl, by simp, fun k _ hk => Below.heap_setCell _ _ _ k (fun e => hk (by rw [e]))⟩ (.inr hq)

/-- A line of the call's own, whose points lie in block g. -/
structure OwnAt (w : World) (base g cap : Nat) (ov : Value) (d : DLine) : Prop where
  pts : w.ownsRow base 36 3 (.slice (some ⟨g, 0, none⟩) d.pts.length cap) d.pts.length (ptCells d.pts)
  odds : w.ownsRow base 3 1 ov d.odds.length (d.odds.map I)
theorem OwnLine.at_ {w : World} {base : Nat} {v : Value} {d : DLine} (h : OwnLine w base v d) (hn : 0 < d.pts.length) : ∃ g cap A c, v = .agg #[.slice (some ⟨g, 0, none⟩) d.pts.length cap, .slice A d.odds.length c] ∧ base ≤ g ∧ g < w.heap.size ∧ OwnAt w base g cap (.slice A d.odds.length c) d := by
  obtain ⟨pv, ov, rfl, hp, ho⟩ := h
  obtain ⟨g, cap, rfl, h1, h2⟩ := own_shape_pos hp hn
  obtain ⟨A, c, rfl⟩ := own_shape ho
  exact ⟨g, cap, A, c, rfl, h1, h2, hp, ho⟩
theorem OwnAt.line {w : World} {base g cap : Nat} {ov : Value} {d : DLine} (h : OwnAt w base g cap ov d) : OwnLine w base (.agg #[.slice (some ⟨g, 0, none⟩) d.pts.length cap, ov]) d := ⟨_, _, rfl, h.pts, h.odds⟩
theorem OwnAt.below {w w' : World} {base g cap : Nat} {ov : Value} {d : DLine} (h : OwnAt w base g cap ov d) (hb : Below w.heap.size w w') : OwnAt w' base g cap ov d := ⟨own_below h.pts hb, own_below h.odds hb⟩
theorem OwnAt.other {w : World} {base g cap : Nat} {ov : Value} {d : DLine} (h : OwnAt w base g cap ov d) (q : Addr) (u : Value) (hq : q.block < base) : OwnAt (w.setCell q u) base g cap ov d := ⟨own_setCell h.pts q u hq, own_setCell h.odds q u hq⟩
theorem OwnAt.cost {w : World} {base g cap : Nat} {ov : Value} {d : DLine} (h : OwnAt w base g cap ov d) (p : Nat) (c : Int) (hp : p < d.pts.length) : OwnAt (w.setCell ⟨g, p * 3 + 2, none⟩ (I c)) base g cap ov (setCost d p c) := by
  refine ⟨?_, ?_⟩
  · have := own_setCost h.pts p c hp
    simpa [setCost] using this
  · exact own_setOther h.odds _ _ (own_ne h.pts h.odds (by decide) rfl)
theorem OwnAt.cell {w : World} {base g cap : Nat} {ov : Value} {d : DLine} (h : OwnAt w base g cap ov d) (p : Nat) (hp : p < d.pts.length) : w.cell? ⟨g, p * 3 + 2, none⟩ = some (I d.pts[p].cost) ∧ w.frozen? ⟨g, p * 3 + 2, none⟩ = false := by
  refine ⟨?_, h.pts.frozenAt _⟩
  rw [h.pts.cellAt (p * 3 + 2) (by omega)]
  exact (ptCells_at _ _ hp).2.2

set_option maxRecDepth 20000 in
set_option maxHeartbeats 2000000 in
theorem freed_any (v : Value) (d : DLine) (p : Nat) (w : World) (hv : LineAt w v d) (hlen : d.odds.length ≤ 1000) (hlen' : d.pts.length ≤ 1000) (hp : p < d.pts.length) :
    Calls Try.prog 24 #[v, I p] w fun e w' => ∃ v', e = .returned v' ∧ OwnLine w' w.heap.size v' (setCost d p 0) ∧ Below w.heap.size w w' := by
  have HV := Lib.hid hv
  obtain ⟨pv, ov, rfl, _, _⟩ := hv
  have hb0 : ∀ x y, Below w.heap.size w ((w.alloc x).alloc y) := fun x y => ((Below.refl _ _).alloc (Nat.le_refl _) _).alloc (by simp) _
  have B1 := (Box2.new (w.alloc (.cells #[pv, ov] 25)) (.slice none 0 0) (.slice none 0 0) 25).at_ (show _ = w.heap.size + 1 by simp)
  have hpi : (p : Int) < (d.pts.length : Int) := by omega
  go_enter Try.func24, Try.ntmps24
  go_wp2_with (go_at_call 19; refine (copy_any _ d _ (HV.out.below (hb0 _ _)) hlen hlen').mono ?_; rintro e w2 ⟨v', rfl, hown, hb2⟩; obtain ⟨g, cap, A, c, rfl, hg1, hg2, hO⟩ := hown.at_ (Nat.lt_of_le_of_lt (Nat.zero_le _) hp); obtain ⟨hc, hf⟩ := hO.cell p hp; have B2 := B1.keep hb2; obtain ⟨x0, x1, x2, x3⟩ := id B2; have hl2 := B2.lt; have HO := Lib.hid hO; have HG := Lib.hid hg1; have HB2 := Lib.hid hb2; have HB := Lib.hid B2; clear hO hb2 B1 B2)
  have hs2 : ((w.alloc (.cells #[pv, ov] 25)).alloc (.cells #[.slice none 0 0, .slice none 0 0] 25)).heap.size = w.heap.size + 2 := by simp
  have hgw : w.heap.size + 2 ≤ g := by rw [← hs2]; exact HG.out
  have B3 := HB.out.other ⟨g, p * 3 + 2, none⟩ (.int .i64 0) (by show g ≠ _; omega)
  obtain ⟨r1, r2⟩ := res2 B3.c0 B3.c1
  refine bodyPost_ret (v := .agg #[.slice (some ⟨g, 0, none⟩) d.pts.length cap, .slice A d.odds.length c]) (by simp [results, Try.results24, go_sem, r1, r2, hl2]) rfl ⟨_, rfl, ?_, ?_⟩
  · have o1 := (((HO.out.cost p 0 hp).other ⟨w.heap.size + 1, 0, none⟩ (.slice (some ⟨g, 0, none⟩) d.pts.length cap) (by show w.heap.size + 1 < _; rw [hs2]; omega)).other ⟨w.heap.size + 1, 1, none⟩ (.slice A d.odds.length c) (by show w.heap.size + 1 < _; rw [hs2]; omega)).below ((Below.refl _ _).alloc (Nat.le_refl _) (.cells #[.slice (some ⟨g, 0, none⟩) d.pts.length cap, .slice A d.odds.length c] 25))
    have o2 := o1.line
    rw [(setCost_len d p 0).1] at o2
    obtain ⟨_, _, e, q1, q2⟩ := o2
    exact ⟨_, _, e, own_base' q1 (by rw [hs2]; omega), own_base' q2 (by rw [hs2]; omega)⟩
  · exact ((((bto (hb0 (.cells #[pv, ov] 25) (.cells #[.slice none 0 0, .slice none 0 0] 25)) HB2.out).setCell (p := ⟨g, p * 3 + 2, none⟩) (by show w.heap.size ≤ g; omega) _).setCell (p := ⟨w.heap.size + 1, 0, none⟩) (by simp) _).setCell (p := ⟨w.heap.size + 1, 1, none⟩) (by simp) _).alloc (by simp; omega) _
end Go.Proofs.Ytbddaemekgflmaa

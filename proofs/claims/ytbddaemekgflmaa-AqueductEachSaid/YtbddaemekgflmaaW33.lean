/- Walk of Clash. -/
import Derived.Test.YtbddaemekgflmaaW13
namespace Go.Proofs.Ytbddaemekgflmaa
open Go.RowKit Go.Sort

def clashR (d : DLine) : (Int × Int) × Int := if valid d = true then (match clashO d with | none => ((0, 0), 3) | some (a, b) => (((a : Int), (b : Int)), 0)) else ((0, 0), 60)
set_option maxRecDepth 20000 in
set_option maxHeartbeats 1000000 in
theorem clashE_any (v : Value) (d : DLine) (w : World) (hv : LineAt w v d) (hlen : d.odds.length ≤ 1000) (hlen' : d.pts.length ≤ 1000) :
    Calls Try.prog 34 #[v] w fun e w' => e = .returned (.tuple #[.agg #[I (clashR d).1.1, I (clashR d).1.2], I (clashR d).2]) ∧ Below w.heap.size w w' := by
  have HV := Lib.hid hv
  obtain ⟨pv, ov, rfl, hp, ho⟩ := hv
  have hb0 : ∀ x y, Below w.heap.size w ((w.alloc x).alloc y) := fun x y => ((Below.refl _ _).alloc (Nat.le_refl _) _).alloc (by simp) _
  clear hp ho
  have B0 := (Box2.new w pv ov 25).old (.cells #[I 0, I 0] 56)
  have R0 := (Box2.new (w.alloc (.cells #[pv, ov] 25)) (I 0) (I 0) 56).at_ (show _ = w.heap.size + 1 by simp)
  cases h1 : valid d
  · have HC := Lib.hid (show chk d = 60 by simp [chk, h1])
    have HR := Lib.hid (show clashR d = ((0, 0), 60) by simp [clashR, h1])
    go_enter Try.func34, Try.ntmps34
    go_wp2_with (go_at_call 32; refine (check_any _ d _ (HV.out.below (hb0 _ _)) hlen).mono ?_; rintro e w1 ⟨rfl, hb⟩; rw [HC.out]; have HB1 := Lib.hid (bto (hb0 _ _) hb); have Y := R0.keep hb; obtain ⟨y0, y1, y2, y3⟩ := id Y; obtain ⟨r1, r2⟩ := res2 y0 y1; clear hb)
    refine bodyPost_ret (v := .tuple #[.agg #[I 0, I 0], I 60]) (by simp [results, Try.results34, go_sem, r1, r2]) rfl ⟨by rw [HR.out], ?_⟩
    exact (HB1.out.setCell (p := ⟨w.heap.size + 1, 0, none⟩) (by simp) _).setCell (p := ⟨w.heap.size + 1, 1, none⟩) (by simp) _
  · have HC := Lib.hid (show chk d = 0 by simp [chk, h1])
    rcases hK : clashO d with _ | ⟨a, b⟩
    · have HK := Lib.hid hK
      have HR := Lib.hid (show clashR d = ((0, 0), 3) by simp [clashR, h1, hK])
      clear hK
      go_enter Try.func34, Try.ntmps34
      go_wp2_with (first | (go_at_call 32; refine (check_any _ d _ (HV.out.below (hb0 _ _)) hlen).mono ?_; rintro e w1 ⟨rfl, hb⟩; rw [HC.out]; have HB1 := Lib.hid (bto (hb0 _ _) hb); have X := B0.keep hb; have Y := R0.keep hb; obtain ⟨x0, x1, x2, x3⟩ := id X; obtain ⟨y0, y1, y2, y3⟩ := id Y; clear hb) | (go_at_call 74; refine (clash_any _ d _ (HV.out.below HB1.out) hlen').mono ?_; rintro e w2 ⟨rfl, hb⟩; rw [HK.out, show pairV none = .agg #[I 0, I 0] from rfl]; have HB2 := Lib.hid (bto HB1.out hb); have Z := Y.keep hb; obtain ⟨y0, y1, y2, y3⟩ := id Z; have hlz := Z.lt; obtain ⟨r1, r2⟩ := res2 y0 y1; clear hb))
      refine bodyPost_ret (v := .tuple #[.agg #[I 0, I 0], I 3]) (by simp [results, Try.results34, go_sem, r1, r2, hlz]) rfl ⟨by rw [HR.out], ?_⟩
      exact ((HB2.out.setCell (p := ⟨w.heap.size + 1, 0, none⟩) (by simp) _).setCell (p := ⟨w.heap.size + 1, 1, none⟩) (by simp) _).alloc (by have := HB2.out.size; simp; omega) _
    · have HK := Lib.hid hK
      have HR := Lib.hid (show clashR d = (((a : Int), (b : Int)), 0) by simp [clashR, h1, hK])
      clear hK
      go_enter Try.func34, Try.ntmps34
      go_wp2_with (first | (go_at_call 32; refine (check_any _ d _ (HV.out.below (hb0 _ _)) hlen).mono ?_; rintro e w1 ⟨rfl, hb⟩; rw [HC.out]; have HB1 := Lib.hid (bto (hb0 _ _) hb); have X := B0.keep hb; have Y := R0.keep hb; obtain ⟨x0, x1, x2, x3⟩ := id X; obtain ⟨y0, y1, y2, y3⟩ := id Y; clear hb) | (go_at_call 74; refine (clash_any _ d _ (HV.out.below HB1.out) hlen').mono ?_; rintro e w2 ⟨rfl, hb⟩; rw [HK.out, show pairV (some (a, b)) = .agg #[I a, I b] from rfl]; have HB2 := Lib.hid (bto HB1.out hb); have Z := Y.keep hb; obtain ⟨y0, y1, y2, y3⟩ := id Z; have hlz := Z.lt; obtain ⟨r1, r2⟩ := res2 y0 y1; clear hb))
      refine bodyPost_ret (v := .tuple #[.agg #[I a, I b], I 0]) (by simp [results, Try.results34, go_sem, r1, r2, hlz]) rfl ⟨by rw [HR.out], ?_⟩
      exact ((HB2.out.setCell (p := ⟨w.heap.size + 1, 0, none⟩) (by simp) _).setCell (p := ⟨w.heap.size + 1, 1, none⟩) (by simp) _).alloc (by have := HB2.out.size; simp; omega) _
end Go.Proofs.Ytbddaemekgflmaa

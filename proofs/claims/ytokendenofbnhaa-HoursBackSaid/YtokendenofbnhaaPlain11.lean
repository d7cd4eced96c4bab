/- HoursMore: the plain laws; a new roster by counts. No program here. -/
import Derived.Test.YtokendenofbnhaaPlain10
namespace Go.Proofs.Ytokendenofbnhaa
/-- The same street, that can have these hours, or more. -/
def Wd (s t : Str) : Prop := t.has = s.has ∧ t.cost = s.cost ∧ t.frm ≤ s.frm ∧ s.to ≤ t.to
def WdL : List Str → List Str → Prop
  | [], [] => True
  | s :: ss, t :: tt => Wd s t ∧ WdL ss tt
  | _, _ => False
theorem Wd.refl (s : Str) : Wd s s := ⟨rfl, rfl, Int.le_refl _, Int.le_refl _⟩
theorem WdL.refl : ∀ ss, WdL ss ss
  | [] => trivial
  | s :: ss => ⟨Wd.refl s, WdL.refl ss⟩
theorem WdL.set : ∀ (ss : List Str) (k : Nat) (t : Str) (hk : k < ss.length), Wd ss[k] t → WdL ss (ss.set k t)
  | [], _, _, hk, _ => by simp at hk
  | s :: ss, 0, t, _, h => ⟨h, WdL.refl ss⟩
  | s :: ss, k + 1, t, hk, h => ⟨Wd.refl s, WdL.set ss k t (by simpa using hk) (by simpa using h)⟩
theorem Wd.move {s t : Str} (h : Wd s t) (x : Int) : moveI t x = moveI s x := by unfold moveI; rw [h.1]
theorem Wd.steps {s t : Str} (h : Wd s t) (x : Int) : stepsI t x = stepsI s x := by unfold stepsI; rw [h.move, h.2.1]
theorem Wd.once {s t : Str} (h : Wd s t) (x : Int) : onceI t x = onceI s x := by unfold onceI; rw [h.move]
theorem sumW_wd {w : Str → Int → Int} (hw : ∀ s t x, Wd s t → w t x = w s x) : ∀ (ss tt : List Str) (l : List Int), WdL ss tt → sumW w tt l = sumW w ss l
  | [], [], _, _ => rfl
  | _ :: _, _ :: _, [], _ => rfl
  | s :: ss, t :: tt, x :: l, h => by simp only [sumW]; rw [hw s t x h.1, sumW_wd hw ss tt l h.2]
  | [], _ :: _, _, h => h.elim
  | _ :: _, [], _, h => h.elim
theorem WdL.len : ∀ {ss tt : List Str}, WdL ss tt → tt.length = ss.length
  | [], [], _ => rfl
  | s :: ss, t :: tt, h => by simp only [List.length_cons]; rw [WdL.len h.2]
  | [], _ :: _, h => h.elim
  | _ :: _, [], h => h.elim
theorem WdL.at : ∀ {ss tt : List Str}, WdL ss tt → ∀ k (h1 : k < ss.length) (h2 : k < tt.length), Wd ss[k] tt[k]
  | s :: ss, t :: tt, h, 0, _, _ => h.1
  | s :: ss, t :: tt, h, k + 1, h1, h2 => by
    simp only [List.getElem_cons_succ]
    exact WdL.at h.2 k _ _
  | [], [], _, k, h1, _ => by simp at h1
  | [], _ :: _, h, _, _, _ => h.elim
  | _ :: _, [], h, _, _, _ => h.elim
theorem goodL_wd : ∀ (ss tt : List Str) (a l : List Int), WdL ss tt → goodL ss a l = true → goodL tt a l = true
  | [], [], _, _, _, h => h
  | s :: ss, t :: tt, a, [], _, h => by simp [goodL] at h
  | s :: ss, t :: tt, a, x :: l, hw, h => by
    simp only [goodL, Bool.and_eq_true, bne_iff_ne, inR_iff] at h ⊢
    obtain ⟨⟨-, -, h1, h2⟩, hw2⟩ := hw
    exact ⟨⟨⟨by omega, by omega⟩, h.1.2⟩, goodL_wd ss tt _ l hw2 h.2⟩
  | [], _ :: _, _, _, h, _ => h.elim
  | _ :: _, [], _, _, h, _ => h.elim
theorem more_new {r o : Ros} (hr : LeR r.room o.room) (hs : WdL r.strs o.strs) {l : List Int} (hl : newB r l = true) : newB o l = true :=
  goodL_wd _ _ _ _ hs (goodL_mono _ _ _ _ hr hl)
theorem more_said {r o : Ros} (hr : ROk r) (ho : ROk o) (hm : LeR r.room o.room) (hw : WdL r.strs o.strs) (hs : someR r = true) :
    someR o = true ∧ (bestR stepsI o).1 ≤ (bestR stepsI r).1 ∧ (farN o : Int) ≤ (farN r : Int) ∧ (bestR onceI o).1 ≤ (bestR onceI r).1 := by
  obtain ⟨h1, h2, -⟩ := least_real hr hs
  have hso : someR o = true := some_of ho (more_new hm hw h1)
  refine ⟨hso, ?_, ?_, ?_⟩
  · have := (least_real ho hso).2.2 _ (more_new hm hw h1)
    unfold costL at this h2
    rw [sumW_wd (fun s t x h => h.steps x) _ _ _ hw] at this
    omega
  · obtain ⟨⟨m, hm1, hn⟩, _⟩ := far_real hr hs
    have := (far_real ho hso).2 m (farN r) (more_new hm hw hm1) (fun k h1 h2 => by
      have hk : k < r.strs.length := by rw [← hw.len]; exact h1
      rw [(hw.at k hk h1).move]
      exact hn k hk h2)
    omega
  · obtain ⟨⟨m, hm1, hn⟩, _⟩ := fewest_real hr hs
    have := (fewest_real ho hso).2 m (more_new hm hw hm1)
    unfold movedN at this hn
    rw [sumW_wd (fun s t x h => h.once x) _ _ _ hw] at this
    omega
/-- The street that can have one hour more before, or behind. -/
def wideS (s : Str) (p q : Bool) : Str := ⟨s.has, if p then s.frm - 1 else s.frm, if q then s.to + 1 else s.to, s.cost⟩
theorem wideS_wd (s : Str) (p q : Bool) : Wd s (wideS s p q) := by
  refine ⟨rfl, rfl, ?_, ?_⟩ <;> simp only [wideS]
  · split <;> omega
  · split <;> omega
theorem roomier_le {r : Ros} (h : ROk r) (k : Nat) {m : Int} (hm : 0 ≤ m) : LeR r.room (roomier r k m).room := by
  intro i
  have h1 := (h.room_le i).1
  refine ⟨h1, ?_⟩
  unfold roomier
  simp only
  rw [at_set]
  split
  · rename_i hc
    rw [show r.room.getD k 0 = at_ r.room i by unfold at_; rw [hc.1]]
    omega
  · omega
theorem roomier_strs (r : Ros) (k : Nat) (m : Int) : (roomier r k m).strs = r.strs := rfl
end Go.Proofs.Ytokendenofbnhaa

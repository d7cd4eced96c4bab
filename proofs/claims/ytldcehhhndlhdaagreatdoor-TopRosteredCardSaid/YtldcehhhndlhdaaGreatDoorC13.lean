/- Walks: Clash. -/
import Derived.Test.YtldcehhhndlhdaaGreatDoorC12
import Derived.Test.YtldcehhhndlhdaaGreatDoorC11
namespace Go.Proofs.YtldcehhhndlhdaaGreatDoor
open Go.RowKit Go.Sort Go.Shelf
attribute [local go_sem] Oper.semAt_some run_store_func

def badW (t : Twn) (l : List Nat) : Bool := !diagOk (closeM (baseM (sub t (hasW l))))
/-- The first list of words, of fewer than k, that leaves no truth. -/
def clashTo (t : Twn) (M : Nat) : Nat → Option (List Nat)
  | 0 => none
  | k + 1 => match clashTo t M k with | some l => some l | none => (listsD M k []).find? (badW t)
def clashP (t : Twn) : List Nat × Int := if valid t = true then (if diagOk (closeM (baseM t)) = true then ([], 3) else match clashTo t (t.snd.length + t.slp.length) (t.snd.length + t.slp.length + 1) with | some l => (l, 0) | none => ([], 3)) else ([], 10)
/-- A reading of cells stays, when what is no cells turns. -/
theorem ints_kept {W W' : World} {row : Option Nat} {v : Value} {xs : List Int} (h : Ints W v xs) (hg : W.grownBy W' row) (hr : ∀ r, row = some r → ∃ o : Obj, W.heap[r]? = some o ∧ o.isCells = false) : Ints W' v xs := by
  obtain ⟨h1, A, c, h2, h3, h4, h5⟩ := h
  refine ⟨h1, A, c, h2, h3, h4, fun hn => ?_⟩
  obtain ⟨b, o, rfl, hc⟩ := h5 hn
  exact ⟨b, o, rfl, fun j u hu => cell_kept (hc j u hu) hg hr⟩
theorem find_prefix {p : List Nat → Bool} {pre : List (List Nat)} {x : List Nat} {all : List (List Nat)} (h : pre ++ [x] <+: all) (h1 : ∀ y ∈ pre, p y = false) (h2 : p x = true) : all.find? p = some x := by
  obtain ⟨r, rfl⟩ := h
  rw [List.append_assoc, List.find?_append, List.find?_eq_none.2 (fun y hy => by rw [h1 y hy]; simp)]
  simp [h2]
theorem clashTo_some {t : Twn} {M k : Nat} {l : List Nat} (h : clashTo t M k = some l) : ∀ d, clashTo t M (k + d) = some l
  | 0 => h
  | d + 1 => by rw [show k + (d + 1) = (k + d) + 1 from rfl, clashTo, clashTo_some h d]

end Go.Proofs.YtldcehhhndlhdaaGreatDoor
/- Walks: the recursive function of Why. -/
namespace Go.Proofs.YtldcehhhndlhdaaGreatDoor
open Go.RowKit Go.Sort Go.Shelf
attribute [local go_sem] run_store_func

def lastW (l : List Nat) : Nat := match l.getLast? with | none => 6 | some x => x
/-- The first list of so many wells more that is asked for: 'step' at one more well. -/
def findW (own bs : List Int) (N well : Nat) : Nat → List Nat → Int → Option (List Nat)
  | 0, l, sum => if lastW l = well ∧ sum = at_ bs 6 well then some l else none
  | d + 1, l, sum => (List.range N).findSome? fun w => if w ∈ l ∨ at_ own (lastW l) w = 1048576 then none else findW own bs N well d (l ++ [w]) (sum + at_ own (lastW l) w)
/-- The same, of the first k wells. -/
def findK (own bs : List Int) (N well d : Nat) (l : List Nat) (sum : Int) (k : Nat) : Option (List Nat) := (List.range k).findSome? fun w => if w ∈ l ∨ at_ own (lastW l) w = 1048576 then none else findW own bs N well d (l ++ [w]) (sum + at_ own (lastW l) w)
theorem findK_succ (own bs : List Int) (N well d : Nat) (l : List Nat) (sum : Int) (k : Nat) (h : findK own bs N well d l sum k = none) :
    findK own bs N well d l sum (k + 1) = if k ∈ l ∨ at_ own (lastW l) k = 1048576 then none else findW own bs N well d (l ++ [k]) (sum + at_ own (lastW l) k) := by
  unfold findK at h ⊢
  rw [List.range_succ, List.findSome?_append, h]
  simp only [List.findSome?_cons, List.findSome?_nil, Option.none_or]
  split <;> simp_all
theorem findSome_range {α : Type} (g : Nat → Option α) {k : Nat} {r : α} (h : (List.range k).findSome? g = some r) : ∀ d, (List.range (k + d)).findSome? g = some r
  | 0 => h
  | d + 1 => by rw [show k + (d + 1) = (k + d) + 1 from rfl, List.range_succ, List.findSome?_append, findSome_range g h d]; rfl
/-- Nothing, or a list in memory. -/
def RetFind (res : Option (List Nat)) (w : World) (e : Ending) (w' : World) : Prop := Below w.heap.size w w' ∧
  ((res = none ∧ e = .returned (.slice none 0 0)) ∨ (∃ r a c, res = some r ∧ e = .returned (.slice (some a) r.length c) ∧ Ints w' (.slice (some a) r.length c) (ofN r)))

end Go.Proofs.YtldcehhhndlhdaaGreatDoor
/- Walks: Why. -/
namespace Go.Proofs.YtldcehhhndlhdaaGreatDoor
open Go.RowKit Go.Sort Go.Shelf
attribute [local go_sem] run_store_func

theorem cut_laterH {p q : Prop} (h1 : Hid p → q) (h2 : p) : q := h1 (Lib.hid h2)
/-- The first list of at most k wells by which the greatest level is known. -/
def whyTo (own bs : List Int) (N well : Nat) (k : Nat) : Option (List Nat) := (List.range k).findSome? fun many => findW own bs N well (many + 1) [] 0
def whyP (t : Twn) (well : Int) : List Nat × Int := if openE t (isWell t.wells well) = 0 then (match whyTo (baseM t) (closeM (baseM t)) t.wells.toNat well.toNat t.wells.toNat with | some l => (l, 0) | none => ([], 3)) else ([], openE t (isWell t.wells well))
theorem whyTo_succ (own bs : List Int) (N well k : Nat) (h : whyTo own bs N well k = none) : whyTo own bs N well (k + 1) = findW own bs N well (k + 1) [] 0 := by
  unfold whyTo at h ⊢
  rw [List.range_succ, List.findSome?_append, h]
  simp

end Go.Proofs.YtldcehhhndlhdaaGreatDoor
/- Walks: Far, ready, works. -/
namespace Go.Proofs.YtldcehhhndlhdaaGreatDoor
open Go.RowKit Go.Sort

theorem ex_level : levelP exT 2 = (⟨20, 25⟩, 0) := by decide +kernel
theorem ex_differ : differP exT 0 2 = (⟨8, 13⟩, 0) := by decide +kernel
theorem ex_low : endsP exT Sp.low = ([10, 13, 20], 0) := by decide +kernel
theorem ex_ask : askP exT = (1, 0) := by decide +kernel
theorem ex_clash : clashP exQ = ([0, 2, 3], 0) := by decide +kernel
theorem ex_why : whyP exT 2 = ([0, 1, 2], 0) := by decide +kernel
def farB (t : Twn) : Bool := hugeB t || ((decide (5 < t.wells) || decide ((8 : Int) < ((t.snd.length + t.slp.length : Nat) : Int))) && valid t)
def readyB (t : Twn) : Bool := !farB t && valid t
theorem hugeB_false {t : Twn} (h : hugeB t = false) : t.snd.length ≤ 40 ∧ t.slp.length ≤ 40 := by simp [hugeB] at h; omega
theorem farB_false {t : Twn} (h : farB t = false) : t.snd.length ≤ 40 ∧ t.slp.length ≤ 40 ∧ (valid t = true → t.wells ≤ 5 ∧ t.snd.length + t.slp.length ≤ 8) := by
  simp only [farB, Bool.or_eq_false_iff, Bool.and_eq_false_iff, decide_eq_false_iff_not] at h
  obtain ⟨h1, h2⟩ := h
  have := hugeB_false h1
  refine ⟨this.1, this.2, fun hv => ?_⟩
  rcases h2 with h2 | h2
  · omega
  · rw [hv] at h2; cases h2
theorem readyB_true {t : Twn} (h : readyB t = true) : valid t = true ∧ t.wells ≤ 5 ∧ t.snd.length + t.slp.length ≤ 8 ∧ t.snd.length ≤ 40 ∧ t.slp.length ≤ 40 := by
  simp only [readyB, Bool.and_eq_true, Bool.not_eq_true'] at h
  have := farB_false h.1
  exact ⟨h.2, (this.2.2 h.2).1, (this.2.2 h.2).2, this.1, this.2.1⟩

end Go.Proofs.YtldcehhhndlhdaaGreatDoor
/- Walks: the reference's IsTruth, Holds. -/
namespace Go.Proofs.YtldcehhhndlhdaaGreatDoor
open Go.RowKit Go.Sort

def trSnd (l : List Int) (s : Snd) : Bool := inR (l.getD s.well.toNat 0) s.low s.high
def trSlp (l : List Int) (s : Slp) : Bool := inR (l.getD s.b.toNat 0 - l.getD s.a.toNat 0) s.low s.high
def trOwn (n : Int) : Bool := inR n 0 99
def isTrB (t : Twn) (l : List Int) : Bool := decide ((l.length : Int) = t.wells) && l.all trOwn && t.snd.all (trSnd l) && t.slp.all (trSlp l)
theorem isTrB_iff {t : Twn} {l : List Int} : isTrB t l = true ↔ (l.length : Int) = t.wells ∧ Tr t fun w => l.getD w 0 := by
  simp only [isTrB, Bool.and_eq_true, decide_eq_true_eq, List.all_eq_true, trOwn, trSnd, trSlp, inR_iff]
  constructor
  · rintro ⟨⟨⟨h1, h2⟩, h3⟩, h4⟩
    refine ⟨h1, fun w hw => ?_, h3, h4⟩
    have hwl : w < l.length := by omega
    have := h2 l[w] (List.getElem_mem hwl)
    rw [List.getD_eq_getElem?_getD, List.getElem?_eq_getElem hwl]
    exact this
  · rintro ⟨h1, h2, h3, h4⟩
    refine ⟨⟨⟨h1, fun x hx => ?_⟩, h3⟩, h4⟩
    obtain ⟨w, hwl, rfl⟩ := List.getElem_of_mem hx
    have := h2 w (by omega)
    rw [List.getD_eq_getElem?_getD, List.getElem?_eq_getElem hwl] at this
    exact this
theorem trSnd_eq {l : List Int} {m : Nat} {u lo hi : Int} (h : l.getD m 0 = u) : trSnd l ⟨(m : Nat), lo, hi⟩ = inR u lo hi := by unfold trSnd; dsimp only; rw [Int.toNat_natCast, h]
theorem trSlp_eq {l : List Int} {m p : Nat} {u z lo hi : Int} (h : l.getD m 0 = u) (h' : l.getD p 0 = z) : trSlp l ⟨(m : Nat), (p : Nat), lo, hi⟩ = inR (z - u) lo hi := by unfold trSlp; dsimp only; rw [Int.toNat_natCast, Int.toNat_natCast, h, h']
theorem all_snoc {α : Type} (p : α → Bool) (l : List α) (k : Nat) (h : k < l.length) : (l.take (k + 1)).all p = ((l.take k).all p && p l[k]) := by
  rw [List.take_succ_eq_append_getElem h, List.all_append]; simp
theorem all_not {α : Type} (p : α → Bool) (l : List α) (k : Nat) (h : k < l.length) (hb : p l[k] = false) : l.all p = false := by
  rw [List.all_eq_false]; exact ⟨_, List.getElem_mem h, by simp [hb]⟩
/-- A list of numbers reads, a number at a time. -/
theorem Ints.at_get {w : World} {v : Value} {l : List Int} (h : Ints w v l) {A : Option Addr} {m c : Nat} (hv : v = .slice A m c) : m = l.length ∧ (0 < l.length → ∃ b o, A = some ⟨b, o, none⟩ ∧ b < w.heap.size ∧ ∀ k : Nat, k < l.length → w.cell? ⟨b, o + k, none⟩ = some (I (l.getD k 0))) := by
  obtain ⟨A', c', rfl, _, _, hc⟩ := h.open_
  injection hv with h1 h2 h3
  subst h1
  subst h2
  refine ⟨rfl, fun hn => ?_⟩
  obtain ⟨b, o, h4, h5, h6⟩ := hc hn
  refine ⟨b, o, h4, h5, fun k hk => ?_⟩
  rw [List.getD_eq_getElem?_getD, List.getElem?_eq_getElem hk]
  exact h6 k hk

theorem ownB {l : List Int} (h : l.all trOwn = true) {m : Nat} (hm : m < l.length) : 0 ≤ l.getD m 0 ∧ l.getD m 0 ≤ 99 := by
  have := List.all_eq_true.1 h l[m] (List.getElem_mem hm)
  rw [List.getD_eq_getElem?_getD, List.getElem?_eq_getElem hm]
  exact inR_iff.1 this

end Go.Proofs.YtldcehhhndlhdaaGreatDoor
/- Walks: Holds's function value, IndexFunc, ContainsFunc; the reference's Holds; ends of the laws. -/
namespace Go.Proofs.YtldcehhhndlhdaaGreatDoor
open Go.RowKit Go.Sort

def RetIdxF (xs : List Int) (w : World) (e : Ending) (w' : World) : Prop := ∃ r : Int, e = .returned (I r) ∧ (0 ≤ r ↔ xs.all trOwn = false) ∧ Below w.heap.size w w'
def holdsP (t : Twn) (l : List Int) : Bool × Int := if valid t then (isTrB t l, 0) else (false, 10)
def lowL (t : Twn) : List Int := (List.range t.wells.toNat).map fun w => (lvl (closeM (baseM t)) w).low
def highL (t : Twn) : List Int := (List.range t.wells.toNat).map fun w => (lvl (closeM (baseM t)) w).high
theorem lowL_get {t : Twn} {w : Nat} (hw : (w : Int) < t.wells) : (lowL t).getD w 0 = (lvl (closeM (baseM t)) w).low := by
  have : w < t.wells.toNat := by omega
  simp [lowL, List.getD_eq_getElem?_getD, List.getElem?_map, List.getElem?_range this]
theorem highL_get {t : Twn} {w : Nat} (hw : (w : Int) < t.wells) : (highL t).getD w 0 = (lvl (closeM (baseM t)) w).high := by
  have : w < t.wells.toNat := by omega
  simp [highL, List.getD_eq_getElem?_getD, List.getElem?_map, List.getElem?_range this]
theorem lowL_len (t : Twn) : (lowL t).length = t.wells.toNat := by simp [lowL]
theorem highL_len (t : Twn) : (highL t).length = t.wells.toNat := by simp [highL]
/-- What there is, if there is a truth. -/
theorem open_exact {t : Twn} (h : openE t true = 0) : Vl t ∧ Tight t (closeM (baseM t)) ∧ ∃ l, Exact t l ∧ ∀ w : Nat, (w : Int) < t.wells → lvl (closeM (baseM t)) w = spAt l w := by
  obtain ⟨hv, -, hd⟩ := openE_zero h
  obtain ⟨-, ht⟩ := says_closed hv (baseM_says hv) hd
  obtain ⟨x, hx, -⟩ := ht.one 6 6 (.inr rfl) (.inr rfl)
  rcases spansR_cases hv with ⟨l, -, he⟩ | ⟨-, hn⟩
  · exact ⟨hv, ht, l, he, fun w hw => lvl_exact hv ht he hw⟩
  · exact absurd ⟨x, hx⟩ hn
theorem ends_true {t : Twn} (h : openE t true = 0) : isTrB t (lowL t) = true ∧ isTrB t (highL t) = true := by
  obtain ⟨hv, -, l, he, hl⟩ := open_exact h
  have h0 := hv.w0
  refine ⟨isTrB_iff.2 ⟨by rw [lowL_len]; omega, he.low.congr hv fun w hw => ?_⟩, isTrB_iff.2 ⟨by rw [highL_len]; omega, he.high.congr hv fun w hw => ?_⟩⟩
  · rw [lowL_get hw, hl w hw]
  · rw [highL_get hw, hl w hw]
theorem endsP_zero {t : Twn} (h : openE t true = 0) : endsP t Sp.low = (lowL t, 0) ∧ endsP t Sp.high = (highL t, 0) := by
  constructor <;> (unfold endsP; rw [if_pos h]; rfl)
theorem endsP_three {t : Twn} (h : openE t true = 3) (g : Sp → Int) : endsP t g = ([], 3) := by
  unfold endsP; rw [if_neg (by omega), h]
def RetEnds (t : Twn) (w : World) (e : Ending) (w' : World) : Prop := ∃ v1 v2, e = .returned (.tuple #[v1, v2, .bool true, .bool true]) ∧ Ints w' v1 (lowL t) ∧ Ints w' v2 (highL t) ∧ Below w.heap.size w w'

end Go.Proofs.YtldcehhhndlhdaaGreatDoor
/- Walk: levels.Holds. -/
namespace Go.Proofs.YtldcehhhndlhdaaGreatDoor
open Go.RowKit Go.Sort

def baseB (t : Twn) (l : List Int) : Bool := decide ((l.length : Int) = t.wells) && l.all trOwn
def sndB (t : Twn) (l : List Int) (k : Nat) : Bool := baseB t l && (t.snd.take k).all (trSnd l)
def slpB (t : Twn) (l : List Int) (k : Nat) : Bool := sndB t l t.snd.length && (t.slp.take k).all (trSlp l)
theorem slpB_all (t : Twn) (l : List Int) : slpB t l t.slp.length = isTrB t l := by simp [slpB, sndB, baseB, isTrB]
theorem sndB_succ {t : Twn} {l : List Int} {k : Nat} (h : k < t.snd.length) : sndB t l (k + 1) = (sndB t l k && trSnd l t.snd[k]) := by rw [sndB, all_snoc _ _ _ h, ← Bool.and_assoc]; rfl
theorem slpB_succ {t : Twn} {l : List Int} {k : Nat} (h : k < t.slp.length) : slpB t l (k + 1) = (slpB t l k && trSlp l t.slp[k]) := by rw [slpB, all_snoc _ _ _ h, ← Bool.and_assoc]; rfl
theorem baseB_true {t : Twn} {l : List Int} (h : baseB t l = true) : (l.length : Int) = t.wells ∧ l.all trOwn = true := by simpa [baseB] using h
theorem sndB_true {t : Twn} {l : List Int} {k : Nat} (h : sndB t l k = true) : (l.length : Int) = t.wells ∧ l.all trOwn = true := by
  simp only [sndB, Bool.and_eq_true] at h; exact baseB_true h.1
theorem slpB_true {t : Twn} {l : List Int} {k : Nat} (h : slpB t l k = true) : (l.length : Int) = t.wells ∧ l.all trOwn = true := by
  simp only [slpB, Bool.and_eq_true] at h; exact sndB_true h.1

end Go.Proofs.YtldcehhhndlhdaaGreatDoor
/- Walk: Same of two equal towns. -/
namespace Go.Proofs.YtldcehhhndlhdaaGreatDoor
open Go.RowKit Go.Sort

end Go.Proofs.YtldcehhhndlhdaaGreatDoor
/- What is known of one town by another. -/
namespace Go.Proofs.YtldcehhhndlhdaaGreatDoor
open Go.RowKit Go.Sort

/-- What is known of Differ, if there is a truth. -/
theorem differ_zero {t : Twn} (h : openE t true = 0) {a b : Int} (ha : isWell t.wells a = true) (hb : isWell t.wells b = true) : differP t a b = (⟨-at_ (closeM (baseM t)) b.toNat a.toNat, at_ (closeM (baseM t)) a.toNat b.toNat⟩, 0) := by
  unfold differP
  rw [ha, hb, Bool.and_true, h, if_pos rfl]
theorem differ_three {t : Twn} (h : openE t true = 3) {a b : Int} (ha : isWell t.wells a = true) (hb : isWell t.wells b = true) : differP t a b = (⟨0, 0⟩, 3) := by
  unfold differP
  rw [ha, hb, Bool.and_true, h, if_neg (by decide)]
theorem openE_cases {t : Twn} (h : valid t = true) : openE t true = 0 ∨ openE t true = 3 := by
  unfold openE
  rw [if_pos h, if_pos rfl]
  split <;> simp
theorem open_of_truth {t : Twn} (hv : valid t = true) {x : Nat → Int} (hx : Tr t x) : openE t true = 0 := by
  have h := (says_ok (valid_vl hv) (baseM_says (valid_vl hv))).1.2 ⟨x, hx⟩
  unfold openE
  rw [if_pos hv, if_pos rfl, if_pos h]
theorem level_zero {t : Twn} (h : openE t true = 0) {a : Int} (ha : isWell t.wells a = true) : levelP t a = (⟨(lvl (closeM (baseM t)) a.toNat).low, (lvl (closeM (baseM t)) a.toNat).high⟩, 0) := by
  unfold levelP
  rw [ha, h, if_pos rfl]
  simp only [lvl]
theorem higher_zero {t : Twn} {a b : Int} {lo hi : Int} (hd : differP t b a = (⟨lo, hi⟩, 0)) : higherP t a b = (if 0 < lo then 1 else if hi ≤ 0 then 2 else 3, 0) := by
  unfold higherP
  rw [hd]
  simp only [ne_eq, not_true_eq_false, if_false]
  split
  · rfl
  · split <;> rfl
theorem each_level {t : Twn} (h : openE t true = 0) {x : Nat → Int} (hx : Tr t x) {w : Nat} (hw : (w : Int) < t.wells) : (lvl (closeM (baseM t)) w).low ≤ x w ∧ x w ≤ (lvl (closeM (baseM t)) w).high := by
  obtain ⟨hv, -, l, he, hl⟩ := open_exact h
  rw [hl w hw]
  exact he.all x hx w (by rw [he.len]; omega)
theorem each_differ {t : Twn} (h : openE t true = 0) {x : Nat → Int} (hx : Tr t x) {a b : Int} (ha : isWell t.wells a = true) (hb : isWell t.wells b = true) : ∃ lo hi, differP t a b = (⟨lo, hi⟩, 0) ∧ lo ≤ x b.toNat - x a.toNat ∧ x b.toNat - x a.toNat ≤ hi := by
  refine ⟨_, _, differ_zero h ha hb, ?_⟩
  have ht := open_tight h
  have h1 := ht.all x hx _ _ (act_well ha) (act_well hb)
  have h2 := ht.all x hx _ _ (act_well hb) (act_well ha)
  have hv := (openE_zero h).1
  have h6 := hv.w6
  have a1 := isWell_iff.1 ha
  have b1 := isWell_iff.1 hb
  have ea : lift x a.toNat = x a.toNat := by simp [lift, show a.toNat ≠ 6 by omega]
  have eb : lift x b.toNat = x b.toNat := by simp [lift, show b.toNat ≠ 6 by omega]
  rw [ea, eb] at h1 h2
  omega

/-- A town that has no other truths than another one. -/
structure NarT (t o : Twn) : Prop where
  wells : o.wells = t.wells
  tr : ∀ x, Tr o x → Tr t x
theorem nar_addS (t : Twn) (s : Snd) : NarT t (addS t s) := ⟨rfl, fun _ h => (tr_addS.1 h).1⟩
theorem nar_addP (t : Twn) (s : Slp) : NarT t (addP t s) := ⟨rfl, fun _ h => (tr_addP.1 h).1⟩
theorem has_truth {t : Twn} (h : openE t true = 0) : ∃ x, Tr t x := by
  obtain ⟨-, ht, -⟩ := open_exact h
  obtain ⟨x, hx, -⟩ := ht.one 6 6 (.inr rfl) (.inr rfl)
  exact ⟨x, hx⟩
theorem no_truth {t : Twn} (hv : valid t = true) (h : openE t true = 3) : ¬ ∃ x, Tr t x := fun ⟨x, hx⟩ => by have := open_of_truth hv hx; omega
theorem openE_three_of {t : Twn} (hv : valid t = true) (h : ¬ ∃ x, Tr t x) : openE t true = 3 := by
  rcases openE_cases hv with h0 | h0
  · exact absurd (has_truth h0) h
  · exact h0
theorem NarT.one {t o : Twn} (h : NarT t o) (hv : valid t = true) (ho : openE o true = 0) : openE t true = 0 := by
  obtain ⟨x, hx⟩ := has_truth ho
  exact open_of_truth hv (h.tr x hx)
theorem NarT.none {t o : Twn} (h : NarT t o) (hv : valid t = true) (hvo : valid o = true) (ht : openE t true = 3) : openE o true = 3 := by
  rcases openE_cases hvo with h0 | h0
  · have := h.one hv h0; omega
  · exact h0
/-- Both ends of a level are levels of truths. -/
theorem lvl_one {t : Twn} (h : openE t true = 0) {w : Nat} (hw : (w : Int) < t.wells) : (∃ x, Tr t x ∧ x w = (lvl (closeM (baseM t)) w).low) ∧ (∃ x, Tr t x ∧ x w = (lvl (closeM (baseM t)) w).high) := by
  obtain ⟨hv, -, l, he, hl⟩ := open_exact h
  rw [hl w hw]
  exact ⟨⟨_, he.low, rfl⟩, ⟨_, he.high, rfl⟩⟩
theorem NarT.lvl {t o : Twn} (h : NarT t o) (ho : openE o true = 0) (ht : openE t true = 0) {w : Nat} (hw : (w : Int) < t.wells) : (lvl (closeM (baseM t)) w).low ≤ (lvl (closeM (baseM o)) w).low ∧ (lvl (closeM (baseM o)) w).high ≤ (lvl (closeM (baseM t)) w).high := by
  obtain ⟨⟨x, hx, ex⟩, ⟨y, hy, ey⟩⟩ := lvl_one ho (w := w) (by rw [h.wells]; exact hw)
  have h1 := each_level ht (h.tr x hx) hw
  have h2 := each_level ht (h.tr y hy) hw
  omega
/-- Both ends of Differ are differences in truths. -/
theorem differ_one {t : Twn} (h : openE t true = 0) {a b : Int} (ha : isWell t.wells a = true) (hb : isWell t.wells b = true) : ∃ lo hi, differP t a b = (⟨lo, hi⟩, 0) ∧ (∃ x, Tr t x ∧ x b.toNat - x a.toNat = lo) ∧ (∃ x, Tr t x ∧ x b.toNat - x a.toNat = hi) ∧ (∀ x, Tr t x → lo ≤ x b.toNat - x a.toNat ∧ x b.toNat - x a.toNat ≤ hi) := by
  have ht := open_tight h
  obtain ⟨x, hx, ex⟩ := ht.one _ _ (act_well hb) (act_well ha)
  obtain ⟨y, hy, ey⟩ := ht.one _ _ (act_well ha) (act_well hb)
  have hv := (openE_zero h).1
  have h6 := hv.w6
  have a1 := isWell_iff.1 ha
  have b1 := isWell_iff.1 hb
  have ea : ∀ x : Nat → Int, lift x a.toNat = x a.toNat := fun x => by simp [lift, show a.toNat ≠ 6 by omega]
  have eb : ∀ x : Nat → Int, lift x b.toNat = x b.toNat := fun x => by simp [lift, show b.toNat ≠ 6 by omega]
  rw [ea, eb] at ex ey
  refine ⟨_, _, differ_zero h ha hb, ⟨x, hx, by omega⟩, ⟨y, hy, by omega⟩, fun z hz => ?_⟩
  have h1 := ht.all z hz _ _ (act_well ha) (act_well hb)
  have h2 := ht.all z hz _ _ (act_well hb) (act_well ha)
  rw [ea, eb] at h1 h2
  omega
/-- What Differ and Higher say of two wells in both towns. -/
structure Both (dl dh el eh k n : Int) : Prop where
  ins : dl ≤ el ∧ el ≤ eh ∧ eh ≤ dh
  hig : k = 3 ∨ n = k
theorem NarT.both {t o : Twn} (h : NarT t o) (ho : openE o true = 0) (ht : openE t true = 0) {a b : Int} (ha : isWell t.wells a = true) (hb : isWell t.wells b = true) :
    ∃ dl dh el eh k n, differP t a b = (⟨dl, dh⟩, 0) ∧ differP o a b = (⟨el, eh⟩, 0) ∧ higherP t a b = (k, 0) ∧ higherP o a b = (n, 0) ∧ Both dl dh el eh k n := by
  have ha' : isWell o.wells a = true := by rw [h.wells]; exact ha
  have hb' : isWell o.wells b = true := by rw [h.wells]; exact hb
  obtain ⟨dl, dh, h1, -, -, hd⟩ := differ_one ht ha hb
  obtain ⟨el, eh, h2, ⟨x, hx, ex⟩, ⟨y, hy, ey⟩, he⟩ := differ_one ho ha' hb'
  obtain ⟨fl, fh, h3, -, -, hf⟩ := differ_one ht hb ha
  obtain ⟨gl, gh, h4, ⟨u, hu, eu⟩, ⟨v, hv, ev⟩, hg⟩ := differ_one ho hb' ha'
  refine ⟨dl, dh, el, eh, _, _, h1, h2, higher_zero h3, higher_zero h4, ?_, ?_⟩
  · have := hd x (h.tr x hx)
    have := hd y (h.tr y hy)
    have := he x hx
    omega
  · have := hf u (h.tr u hu)
    have := hf v (h.tr v hv)
    have := hg u hu
    split
    · rw [if_pos (by omega)]; exact .inr rfl
    · split
      · rw [if_neg (by omega), if_pos (by omega)]; exact .inr rfl
      · exact .inl rfl
end Go.Proofs.YtldcehhhndlhdaaGreatDoor
/- Walks: the reference's cut, Spans, IsOne, ask, known. -/
namespace Go.Proofs.YtldcehhhndlhdaaGreatDoor
open Go.RowKit Go.Sort

theorem St.made {w0 w w' : World} {n : Nat} {L : List Item} (h : St w0 w n L) (hg : w.grownBy w' none) {e size m cap : Nat} {xs : List Value} (ho : w'.ownsRow w0.heap.size e size (.slice (some ⟨w.heap.size, 0, none⟩) m cap) m xs) : St w0 w' w'.heap.size (.own e size (.slice (some ⟨n, 0, none⟩) m cap) m xs :: L) := by
  have hb : Below w.heap.size w w' := ⟨hg.os, hg.tape, hg.output, hg.size, fun k hk => hg.block k hk (by simp)⟩
  have h2 := h.call hb
  rw [h.size] at ho
  refine ⟨rfl, h2.bel, fun x hx => ?_, ?_⟩
  · rcases List.mem_cons.1 hx with hx | hx
    · rw [hx]; exact ho
    · exact h2.ok x hx
  · have e0 : (Item.own e size (.slice (some ⟨n, 0, none⟩) m cap) m xs).blk = some n := rfl
    rw [List.filterMap_cons, e0]
    refine List.nodup_cons.2 ⟨fun hm => ?_, h.apart⟩
    have h4 := (h.lt_of hm).2
    omega
/-! A row of spans. -/
def initS (N k : Nat) : List Sp := (List.range N).map fun i => if i < k then ⟨0, 99⟩ else ⟨0, 0⟩
theorem initS_len (N k : Nat) : (initS N k).length = N := by simp [initS]
theorem initS_all (N : Nat) : initS N N = List.replicate N ⟨0, 99⟩ := by
  apply List.ext_getElem (by simp [initS])
  intro i h1 h2
  have : i < N := by simpa [initS] using h1
  simp [initS, this]
theorem initS_zero (N : Nat) : initS N 0 = List.replicate N ⟨0, 0⟩ := by
  apply List.ext_getElem (by simp [initS])
  intro i h1 h2
  simp [initS]
theorem initS_at {N k i : Nat} (h : i < N) : spAt (initS N k) i = if i < k then ⟨0, 99⟩ else ⟨0, 0⟩ := by
  rw [spAt_len _ _ (by rw [initS_len]; exact h)]
  simp [initS]
theorem initS_succ {N k : Nat} (h : k < N) : initS N (k + 1) = (initS N k).set k ⟨(spAt (initS N k) k).low, 99⟩ := by
  refine list_ext_spAt (by simp [initS_len]) fun i hi => ?_
  rw [List.length_set, initS_len] at hi
  rw [initS_at hi, spAt_set _ _ _ _ (by rw [initS_len]; exact h), initS_at hi, initS_at h]
  by_cases e : i = k
  · subst e; simp
  · rw [if_neg e]
    by_cases e2 : i < k
    · rw [if_pos e2, if_pos (by omega)]
    · rw [if_neg e2, if_neg (by omega)]
theorem spCells_replicate (N : Nat) : spCells (List.replicate N ⟨0, 0⟩) = List.replicate (N * 2) (I 0) := by
  induction N with
  | zero => rfl
  | succ n ih => rw [List.replicate_succ, show spCells (⟨0, 0⟩ :: List.replicate n ⟨0, 0⟩) = I 0 :: I 0 :: spCells (List.replicate n ⟨0, 0⟩) from rfl, ih, show (n + 1) * 2 = n * 2 + 1 + 1 by omega, List.replicate_succ, List.replicate_succ]
theorem spCells_get {l : List Sp} {m : Nat} (h : m < l.length) : (spCells l)[m * 2]? = some (I (spAt l m).low) ∧ (spCells l)[m * 2 + 1]? = some (I (spAt l m).high) := by
  rw [spAt_len _ _ h]
  exact spCells_at l m h
theorem spCells_set : ∀ (l : List Sp) (m : Nat) (v : Sp), m < l.length → ((spCells l).set (m * 2) (I v.low)).set (m * 2 + 1) (I v.high) = spCells (l.set m v)
  | [], m, v, h => absurd h (by simp)
  | s :: l, 0, v, _ => rfl
  | s :: l, m + 1, v, h => by
    have ih := spCells_set l m v (by simpa using h)
    have e : spCells (s :: l) = I s.low :: I s.high :: spCells l := rfl
    rw [e, show (m + 1) * 2 = m * 2 + 1 + 1 by omega]
    simp only [List.set_cons_succ]
    rw [ih]
    rfl
theorem spCells_high (l : List Sp) (m : Nat) (b : Int) (h : m < l.length) : (spCells l).set (m * 2 + 1) (I b) = spCells (l.set m ⟨(spAt l m).low, b⟩) := by
  rw [← spCells_set _ _ _ h]
  congr 1
  have hg := (spCells_get h).1
  apply List.ext_getElem?
  intro i
  rw [List.getElem?_set]
  split
  · rename_i e; subst e
    split
    · exact hg
    · rename_i hn; rw [List.getElem?_eq_none (by omega)]
  · rfl
theorem own_at2 {w : World} {B e s n g cap : Nat} {xs : List Value} (h : w.ownsRow B e s (.slice (some ⟨g, 0, none⟩) n cap) n xs) {i : Nat} {v : Value} (hx : xs[i]? = some v) : w.cell? ⟨g, i, none⟩ = some v := by
  obtain ⟨h1, A, c, h2, _, _, h5⟩ := Reads.of_own h
  injection h2 with h2 _ _
  subst h2
  have hl := (List.getElem?_eq_some_iff.1 hx).1
  have hn : 0 < n := by
    rw [h1] at hl
    exact Nat.pos_of_ne_zero fun e => by rw [e, Nat.zero_mul] at hl; omega
  obtain ⟨b, o, e, h6⟩ := h5 hn
  injection e with e
  injection e with e1 e2 _
  subst e1
  subst e2
  have := h6 i v hx
  rwa [Nat.zero_add] at this
/-- The width of a row, read in memory. -/
def rowW (w : World) (g N : Nat) : Int := ((List.range N).map fun i => intOf ((w.cell? ⟨g, i * 2 + 1, none⟩).getD undef) - intOf ((w.cell? ⟨g, i * 2, none⟩).getD undef)).sum
theorem rowW_own {w : World} {B e g cap : Nat} {l : List Sp} (h : w.ownsRow B e 2 (.slice (some ⟨g, 0, none⟩) l.length cap) l.length (spCells l)) : rowW w g l.length = wid l := by
  unfold rowW wid
  congr 1
  apply List.ext_getElem (by simp)
  intro i h1 h2
  have hi : i < l.length := by simpa using h2
  obtain ⟨c1, c2⟩ := spCells_get hi
  simp only [List.getElem_map, List.getElem_range]
  rw [own_at2 h c1, own_at2 h c2, spAt_len _ _ hi]
  simp [intOf]
def msrS (u : Value) (w : World) (g N : Nat) : Nat := match u with | .bool true => (rowW w g N + 1).toNat + 1 | _ => 0
/-- Within a round no span is far away. -/
def Bnd (k : Nat) (l : List Sp) : Prop := ∀ w, w < l.length → 0 ≤ (spAt l w).low ∧ (spAt l w).low ≤ 99 + 99 * k ∧ -99 * k ≤ (spAt l w).high ∧ (spAt l w).high ≤ 99
theorem Bnd.step {k : Nat} {l : List Sp} {s : Slp} (h : Bnd k l) (ha : s.a.toNat < l.length) (hb : s.b.toNat < l.length) (h1 : -99 ≤ s.low) (h2 : s.low ≤ s.high) (h3 : s.high ≤ 99) : Bnd (k + 1) (slpS l s) := by
  intro w hw
  rw [slpS_len] at hw
  rw [slpS_at ha hb]
  have a := h _ ha
  have b := h _ hb
  have c := h w hw
  split
  · simp only [cutS]; omega
  · split
    · simp only [cutS]; omega
    · omega
theorem stepS_succ {t : Twn} {l l' : List Sp} {c : Bool} {k : Nat} (hk : k < t.slp.length) (h : (t.slp.take k).foldl stepS (l, false) = (l', c)) : (t.slp.take (k + 1)).foldl stepS (l, false) = (slpS l' t.slp[k], c || slpC l' t.slp[k]) := by
  rw [List.take_succ_eq_append_getElem hk, List.foldl_append, h]
  rfl
theorem sndS_succ {t : Twn} {l : List Sp} {k : Nat} (hk : k < t.snd.length) : (t.snd.take (k + 1)).foldl sndS l = sndS ((t.snd.take k).foldl sndS l) t.snd[k] := by
  rw [List.take_succ_eq_append_getElem hk, List.foldl_append]
  rfl
theorem sndsTo_len (l : List Sp) : ∀ ss : List Snd, (ss.foldl sndS l).length = l.length := by
  intro ss
  induction ss generalizing l with
  | nil => rfl
  | cons s ss ih => rw [List.foldl_cons, ih, sndS_len]
/-- The loop of the reference. -/
structure Loop (t : Twn) (l : List Sp) (c : Bool) : Prop where
  inv : Inv t l
  go : c = true → ∃ f, spansR t = spansF t f l ∧ (wid l + 1).toNat < f
  stop : c = false → spansR t = some l
theorem Loop.start {t : Twn} (hv : Vl t) : Loop t (span0 t) true := ⟨Inv.start hv, fun _ => ⟨1000, rfl, by have := (Inv.start hv).wid hv; omega⟩, fun h => by cases h⟩
theorem Loop.none {t : Twn} {l : List Sp} (h : Loop t l true) (he : emptyS l = true) : spansR t = none := by
  obtain ⟨f, h1, h2⟩ := h.go rfl
  obtain ⟨f, rfl⟩ : ∃ n, f = n + 1 := ⟨f - 1, by omega⟩
  rw [h1, spansF, if_pos he]
theorem Loop.next {t : Twn} (hv : Vl t) {l l' : List Sp} {c : Bool} (h : Loop t l true) (he : emptyS l = false) (hr : roundS t l = (l', c)) : Loop t l' c ∧ (c = true → wid l' < wid l) := by
  obtain ⟨f, h1, h2⟩ := h.go rfl
  obtain ⟨f, rfl⟩ : ∃ n, f = n + 1 := ⟨f - 1, by omega⟩
  have hi := h.inv.round hv
  rw [hr] at hi
  have hw := fun hc => h.inv.lt hv (show (roundS t l).2 = true by rw [hr]; exact hc)
  rw [hr] at hw
  have hn := wid_nonneg he
  rw [spansF, if_neg (by rw [he]; simp), hr] at h1
  dsimp only at h1 hw
  refine ⟨⟨hi, fun hc => ⟨f, by rw [h1, if_pos hc], by have := hw hc; omega⟩, fun hc => by rw [h1, hc]; rfl⟩, hw⟩
theorem msr_true {w : World} {B e g cap N : Nat} {l : List Sp} (h : w.ownsRow B e 2 (.slice (some ⟨g, 0, none⟩) N cap) N (spCells l)) (hl : l.length = N) : msrS (.bool true) w g N = (wid l + 1).toNat + 1 := by
  subst hl
  show (rowW w g l.length + 1).toNat + 1 = _
  rw [rowW_own h]
theorem bnd_start {t : Twn} (hv : Vl t) {l : List Sp} (h : Inv t l) (he : emptyS l = false) : Bnd 0 l := by
  intro w hw
  have a := h.bd hv w hw
  have b := emptyS_iff.1 he w hw
  omega
theorem madeSp (N : Nat) : (madeCells (Value.cells (.agg #[.int .i64 0, .int .i64 0])) (N * 2)).toList = spCells (List.replicate N ⟨0, 0⟩) := by
  rw [spCells_replicate]
  apply List.ext_getElem
  · simp [madeCells]
  · intro i h1 h2
    simp [madeCells, Value.cells]
    have : i % 2 = 0 ∨ i % 2 = 1 := by omega
    rcases this with h | h <;> simp [h]

/-- The spans of a town, in new memory, or that there is no truth. -/
def RetSpans (t : Twn) (w : World) (e : Ending) (w' : World) : Prop :=
  (∃ l v, spansR t = some l ∧ e = .returned (.tuple #[v, .bool true]) ∧ w'.ownsRow w.heap.size 42 2 v l.length (spCells l) ∧ Below w.heap.size w w') ∨ (spansR t = none ∧ e = .returned (.tuple #[.slice none 0 0, .bool false]) ∧ Below w.heap.size w w')

end Go.Proofs.YtldcehhhndlhdaaGreatDoor

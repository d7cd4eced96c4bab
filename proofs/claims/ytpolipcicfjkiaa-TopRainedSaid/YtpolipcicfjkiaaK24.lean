/- The go statements as the phase knows them. Conditions: none. -/
import Derived.Test.YtpolipcicfjkiaaK23
namespace Go.Proofs.Ytpolipcicfjkiaa.Cy
open Go Go.Conc Go.RowKit Go.Proofs
open Go.ConcN (WgLive)

/-- A year, as the workers read it. -/
structure YearOK (fb : Nat) (sl : Option Addr) (o n : Nat) (dc : Array Value) (off : Nat) (ds : List (Int × Int)) : Prop where
  len : ds.length = n
  few : n ≤ 366
  at_ : 0 < n → sl = some ⟨fb, o, none⟩
  day : ∀ (i : Nat) (d : Int × Int), ds[i]? = some d → dc[o + i * 3 + off]? = some (.int .i64 d.1) ∧ dc[o + i * 3 + 2]? = some (.int .i64 d.2) ∧ (∃ x, dc[o + i * 3]? = some (.int .i64 x)) ∧ ∃ x, dc[o + i * 3 + 1]? = some (.int .i64 x)

/-- What a worker of either kind leaves. -/
def resW (ob n : Nat) (size start : Int) (ds : List (Int × Int)) (_ : Nat → Prop) (V : World) : Prop := Left ob n (accD 0 (runD size (if size < start then size else start) ds)) V

theorem YearOK.ne {fb : Nat} {sl : Option Addr} {o n : Nat} {dc : Array Value} {off : Nat} {ds : List (Int × Int)} (h : YearOK fb sl o n dc off ds) (h0 : 0 < n) : dc ≠ #[] := by
  rintro rfl
  have hl := h.len
  cases ds with
  | nil => simp at hl; omega
  | cons d ds =>
    have := (h.day 0 d rfl).1
    simp at this

/-- The workers, from their births. -/
theorem worker44 {Wg yb db onb fb : Nat} {size start : Int} {sl : Option Addr} {o n capc : Nat} {dc : Array Value} {fr1 fr2 fr4 : Nat × Nat} {ds : List (Int × Int)} (hy : YearOK fb sl o n dc 0 ds) {K : Nat → Prop} {V : World} (ht : Tidy V)
    (hs : HS yb fb db onb size start sl n capc 44 dc fr1 fr2 fr4 V) :
    ∃ m, GV Try.prog false false link.tWg Wg (WRel Try.prog link.tWg Wg (resW db n size start ds)) m 0 K (born Try.prog (call47 (.pointer (some ⟨Wg, 0, none⟩)) (.pointer (some ⟨yb, 0, none⟩)) (.pointer (some ⟨onb, 0, none⟩)))) V := by
  obtain ⟨k4, h4⟩ := f44_co yb fb o n capc
  by_cases h0 : 0 < n
  · obtain rfl := hy.at_ h0
    obtain ⟨k, hw⟩ := w47 k4 yb fb db onb size start (some ⟨fb, o, none⟩) o n capc 44 0 (fun _ => rfl) dc fr1 fr2 fr4 ds (dcall 48 #[.pointer (some ⟨Wg, 0, none⟩)]) (.pointer (some ⟨Wg, 0, none⟩)) hy.len hy.few hy.day h4
    exact gv_worker ht hs hw
  · obtain ⟨k, hw⟩ := w47 k4 yb fb db onb size start sl o n capc 44 0 (fun h => absurd h h0) dc fr1 fr2 fr4 ds (dcall 48 #[.pointer (some ⟨Wg, 0, none⟩)]) (.pointer (some ⟨Wg, 0, none⟩)) hy.len hy.few hy.day h4
    exact gv_worker ht hs hw
theorem worker45 {Wg yb db onb fb : Nat} {size start : Int} {sl : Option Addr} {o n capc : Nat} {dc : Array Value} {fr1 fr2 fr4 : Nat × Nat} {ds : List (Int × Int)} (hy : YearOK fb sl o n dc 1 ds) {K : Nat → Prop} {V : World} (ht : Tidy V)
    (hs : HS yb fb db onb size start sl n capc 45 dc fr1 fr2 fr4 V) :
    ∃ m, GV Try.prog false false link.tWg Wg (WRel Try.prog link.tWg Wg (resW db n size start ds)) m 0 K (born Try.prog (call47 (.pointer (some ⟨Wg, 0, none⟩)) (.pointer (some ⟨yb, 0, none⟩)) (.pointer (some ⟨onb, 0, none⟩)))) V := by
  obtain ⟨k4, h4⟩ := f45_co yb fb o n capc
  by_cases h0 : 0 < n
  · obtain rfl := hy.at_ h0
    obtain ⟨k, hw⟩ := w47 k4 yb fb db onb size start (some ⟨fb, o, none⟩) o n capc 45 1 (fun _ => rfl) dc fr1 fr2 fr4 ds (dcall 48 #[.pointer (some ⟨Wg, 0, none⟩)]) (.pointer (some ⟨Wg, 0, none⟩)) hy.len hy.few hy.day h4
    exact gv_worker ht hs hw
  · obtain ⟨k, hw⟩ := w47 k4 yb fb db onb size start sl o n capc 45 1 (fun h => absurd h h0) dc fr1 fr2 fr4 ds (dcall 48 #[.pointer (some ⟨Wg, 0, none⟩)]) (.pointer (some ⟨Wg, 0, none⟩)) hy.len hy.few hy.day h4
    exact gv_worker ht hs hw

/-- Other blocks that are kept: not empty, and of none of the types of what both has of its own. -/
def Rows59 (SX : List (Nat × Array Value × TypeId)) : Prop := ∀ p ∈ SX, p.2.1 ≠ #[] ∧ p.2.2 ≠ 60 ∧ p.2.2 ≠ 90

theorem heap_of {cls : Nat → Cls} {V w : World} (hV : V.heap = (view cls 0 w).heap) {b : Nat} {o : Obj} (h : V.heap[b]? = some o) : (view cls 0 w).heap[b]? = some o := by rw [← hV]; exact h


/-- The caller's own, ahead of the first go statement. -/
def sA (yb db wb lb onb : Nat) (size start : Int) (sl : Option Addr) (n capc : Nat) (SX : List (Nat × Array Value × TypeId)) : List (Nat × Obj) :=
  (onb, .cells #[.pointer (some ⟨db, 0, none⟩), .func (.func 44) #[] #[.pointer (some ⟨yb, 0, none⟩)]] 90) :: (lb, two28 yb db wb) :: (yb, yObj size start sl n capc) :: (db, nil60) :: (wb, nil60) :: SX.map row59
/-- .. behind it. -/
def sB (yb db wb lb fb : Nat) (size start : Int) (sl : Option Addr) (n capc : Nat) (SX : List (Nat × Array Value × TypeId)) : List (Nat × Obj) :=
  (lb, two28 yb db wb) :: (yb, frzO (yObj size start sl n capc)) :: (wb, nil60) :: (SX.filter (·.1 ≠ fb)).map row59
/-- .. behind the second. -/
def sC (fb : Nat) (SX : List (Nat × Array Value × TypeId)) : List (Nat × Obj) := (SX.filter (·.1 ≠ fb)).map row59

set_option maxHeartbeats 4000000 in
theorem mgo0 {P' : Nat → (Nat → Prop) → Goroutine → World → World → Prop} {m : Nat} {Away : Bool → Nat → Prop} {Wg yb db wb fb lb onb : Nat} {x0 x5 x7 x8 x9 x10 x17 x19 x20 x21 x22 : Value} {size start : Int} {sl : Option Addr} {o n capc : Nat} {dc : Array Value} {dsL : List (Int × Int)} {SX : List (Nat × Array Value × TypeId)} {cs : List Frame}
    (hy : YearOK fb sl o n dc 0 dsL) (hX : Rows59 SX) (hfb : 0 < n → (fb, dc, 59) ∈ SX) (hdw : db ≠ wb) (hXy : ∀ p ∈ SX, p.1 ≠ yb)
    (hN : ∀ K' V', Tidy V' → Stand' (sB yb db wb lb fb size start sl n capc SX) V' → GV Try.prog true false link.tWg Wg P' m 0 K' (G (b28f.at ⟨#[x0, .pointer (some ⟨yb, 0, none⟩), .pointer (some ⟨db, 0, none⟩), .pointer (some ⟨wb, 0, none⟩), .pointer (some ⟨Wg, 0, none⟩), x5, .pointer (some ⟨onb, 0, none⟩), x7, x8, x9, x10, .slice (some ⟨lb, 0, none⟩) 2 2, .int .i64 2, .int .i64 0, .bool true, .pointer (some ⟨lb, 0, none⟩), .agg #[.pointer (some ⟨db, 0, none⟩), .func (.func 44) #[] #[.pointer (some ⟨yb, 0, none⟩)]], x17, .func (.func 47) #[] #[.pointer (some ⟨Wg, 0, none⟩), .pointer (some ⟨yb, 0, none⟩), .pointer (some ⟨onb, 0, none⟩)], x19, x20, x21, x22], []⟩ (.inRegion (opsO (r28 Try.f28 6)) [] :: k6 Try.f28)) cs) V')
    {K : Nat → Prop} {V w : World} (ht : Tidy V) (hF : Stand' (sA yb db wb lb onb size start sl n capc SX) V) :
    MGo Try.prog link.tWg Wg (shP yb fb n Away) (scP yb fb size start sl n capc dc) 0 (resW db n size start dsL) P' 0 K (G (b28f.at ⟨#[x0, .pointer (some ⟨yb, 0, none⟩), .pointer (some ⟨db, 0, none⟩), .pointer (some ⟨wb, 0, none⟩), .pointer (some ⟨Wg, 0, none⟩), x5, .pointer (some ⟨onb, 0, none⟩), x7, x8, x9, x10, .slice (some ⟨lb, 0, none⟩) 2 2, .int .i64 2, .int .i64 0, .bool true, .pointer (some ⟨lb, 0, none⟩), .agg #[.pointer (some ⟨db, 0, none⟩), .func (.func 44) #[] #[.pointer (some ⟨yb, 0, none⟩)]], x17, .func (.func 47) #[] #[.pointer (some ⟨Wg, 0, none⟩), .pointer (some ⟨yb, 0, none⟩), .pointer (some ⟨onb, 0, none⟩)], x19, x20, x21, x22], []⟩ (.inRegion (opsO (r28 Try.f28 6)) [1] :: k6 Try.f28)) cs) V w := by
  refine ⟨rfl, rfl, _, _, st_spawn0 yb db wb Wg lb onb x0 x5 x7 x8 x9 x10 x17 x19 x20 x21 x22 cs w, rfl, ?_⟩
  intro cls n' hK hV hSh hn' hWgc htn
  have mine : ∀ (b : Nat) (c : Array Value) (e : TypeId), (b, Obj.cells c e) ∈ sA yb db wb lb onb size start sl n capc SX → c ≠ #[] → cls b = .mine 0 ∧ w.heap[b]? = some (.cells c e) := fun b c e hp hc => by
    have h1 := heap_of hV (hF.at hp)
    exact ⟨open_mine h1 hc, seen_mine h1 (open_mine h1 hc)⟩
  obtain ⟨y1, y2⟩ := mine yb _ 24 (List.Mem.tail _ (List.Mem.tail _ (List.Mem.head _))) (by simp)
  obtain ⟨d1, d2⟩ := mine db _ 60 (List.Mem.tail _ (List.Mem.tail _ (List.Mem.tail _ (List.Mem.head _)))) (by simp)
  obtain ⟨u1, u2⟩ := mine wb _ 60 (List.Mem.tail _ (List.Mem.tail _ (List.Mem.tail _ (List.Mem.tail _ (List.Mem.head _))))) (by simp)
  obtain ⟨l1, l2⟩ := mine lb _ 90 (List.Mem.tail _ (List.Mem.head _)) (by simp)
  obtain ⟨o1, o2⟩ := mine onb _ 90 (List.Mem.head _) (by simp)
  have hx : ∀ p ∈ SX, cls p.1 = .mine 0 ∧ w.heap[p.1]? = some (.cells p.2.1 p.2.2) := fun p hp => mine p.1 p.2.1 p.2.2 (by simp only [sA, List.mem_cons, List.mem_map]; exact .inr (.inr (.inr (.inr (.inr ⟨p, hp, rfl⟩))))) (hX p hp).1
  have lt : ∀ {b : Nat} {o : Obj}, w.heap[b]? = some o → b < w.heap.size := fun h => (Array.getElem?_eq_some_iff.1 h).1
  have ne : ∀ {b b' : Nat} {c c' : Array Value} {e e' : TypeId}, w.heap[b]? = some (.cells c e) → w.heap[b']? = some (.cells c' e') → (e ≠ e' ∨ c.size ≠ c'.size) → b ≠ b' := fun h h' hc e => by
    rw [e, h'] at h
    cases h
    rcases hc with hc | hc <;> exact hc rfl
  let cls' : Nat → Cls := fun b => if b = yb ∨ (0 < n ∧ b = fb) then .shared else if b = db ∨ b = onb then .mine n' else cls b
  have c_sh : ∀ b, (b = yb ∨ (0 < n ∧ b = fb)) → cls' b = .shared := fun b h => by show (if _ then _ else _) = _; rw [if_pos h]
  have c_wk : ∀ b, ¬ (b = yb ∨ (0 < n ∧ b = fb)) → (b = db ∨ b = onb) → cls' b = .mine n' := fun b h h' => by show (if _ then _ else if _ then _ else _) = _; rw [if_neg h, if_pos h']
  have c_el : ∀ b, ¬ (b = yb ∨ (0 < n ∧ b = fb)) → ¬ (b = db ∨ b = onb) → cls' b = cls b := fun b h h' => by show (if _ then _ else if _ then _ else _) = _; rw [if_neg h, if_neg h']
  have hf : 0 < n → cls fb = .mine 0 ∧ w.heap[fb]? = some (.cells dc 59) := fun h0 => hx _ (hfb h0)
  have n_db : ¬ (db = yb ∨ (0 < n ∧ db = fb)) := by
    rintro (e | ⟨h0, e⟩)
    · exact ne d2 y2 (.inl (by decide)) e
    · exact ne d2 (hf h0).2 (.inl (by decide)) e
  have n_onb : ¬ (onb = yb ∨ (0 < n ∧ onb = fb)) := by
    rintro (e | ⟨h0, e⟩)
    · exact ne o2 y2 (.inl (by decide)) e
    · exact ne o2 (hf h0).2 (.inl (by decide)) e
  have hmine : ∀ b, cls' b = .mine 0 → cls b = .mine 0 := fun b h => by
    by_cases h1 : b = yb ∨ (0 < n ∧ b = fb)
    · rw [c_sh b h1] at h; cases h
    · by_cases h2 : b = db ∨ b = onb
      · rw [c_wk b h1 h2] at h; cases h; omega
      · rw [c_el b h1 h2] at h; exact h
  have e_lb : cls' lb = .mine 0 := by
    rw [c_el lb (by rintro (e | ⟨h0, e⟩); exact ne l2 y2 (.inl (by decide)) e; exact ne l2 (hf h0).2 (.inl (by decide)) e) (by rintro (e | e); exact ne l2 d2 (.inl (by decide)) e; exact ne l2 o2 (.inr (by simp)) e)]
    exact l1
  have e_wb : cls' wb = .mine 0 := by
    rw [c_el wb (by rintro (e | ⟨h0, e⟩); exact ne u2 y2 (.inl (by decide)) e; exact ne u2 (hf h0).2 (.inl (by decide)) e) (by rintro (e | e); exact hdw e.symm; exact ne u2 o2 (.inl (by decide)) e)]
    exact u1
  have e_x : ∀ p ∈ SX, p.1 ≠ fb → cls' p.1 = .mine 0 := fun p hp hpf => by
    rw [c_el p.1 (by rintro (e | ⟨h0, e⟩); exact hXy p hp e; exact hpf e) (by rintro (e | e); exact ne (hx p hp).2 d2 (.inl (hX p hp).2.1) e; exact ne (hx p hp).2 o2 (.inl (hX p hp).2.2) e)]
    exact (hx p hp).1
  have htm : Tidy (view cls' 0 w) := tidy_view fun b o' hb ho => ht b o' (by rw [hV]; exact seen_at ho (hmine b hb))
  have htw : Tidy (view cls' n' w) := tidy_view fun b o' hb ho => by
    by_cases h1 : b = yb ∨ (0 < n ∧ b = fb)
    · rw [c_sh b h1] at hb; cases hb
    · by_cases h2 : b = db ∨ b = onb
      · rcases h2 with rfl | rfl
        · rw [d2] at ho; cases ho; trivial
        · rw [o2] at ho; cases ho; trivial
      · rw [c_el b h1 h2] at hb
        exact htn b o' (seen_at ho hb)
  refine ⟨cls', fun b => ?_, ⟨fun b hb => ?_, fun b hb => ?_, fun b hb => ?_⟩, htm, htw, ⟨m, ?_⟩, ?_⟩
  · by_cases h1 : b = yb ∨ (0 < n ∧ b = fb)
    · refine .inr ⟨?_, ?_, .inr ⟨c_sh b h1, rfl⟩⟩
      · rcases h1 with rfl | ⟨h0, rfl⟩
        · exact y1
        · exact (hf h0).1
      · rcases h1 with rfl | ⟨h0, rfl⟩
        · exact lt y2
        · exact lt (hf h0).2
    · by_cases h2 : b = db ∨ b = onb
      · refine .inr ⟨?_, ?_, .inl (c_wk b h1 h2)⟩
        · rcases h2 with rfl | rfl
          · exact d1
          · exact o1
        · rcases h2 with rfl | rfl
          · exact lt d2
          · exact lt o2
      · exact .inl (c_el b h1 h2)
  · have hb : b = yb ∨ (0 < n ∧ b = fb) := hb
    refine ⟨?_, c_sh b hb, ?_⟩
    · rcases hb with rfl | ⟨h0, rfl⟩
      · exact lt y2
      · exact lt (hf h0).2
    · rcases hb with rfl | ⟨h0, rfl⟩
      · rw [y2]; unfold scP; rw [if_pos rfl]; rfl
      · rw [(hf h0).2]; unfold scP; rw [if_neg (fun e => ne (hf h0).2 y2 (.inl (by decide)) e), if_pos rfl]
  · obtain ⟨a1, a2⟩ := hSh.away b hb
    refine ⟨?_, a2⟩
    have h1 : ¬ (b = yb ∨ (0 < n ∧ b = fb)) := by
      rintro (e | ⟨h0, e⟩)
      · rw [e, y1] at a1; cases a1
      · rw [e, (hf h0).1] at a1; cases a1
    have h2 : ¬ (b = db ∨ b = onb) := by
      rintro (e | e)
      · rw [e, d1] at a1; cases a1
      · rw [e, o1] at a1; cases a1
    rw [c_el b h1 h2]
    exact a1
  · by_cases h1 : b = yb ∨ (0 < n ∧ b = fb)
    · rcases h1 with rfl | ⟨h0, rfl⟩
      · exact ⟨_, _, _, y2⟩
      · exact ⟨_, _, _, (hf h0).2⟩
    · by_cases h2 : b = db ∨ b = onb
      · rw [c_wk b h1 h2] at hb; cases hb
      · rw [c_el b h1 h2] at hb
        exact hSh.only b hb
  · refine hN _ _ htm ?_
    intro p hp
    simp only [sB, List.mem_cons, List.mem_map, List.mem_filter] at hp
    rcases hp with rfl | rfl | rfl | ⟨q, ⟨hq, hqf⟩, rfl⟩
    · exact seen_at l2 e_lb
    · exact seen_frz y2 (c_sh yb (.inl rfl))
    · exact seen_at u2 e_wb
    · exact seen_at (hx q hq).2 (e_x q hq (by simpa using hqf))
  · refine worker44 (capc := capc) (fr1 := (0, 3)) (fr2 := (0, 0)) (fr4 := (0, dc.size)) hy htw ⟨?_, fun h0 => ?_, ?_, ?_⟩
    · exact seen_frz y2 (c_sh yb (.inl rfl))
    · exact seen_frz (hf h0).2 (c_sh fb (.inr ⟨h0, rfl⟩))
    · exact seen_at o2 (c_wk onb n_onb (.inr rfl))
    · exact seen_at d2 (c_wk db n_db (.inl rfl))

set_option maxHeartbeats 4000000 in
theorem mgo1 {P' : Nat → (Nat → Prop) → Goroutine → World → World → Prop} {m : Nat} {Away : Bool → Nat → Prop} {Wg yb db wb fb lb onb : Nat} {x0 x5 x7 x8 x9 x10 x17 x19 x20 x21 x22 : Value} {size start : Int} {sl : Option Addr} {o n capc : Nat} {dc : Array Value} {dsH : List (Int × Int)} {SX : List (Nat × Array Value × TypeId)} {cs : List Frame}
    (hy : YearOK fb sl o n dc 1 dsH) (hX : Rows59 SX) (hfy : 0 < n → fb ≠ yb)
    (hN : ∀ K' V', Tidy V' → Stand' (sC fb SX) V' → GV Try.prog true false link.tWg Wg P' m 0 K' (G (b28f.at ⟨#[x0, .pointer (some ⟨yb, 0, none⟩), .pointer (some ⟨db, 0, none⟩), .pointer (some ⟨wb, 0, none⟩), .pointer (some ⟨Wg, 0, none⟩), x5, .pointer (some ⟨onb, 0, none⟩), x7, x8, x9, x10, .slice (some ⟨lb, 0, none⟩) 2 2, .int .i64 2, .int .i64 1, .bool true, .pointer (some ⟨lb, 2, none⟩), .agg #[.pointer (some ⟨wb, 0, none⟩), .func (.func 45) #[] #[.pointer (some ⟨yb, 0, none⟩)]], x17, .func (.func 47) #[] #[.pointer (some ⟨Wg, 0, none⟩), .pointer (some ⟨yb, 0, none⟩), .pointer (some ⟨onb, 0, none⟩)], x19, x20, x21, x22], []⟩ (.inRegion (opsO (r28 Try.f28 6)) [] :: k6 Try.f28)) cs) V')
    {K : Nat → Prop} {V w : World} (ht : Tidy V) (hF : Stand' ((onb, .cells #[.pointer (some ⟨wb, 0, none⟩), .func (.func 45) #[] #[.pointer (some ⟨yb, 0, none⟩)]] 90) :: sB yb db wb lb fb size start sl n capc SX) V) :
    MGo Try.prog link.tWg Wg (shP yb fb n Away) (scP yb fb size start sl n capc dc) 1 (resW wb n size start dsH) P' 0 K (G (b28f.at ⟨#[x0, .pointer (some ⟨yb, 0, none⟩), .pointer (some ⟨db, 0, none⟩), .pointer (some ⟨wb, 0, none⟩), .pointer (some ⟨Wg, 0, none⟩), x5, .pointer (some ⟨onb, 0, none⟩), x7, x8, x9, x10, .slice (some ⟨lb, 0, none⟩) 2 2, .int .i64 2, .int .i64 1, .bool true, .pointer (some ⟨lb, 2, none⟩), .agg #[.pointer (some ⟨wb, 0, none⟩), .func (.func 45) #[] #[.pointer (some ⟨yb, 0, none⟩)]], x17, .func (.func 47) #[] #[.pointer (some ⟨Wg, 0, none⟩), .pointer (some ⟨yb, 0, none⟩), .pointer (some ⟨onb, 0, none⟩)], x19, x20, x21, x22], []⟩ (.inRegion (opsO (r28 Try.f28 6)) [1] :: k6 Try.f28)) cs) V w := by
  refine ⟨rfl, rfl, _, _, st_spawn1 yb db wb Wg lb onb x0 x5 x7 x8 x9 x10 x17 x19 x20 x21 x22 cs w, rfl, ?_⟩
  intro cls n' hK hV hSh hn' hWgc htn
  have mine : ∀ (b : Nat) (c : Array Value) (e : TypeId), (b, Obj.cells c e) ∈ ((onb, .cells #[.pointer (some ⟨wb, 0, none⟩), .func (.func 45) #[] #[.pointer (some ⟨yb, 0, none⟩)]] 90) :: sB yb db wb lb fb size start sl n capc SX) → c ≠ #[] → cls b = .mine 0 ∧ w.heap[b]? = some (.cells c e) := fun b c e hp hc => by
    have h1 := heap_of hV (hF.at hp)
    exact ⟨open_mine h1 hc, seen_mine h1 (open_mine h1 hc)⟩
  obtain ⟨o1, o2⟩ := mine onb _ 90 (List.Mem.head _) (by simp)
  obtain ⟨u1, u2⟩ := mine wb _ 60 (List.Mem.tail _ (List.Mem.tail _ (List.Mem.tail _ (List.Mem.head _)))) (by simp)
  have hx : ∀ p ∈ SX, p.1 ≠ fb → cls p.1 = .mine 0 ∧ w.heap[p.1]? = some (.cells p.2.1 p.2.2) := fun p hp hpf => mine p.1 p.2.1 p.2.2 (by simp only [sB, List.mem_cons, List.mem_map, List.mem_filter]; exact .inr (.inr (.inr (.inr ⟨p, ⟨hp, by simpa using hpf⟩, rfl⟩)))) (hX p hp).1
  obtain ⟨y0, y1, y2⟩ := hSh.all yb (.inl rfl)
  have y2 : w.heap[yb]? = some (yObj size start sl n capc) := by rw [y2]; unfold scP; rw [if_pos rfl]
  have hf : 0 < n → cls fb = .shared ∧ w.heap[fb]? = scP yb fb size start sl n capc dc fb := fun h0 => (hSh.all fb (.inr ⟨h0, rfl⟩)).2
  have lt : ∀ {b : Nat} {o : Obj}, w.heap[b]? = some o → b < w.heap.size := fun h => (Array.getElem?_eq_some_iff.1 h).1
  have ne : ∀ {b b' : Nat} {c c' : Array Value} {e e' : TypeId}, w.heap[b]? = some (.cells c e) → w.heap[b']? = some (.cells c' e') → (e ≠ e' ∨ c.size ≠ c'.size) → b ≠ b' := fun h h' hc e => by
    rw [e, h'] at h
    cases h
    rcases hc with hc | hc <;> exact hc rfl
  let cls' : Nat → Cls := fun b => if b = wb ∨ b = onb then .mine n' else cls b
  have c_wk : ∀ b, (b = wb ∨ b = onb) → cls' b = .mine n' := fun b h => by show (if _ then _ else _) = _; rw [if_pos h]
  have c_el : ∀ b, ¬ (b = wb ∨ b = onb) → cls' b = cls b := fun b h => by show (if _ then _ else _) = _; rw [if_neg h]
  have hmine : ∀ b, cls' b = .mine 0 → cls b = .mine 0 := fun b h => by
    by_cases h2 : b = wb ∨ b = onb
    · rw [c_wk b h2] at h; cases h; omega
    · rw [c_el b h2] at h; exact h
  have c_sh : ∀ b, cls b = .shared → cls' b = .shared := fun b h => by
    rw [c_el b]
    · exact h
    · rintro (e | e)
      · rw [e, u1] at h; cases h
      · rw [e, o1] at h; cases h
  have htm : Tidy (view cls' 0 w) := tidy_view fun b o' hb ho => ht b o' (by rw [hV]; exact seen_at ho (hmine b hb))
  have htw : Tidy (view cls' n' w) := tidy_view fun b o' hb ho => by
    by_cases h2 : b = wb ∨ b = onb
    · rcases h2 with rfl | rfl
      · rw [u2] at ho; cases ho; trivial
      · rw [o2] at ho; cases ho; trivial
    · rw [c_el b h2] at hb
      exact htn b o' (seen_at ho hb)
  refine ⟨cls', fun b => ?_, ⟨fun b hb => ?_, fun b hb => ?_, fun b hb => ?_⟩, htm, htw, ⟨m, ?_⟩, ?_⟩
  · by_cases h2 : b = wb ∨ b = onb
    · refine .inr ⟨?_, ?_, .inl (c_wk b h2)⟩
      · rcases h2 with rfl | rfl
        · exact u1
        · exact o1
      · rcases h2 with rfl | rfl
        · exact lt u2
        · exact lt o2
    · exact .inl (c_el b h2)
  · obtain ⟨a1, a2, a3⟩ := hSh.all b hb
    exact ⟨a1, c_sh b a2, a3⟩
  · obtain ⟨a1, a2⟩ := hSh.away b hb
    refine ⟨?_, a2⟩
    rw [c_el b]
    · exact a1
    · rintro (e | e)
      · rw [e, u1] at a1; cases a1
      · rw [e, o1] at a1; cases a1
  · by_cases h2 : b = wb ∨ b = onb
    · rw [c_wk b h2] at hb; cases hb
    · rw [c_el b h2] at hb
      exact hSh.only b hb
  · refine hN _ _ htm ?_
    intro p hp
    simp only [sC, List.mem_map, List.mem_filter] at hp
    obtain ⟨q, ⟨hq, hqf⟩, rfl⟩ := hp
    obtain ⟨q1, q2⟩ := hx q hq (by simpa using hqf)
    refine seen_at q2 ?_
    show cls' q.1 = _
    rw [c_el q.1 (by rintro (e | e); exact ne q2 u2 (.inl (hX q hq).2.1) e; exact ne q2 o2 (.inl (hX q hq).2.2) e)]
    exact q1
  · refine worker45 (capc := capc) (fr1 := (0, 3)) (fr2 := (0, 0)) (fr4 := (0, dc.size)) hy htw ⟨?_, fun h0 => ?_, ?_, ?_⟩
    · exact seen_frz y2 (c_sh yb y1)
    · have h1 := (hf h0).2
      have hne : fb ≠ yb := hfy h0
      have h2 : w.heap[fb]? = some (.cells dc 59) := by rw [h1]; unfold scP; rw [if_neg hne, if_pos rfl]
      exact seen_frz h2 (c_sh fb (hf h0).1)
    · exact seen_at o2 (c_wk onb (.inr rfl))
    · exact seen_at u2 (c_wk wb (.inl rfl))
end Go.Proofs.Ytpolipcicfjkiaa.Cy
/- The caller's whole script. Conditions: none. -/
namespace Go.Proofs.Ytpolipcicfjkiaa.Cy
open Go Go.Conc Go.RowKit Go.Proofs Go.Conc.Lib Go.ConcR.Gen
open Go.ConcN (WgLive)
open Go.ConcN.Gen Go.ConcN

theorem gv_mono {P : Program} {main still : Bool} {ty Wg : Nat} {St St' : Nat → (Nat → Prop) → Goroutine → World → World → Prop} (hst : ∀ d K g V w, St d K g V w → St' d K g V w) : ∀ {n d : Nat} {K : Nat → Prop} {g : Goroutine} {V : World}, GV P main still ty Wg St n d K g V → GV P main still ty Wg St' n d K g V
  | 0, _, _, _, _, h => fun K₁ V₁ w e r l => hst _ _ _ _ _ (h K₁ V₁ w e r l)
  | n + 1, d, K, g, V, h => by
    rcases h with h | ⟨hs, h⟩
    · exact .inl fun K₁ V₁ w e r l => hst _ _ _ _ _ (h K₁ V₁ w e r l)
    · refine .inr ⟨hs, fun K₁ V₁ w e r l => ?_⟩
      obtain ⟨g', w', V', es, h1, h2, h3⟩ := h K₁ V₁ w e r l
      exact ⟨g', w', V', es, h1, h2, gv_mono hst h3⟩

section
variable {P : Program} {ty Wg : Nat} {Anch Anch' : Goroutine → (Nat → Prop) → World → Prop} {FinM FinM' : Goroutine → (Nat → Prop) → World → Prop}
theorem macq_mono (hM : ∀ g K V, FinM g K V → FinM' g K V) {d : Nat} {K : Nat → Prop} {g : Goroutine} {V w : World} (h : MAcq P Wg FinM d K g V w) : MAcq P Wg FinM' d K g V w := by
  obtain ⟨h1, h2, g', h3, h4⟩ := h
  exact ⟨h1, h2, g', h3, hM _ _ _ h4⟩
theorem mlast_mono (hM : ∀ g K V, FinM g K V → FinM' g K V) {d : Nat} {K : Nat → Prop} {g : Goroutine} {V w : World} (h : MLast P ty Wg FinM d K g V w) : MLast P ty Wg FinM' d K g V w := by
  obtain ⟨h1, h2, h3⟩ := h
  refine ⟨h1, h2, fun hw => ?_⟩
  obtain ⟨g', h4, m, h5⟩ := h3 hw
  exact ⟨g', h4, m, gv_mono (fun _ _ _ _ _ h => macq_mono hM h) h5⟩
theorem msem_mono (hM : ∀ g K V, FinM g K V → FinM' g K V) {d : Nat} {K : Nat → Prop} {g : Goroutine} {V w : World} (h : MSem P ty Wg FinM d K g V w) : MSem P ty Wg FinM' d K g V w := by
  obtain ⟨h1, h2, h3, h4, h5⟩ := h
  refine ⟨h1, h2, h3, h4, fun hw => ?_⟩
  obtain ⟨g', h6, m, h7⟩ := h5 hw
  exact ⟨g', h6, m, gv_mono (fun _ _ _ _ _ h => mlast_mono hM h) h7⟩
theorem mcas_mono (hA : ∀ g K V, Anch g K V → Anch' g K V) (hM : ∀ g K V, FinM g K V → FinM' g K V) {vs d : Nat} {K : Nat → Prop} {g : Goroutine} {V w : World} (h : MCas P ty Wg Anch FinM vs d K g V w) : MCas P ty Wg Anch' FinM' vs d K g V w := by
  obtain ⟨h1, h2, h3, h4⟩ := h
  refine ⟨h1, h2, h3, fun v hv hw => ?_⟩
  obtain ⟨h5, h6⟩ := h4 v hv hw
  refine ⟨fun e => ?_, fun e => ?_⟩
  · obtain ⟨g', h7, m, h8⟩ := h5 e
    exact ⟨g', h7, m, gv_mono (fun _ _ _ _ _ h => msem_mono hM h) h8⟩
  · obtain ⟨g', h7, m, h8⟩ := h6 e
    exact ⟨g', h7, m, gv_mono (fun _ _ _ _ _ h => ⟨h.1, h.2.1, hA _ _ _ h.2.2⟩) h8⟩
theorem mload_mono (hA : ∀ g K V, Anch g K V → Anch' g K V) (hM : ∀ g K V, FinM g K V → FinM' g K V) {d : Nat} {K : Nat → Prop} {g : Goroutine} {V w : World} (h : MLoad P ty Wg Anch FinM d K g V w) : MLoad P ty Wg Anch' FinM' d K g V w := by
  obtain ⟨h1, h2, h3⟩ := h
  refine ⟨h1, h2, fun v hv hw => ?_⟩
  obtain ⟨g', h4, h5, h6⟩ := h3 v hv hw
  refine ⟨g', h4, fun e => ?_, fun e => ?_⟩
  · obtain ⟨m, h7⟩ := h5 e
    exact ⟨m, gv_mono (fun _ _ _ _ _ h => macq_mono hM h) h7⟩
  · obtain ⟨m, h7⟩ := h6 e
    exact ⟨m, gv_mono (fun _ _ _ _ _ h => mcas_mono hA hM h) h7⟩
end

/-- A call, as a step. -/
theorem stepG_callf {P : Program} {main : Bool} {b : Frame} {a : Act} {k : List Item} {cs : List Frame} {w : World} {ops : Array Oper} {i : Nat} {rest : List Nat} {o : Oper} {f : FuncId} {fn : Func} {c : Code} {args : Array Operand} {ats : Array TypeId} {tm : Array Value}
    (ho : ops[i]? = some o) (hw : Region.wanted o (yielded ops a.tmps) = true) (hk : b.kind ≠ .early) (hop : o.op = .call { callee := .value (.func f), args, argTypes := ats })
    (hf : P.funcs[f]? = some fn) (hname : (fn.name == "runtime.NumGoroutine") = false) (hb : fn.body = some c) (htm : args.map a.eval ++ Array.replicate (fn.ntmps - (args.map a.eval).size) undef = tm) :
    stepG P main (G (b.at a (.inRegion ops (i :: rest) :: k)) cs) w = .go (G ((base f).at { tmps := tm, defers := [] } [.code c]) (b.at a (.inRegion ops (i :: rest) :: k) :: cs)) w #[] := by
  have hb' : fn.body.isNone = false := by rw [hb]; rfl
  rw [stepG_enter ho hw hk (run_call_body hop hf hname hb'), enter_at _ hf hb]
  have : listed P b.fn a o w = #[] := by unfold listed; rw [events_call_body hop hf hname hb']; exact seen_none P _
  rw [this, htm]

theorem st_add {a : Act} {cs : List Frame} {w : World} {Wg : Nat} (ha : a.eval (.tmp 4) = .pointer (some ⟨Wg, 0, none⟩)) : stepG Try.prog true (G (b28f.at a (.inRegion (opsO (r28 Try.f28 5)) [0] :: k5 Try.f28)) cs) w =
    .go (G ((base link.add).at ⟨#[.pointer (some ⟨Wg, 0, none⟩), .int .i64 1] ++ Array.replicate 115 undef, []⟩ [.code (body_add link)]) (b28f.at a (.inRegion (opsO (r28 Try.f28 5)) [0] :: k5 Try.f28) :: cs)) w #[] := by
  obtain ⟨o, h1, h2, h3⟩ : ∃ o : Oper, (opsO (r28 Try.f28 5))[0]? = some o ∧ o.op = .call { callee := .value (.func 46), args := #[.tmp 4, .const (.int .i64 1)], argTypes := #[87, 3] } ∧ o.guard = none := ⟨_, rfl, rfl, rfl⟩
  exact stepG_callf h1 (by simp [Region.wanted, h3]) (by decide) h2 wgLib.f_add (nm_add link) (by rfl) (by
    have : (addFn link).ntmps = 117 := rfl
    simp [Act.eval] at *
    simp [ha, this])
theorem st_wait {a : Act} {cs : List Frame} {w : World} {Wg : Nat} (ha : a.eval (.tmp 4) = .pointer (some ⟨Wg, 0, none⟩)) : stepG Try.prog true (G (b28f.at a (.inRegion (opsO (r28 Try.f28 8)) [0] :: k8 Try.f28)) cs) w =
    .go (G ((base link.wait).at ⟨#[.pointer (some ⟨Wg, 0, none⟩)] ++ Array.replicate 83 undef, []⟩ [.code (body_wait link)]) (b28f.at a (.inRegion (opsO (r28 Try.f28 8)) [0] :: k8 Try.f28) :: cs)) w #[] := by
  obtain ⟨o, h1, h2, h3⟩ : ∃ o : Oper, (opsO (r28 Try.f28 8))[0]? = some o ∧ o.op = .call { callee := .value (.func 50), args := #[.tmp 4], argTypes := #[87] } ∧ o.guard = none := ⟨_, rfl, rfl, rfl⟩
  exact stepG_callf h1 (by simp [Region.wanted, h3]) (by decide) h2 wgLib.f_wait (nm_wait link) (by rfl) (by
    have : (waitFn link).ntmps = 84 := rfl
    simp [Act.eval] at *
    simp [ha, this])
end Go.Proofs.Ytpolipcicfjkiaa.Cy
/- The caller's whole script, from the group's allocation to Wait. Conditions: none. -/
namespace Go.Proofs.Ytpolipcicfjkiaa.Cy
open Go Go.Conc Go.RowKit Go.Proofs Go.Conc.Lib Go.ConcR.Gen
open Go.ConcN (WgLive)
open Go.ConcN.Gen Go.ConcN

/-- What both's own frame holds for good. -/
def At28 (yb db wb Wg : Nat) (a : Act) : Prop := ∃ x0 x5 x6 x7 x8 x9 x10 x11 x12 x13 x14 x15 x16 x17 x18 x19 x20 x21 x22 : Value, a = ⟨#[x0, .pointer (some ⟨yb, 0, none⟩), .pointer (some ⟨db, 0, none⟩), .pointer (some ⟨wb, 0, none⟩), .pointer (some ⟨Wg, 0, none⟩), x5, x6, x7, x8, x9, x10, x11, x12, x13, x14, x15, x16, x17, x18, x19, x20, x21, x22], []⟩
def fvP (fb : Nat) (SX : List (Nat × Array Value × TypeId)) (_ : Nat → Prop) (V : World) : Prop := Stand' (sC fb SX) V
theorem fvP_keeps (fb : Nat) (SX : List (Nat × Array Value × TypeId)) : Keeps (fvP fb SX) := fun _ _ _ _ h e => Stand'.ext h e
def anchP (yb db wb Wg fb : Nat) (SX : List (Nat × Array Value × TypeId)) (cs : List Frame) (g : Goroutine) (K : Nat → Prop) (V : World) : Prop :=
  ∃ a8, At28 yb db wb Wg a8 ∧ AnchF link Wg (b28f.at a8 (.inRegion (opsO (r28 Try.f28 8)) [0] :: k8 Try.f28)) cs (fvP fb SX) g K V
def finP (yb db wb Wg fb : Nat) (SX : List (Nat × Array Value × TypeId)) (cs : List Frame) (g : Goroutine) (K : Nat → Prop) (V : World) : Prop :=
  ∃ a8, At28 yb db wb Wg a8 ∧ FinW Try.prog link.tWg Wg (IsG (G (b28f.at a8 (.inRegion (opsO (r28 Try.f28 8)) [] :: k8 Try.f28)) cs)) (fvP fb SX) g K V
def resP (db wb n : Nat) (size start : Int) (dsL dsH : List (Int × Int)) (j : Nat) : (Nat → Prop) → World → Prop := match j with
  | 0 => resW db n size start dsL
  | _ => resW wb n size start dsH

theorem anch_both {yb db wb Wg fb : Nat} {SX : List (Nat × Array Value × TypeId)} {cs : List Frame} (g : Goroutine) (K : Nat → Prop) (V : World) (h : anchP yb db wb Wg fb SX cs g K V) (ht : Tidy V) :
    ∃ m, GV Try.prog true false link.tWg Wg (MLoad Try.prog link.tWg Wg (anchP yb db wb Wg fb SX cs) (finP yb db wb Wg fb SX cs)) m 1 K g V := by
  obtain ⟨a8, h8, h⟩ := h
  obtain ⟨m, hm⟩ := anch_load wgLib (fvP_keeps fb SX) g K V h ht
  refine ⟨m, gv_mono (fun _ _ _ _ _ h => mload_mono (fun _ _ _ h => ⟨a8, h8, h⟩) (fun _ _ _ h => ⟨_, ?_, h⟩) h) hm⟩
  obtain ⟨o, h1, h2⟩ : ∃ o : Oper, (opsO (r28 Try.f28 8))[0]? = some o ∧ o.dst = some 20 := ⟨_, rfl, rfl⟩
  obtain ⟨x0, x5, x6, x7, x8, x9, x10, x11, x12, x13, x14, x15, x16, x17, x18, x19, x20, x21, x22, rfl⟩ := h8
  rw [h1]
  simp only [Option.bind_some, h2]
  exact ⟨_, _, _, _, _, _, _, _, _, _, _, _, _, _, _, _, _, _, _, rfl⟩

set_option maxRecDepth 100000 in
set_option maxHeartbeats 4000000 in
/-- THE CALLER's SCRIPT. -/
theorem gv_both {Away : Bool → Nat → Prop} {Wg yb db wb fb : Nat} {size start : Int} {sl : Option Addr} {o n capc : Nat} {dc : Array Value} {dsL dsH : List (Int × Int)} {SX : List (Nat × Array Value × TypeId)} {cs : List Frame} {ops1 : Array Oper}
    (hL : YearOK fb sl o n dc 0 dsL) (hH : YearOK fb sl o n dc 1 dsH) (hX : Rows59 SX) (hfb : 0 < n → (fb, dc, 59) ∈ SX) (hXy : ∀ p ∈ SX, p.1 ≠ yb) (hdw : db ≠ wb)
    (x0 x5 x6 x7 x8 x9 x10 x11 x12 x13 x14 x15 x16 x17 x18 x19 x20 x21 x22 : Value) (K : Nat → Prop) (V : World) (ht : Tidy V) (hF : Stand' ((yb, yObj size start sl n capc) :: (db, nil60) :: (wb, nil60) :: SX.map row59) V) :
    ∃ N, GV Try.prog true false link.tWg Wg (M0 Try.prog link.tWg Wg (anchP yb db wb Wg fb SX cs) (shP yb fb n Away) (scP yb fb size start sl n capc dc) (resP db wb n size start dsL dsH)) N 0 K
      (G (b28f.at ⟨#[x0, .pointer (some ⟨yb, 0, none⟩), .pointer (some ⟨db, 0, none⟩), .pointer (some ⟨wb, 0, none⟩), .pointer (some ⟨Wg, 0, none⟩), x5, x6, x7, x8, x9, x10, x11, x12, x13, x14, x15, x16, x17, x18, x19, x20, x21, x22], []⟩ [.inRegion ops1 [], .code (.seq (m28 Try.f28) (e28 Try.f28))]) cs) V := by
  obtain ⟨o5, h51, h52⟩ : ∃ o : Oper, (opsO (r28 Try.f28 5))[0]? = some o ∧ o.dst = some 17 := ⟨_, rfl, rfl⟩
  refine ⟨_, g_a 242 _ yb db wb Wg x0 x5 x6 x7 x8 x9 x10 x11 x12 x13 x14 x15 x16 x17 x18 x19 x20 x21 x22 ops1 cs _ 0 K V ht hF fun lb onb K V ht hF => ?_⟩
  refine gv_ctl rfl (fun w => st_add (Wg := Wg) (by simp [Act.eval])) ht hF (fun K V ht hF => ?_)
  refine gv_add (m := 3) wgLib ht fun K₁ V₁ e1 ht => ?_
  replace hF := hF.ext e1
  clear e1
  rw [h51]
  simp only [Option.bind_some, h52]
  refine g_go0 0 _ yb db wb Wg lb onb x0 x5 (.func (.func 44) #[] #[.pointer (some ⟨yb, 0, none⟩)]) (.agg #[.pointer (some ⟨db, 0, none⟩), .func (.func 44) #[] #[.pointer (some ⟨yb, 0, none⟩)]]) (.func (.func 45) #[] #[.pointer (some ⟨yb, 0, none⟩)]) (.agg #[.pointer (some ⟨wb, 0, none⟩), .func (.func 45) #[] #[.pointer (some ⟨yb, 0, none⟩)]]) (.tuple #[]) x18 x19 x20 x21 x22 cs _ 0 _ _ ht hF fun K V ht hF => GV.stop fun K₁ V₁ w e r l => ?_
  refine mgo0 (m := 270) (o := o) hL hX hfb hdw hXy (fun K V ht hF => ?_) (ht.ext e r) (hF.ext e)
  refine GV.mono (g_c 242 _ yb db wb Wg lb onb (List.mem_cons_self ..) x0 x5 (.func (.func 44) #[] #[.pointer (some ⟨yb, 0, none⟩)]) (.agg #[.pointer (some ⟨db, 0, none⟩), .func (.func 44) #[] #[.pointer (some ⟨yb, 0, none⟩)]]) (.func (.func 45) #[] #[.pointer (some ⟨yb, 0, none⟩)]) (.agg #[.pointer (some ⟨wb, 0, none⟩), .func (.func 45) #[] #[.pointer (some ⟨yb, 0, none⟩)]]) (.tuple #[]) (.func (.func 47) #[] #[.pointer (some ⟨Wg, 0, none⟩), .pointer (some ⟨yb, 0, none⟩), .pointer (some ⟨onb, 0, none⟩)]) x19 x20 x21 x22 cs _ 0 K V ht hF fun onc K V ht hF => ?_) (by omega)
  refine gv_ctl rfl (fun w => st_add (Wg := Wg) (by simp [Act.eval])) ht hF (fun K V ht hF => ?_)
  refine gv_add (m := 3) wgLib ht fun K₁ V₁ e1 ht => ?_
  replace hF := hF.ext e1
  clear e1
  rw [h51]
  simp only [Option.bind_some, h52]
  refine g_go1 0 _ yb db wb Wg lb onc x0 x5 (.func (.func 44) #[] #[.pointer (some ⟨yb, 0, none⟩)]) (.agg #[.pointer (some ⟨db, 0, none⟩), .func (.func 44) #[] #[.pointer (some ⟨yb, 0, none⟩)]]) (.func (.func 45) #[] #[.pointer (some ⟨yb, 0, none⟩)]) (.agg #[.pointer (some ⟨wb, 0, none⟩), .func (.func 45) #[] #[.pointer (some ⟨yb, 0, none⟩)]]) (.tuple #[]) (.func (.func 47) #[] #[.pointer (some ⟨Wg, 0, none⟩), .pointer (some ⟨yb, 0, none⟩), .pointer (some ⟨onb, 0, none⟩)]) (.int .i64 1) x20 x21 x22 cs _ 0 _ _ ht hF fun K V ht hF => GV.stop fun K₁ V₁ w e r l => ?_
  refine mgo1 (m := 270) (o := o) hH hX (fun h0 => hXy _ (hfb h0)) (fun K V ht hF => ?_) (ht.ext e r) (hF.ext e)
  refine GV.mono (g_e 242 _ yb db wb Wg lb onc x0 x5 (.func (.func 44) #[] #[.pointer (some ⟨yb, 0, none⟩)]) (.agg #[.pointer (some ⟨db, 0, none⟩), .func (.func 44) #[] #[.pointer (some ⟨yb, 0, none⟩)]]) (.func (.func 45) #[] #[.pointer (some ⟨yb, 0, none⟩)]) (.agg #[.pointer (some ⟨wb, 0, none⟩), .func (.func 45) #[] #[.pointer (some ⟨yb, 0, none⟩)]]) (.tuple #[]) (.func (.func 47) #[] #[.pointer (some ⟨Wg, 0, none⟩), .pointer (some ⟨yb, 0, none⟩), .pointer (some ⟨onc, 0, none⟩)]) (.int .i64 1) x20 x21 x22 cs _ 0 K V ht hF fun K V ht hF => ?_) (by omega)
  refine gv_ctl rfl (fun w => st_wait (Wg := Wg) (by simp [Act.eval])) ht hF (fun K V ht hF => ?_)
  refine gv_mono (fun _ _ _ _ _ h => ⟨h.1, h.2.1, _, ?_, h.2.2⟩) (gv_wait wgLib (fvP_keeps fb SX) ht hF)
  exact ⟨_, _, _, _, _, _, _, _, _, _, _, _, _, _, _, _, _, _, _, rfl⟩
end Go.Proofs.Ytpolipcicfjkiaa.Cy
/- The machine between the phases: the caller in its view, beside leavers; a tree carried out there. Conditions: none. -/
namespace Go.Proofs.Ytpolipcicfjkiaa.Cy
open Go Go.Conc
open Go.ConcN (sumTo)

/-- The caller, alone but for leavers. -/
structure MS (Shun : Loc → Prop) (gs : Array Goroutine) (w : World) (t : Trace) (cls : Nat → Cls) (fr : Frame) (fs : List Frame) : Prop where
  h0 : gs[0]? = some (G fr fs)
  leav : ∃ q, Leavers Try.prog t gs q
  past : Past Shun w.heap.size t
  two : ∀ b, cls b = .none ∨ cls b = .mine 0
  shun : ∀ l, Shun l → ∃ a : Addr, l = .cell a ∧ cls a.block = .none ∧ ∃ c e fr, w.heap[a.block]? = some (.cells c e fr)
  tidy : Tidy (view cls 0 w)

/-- What is new is the caller's. -/
def clsN (cls : Nat → Cls) (B b : Nat) : Cls := if b < B then cls b else .mine 0

theorem runNT_add {P : Program} : ∀ (N M : Nat) (m m' : Machine) (t t' : Trace), runNT P N m t = (.next m', t') → runNT P (N + M) m t = runNT P M m' t'
  | 0, M, m, m', t, t', h => by
    simp only [runNT, Prod.mk.injEq, Stepped.next.injEq] at h
    obtain ⟨rfl, rfl⟩ := h
    rw [Nat.zero_add]
  | N + 1, M, m, m', t, t', h => by
    have e : N + 1 + M = (N + M) + 1 := by omega
    rw [e]
    simp only [runNT] at h ⊢
    split at h
    · rename_i m1 ops he
      exact runNT_add N M m1 m' _ t' h
    · rename_i e1 ops hne he
      simp only [Prod.mk.injEq] at h
      obtain ⟨rfl, rfl⟩ := h
      exact absurd rfl (hne _)

theorem shuns_two {cls : Nat → Cls} {w : World} {Shun : Loc → Prop} (h : ∀ l, Shun l → ∃ a : Addr, l = .cell a ∧ cls a.block = .none ∧ ∃ c e fr, w.heap[a.block]? = some (.cells c e fr)) : Shuns Shun (Kf cls 0 w) (view cls 0 w) := by
  intro l hl
  obtain ⟨a, rfl, hc, c, e, fr, hb⟩ := h l hl
  have hlt := (Array.getElem?_eq_some_iff.1 hb).1
  have hv : (view cls 0 w).heap[a.block]? = some (.cells #[] e fr) := by
    rw [view_get, hb]
    simp [seenO, hc, closeO]
  refine ⟨a, rfl, ⟨hlt, by rw [hc]; exact fun e => by cases e⟩, fun x => ⟨?_, ?_⟩⟩
  · unfold World.cell?
    simp [hv]
  · unfold World.cell?
    cases a with
    | mk bl off spot => simp at hv ⊢; rw [hv]; cases spot <;> simp

/-- A TREE CARRIED OUT BETWEEN THE PHASES. -/
theorem tree_ms {Stop : Frame → List Frame → World → Prop} {Shun : Loc → Prop} {gs : Array Goroutine} {w : World} {sl : Option (Nat × Nat)} {t : Trace} {cls : Nat → Cls} {fr : Frame} {fs : List Frame} (h : MS Shun gs w t cls fr fs)
    (ht : Tree Try.progTables PA.funcs Try.funcs Stop fr fs (view cls 0 w)) :
    ∃ (N : Nat) (gs' : Array Goroutine) (w' : World) (sl' : Option (Nat × Nat)) (t' : Trace) (fr' : Frame) (fs' : List Frame) (v' : World),
      runNT Try.prog N (crowd gs w sl) t = (.next (crowd gs' w' sl'), t') ∧ MS Shun gs' w' t' (clsN cls w.heap.size) fr' fs' ∧ Stop fr' fs' v' ∧ v'.heap = (view (clsN cls w.heap.size) 0 w').heap ∧ v'.os = w'.os ∧ w.heap.size ≤ w'.heap.size ∧ w'.output = w.output ∧ w'.tape = w.tape ∧ w'.os = w.os ∧ ∀ b, b < w.heap.size → cls b = .none → w'.heap[b]? = w.heap[b]? := by
  obtain ⟨q, hq⟩ := h.leav
  obtain ⟨N, gs', fr', fs', v', w', sl', t', q', a1, a2, a3, a4, a5, a6, a7, a8, a9, a10, a11, a12, a13⟩ := tree_beside PA.shuts ht (sumTo gs.size q) gs w sl t q (Nat.le_refl _) h.h0 hq h.past h.tidy (view_rel cls 0 w) (shuns_two h.shun)
  have hsz : w.heap.size ≤ w'.heap.size := by rw [view_size] at a10; rw [← a8.size]; exact a10
  have hheap : v'.heap = (view (clsN cls w.heap.size) 0 w').heap := by
    apply Array.ext_getElem?
    intro b
    by_cases hk : Kf cls 0 w b
    · have hc : clsN cls w.heap.size b = .none := by
        unfold clsN
        rw [if_pos hk.1]
        exact (h.two b).resolve_right hk.2
      rw [(a9 b hk).1, view_get, view_get, (a9 b hk).2]
      have hc2 : cls b = .none := (h.two b).resolve_right hk.2
      cases w.heap[b]? <;> simp [seenO, hc, hc2]
    · have hc : clsN cls w.heap.size b = .mine 0 := by
        unfold clsN
        split
        · rename_i hb
          rcases h.two b with e | e
          · exact absurd ⟨hb, by rw [e]; exact fun e => by cases e⟩ hk
          · exact e
        · rfl
      rw [a8.same b hk, view_get]
      cases w'.heap[b]? <;> simp [seenO, hc]
  refine ⟨N, gs', w', sl', t', fr', fs', v', a1, ⟨a3, ⟨q', a5⟩, a6, fun b => ?_, fun l hl => ?_, ?_⟩, a4, hheap, a8.os, hsz, a11, a12, a13, fun b hb hc => (a9 b ⟨hb, by rw [hc]; exact fun e => by cases e⟩).2⟩
  · unfold clsN
    split
    · exact h.two b
    · exact .inr rfl
  · obtain ⟨a, rfl, hc, c, e, frz, hb⟩ := h.shun l hl
    have hlt := (Array.getElem?_eq_some_iff.1 hb).1
    have hk : Kf cls 0 w a.block := ⟨hlt, by rw [hc]; exact fun e => by cases e⟩
    refine ⟨a, rfl, by unfold clsN; rw [if_pos hlt]; exact hc, c, e, frz, by rw [(a9 _ hk).2]; exact hb⟩
  · intro b o ho
    rw [← hheap] at ho
    exact a7 b o ho
end Go.Proofs.Ytpolipcicfjkiaa.Cy

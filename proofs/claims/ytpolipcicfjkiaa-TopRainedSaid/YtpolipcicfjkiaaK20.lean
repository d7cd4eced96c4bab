/- A worker, in company, in the view. Conditions: none. -/
import Derived.Test.YtpolipcicfjkiaaK19
import Derived.Conc.Own2
namespace Go.Proofs.Ytpolipcicfjkiaa.Cy
open Go Go.Conc Go.RowKit Go.Proofs

theorem wpC_range {P : Program} {main : Bool} {R : World → World → Prop} {D : World → World → Array Event → Prop} (T : Terms R D) {fn : FuncId} {Q : Exit → Act → World → Prop} {a : Act} {w : World} {g : Operand} {ps : Array Tmp} {asg body : Code} {gf : Nat} {lb : Array Value} {n : Nat}
    (hg : a.eval g = .func (.func gf) #[] lb) 
    (h : ∀ w₁, R w w₁ → ∀ W1 : World, W1 = (w₁.alloc (.deferred (some []))).alloc (.loop { state := .ready, pending := none, fn := fn, tmps := a.tmps, params := ps, assign := asg, body, defers := w₁.heap.size }) → D w₁ W1 #[] ∧ ∀ vs : Array Value, (#[Value.func (.yield (w₁.heap.size + 1)) #[] #[]] : Array Value) ++ lb = vs → CallsC P main R D gf vs n W1 (fun _ w' => ∀ w₂, R w' w₂ →
      ∃ r, w₂.heap[w₁.heap.size + 1]? = some (.loop r) ∧ r.state ≠ .busy ∧ r.pending = none ∧ D w₂ (w₂.putObj (w₁.heap.size + 1) (.loop { r with state := .exhausted })) (seen P fn ((Instr.endLoop (w₁.heap.size + 1)).events P w₂ #[])) ∧
        Q .normal ⟨a.tmps, { target := .collected w₁.heap.size, args := #[] } :: a.defers⟩ (w₂.putObj (w₁.heap.size + 1) (.loop { r with state := .exhausted })))) :
    (Code.rangeFunc g ps asg body).wpC P main R D fn (n + 4) Q a w := by
  intro b k cs Stop m hb hk hc
  have e : m + (n + 4) = m + n + 4 := by omega
  rw [e]
  subst hb
  refine goes_range T (n := n) (m := m) hk hg fun w₁ h₁ => ?_
  obtain ⟨h2, h3⟩ := h w₁ h₁ _ rfl
  refine ⟨h2, (h3 _ rfl).mono fun v w' q w₂ h4 => ?_⟩
  obtain ⟨r, q1, q2, q3, q4, q5⟩ := q w₂ h4
  exact ⟨r, q1, q2, q3, q4, hc _ _ _ q5⟩

theorem body_ok {kr : Nat} (h : ∀ (l sb ob onb Dk : Nat) (fnv : Value) (fro : Nat × Nat) (x0 x1 x4 x5 x6 x7 x8 x9 x10 x11 x12 x13 x14 x15 x16 x17 x18 x19 x20 x21 x22 x23 x24 x25 x26 x27 : Value)
    (rows : List (Int × Int × Int)) (lv lack over : Int) (S : List (Nat × Obj)) (w : World), rows.length < 366 → JB l (recOf Try.f47 #[x0, x1, .pointer (some ⟨onb, 0, none⟩), .pointer (some ⟨sb, 0, none⟩), x4, x5, x6, x7, x8, x9, x10, x11, x12, x13, x14, x15, x16, x17, x18, x19, x20, x21, x22, x23, x24, x25, x26, x27] Dk) sb ob onb fnv fro rows w → Keep S w →
    RoundC PA.prog false Env DN l (recOf Try.f47 #[x0, x1, .pointer (some ⟨onb, 0, none⟩), .pointer (some ⟨sb, 0, none⟩), x4, x5, x6, x7, x8, x9, x10, x11, x12, x13, x14, x15, x16, x17, x18, x19, x20, x21, x22, x23, x24, x25, x26, x27] Dk) #[.int .i64 rows.length, .agg #[.int .i64 lv, .int .i64 lack, .int .i64 over]] kr w fun w' => JB l (recOf Try.f47 #[x0, x1, .pointer (some ⟨onb, 0, none⟩), .pointer (some ⟨sb, 0, none⟩), x4, x5, x6, x7, x8, x9, x10, x11, x12, x13, x14, x15, x16, x17, x18, x19, x20, x21, x22, x23, x24, x25, x26, x27] Dk) sb ob onb fnv fro (rows ++ [(lv, lack, over)]) w' ∧ Keep S w')
    (l sb ob onb Dk : Nat) (fnv : Value) (fro : Nat × Nat) (x0 x1 x4 x5 x6 x7 x8 x9 x10 x11 x12 x13 x14 x15 x16 x17 x18 x19 x20 x21 x22 x23 x24 x25 x26 x27 : Value) : BodyOk kr (JB l (recOf Try.f47 #[x0, x1, .pointer (some ⟨onb, 0, none⟩), .pointer (some ⟨sb, 0, none⟩), x4, x5, x6, x7, x8, x9, x10, x11, x12, x13, x14, x15, x16, x17, x18, x19, x20, x21, x22, x23, x24, x25, x26, x27] Dk) sb ob onb fnv fro) l (recOf Try.f47 #[x0, x1, .pointer (some ⟨onb, 0, none⟩), .pointer (some ⟨sb, 0, none⟩), x4, x5, x6, x7, x8, x9, x10, x11, x12, x13, x14, x15, x16, x17, x18, x19, x20, x21, x22, x23, x24, x25, x26, x27] Dk) where
  rely := fun _rows _w _w₁ ⟨v, h, hz⟩ e => ⟨v, h.rely e, hz⟩
  more := fun _rows _w _c _e ⟨v, h, hz⟩ => ⟨v, h.alloc _, hz⟩
  set := fun _rows _w _cb _i _v _c _e _fr ⟨v', h, hz⟩ hb h3 h60 h70 h90 => ⟨v', h.setTy hb h3 h60 h70 h90, hz⟩
  loop := fun _rows _w ⟨_v, h, _hz⟩ => h.lp
  two := rfl
  round := fun rows lv lack over S w h1 h2 h3 => h l sb ob onb Dk fnv fro x0 x1 x4 x5 x6 x7 x8 x9 x10 x11 x12 x13 x14 x15 x16 x17 x18 x19 x20 x21 x22 x23 x24 x25 x26 x27 rows lv lack over S w h1 h2 h3

def restOf (f : Func) : Code := match f.body with | some (.seq _ y) => y | _ => .skip

/-- What a worker finds at its beginning. -/
structure HS (yb db ob onb : Nat) (size start : Int) (sl : Option Addr) (n capc gf : Nat) (dc : Array Value) (fr1 fr2 fr4 : Nat × Nat) (w : World) : Prop where
  year : w.heap[yb]? = some (.cells #[.int .i64 size, .int .i64 start, .slice sl n capc] 24 fr1)
  days : 0 < n → w.heap[db]? = some (.cells dc 59 fr4)
  one : w.heap[onb]? = some (.cells #[.pointer (some ⟨ob, 0, none⟩), .func (.func gf) #[] #[.pointer (some ⟨yb, 0, none⟩)]] 90 fr2)
  out : w.heap[ob]? = some (.cells #[.slice none 0 0] 60)
theorem HS.rely {yb db ob onb : Nat} {size start : Int} {sl : Option Addr} {n capc gf : Nat} {dc : Array Value} {fr1 fr2 fr4 : Nat × Nat} {w w₁ : World} (h : HS yb db ob onb size start sl n capc gf dc fr1 fr2 fr4 w) (r : Env w w₁) : HS yb db ob onb size start sl n capc gf dc fr1 fr2 fr4 w₁ :=
  ⟨env_at r h.year, fun h0 => env_at r (h.days h0), env_at r h.one, env_at r h.out⟩
theorem HS.alloc {yb db ob onb : Nat} {size start : Int} {sl : Option Addr} {n capc gf : Nat} {dc : Array Value} {fr1 fr2 fr4 : Nat × Nat} {w : World} (h : HS yb db ob onb size start sl n capc gf dc fr1 fr2 fr4 w) (x : Obj) : HS yb db ob onb size start sl n capc gf dc fr1 fr2 fr4 (w.alloc x) :=
  ⟨(hb_old ⟨h.year⟩ x).blk, fun h0 => (hb_old ⟨h.days h0⟩ x).blk, (hb_old ⟨h.one⟩ x).blk, (hb_old ⟨h.out⟩ x).blk⟩
/-- .. with the sum's variable. -/
structure HSS (sb : Nat) (yb db ob onb : Nat) (size start : Int) (sl : Option Addr) (n capc gf : Nat) (dc : Array Value) (fr1 fr2 fr4 : Nat × Nat) (w : World) : Prop where
  sum : w.heap[sb]? = some (.cells #[.int .i64 0] 3)
  hs : HS yb db ob onb size start sl n capc gf dc fr1 fr2 fr4 w
theorem HSS.rely {sb yb db ob onb : Nat} {size start : Int} {sl : Option Addr} {n capc gf : Nat} {dc : Array Value} {fr1 fr2 fr4 : Nat × Nat} (w w₁ : World) (h : HSS sb yb db ob onb size start sl n capc gf dc fr1 fr2 fr4 w) (r : Env w w₁) : HSS sb yb db ob onb size start sl n capc gf dc fr1 fr2 fr4 w₁ :=
  ⟨env_at r h.sum, h.hs.rely r⟩
theorem HSS.alloc {sb yb db ob onb : Nat} {size start : Int} {sl : Option Addr} {n capc gf : Nat} {dc : Array Value} {fr1 fr2 fr4 : Nat × Nat} (w : World) (c : Array Value) (e : TypeId) (h : HSS sb yb db ob onb size start sl n capc gf dc fr1 fr2 fr4 w) : HSS sb yb db ob onb size start sl n capc gf dc fr1 fr2 fr4 (w.alloc (Obj.cells c e)) :=
  ⟨(hb_old ⟨h.sum⟩ _).blk, h.hs.alloc _⟩

theorem HSS.set {sb yb db ob onb : Nat} {size start : Int} {sl : Option Addr} {n capc gf : Nat} {dc : Array Value} {fr1 fr2 fr4 : Nat × Nat} {w : World} (h : HSS sb yb db ob onb size start sl n capc gf dc fr1 fr2 fr4 w) (_h59 : True := trivial) : HSS sb yb db ob onb size start sl n capc gf dc fr1 fr2 fr4 (w.setCell ⟨sb, 0, none⟩ (.int .i64 0)) := by
  have hne : ∀ (b : Nat) (o : Obj), w.heap[b]? = some o → (∀ c fr, o ≠ .cells c 3 fr) → b ≠ sb := fun b o hb ho e => by rw [e, h.sum] at hb; cases hb; exact ho _ _ rfl
  exact ⟨set_blk h.sum, ⟨heap_set_ne h.hs.year (hne _ _ h.hs.year (by intro _ _ e; cases e)), fun h0 => heap_set_ne (h.hs.days h0) (hne _ _ (h.hs.days h0) (by intro _ _ e; cases e)), heap_set_ne h.hs.one (hne _ _ h.hs.one (by intro _ _ e; cases e)), heap_set_ne h.hs.out (hne _ _ h.hs.out (by intro _ _ e; cases e))⟩⟩

theorem runD_length (cap : Int) : ∀ (ds : List (Int × Int)) (lv : Int), (runD cap lv ds).length = ds.length
  | [], _ => rfl
  | d :: ds, lv => by simp [runD, runD_length cap ds]

/-- What a worker leaves. -/
def Left (ob n : Nat) (xs : List Value) (w : World) : Prop := ∃ v : Value, w.heap[ob]? = some (Obj.cells #[v] 60) ∧ w.ownsRow 0 70 3 v n xs ∧ (n = 0 → v = .slice none 0 0)

set_option maxRecDepth 100000 in
set_option maxHeartbeats 4000000 in
theorem w47 (k4 yb db ob onb : Nat) (size start : Int) (sl : Option Addr) (o n capc gf off : Nat) (hsl : 0 < n → sl = some ⟨db, o, none⟩) (dc : Array Value) (fr1 fr2 fr4 : Nat × Nat) (ds : List (Int × Int)) (dd : Deferred) (wgv : Value) (hn : ds.length = n) (hn366 : n ≤ 366)
    (hd : ∀ (i : Nat) (d : Int × Int), ds[i]? = some d → dc[o + i * 3 + off]? = some (.int .i64 d.1) ∧ dc[o + i * 3 + 2]? = some (.int .i64 d.2) ∧ (∃ x, dc[o + i * 3]? = some (.int .i64 x)) ∧ ∃ x, dc[o + i * 3 + 1]? = some (.int .i64 x))
    (hr4 : ∀ (F : World → Prop) (_ : ∀ w w₁, F w → Env w w₁ → F w₁) (i : Nat) (lo : Int) (w : World), i < n → HYF F yb db o n capc i off lo w →
      CallsC PA.prog false Env DN gf #[.int .i64 i, .pointer (some ⟨yb, 0, none⟩)] k4 w fun v w' => v = .int .i64 lo ∧ HYF F yb db o n capc i off lo w') :
    ∃ k, ∀ w : World, HS yb db ob onb size start sl n capc gf dc fr1 fr2 fr4 w →
      (restOf Try.f47).wpC PA.prog false Env DN 47 k (fun e a' w' => e = .normal ∧ ∃ (Dk sb : Nat) (s : Int), a'.defers = [{ target := .collected Dk, args := #[] }, dd] ∧ w'.heap[Dk]? = some (.deferred (some [])) ∧ w'.heap[sb]? = some (.cells #[.int .i64 s] 3) ∧
        Left ob n (accD 0 (runD size (if size < start then size else start) ds)) w')
        ⟨#[wgv, .pointer (some ⟨yb, 0, none⟩), .pointer (some ⟨onb, 0, none⟩), undef, undef, undef, undef, undef, undef, undef, undef, undef, undef, undef, undef, undef, undef, undef, undef, undef, undef, undef, undef, undef, undef, undef, undef, undef], [dd]⟩ w := by
  obtain ⟨kr, hround⟩ := round47
  obtain ⟨kf, hrun⟩ := f72_co kr k4 n
  obtain ⟨kn, hnew⟩ := f49_co false
  have hbody := body_ok hround
  clear hround
  co_apply Exists.intro
  intro w hF
  unfold restOf
  simp only [Try.f47]
  co_apply wpC_seq env_terms
  co_reg env_terms
  co_opw HS.rely hF (skip) (refine dn_new ?_; co_evs (intro r; simp))
  rename_i W
  replace hF : HSS W.heap.size yb db ob onb size start sl n capc gf dc fr1 fr2 fr4 _ := ⟨(hb_new W (.cells #[.int .i64 0] 3)).blk, hF.alloc _⟩
  generalize W.heap.size = sb at hF ⊢
  generalize W.alloc (.cells #[.int .i64 0] 3) = W' at hF ⊢
  co_opw (HSS.rely _ _) hF (have hc := cell_blk (i := 0) hF.sum rfl; have hz := thaw_blk (i := 0) hF.sum) (refine dn_cells (own_setCell hF.sum) ?_; co_evs (intro r; simp))
  replace hF := hF.set
  clear hc hz
  co_apply opsC_nil env_terms
  co_then
  co_apply wpC_seq env_terms
  co_reg env_terms
  co_opw (HSS.rely _ _) hF (have hc0 := cell_blk (i := 0) hF.hs.year rfl; have hc1 := cell_blk (i := 1) hF.hs.year rfl; have hc2 := cell_blk (i := 2) hF.hs.year rfl) (refine dn_still ?_; intro e he; have hm := mem_listed he; simp [go_sem, *] at hm; rcases hm with rfl | rfl | rfl <;> (intro r; simp))
  clear hc0 hc1 hc2
  co_op (HSS.rely _ _) hF (co_quiet env_terms)
  co_opw (HSS.rely _ _) hF (have hc := cell_blk (i := 1) hF.hs.one rfl) (refine dn_still ?_; co_evs (intro r; simp))
  clear hc
  co_apply opsC_call1 env_terms rfl (by rfl) rfl (hnew _ HSS.rely HSS.alloc (.int .i64 size) (.int .i64 start) (.slice sl n capc) gf yb _ hF) (by simp [Act.eval])
  rintro _ w4 ⟨b1, b2, rfl, hF4⟩
  clear hF
  walk_nrm
  co_apply opsC_nil env_terms
  co_then
  co_apply wpC_block env_terms
  co_apply wpC_range env_terms rfl
  intro w5 hR5 W6 hW6
  replace hF4 := HBF.rely HSS.rely hF4 hR5
  clear hR5
  generalize hrec : (({ state := .ready, pending := none, fn := 47, tmps := _, params := _, assign := _, body := _, defers := w5.heap.size } : Loop)) = rec at hW6
  have hDk : W6.heap[w5.heap.size]? = some (.deferred (some [])) := by rw [hW6]; exact (hb_old (hb_new w5 _) _).blk
  have hl : W6.heap[w5.heap.size + 1]? = some (.loop rec) := by
    rw [hW6]
    have := hb_new (w5.alloc (.deferred (some []))) (.loop rec)
    simpa using this.blk
  have hold : ∀ (b : Nat) (o : Obj), w5.heap[b]? = some o → W6.heap[b]? = some o := fun b o hb => by rw [hW6]; exact (hb_old (hb_old ⟨hb⟩ _) _).blk
  refine ⟨by rw [hW6]; exact ⟨own_trans (own_alloc (.deferred _ _)) (own_alloc (.loop _ _)), fun e he => by simp at he⟩, fun vs hvs => ?_⟩
  have hvs : vs = #[.func (.yield (w5.heap.size + 1)) #[] #[], .pointer (some ⟨b1, 0, none⟩), .pointer (some ⟨b2, 0, none⟩)] := by rw [← hvs]; simp
  subst hvs
  clear hW6
  generalize w5.heap.size + 1 = l at hl ⊢
  generalize w5.heap.size = Dk at hrec hDk ⊢
  obtain rfl : rec = recOf Try.f47 #[wgv, .pointer (some ⟨yb, 0, none⟩), .pointer (some ⟨onb, 0, none⟩), .pointer (some ⟨sb, 0, none⟩), undef, undef, .agg #[.int .i64 size, .int .i64 start, .slice sl n capc], .pointer (some ⟨onb, 1, none⟩), .func (.func gf) #[] #[.pointer (some ⟨yb, 0, none⟩)], .func (.func 72) #[] #[.pointer (some ⟨b1, 0, none⟩), .pointer (some ⟨b2, 0, none⟩)], undef, undef, undef, undef, undef, undef, undef, undef, undef, undef, undef, undef, undef, undef, undef, undef, undef, undef] Dk := hrec.symm
  clear hrec
  obtain ⟨T, hT1, hT2⟩ : ∃ T : List (Nat × Obj), (∀ p ∈ T, 0 < n ∧ p = (db, .cells dc 59 fr4)) ∧ (0 < n → (db, .cells dc 59 fr4) ∈ T) := by
    by_cases h0 : 0 < n
    · exact ⟨[(db, .cells dc 59 fr4)], fun p hp => ⟨h0, List.mem_singleton.1 hp⟩, fun _ => List.mem_cons_self ..⟩
    · exact ⟨[], fun p hp => (by cases hp), fun h => absurd h h0⟩
  have hS0 : Keep ((b1, .cells #[.int .i64 size, .int .i64 start, .slice sl n capc] 24) :: (b2, .cells #[.func (.func gf) #[] #[.pointer (some ⟨yb, 0, none⟩)]] 89) :: (yb, .cells #[.int .i64 size, .int .i64 start, .slice sl n capc] 24 fr1) :: (Dk, .deferred (some [])) :: T) W6 := by
    intro p hp
    simp only [List.mem_cons] at hp
    rcases hp with rfl | rfl | rfl | rfl | hp
    · exact ⟨hold _ _ hF4.both.one.blk, ap_cells (by decide) (by decide) (by decide)⟩
    · exact ⟨hold _ _ hF4.both.two.blk, ap_cells (by decide) (by decide) (by decide)⟩
    · exact ⟨hold _ _ hF4.more.hs.year, ap_cells (by decide) (by decide) (by decide)⟩
    · exact ⟨hDk, ap_def⟩
    · obtain ⟨h0, rfl⟩ := hT1 p hp
      exact ⟨hold _ _ (hF4.more.hs.days h0), ap_cells (by decide) (by decide) (by decide)⟩
  have hJ0 : JB l (recOf Try.f47 #[wgv, .pointer (some ⟨yb, 0, none⟩), .pointer (some ⟨onb, 0, none⟩), .pointer (some ⟨sb, 0, none⟩), undef, undef, .agg #[.int .i64 size, .int .i64 start, .slice sl n capc], .pointer (some ⟨onb, 1, none⟩), .func (.func gf) #[] #[.pointer (some ⟨yb, 0, none⟩)], .func (.func 72) #[] #[.pointer (some ⟨b1, 0, none⟩), .pointer (some ⟨b2, 0, none⟩)], undef, undef, undef, undef, undef, undef, undef, undef, undef, undef, undef, undef, undef, undef, undef, undef, undef, undef] Dk) sb ob onb (.func (.func gf) #[] #[.pointer (some ⟨yb, 0, none⟩)]) fr2 [] W6 :=
    ⟨.slice none 0 0, ⟨hl, hold _ _ hF4.more.sum, hold _ _ hF4.more.hs.one, hold _ _ hF4.more.hs.out, World.ownsRow_nil _ _ _ _⟩, fun _ => rfl⟩
  have h120 : No120 ((b1, .cells #[.int .i64 size, .int .i64 start, .slice sl n capc] 24) :: (b2, .cells #[.func (.func gf) #[] #[.pointer (some ⟨yb, 0, none⟩)]] 89) :: (yb, .cells #[.int .i64 size, .int .i64 start, .slice sl n capc] 24 fr1) :: (Dk, .deferred (some [])) :: T) := by
    intro p hp c fr
    simp only [List.mem_cons] at hp
    rcases hp with rfl | rfl | rfl | rfl | hp
    any_goals (intro e; cases e)
    obtain ⟨h0, rfl⟩ := hT1 p hp
    intro e; cases e
  refine (hrun _ l _ (hbody l sb ob onb Dk (.func (.func gf) #[] #[.pointer (some ⟨yb, 0, none⟩)]) fr2 (wgv) (.pointer (some ⟨yb, 0, none⟩)) undef undef (.agg #[.int .i64 size, .int .i64 start, .slice sl n capc]) (.pointer (some ⟨onb, 1, none⟩)) (.func (.func gf) #[] #[.pointer (some ⟨yb, 0, none⟩)]) (.func (.func 72) #[] #[.pointer (some ⟨b1, 0, none⟩), .pointer (some ⟨b2, 0, none⟩)]) undef undef undef undef undef undef undef undef undef undef undef undef undef undef undef undef undef undef) _ h120 b1 b2 db o capc yb gf off sl hsl size start ds dc (0, 0) (0, 0) fr1 fr4 hn hn366 (by simp) (by simp) ⟨.int .i64 size, .int .i64 start, by simp⟩ (fun h0 => by simp [hT2 h0]) hd hr4 W6 ⟨hJ0, hS0⟩).mono ?_
  rintro _ w7 ⟨⟨v, hJ, hv⟩, hK⟩ w8 h8
  replace hJ := hJ.rely h8
  replace hK := hK.rely h8
  refine ⟨_, hJ.lp, by simp [recOf], rfl, dn_loop hJ.lp (ev_endLoop hJ.lp (by simp [recOf])), ?_⟩
  co_then
  have hlen : (runD size (if size < start then size else start) ds).length = n := by rw [runD_length]; exact hn
  refine ⟨trivial, Dk, sb, _, rfl, (hK.putLoop hJ.lp).at (by simp), (hJ.putLoop _).sm, v, (hJ.putLoop _).out, ?_, fun h0 => hv (List.eq_nil_of_length_eq_zero (by omega))⟩
  have := (hJ.putLoop { recOf Try.f47 #[wgv, .pointer (some ⟨yb, 0, none⟩), .pointer (some ⟨onb, 0, none⟩), .pointer (some ⟨sb, 0, none⟩), undef, undef, .agg #[.int .i64 size, .int .i64 start, .slice sl n capc], .pointer (some ⟨onb, 1, none⟩), .func (.func gf) #[] #[.pointer (some ⟨yb, 0, none⟩)], .func (.func 72) #[] #[.pointer (some ⟨b1, 0, none⟩), .pointer (some ⟨b2, 0, none⟩)], undef, undef, undef, undef, undef, undef, undef, undef, undef, undef, undef, undef, undef, undef, undef, undef, undef, undef] Dk with state := .exhausted }).row
  rw [hlen] at this
  exact this
end Go.Proofs.Ytpolipcicfjkiaa.Cy
/- A worker, from its birth to Done's mark of release. Conditions: none. -/
namespace Go.Proofs.Ytpolipcicfjkiaa.Cy
open Go Go.Conc Go.RowKit Go.Proofs

/-- What lies below a worker's own frame. -/
def botF (n : Nat) : Frame := { (default : Frame) with fn := n, defers := [], mode := .panicking [goexitEntry] }
def codeOf (f : Func) : Code := match f.body with | some c => c | none => .skip
def call47 (a b c : Value) : Deferred := { target := .fn (.func 47) #[a, b, c], args := #[] }

theorem born_step (a b c : Value) (w : World) : stepG Try.prog false (born Try.prog (call47 a b c)) w = .go (G ((baseD 47).at ⟨#[a, b, c, undef, undef, undef, undef, undef, undef, undef, undef, undef, undef, undef, undef, undef, undef, undef, undef, undef, undef, undef, undef, undef, undef, undef, undef, undef], []⟩ [.code (codeOf Try.f47)]) [botF Try.prog.funcs.size]) w #[] := by
  have h1 : (Try.f47.name == "runtime.NumGoroutine") = false := by rfl
  have h2 : Try.f47.body = some (codeOf Try.f47) := by rfl
  have h3 := enter_atD (P := Try.prog) (f := 47) #[a, b, c] Try.func47 h2
  have h4 : ¬ Try.f47.name = "runtime.NumGoroutine" := by simpa using h1
  have h5 : Try.f47.ntmps = 28 := rfl
  rw [h5] at h3
  simp only [List.size_toArray, List.length_cons, List.length_nil, Nat.reduceAdd, Nat.reduceSub, Array.replicate_succ, Array.replicate_zero, List.push_toArray, List.append_toArray, List.nil_append, List.cons_append] at h3
  rw [← h3]
  simp [G, born, call47, stepG, unwind, callDeferred, invoke, callFunc, Try.func47, h4, h2, botF, GStep.after, seen_none]

/-- Behind Done a worker only leaves. -/
theorem worker_quits (tm : Array Value) (todo : List Item) : QuitsD Try.prog 2 0 (G { (baseD 47).at ⟨tm, []⟩ todo with mode := .returning } [botF Try.prog.funcs.size]) := by
  refine .inr ⟨rfl, G (botF Try.prog.funcs.size) [], #[], by simp, fun w => ?_, ?_⟩
  · simp [G, stepG, unwind, doReturn, results, Frame.at, baseD, botF, Try.func47, Try.f47, seen, GStep.after, goexitEntry]
  rw [show deafBehind 0 #[] = 0 from rfl]
  refine .inr ⟨rfl, { G (botF Try.prog.funcs.size) [] with status := .finished }, #[], by simp, fun w => ?_, rfl, rfl⟩
  simp [G, stepG, unwind, botF, goexitEntry, Frame.catches]
  try rfl

theorem Left.rely {ob n : Nat} {xs : List Value} {w w₁ : World} (h : Left ob n xs w) (e : Env w w₁) : Left ob n xs w₁ := by
  obtain ⟨v, h1, h2, h3⟩ := h
  exact ⟨v, env_at e h1, ownsRow_of h2 fun g o _ ho => env_at e ho, h3⟩
theorem cells_put {w : World} {D b : Nat} {d : Option (List Deferred)} {o : Obj} (hD : w.heap[D]? = some (.deferred d)) {c : Array Value} {e : TypeId} {fr : Nat × Nat} (hb : w.heap[b]? = some (.cells c e fr)) : (w.putObj D o).heap[b]? = some (.cells c e fr) := by
  rw [World.putObj_heap_other (fun e' => by rw [e', hD] at hb; cases hb)]
  exact hb
theorem Left.put {ob n : Nat} {xs : List Value} {w : World} (h : Left ob n xs w) {D : Nat} {d : Option (List Deferred)} (hD : w.heap[D]? = some (.deferred d)) (o : Obj) : Left ob n xs (w.putObj D o) := by
  obtain ⟨v, h1, h2, h3⟩ := h
  refine ⟨v, cells_put hD h1, ownsRow_of h2 fun g o' hg ho => ?_, h3⟩
  obtain ⟨c, hc⟩ := ownsRow_blk h2 hg
  rw [hc] at ho; cases ho
  exact cells_put hD hc
theorem Left.ext {ob n : Nat} {xs : List Value} {K K₁ : Nat → Prop} {V V₁ : World} (h : Left ob n xs V) (e : Ext K V K₁ V₁) : Left ob n xs V₁ := by
  have k : ∀ {b : Nat} {o : Obj}, V.heap[b]? = some o → V₁.heap[b]? = some o := fun {b o} hb => (e.old b (Array.getElem?_eq_some_iff.1 hb).1).trans hb
  obtain ⟨v, h1, h2, h3⟩ := h
  exact ⟨v, k h1, ownsRow_of h2 fun g o _ ho => k ho, h3⟩

theorem HS.ext {yb db ob onb : Nat} {size start : Int} {sl : Option Addr} {n capc gf : Nat} {dc : Array Value} {fr1 fr2 fr4 : Nat × Nat} {K K₁ : Nat → Prop} {V V₁ : World} (h : HS yb db ob onb size start sl n capc gf dc fr1 fr2 fr4 V) (e : Ext K V K₁ V₁) : HS yb db ob onb size start sl n capc gf dc fr1 fr2 fr4 V₁ := by
  have k : ∀ {b : Nat} {o : Obj}, V.heap[b]? = some o → V₁.heap[b]? = some o := fun {b o} hb => (e.old b (Array.getElem?_eq_some_iff.1 hb).1).trans hb
  exact ⟨k h.year, fun h0 => k (h.days h0), k h.one, k h.out⟩

/-- Where the worker's own walk ends. -/
def End47 (dd : Deferred) (ob n : Nat) (xs : List Value) (fr : Frame) (fs : List Frame) (V : World) : Prop :=
  fs = [] ∧ ∃ (tm : Array Value) (todo : List Item) (sb : Nat) (s : Int), fr = { (baseD 47).at ⟨tm, [dd]⟩ todo with mode := .returning } ∧ V.heap[sb]? = some (.cells #[.int .i64 s] 3) ∧ Left ob n xs V

theorem goes47 {k n ob : Nat} {xs : List Value} {tm : Array Value} {dd : Deferred} {V : World}
    (hw : (restOf Try.f47).wpC PA.prog false Env DN 47 k (fun e a' w' => e = .normal ∧ ∃ (Dk sb : Nat) (s : Int), a'.defers = [{ target := .collected Dk, args := #[] }, dd] ∧ w'.heap[Dk]? = some (.deferred (some [])) ∧ w'.heap[sb]? = some (.cells #[.int .i64 s] 3) ∧ Left ob n xs w') ⟨tm, [dd]⟩ V)
    (b : List Frame) : Goes PA.prog false Env DN (StopOn (End47 dd ob n xs) b) (2 + k) (G ((baseD 47).at ⟨tm, [dd]⟩ [.code (restOf Try.f47)]) ([] ++ b)) V := by
  refine hw (baseD 47) [] ([] ++ b) _ 2 rfl (by simp [baseD]) fun e a' w' q => ?_
  obtain ⟨rfl, Dk, sb, s, h1, h2, h3, h4⟩ := q
  obtain ⟨tm', df⟩ := a'
  simp only at h1
  subst h1
  refine Goes.step rfl fun w₁ e1 => ?_
  rw [stepG_end]
  refine ⟨env_terms.idle _, goes_collect (b := baseD 47) (a := ⟨tm', []⟩) (todo := []) (by simp [baseD]) fun w₂ e2 => ?_⟩
  have e3 := env_terms.trans _ _ _ e1 e2
  have h2' := env_at e3 h2
  refine ⟨h2', dn_take h2' (ev_take h2'), fun w₃ e4 => ⟨_, [], rfl, rfl, tm', [], sb, s, rfl, ?_, ?_⟩⟩
  · exact env_at e4 (cells_put h2' (env_at e3 h3))
  · exact ((h4.rely e3).put h2' _).rely e4

theorem gv_vain {P : Program} {main still : Bool} {ty Wg n d : Nat} {St : Nat → (Nat → Prop) → Goroutine → World → World → Prop} {K : Nat → Prop} {g : Goroutine} {V : World} (h : ∀ K₁ V₁ w, Ext K V K₁ V₁ → Rel K₁ V₁ w → False) : GV P main still ty Wg St n d K g V :=
  GV.stop fun K₁ V₁ w e r _ => (h K₁ V₁ w e r).elim

/-- A block of cells that are seen, and may be written, is no kept one. -/
theorem not_kept {K : Nat → Prop} {V w : World} (r : Rel K V w) {b : Nat} {x : Value} {c : Array Value} {e : TypeId} (hb : V.heap[b]? = some (.cells (#[x] ++ c) e)) : ¬ K b := by
  intro hk
  obtain ⟨o, o', h1, _, hd⟩ := r.dim b hk
  rw [hb] at h1
  cases h1
  generalize hq : Obj.cells (#[x] ++ c) e = q at hd
  cases hd with
  | empty => simp at hq
  | froz => injection hq with h1 h2 h3; rw [← h1] at h3; first | (simp at h3; done) | (simp at h3; omega)
  | keep o h => subst hq; simp at h
  | _ => cases hq

/-- Done, behind the worker's own walk. -/
theorem gv_end47 {ob n Wg : Nat} {xs : List Value} {d : Nat} (hd0 : d = 0) (fr : Frame) (fs : List Frame) (K : Nat → Prop) (V : World) (ht : Tidy V) (h : End47 (dcall 48 #[.pointer (some ⟨Wg, 0, none⟩)]) ob n xs fr fs V) :
    GV Try.prog false false link.tWg Wg (WRel Try.prog link.tWg Wg (fun _ V => Left ob n xs V)) 121 d K (G fr (fs ++ [botF Try.prog.funcs.size])) V := by
  letI : Go.ConcR.Payload := ⟨3⟩
  subst hd0
  obtain ⟨rfl, tm, todo, sb, s, rfl, hsb, hL⟩ := h
  refine .inr ⟨rfl, fun K₁ V₁ w e r l => ⟨_, w, V₁, #[], stepG_unwind_enter (a := ⟨tm, _⟩) rfl wgLib.f_done (by rfl) (by rfl), ⟨soft_still r (ht.ext e r) (by simp), fun e => by cases e⟩, ?_⟩⟩
  have hlt := (Array.getElem?_eq_some_iff.1 hsb).1
  have hsb1 : V₁.heap[sb]? = some (.cells #[.int .i64 s] 3) := (e.old sb hlt).trans hsb
  have hpin : Pin sb (.cells #[.int .i64 s] 3) K₁ V₁ := ⟨hsb1, not_kept (x := .int .i64 s) (c := #[]) r (by simpa using hsb1)⟩
  have hne : sb ≠ Wg := by
    rintro rfl
    obtain ⟨st, sm, hw⟩ := l
    have := hpin.rel r
    rw [hw] at this
    cases this
  exact gv_done wgLib (qt := 2) (fun _ _ _ _ h e => h.ext e) (by rfl) (worker_quits tm todo) hne (ht.ext e r) hpin (hL.ext e) (fun w hw => cell_blk (i := 0) hw rfl) ⟨w, l, hpin.rel r⟩

/-- A WORKER, FROM ITS BIRTH. -/
theorem gv_worker {Wg yb db ob onb : Nat} {size start : Int} {sl : Option Addr} {n capc gf : Nat} {dc : Array Value} {fr1 fr2 fr4 : Nat × Nat} {ds : List (Int × Int)} {k : Nat} {K : Nat → Prop} {V : World} (ht : Tidy V) (hs : HS yb db ob onb size start sl n capc gf dc fr1 fr2 fr4 V)
    (hw : ∀ w : World, HS yb db ob onb size start sl n capc gf dc fr1 fr2 fr4 w →
      (restOf Try.f47).wpC PA.prog false Env DN 47 k (fun e a' w' => e = .normal ∧ ∃ (Dk sb : Nat) (s : Int), a'.defers = [{ target := .collected Dk, args := #[] }, dcall 48 #[.pointer (some ⟨Wg, 0, none⟩)]] ∧ w'.heap[Dk]? = some (.deferred (some [])) ∧ w'.heap[sb]? = some (.cells #[.int .i64 s] 3) ∧
        Left ob n (accD 0 (runD size (if size < start then size else start) ds)) w')
        ⟨#[.pointer (some ⟨Wg, 0, none⟩), .pointer (some ⟨yb, 0, none⟩), .pointer (some ⟨onb, 0, none⟩), undef, undef, undef, undef, undef, undef, undef, undef, undef, undef, undef, undef, undef, undef, undef, undef, undef, undef, undef, undef, undef, undef, undef, undef, undef], [dcall 48 #[.pointer (some ⟨Wg, 0, none⟩)]]⟩ w) :
    ∃ m, GV Try.prog false false link.tWg Wg (WRel Try.prog link.tWg Wg (fun _ V => Left ob n (accD 0 (runD size (if size < start then size else start) ds)) V)) m 0 K (born Try.prog (call47 (.pointer (some ⟨Wg, 0, none⟩)) (.pointer (some ⟨yb, 0, none⟩)) (.pointer (some ⟨onb, 0, none⟩)))) V := by
  obtain ⟨ops, op, hc, rfl, hop, hg, hdst⟩ : ∃ (ops : Array Oper) (op : Oper), codeOf Try.f47 = .seq (.region 0 ops false) (restOf Try.f47) ∧ ops = #[op] ∧ op.op = .defer { callee := .value (.func 48), args := #[.tmp 0], argTypes := #[87] } ∧ op.guard = none ∧ op.dst = none := ⟨_, _, rfl, rfl, rfl, rfl, rfl⟩
  have hD : deafBehind 0 #[] = 0 := rfl
  refine ⟨2 + k + 121 + 1 + 1 + 1 + 1 + 1, .inr ⟨rfl, fun K₁ V₁ w e r l => ⟨_, w, V₁, #[], born_step _ _ _ w, ⟨soft_still r (ht.ext e r) (by simp), fun e => by cases e⟩, ?_⟩⟩⟩
  have ht := ht.ext e r
  have hs1 : HS yb db ob onb size start sl n capc gf dc fr1 fr2 fr4 V₁ := hs.ext e
  clear hs
  rw [hD, hc]
  refine .inr ⟨rfl, fun K₂ V₂ w e r l => ⟨_, w, V₂, #[], stepG_seq, ⟨soft_still r (ht.ext e r) (by simp), fun e => by cases e⟩, ?_⟩⟩
  have ht := ht.ext e r
  have hs2 := hs1.ext e
  clear hs1
  rw [hD]
  refine .inr ⟨rfl, fun K₃ V₃ w e r l => ⟨_, w, V₃, #[], stepG_region, ⟨soft_still r (ht.ext e r) (by simp), fun e => by cases e⟩, ?_⟩⟩
  have ht := ht.ext e r
  have hs3 := hs2.ext e
  clear hs2
  rw [hD]
  refine .inr ⟨rfl, fun K₄ V₄ w e r l => ⟨_, w, V₄, #[], stepG_defer (o := op) rfl (by simp [Region.wanted, hg]) (by simp [baseD]) hop, ⟨soft_still r (ht.ext e r) (by simp), fun e => by cases e⟩, ?_⟩⟩
  have ht := ht.ext e r
  have hs4 := hs3.ext e
  clear hs3
  rw [hD, hdst]
  walk_nrm
  refine .inr ⟨rfl, fun K₅ V₅ w e r l => ⟨_, w, V₅, #[], stepG_region_end, ⟨soft_still r (ht.ext e r) (by simp), fun e => by cases e⟩, ?_⟩⟩
  have ht := ht.ext e r
  have hs5 := hs4.ext e
  clear hs4
  rw [hD]
  have hgo := goes47 (hw V₅ hs5)
  exact gv_quiet (T := Try.progTables) (F1 := PA.funcs) (F2 := Try.funcs) (B := true) (base := [botF Try.prog.funcs.size]) (m := 121) PA.shuts (S := End47 _ ob n _) (fun fr fs V h ch => by obtain ⟨_, tm, todo, sb, s, rfl, _⟩ := h; simp) (fun fr fs K V _ ht h => gv_end47 rfl fr fs K V ht (h V (Env.refl V))) _ _ [] K₅ V₅ ⟨⟨by simp [baseD, Frame.at], by intro it hit; have := List.mem_singleton.1 hit; subst this; exact by decide +kernel⟩, .inl rfl, by simp, ⟨rfl, [], _, rfl, ⟨48, _, _, rfl, PA.func48, PA.shut_fn _⟩, by simp⟩⟩ ht hgo
end Go.Proofs.Ytpolipcicfjkiaa.Cy
/- A region of operations in a frame whatever its rest, as soft steps. Conditions: none. -/
namespace Go.Proofs.Ytpolipcicfjkiaa.Cy
open Go Go.Conc
open Go.ConcN (WgLive)

section
variable {P : Program} {R : World → World → Prop} {D : World → World → Array Event → Prop} {fn : FuncId} {Q : Act → World → Prop} {a : Act} {w : World}
theorem opsK_cons_k {ops : Array Oper} {i : Nat} {rest : List Nat} {o : Oper} (ho : ops[i]? = some o) (hw : Region.wanted o (yielded ops a.tmps) = true)
    (h : ∀ w₁, R w w₁ → ∀ K : Act → World → Prop, (∀ a' w', D w₁ w' (listed P fn a o w₁) ∧ OpsK P R D fn ops rest Q a' w' → K a' w') → uponK o a K ((execOp a.eval o).run P w₁)) : OpsK P R D fn ops (i :: rest) Q a w := by
  unfold OpsK OpC
  rw [ho]
  simp only [hw, if_true]
  intro w₁ h₁
  exact h w₁ h₁ _ fun _ _ x => x
theorem opsK_nil {ops : Array Oper} (h : Q a w) : OpsK P R D fn ops [] Q a w := h
end

section
variable {T : Tables} {F1 F2 : Array Func} {main : Bool} {ty Wg : Nat} {St : Nat → (Nat → Prop) → Goroutine → World → World → Prop}
theorem gv_of_opsK [FlatEqs T] (hF : Shut' F1 F2) {fn : FuncId} {ops : Array Oper} (hto : ops.toList.all tameOp = true) {b : Frame} {k : List Item} {cs : List Frame} (hb : b.fn = fn) (hk : b.kind ≠ .early) {m d : Nat} {Q : Act → World → Prop} (hQ : ∀ a V V₁, Q a V → Env V V₁ → Q a V₁)
    (hN : ∀ a K V, Tidy V → Q a V → GV (Program.mk T F2) main false ty Wg St m d K (G (b.at a k) cs) V) :
    ∀ (todo : List Nat) (a : Act) (K : Nat → Prop) (V : World), Tidy V → OpsK (Program.mk T F1) Env DN fn ops todo Q a V → GV (Program.mk T F2) main false ty Wg St (m + todo.length + 1) d K (G (b.at a (.inRegion ops todo :: k)) cs) V
  | [], a, K, V, ht, h => .inr ⟨rfl, fun K₁ V₁ w e r l => ⟨_, w, V₁, #[], stepG_region_end, ⟨soft_still r (ht.ext e r) (by simp), fun e => by cases e⟩, by
      rw [show deafBehind d #[] = d from deafBehind_still (by simp) d]
      exact hN a K₁ V₁ (ht.ext e r) (hQ _ _ _ h ⟨(e.env V₁.tape).1, (e.env V₁.tape).2.1, (e.env V₁.tape).2.2⟩)⟩⟩
  | i :: rest, a, K, V, ht, h => by
    refine .inr ⟨rfl, fun K₁ V₁ w e r l => ?_⟩
    have hv1 : Tidy V₁ := ht.ext e r
    have hr' : Rel K₁ (onTape V₁ fun j => w.tape (w.drawn + j)) w := ⟨r.size, r.low, r.same, r.dim, r.os⟩
    have henv : Env V (onTape V₁ fun j => w.tape (w.drawn + j)) := e.env _
    generalize hv : onTape V₁ (fun j => w.tape (w.drawn + j)) = v at hr' henv
    have hvt : Tidy v := by rw [← hv]; exact hv1
    have hd0 : v.drawn = 0 := by rw [← hv]; rfl
    have htape : ∀ j q, v.tape j q = w.tape (w.drawn + j) q := fun j q => by rw [← hv]; rfl
    have hkeep : ∀ b : Nat, v.heap[b]? = V₁.heap[b]? := fun b => by rw [← hv]; rfl
    have hown : ∀ {v' : World}, Own v v' → Own V₁ v' := fun {v'} h => by rw [← hv] at h; exact ⟨h.size, h.old, h.new⟩
    unfold OpsK OpC at h
    split at h
    · exact h.elim
    rename_i o ho
    have hot : tameOp o = true := by
      rw [List.all_eq_true] at hto
      exact hto o (by rw [Array.mem_toList_iff]; exact Array.mem_of_getElem? ho)
    have he := execOp_sim (T := T) (K := K₁) hF.toShut a.eval o hot
    split at h
    · rename_i hw
      have hx := h v henv
      revert hx
      cases hrun : (execOp a.eval o).run (Program.mk T F1) v with
      | halt _ _ => exact fun x => x.elim
      | ok x v' =>
        have hrT : (execOp a.eval o).runT (Program.mk T F1) v #[] = (.ok x v', (execOp a.eval o).events (Program.mk T F1) v #[]) := by rw [Sem.runT_eq, hrun]
        cases x with
        | value y =>
          rintro ⟨hdn, hrest⟩
          obtain ⟨w', hw', hrel, htd, _, hdrew, hevs, _⟩ := he.ok v w hr' hvt _ v' _ hrT (fun j _ q => by rw [hd0, Nat.zero_add]; exact htape j q)
          rw [Sem.runT_eq, Prod.mk.injEq] at hw'
          have hl : listed (Program.mk T F2) b.fn a o w = listed (Program.mk T F1) fn a o v := by
            unfold listed
            rw [hw'.2, hb, seen_eq hF]
          have hall : ∀ x ∈ listed (Program.mk T F1) fn a o v, EvOK K₁ v' x := fun x hx => hevs x (seen_mem _ _ _ hx)
          have hdeaf : deafBehind d (listed (Program.mk T F1) fn a o v) = d := deafBehind_still (fun x hx => by
            have := hall x hx
            unfold EvOK at this
            constructor <;> (intro h; rw [h] at this; cases this)) d
          refine ⟨_, w', v', listed (Program.mk T F1) fn a o v, by rw [← hl]; exact stepG_value ho hw hk hw'.1, ⟨⟨hrel, htd, hown hdn.1, fun b hb => ⟨(hdrew.kept b hb).1.trans (hkeep b), (hdrew.kept b hb).2⟩, fun x hx => .inl ⟨hall x hx, fun r' hr2 => hdn.own hrel hx hr2⟩, ?_, hdrew.out', hdrew.tape'⟩, fun e => by cases e⟩, ?_⟩
          · rw [← hrel.os, hdrew.os]; exact hr'.os
          · rw [hdeaf]
            exact gv_of_opsK hF hto hb hk hQ hN rest _ K₁ v' htd hrest
        | skip =>
          rintro ⟨hdn, hrest⟩
          obtain ⟨w', hw', hrel, htd, _, hdrew, hevs, _⟩ := he.ok v w hr' hvt _ v' _ hrT (fun j _ q => by rw [hd0, Nat.zero_add]; exact htape j q)
          rw [Sem.runT_eq, Prod.mk.injEq] at hw'
          have hl : listed (Program.mk T F2) b.fn a o w = listed (Program.mk T F1) fn a o v := by
            unfold listed
            rw [hw'.2, hb, seen_eq hF]
          have hall : ∀ x ∈ listed (Program.mk T F1) fn a o v, EvOK K₁ v' x := fun x hx => hevs x (seen_mem _ _ _ hx)
          have hdeaf : deafBehind d (listed (Program.mk T F1) fn a o v) = d := deafBehind_still (fun x hx => by
            have := hall x hx
            unfold EvOK at this
            constructor <;> (intro h; rw [h] at this; cases this)) d
          refine ⟨_, w', v', listed (Program.mk T F1) fn a o v, by rw [← hl]; exact stepG_none ho hw hk hw'.1, ⟨⟨hrel, htd, hown hdn.1, fun b hb => ⟨(hdrew.kept b hb).1.trans (hkeep b), (hdrew.kept b hb).2⟩, fun x hx => .inl ⟨hall x hx, fun r' hr2 => hdn.own hrel hx hr2⟩, ?_, hdrew.out', hdrew.tape'⟩, fun e => by cases e⟩, ?_⟩
          · rw [← hrel.os, hdrew.os]; exact hr'.os
          · rw [hdeaf]
            exact gv_of_opsK hF hto hb hk hQ hN rest _ K₁ v' htd hrest
        | _ => exact fun x => x.elim
    · rename_i hw
      refine ⟨_, w, V₁, #[], stepG_unwanted ho (by simpa using hw), ⟨soft_still r hv1 (by simp), fun e => by cases e⟩, ?_⟩
      rw [show deafBehind d #[] = d from deafBehind_still (by simp) d]
      exact GV.ext (gv_of_opsK hF hto hb hk hQ hN rest _ K V ht h) e
end
end Go.Proofs.Ytpolipcicfjkiaa.Cy

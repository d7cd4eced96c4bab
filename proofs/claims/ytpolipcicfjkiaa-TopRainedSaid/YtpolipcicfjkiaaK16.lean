/- The iterator of a year's days, in company, in the view. Conditions: none. -/
import Derived.Test.YtpolipcicfjkiaaK15
import Derived.Test.YtpolipcicfjkiaaK14
namespace Go.Proofs.Ytpolipcicfjkiaa.Cy
open Go Go.Conc Go.RowKit Go.Proofs

theorem rb120 (a b : Int) (w : World) : (Instr.build 120 #[(0, .int .i64 a), (1, .int .i64 b)]).run PA.prog w = .ok (.agg #[.int .i64 a, .int .i64 b]) w := run_build w 120 _ _ (by kernel_rfl)
theorem eb120 (a b : Int) (w : World) (es : Array Event) : (Instr.build 120 #[(0, .int .i64 a), (1, .int .i64 b)]).events PA.prog w es = es := by kernel_rfl
theorem rb70 (a b c : Int) (w : World) : (Instr.build 70 #[(0, .int .i64 a), (1, .int .i64 b), (2, .int .i64 c)]).run PA.prog w = .ok (.agg #[.int .i64 a, .int .i64 b, .int .i64 c]) w := run_build w 70 _ _ (by kernel_rfl)
theorem eb70 (a b c : Int) (w : World) (es : Array Event) : (Instr.build 70 #[(0, .int .i64 a), (1, .int .i64 b), (2, .int .i64 c)]).events PA.prog w es = es := by kernel_rfl

/-- One day of a cistern: what is left, what lacks, what runs over. -/
def stepD (cap lv rain want : Int) : Int × Int × Int :=
  let a := IntKind.i64.wrap (lv + rain)
  let ov := if IntKind.i64.wrap (a - cap) > 0 then IntKind.i64.wrap (a - cap) else 0
  let b := IntKind.i64.wrap (a - ov)
  let m := if b < want then b else want
  (IntKind.i64.wrap (b - m), IntKind.i64.wrap (want - m), ov)
def runD (cap : Int) : Int → List (Int × Int) → List (Int × Int × Int)
  | _, [] => []
  | lv, d :: ds => stepD cap lv d.1 d.2 :: runD cap (stepD cap lv d.1 d.2).1 ds

/-- What is held while the iterator runs: the body's own, and what stands. -/
structure HW (J : World → Prop) (S : List (Nat × Obj)) (w : World) : Prop where
  body : J w
  keep : Keep S w
theorem HW.rely {J : World → Prop} (hJR : ∀ w w₁, J w → Env w w₁ → J w₁) {S : List (Nat × Obj)} {w w₁ : World} (h : HW J S w) (r : Env w w₁) : HW J S w₁ := ⟨hJR _ _ h.body r, h.keep.rely r⟩

/-- .. and the cistern's block is one of its type. -/
structure HW2 (J : World → Prop) (S : List (Nat × Obj)) (cb : Nat) (w : World) : Prop extends HW J S w where
  cis : ∃ c, w.heap[cb]? = some (.cells c 120)
theorem HW2.rely {J : World → Prop} (hJR : ∀ w w₁, J w → Env w w₁ → J w₁) {S : List (Nat × Obj)} {cb : Nat} {w w₁ : World} (h : HW2 J S cb w) (r : Env w w₁) : HW2 J S cb w₁ :=
  ⟨h.toHW.rely hJR r, h.cis.elim fun c h => ⟨c, env_at r h⟩⟩

theorem set_own {w : World} {ad : Addr} {v : Value} {c : Array Value} {e : TypeId} {fr : Nat × Nat} (h : w.heap[ad.block]? = some (.cells c e fr)) : ∃ c', (w.setCell ad v).heap[ad.block]? = some (.cells c' e fr) := by
  unfold World.setCell
  simp only [Array.getElem?_modify, if_true]
  rw [h]
  simp only [Option.map_some]
  split <;> exact ⟨_, rfl⟩

def No120 (S : List (Nat × Obj)) : Prop := ∀ p ∈ S, ∀ c fr, p.2 ≠ .cells c 120 fr
theorem Keep.set120 {S : List (Nat × Obj)} (hS : No120 S) {w : World} (h : Keep S w) {cb i : Nat} {v : Value} {c : Array Value} {fr : Nat × Nat} (hb : w.heap[cb]? = some (.cells c 120 fr)) : Keep S (w.setCell ⟨cb, i, none⟩ v) := by
  intro p hp
  refine ⟨heap_set_ne (h p hp).1 ?_, (h p hp).2⟩
  intro e'
  have h1 := (h p hp).1
  rw [show p.1 = cb from e', hb] at h1
  cases h1' : p.2 with
  | cells c' e fr' => rw [h1'] at h1; cases h1; exact hS p hp _ _ h1'
  | _ => rw [h1'] at h1; cases h1

theorem HW2.set {J : World → Prop} (hJS : ∀ w cb i v c fr, J w → w.heap[cb]? = some (.cells c 120 fr) → J (w.setCell ⟨cb, i, none⟩ v)) {S : List (Nat × Obj)} (hS : No120 S) {cb : Nat} (w : World) (x : Int) (h : HW2 J S cb w) : HW2 J S cb (w.setCell ⟨cb, 1, none⟩ (.int .i64 x)) := by
  obtain ⟨c, hc⟩ := h.cis
  obtain ⟨c', hc'⟩ := set_own (ad := ⟨cb, 1, none⟩) (v := .int .i64 x) hc
  exact ⟨⟨hJS _ _ _ _ _ _ h.body hc, h.keep.set120 hS hc⟩, c', hc'⟩

/-- The body of the loop over the iterator, by what it asks and leaves. -/
structure BodyOk (kr : Nat) (J : List (Int × Int × Int) → World → Prop) (l : Nat) (r : Loop) : Prop where
  rely : ∀ rows w w₁, J rows w → Env w w₁ → J rows w₁
  more : ∀ rows w c e, J rows w → J rows (w.alloc (.cells c e))
  set : ∀ rows w cb i v c e fr, J rows w → w.heap[cb]? = some (.cells c e fr) → e ≠ 3 → e ≠ 60 → e ≠ 70 → e ≠ 90 → J rows (w.setCell ⟨cb, i, none⟩ v)
  loop : ∀ rows w, J rows w → w.heap[l]? = some (.loop r)
  two : r.params.size = 2
  round : ∀ (rows : List (Int × Int × Int)) (lv lack over : Int) (S : List (Nat × Obj)) (w : World), rows.length < 366 → J rows w → Keep S w →
    RoundC PA.prog false Env DN l r #[.int .i64 rows.length, .agg #[.int .i64 lv, .int .i64 lack, .int .i64 over]] kr w fun w' => J (rows ++ [(lv, lack, over)]) w' ∧ Keep S w'

theorem BodyOk.set120 {kr : Nat} {J : List (Int × Int × Int) → World → Prop} {l : Nat} {r : Loop} (hB : BodyOk kr J l r) (rows : List (Int × Int × Int)) : ∀ w cb i v c fr, J rows w → w.heap[cb]? = some (.cells c 120 fr) → J rows (w.setCell ⟨cb, i, none⟩ v) :=
  fun w cb i v c fr h hb => hB.set rows w cb i v c 120 fr h hb (by decide) (by decide) (by decide) (by decide)
theorem RoundC.mono {P : Program} {main : Bool} {R : World → World → Prop} {D : World → World → Array Event → Prop} {l : Nat} {r : Loop} {vs : Array Value} {n : Nat} {w : World} {Post Post' : World → Prop} (h : RoundC P main R D l r vs n w Post) (hp : ∀ w', Post w' → Post' w') : RoundC P main R D l r vs n w Post' :=
  fun c cs Stop m hc => h c cs Stop m fun w' q => hc w' (hp w' q)
/-- Where all stands in a round: the day's own box beside the rest. -/
theorem HW2.day {J : World → Prop} {S : List (Nat × Obj)} {cb tb : Nat} {cap lv : Int} {w : World} (hJS : ∀ w cb i v c e fr, J w → w.heap[cb]? = some (.cells c e fr) → e ≠ 3 → e ≠ 60 → e ≠ 70 → e ≠ 90 → J (w.setCell ⟨cb, i, none⟩ v))
    {c : Array Value} (h : HB1 (HCF (HW2 J S cb) cb cap lv) tb (.cells c 59) w) (hne : ∀ p ∈ S, p.1 ≠ tb) (hcne : cb ≠ tb) (i : Nat) (v : Value) : HB1 (HCF (HW2 J S cb) cb cap lv) tb (.cells (c.setIfInBounds i v) 59) (w.setCell ⟨tb, i, none⟩ v) :=
  ⟨⟨set_blk h.one.blk⟩, ⟨heap_set_ne h.more.blk hcne⟩, ⟨⟨hJS _ _ _ _ _ _ _ h.more.more.body h.one.blk (by decide) (by decide) (by decide) (by decide), h.more.more.keep.set_ne hne⟩, h.more.more.cis.elim fun c h => ⟨c, heap_set_ne h hcne⟩⟩⟩
theorem HW2.join {J : World → Prop} {S : List (Nat × Obj)} {cb tb : Nat} {cap lv : Int} {w : World} {c : Array Value} (h : HB1 (HCF (HW2 J S cb) cb cap lv) tb (.cells c 59) w) : HCF (HW2 J ((tb, .cells c 59) :: S) cb) cb cap lv w :=
  ⟨h.more.toHC, ⟨⟨h.more.more.body, h.more.more.keep.cons h.one.blk (ap_cells (by decide) (by decide) (by decide))⟩, h.more.more.cis⟩⟩
set_option maxRecDepth 100000 in
set_option maxHeartbeats 4000000 in
theorem f72_co (kr k4 n : Nat) : ∃ k, ∀ (J : List (Int × Int × Int) → World → Prop) (l : Nat) (r : Loop) (_ : BodyOk kr J l r) (S : List (Nat × Obj)) (_ : No120 S) (yb fb db o capc y2 gf off : Nat) (sl : Option Addr) (_ : 0 < n → sl = some ⟨db, o, none⟩) (cap start : Int) (ds : List (Int × Int)) (dc : Array Value) (fr1 fr2 fr3 fr4 : Nat × Nat) (_ : ds.length = n) (_ : n ≤ 366)
    (_ : (yb, .cells #[.int .i64 cap, .int .i64 start, .slice sl n capc] 24 fr1) ∈ S) (_ : (fb, .cells #[.func (.func gf) #[] #[.pointer (some ⟨y2, 0, none⟩)]] 89 fr2) ∈ S)
    (_ : ∃ a b, (y2, .cells #[a, b, .slice sl n capc] 24 fr3) ∈ S) (_ : 0 < n → (db, .cells dc 59 fr4) ∈ S)
    (_ : ∀ (i : Nat) (d : Int × Int), ds[i]? = some d → dc[o + i * 3 + off]? = some (.int .i64 d.1) ∧ dc[o + i * 3 + 2]? = some (.int .i64 d.2) ∧ (∃ x, dc[o + i * 3]? = some (.int .i64 x)) ∧ ∃ x, dc[o + i * 3 + 1]? = some (.int .i64 x))
    (_ : ∀ (F : World → Prop) (_ : ∀ w w₁, F w → Env w w₁ → F w₁) (i : Nat) (lo : Int) (w : World), i < n → HYF F y2 db o n capc i off lo w →
      CallsC PA.prog false Env DN gf #[.int .i64 i, .pointer (some ⟨y2, 0, none⟩)] k4 w fun v w' => v = .int .i64 lo ∧ HYF F y2 db o n capc i off lo w')
    (w : World), HW (J []) S w →
    CallsC PA.prog false Env DN 72 #[.func (.yield l) #[] #[], .pointer (some ⟨yb, 0, none⟩), .pointer (some ⟨fb, 0, none⟩)] k w fun _ w' => HW (J (runD cap (if cap < start then cap else start) ds)) S w' := by
  have hme := fun (w : World) (es : Array Event) (x y : Int) => ev_min2 (P := PA.prog) #[3, 3] 3 .i64 .i64 x y w es
  have hrb := rb120
  have heb := eb120
  have hrb7 := rb70
  have heb7 := eb70
  obtain ⟨k3, hr3⟩ := f73_co false
  obtain ⟨k7, hr7⟩ := f74_co false
  co_apply Exists.intro
  intro J l r hB S hS yb fb db o capc y2 gf off sl hsl cap start ds dc fr1 fr2 fr3 fr4 hn hn366 h1 h2 h3 h4 hd hr4 w hF
  obtain ⟨qa, qb, h3⟩ := h3
  have hrr := hB.round
  have hR := fun rows => @HW.rely (J rows) (hB.rely rows) S
  co_apply callsC_of_wpC PA.func72 (by rfl) rfl
  simp only [Try.ntmps72, List.size_toArray, List.length_cons, List.length_nil, Nat.reduceAdd, Nat.reduceSub, Array.replicate_succ, Array.replicate_zero, List.push_toArray, List.append_toArray, List.nil_append, List.cons_append]
  co_apply wpC_seq env_terms
  co_reg env_terms
  co_op (hR []) hF (co_quiet env_terms)
  co_opw (hR []) hF (have hc := hF.keep.cell h1 (i := 0) rfl) (refine dn_still ?_; co_evs (intro r; simp))
  co_op (hR []) hF (co_quiet env_terms)
  co_opw (hR []) hF (have hc := hF.keep.cell h1 (i := 1) rfl) (refine dn_still ?_; co_evs (intro r; simp))
  co_op (hR []) hF (co_quiet env_terms)
  co_opw (hR []) hF (have hc := hF.keep.cell h1 (i := 0) rfl) (refine dn_still ?_; co_evs (intro r; simp))
  clear hc
  co_opw (hR []) hF (skip) (co_still env_terms)
  co_opw (hR []) hF (skip) (rw [listed_nil (by simp [go_sem]; exact heb _ _ _ _)]; exact Terms.idle env_terms _)
  co_opw (hR []) hF (skip) (refine dn_new ?_; co_evs (intro r; simp))
  rename_i W
  have hG : HB1 (HW (J []) S) W.heap.size (.cells #[.int .i64 0, .int .i64 0] 120) _ := ⟨hb_new W _, ⟨hB.more _ _ _ _ hF.body, hF.keep.alloc _⟩⟩
  clear hF
  generalize W.heap.size = cb at hG ⊢
  generalize W.alloc (.cells #[.int .i64 0, .int .i64 0] 120) = W' at hG ⊢
  co_opw (HB1.rely (fun _ _ h r => hR [] h r)) hG (have hc0 := cell_blk (i := 0) hG.one.blk rfl; have hz0 := thaw_blk (i := 0) hG.one.blk; have hb1 := set_blk (i := 0) (v := .int .i64 cap) hG.one.blk; have hc1 := cell_blk (i := 1) hb1 rfl; have hz1 := thaw_blk (i := 1) hb1) (refine dn_cells (own_trans (own_setCell hG.one.blk) (own_setCell hb1)) ?_; intro e he; have hm := mem_listed he; simp [go_sem, *] at hm; rcases hm with rfl | rfl <;> (intro r; simp))
  have hb2 := set_blk (i := 1) (v := .int .i64 (if cap < start then cap else start)) hb1
  have hG2 : HCF (HW2 (J []) S cb) cb cap (if cap < start then cap else start) _ := ⟨⟨hb2⟩, ⟨⟨hB.set _ _ _ _ _ _ _ _ (hB.set _ _ _ _ _ _ _ _ hG.more.body hG.one.blk (by decide) (by decide) (by decide) (by decide)) hb1 (by decide) (by decide) (by decide) (by decide), (hG.more.keep.set120 hS hG.one.blk).set120 hS hb1⟩, _, hb2⟩⟩
  clear hG hb2 hb1 hc0 hz0 hc1 hz1
  have hFR := fun rows => fun (w w₁ : World) (h : HW2 (J rows) S cb w) (r : Env w w₁) => HW2.rely (hB.rely rows) h r
  have hR2 := fun rows lv => @HCF.rely (HW2 (J rows) S cb) (hFR rows) cb cap lv
  co_apply opsC_nil env_terms
  co_then
  co_apply wpC_seq env_terms
  co_reg env_terms
  co_op (hR2 [] _) hG2 (co_quiet env_terms)
  co_opw (hR2 [] _) hG2 (have hc := hG2.more.keep.cell h1 (i := 2) rfl) (refine dn_still ?_; co_evs (intro r; simp))
  clear hc
  co_op (hR2 [] _) hG2 (co_quiet env_terms)
  co_op (hR2 [] _) hG2 (co_quiet env_terms)
  co_apply opsC_nil env_terms
  co_then
  co_apply wpC_block env_terms
  co_apply wpC_loop env_terms (I := fun a w => ∃ (rows : List (Int × Int × Int)) (lv : Int) (rest : List (Int × Int)) (y3 y5 y6 y7 y8 y9 y10 y11 y12 y13 y14 y15 y16 y17 y21 y22 y23 y24 y25 y26 y27 y28 y29 y30 y31 y32 y33 y34 y35 y36 y37 y38 y39 y40 y41 : Value), a = ⟨#[.func (.yield l) #[] #[], .pointer (some ⟨yb, 0, none⟩), .pointer (some ⟨fb, 0, none⟩), y3, .pointer (some ⟨cb, 0, none⟩), y5, y6, y7, y8, y9, y10, y11, y12, y13, y14, y15, y16, y17, .slice sl n capc, .int .i64 n, .int .i64 rows.length, y21, y22, y23, y24, y25, y26, y27, y28, y29, y30, y31, y32, y33, y34, y35, y36, y37, y38, y39, y40, y41], []⟩ ∧ rest = ds.drop rows.length ∧ rows ++ runD cap lv rest = runD cap (if cap < start then cap else start) ds ∧ rows.length ≤ n ∧ HCF (HW2 (J rows) S cb) cb cap lv w) (μ := fun a _ => match a.eval (.tmp 20) with | .int _ x => n - x.toNat | _ => 0) (N := n)
  · exact ⟨[], _, ds, _, _, _, _, _, _, _, _, _, _, _, _, _, _, _, _, _, _, _, _, _, _, _, _, _, _, _, _, _, _, _, _, _, _, _, rfl, rfl, rfl, Nat.zero_le _, hG2⟩
  · simp [Act.eval]
  clear hG2
  rintro a w' ⟨rows, lv, rest, y3, y5, y6, y7, y8, y9, y10, y11, y12, y13, y14, y15, y16, y17, y21, y22, y23, y24, y25, y26, y27, y28, y29, y30, y31, y32, y33, y34, y35, y36, y37, y38, y39, y40, y41, rfl, hrest, htot, hle, hG⟩
  co_apply wpC_seq env_terms
  co_reg env_terms
  co_op (hR2 _ _) hG (co_quiet env_terms)
  co_apply opsC_nil env_terms
  co_then
  co_apply wpC_seq env_terms
  co_split env_terms (decide ((rows.length : Int) < (n : Int)))
  · intro hlt
    have hlt : rows.length < n := by simpa using hlt
    replace h4 := h4 (by omega)
    obtain rfl := hsl (by omega)
    have hn0 : ds[rows.length]? = some ds[rows.length] := List.getElem?_eq_getElem (by omega)
    obtain ⟨d, hdd⟩ : ∃ d, ds[rows.length]? = some d := ⟨_, hn0⟩
    clear hn0
    obtain ⟨e1, e2, ⟨e3, e4⟩, e5, e6⟩ := hd _ _ hdd
    have hrd : rest = d :: ds.drop (rows.length + 1) := by rw [hrest, ← List.getElem_cons_drop (by omega : rows.length < ds.length)]; congr 1; simpa [List.getElem?_eq_getElem (by omega : rows.length < ds.length)] using hdd
    co_apply wpC_skip env_terms
    co_then
    co_apply wpC_seq env_terms
    co_apply wpC_block env_terms
    co_apply wpC_seq env_terms
    co_reg env_terms
    co_op (hR2 _ _) hG (co_quiet env_terms)
    co_opw (hR2 _ _) hG (skip) (co_still env_terms)
    co_opw (hR2 _ _) hG (have hc0 := hG.more.keep.cell h4 e4; have hc1 := hG.more.keep.cell h4 e6; have hc2 := hG.more.keep.cell h4 e2) (refine dn_still ?_; intro e he; have hm := mem_listed he; simp [go_sem, *] at hm; rcases hm with rfl | rfl | rfl <;> (intro r; simp))
    clear hc0 hc1 hc2
    co_opw (hR2 _ _) hG (skip) (refine dn_new ?_; co_evs (intro r; simp))
    rename_i W
    have hne : ∀ p ∈ S, p.1 ≠ W.heap.size := fun p hp => Nat.ne_of_lt (hG.more.keep.lt p hp)
    have hcne : cb ≠ W.heap.size := Nat.ne_of_lt (Array.getElem?_eq_some_iff.1 hG.blk).1
    have hG2 : HB1 (HCF (HW2 (J rows) S cb) cb cap lv) W.heap.size (.cells #[.int .i64 0, .int .i64 0, .int .i64 0] 59) (W.alloc (.cells #[.int .i64 0, .int .i64 0, .int .i64 0] 59)) :=
      ⟨hb_new W _, ⟨(hb_old ⟨hG.blk⟩ _).blk⟩, ⟨⟨hB.more _ _ _ _ hG.more.body, hG.more.keep.alloc _⟩, hG.more.cis.elim fun c h => ⟨c, (hb_old ⟨h⟩ _).blk⟩⟩⟩
    clear hG
    generalize W.heap.size = tb at hG2 hne hcne ⊢
    generalize W.alloc (.cells #[.int .i64 0, .int .i64 0, .int .i64 0] 59) = W' at hG2 ⊢
    have hR3 := fun (w w₁ : World) (h : HB1 (HCF (HW2 (J rows) S cb) cb cap lv) tb (.cells #[.int .i64 0, .int .i64 0, .int .i64 0] 59) w) (r : Env w w₁) => HB1.rely (fun _ _ h r => hR2 rows lv h r) h r
    co_op (hR3 _ _) hG2 (co_quiet env_terms)
    co_opw (hR3 _ _) hG2 (have hb0 := hG2.one.blk; have hc0 := cell_blk (i := 0) hb0 rfl; have hz0 := thaw_blk (i := 0) hb0; have hb1 := set_blk (i := 0) (v := .int .i64 e3) hb0; have hc1 := cell_blk (i := 1) hb1 rfl; have hz1 := thaw_blk (i := 1) hb1; have hb2 := set_blk (i := 1) (v := .int .i64 e5) hb1; have hc2 := cell_blk (i := 2) hb2 rfl; have hz2 := thaw_blk (i := 2) hb2) (refine dn_cells (own_trans (own_setCell hb0) (own_trans (own_setCell hb1) (own_setCell hb2))) ?_; intro e he; have hm := mem_listed he; simp [go_sem, *] at hm; rcases hm with rfl | rfl | rfl <;> (intro r; simp))
    have hG3 := HW2.join (HW2.day (hB.set rows) (HW2.day (hB.set rows) (HW2.day (hB.set rows) hG2 hne hcne 0 (.int .i64 e3)) hne hcne 1 (.int .i64 e5)) hne hcne 2 (.int .i64 d.2))
    clear hG2 hb0 hb1 hb2 hc0 hc1 hc2 hz0 hz1 hz2 hR3 hne hcne
    have hS6 : No120 ((tb, .cells #[.int .i64 e3, .int .i64 e5, .int .i64 d.2] 59) :: S) := by
      intro p hp
      rcases List.mem_cons.1 hp with rfl | hp
      · intro c fr e; cases e
      · exact hS p hp
    have hsub : ∀ p ∈ S, p ∈ ((tb, .cells #[.int .i64 e3, .int .i64 e5, .int .i64 d.2] 59) :: S) := fun p hp => List.mem_cons_of_mem _ hp
    have hday := List.mem_cons_self (a := (tb, Obj.cells #[.int .i64 e3, .int .i64 e5, .int .i64 d.2] 59)) (l := S)
    change HCF (HW2 (J rows) ((tb, .cells #[.int .i64 e3, .int .i64 e5, .int .i64 d.2] 59) :: S) cb) cb cap lv _ at hG3
    generalize ((tb, Obj.cells #[.int .i64 e3, .int .i64 e5, .int .i64 d.2] 59) :: S) = S6 at hG3 hS6 hsub hday
    have hFR6 := fun rows => fun (w w₁ : World) (h : HW2 (J rows) S6 cb w) (r : Env w w₁) => HW2.rely (hB.rely rows) h r
    have hR6 := fun rows lv => @HCF.rely (HW2 (J rows) S6 cb) (hFR6 rows) cb cap lv
    co_apply opsC_nil env_terms
    co_then
    co_apply wpC_seq env_terms
    co_reg env_terms
    co_opw (hR6 _ _) hG3 (have hc := hG3.more.keep.cell (hsub _ h2) (i := 0) rfl) (refine dn_still ?_; co_evs (intro r; simp))
    clear hc
    co_op (hR6 _ _) hG3 (co_quiet env_terms)
    have hF4 : HYF (HCF (HW2 (J rows) S6 cb) cb cap lv) y2 db o n capc rows.length off d.1 _ :=
      ⟨⟨hG3.more.keep.cell (hsub _ h3) (i := 2) rfl, hG3.more.keep.cell (hsub _ h4) e1⟩, hG3⟩
    co_apply opsC_callv1 env_terms rfl (by rfl) rfl rfl (hr4 _ (fun w w₁ h r => hR6 rows lv h r) rows.length d.1 _ hlt hF4) (by simp [Act.eval])
    rintro _ w4 ⟨rfl, hF4⟩
    replace hG3 := hF4.more
    clear hF4
    walk_nrm
    co_apply opsC_call1 env_terms rfl (by rfl) rfl (hr3 (HW2 (J rows) S6 cb) cb (hFR6 rows) (fun w x h => h.set (hB.set120 rows) hS6 w x) cap lv d.1 _ hG3) (by simp [Act.eval])
    rintro _ w5 ⟨rfl, hG5⟩
    walk_nrm
    co_op (hR6 _ _) hG5 (co_quiet env_terms)
    co_apply opsC_nil env_terms
    co_then
    co_apply wpC_seq env_terms
    co_reg env_terms
    co_op (hR6 _ _) hG5 (co_quiet env_terms)
    co_opw (hR6 _ _) hG5 (have hc := hG5.more.keep.cell hday (i := 2) rfl) (refine dn_still ?_; co_evs (intro r; simp))
    clear hc
    co_apply opsC_call1 env_terms rfl (by rfl) rfl (hr7 (HW2 (J rows) S6 cb) cb (hFR6 rows) (fun w x h => h.set (hB.set120 rows) hS6 w x) cap _ d.2 _ hG5) (by simp [Act.eval])
    rintro _ w6 ⟨rfl, hG6⟩
    walk_nrm
    co_op (hR6 _ _) hG6 (co_quiet env_terms)
    co_apply opsC_nil env_terms
    co_then
    co_apply wpC_seq env_terms
    co_reg env_terms
    co_op (hR6 _ _) hG6 (co_quiet env_terms)
    co_op (hR6 _ _) hG6 (co_quiet env_terms)
    co_op (hR6 _ _) hG6 (co_quiet env_terms)
    co_opw (hR6 _ _) hG6 (have hc := hG6.c1) (refine dn_still ?_; co_evs (intro r; simp))
    clear hc
    co_op (hR6 _ _) hG6 (co_quiet env_terms)
    co_op (hR6 _ _) hG6 (co_quiet env_terms)
    co_opw (hR6 _ _) hG6 (skip) (rw [listed_nil (by simp [go_sem]; exact heb7 _ _ _ _ _)]; exact Terms.idle env_terms _)
    have hlt366 : rows.length < 366 := by omega
    co_apply opsC_yield1 (l := l) (r := r) (nr := kr) (vs := #[.int .i64 rows.length, .agg #[.int .i64 _, .int .i64 _, .int .i64 _]]) rfl (by rfl) rfl rfl (by rw [hB.two]; rfl) (by simp [Act.eval]; exact ⟨rfl, rfl, rfl⟩)
    intro w7 hR7
    replace hG6 := hR6 _ _ hG6 hR7
    refine ⟨hB.loop _ _ hG6.more.body, dn_yield (hB.loop _ _ hG6.more.body) (ev_yield (hB.loop _ _ hG6.more.body) (by rw [hB.two]; rfl)), ?_⟩
    refine RoundC.mono (hrr rows _ _ _ ((cb, .cells #[.int .i64 cap, .int .i64 _] 120) :: S) w7 hlt366 hG6.more.body ((hG6.more.keep.sub hsub).cons hG6.blk (ap_cells (by decide) (by decide) (by decide)))) ?_
    rintro w8 ⟨hJ8, hK8⟩
    have hG8 : HCF (HW2 (J (rows ++ [stepD cap lv d.1 d.2])) S cb) cb cap (stepD cap lv d.1 d.2).1 w8 := ⟨⟨hK8.at (List.mem_cons_self ..)⟩, ⟨⟨hJ8, hK8.sub fun p hp => List.mem_cons_of_mem _ hp⟩, _, hK8.at (List.mem_cons_self ..)⟩⟩
    clear hG6 hJ8 hK8 hG3 hG5
    walk_nrm
    co_op (hR2 _ _) hG8 (co_quiet env_terms)
    co_apply opsC_nil env_terms
    co_then
    co_apply wpC_cond env_terms (t := false) rfl
    simp only [Bool.false_eq_true, if_false]
    co_apply wpC_skip env_terms
    co_then
    co_reg env_terms
    co_op (hR2 _ _) hG8 (co_quiet env_terms)
    co_op (hR2 _ _) hG8 (co_quiet env_terms)
    co_apply opsC_nil env_terms
    co_then
    have hw1 : IntKind.i64.wrap ((rows.length : Int) + 1) = ((rows ++ [stepD cap lv d.1 d.2]).length : Int) := by rw [IntKind.wrap_i64]; simp; omega
    rw [hw1]
    refine ⟨⟨rows ++ [stepD cap lv d.1 d.2], (stepD cap lv d.1 d.2).1, ds.drop (rows.length + 1), _, _, _, _, _, _, _, _, _, _, _, _, _, _, _, _, _, _, _, _, _, _, _, _, _, _, _, _, _, _, _, _, _, _, _, rfl, by simp, ?_, by simp; omega, hG8⟩, ?_⟩
    · rw [← htot, hrd]; simp [runD]
    · simp; omega
  · intro hge
    have hge : rows.length = n := by simp at hge; omega
    have hr0 : rest = [] := by rw [hrest]; exact List.drop_eq_nil_of_le (by omega)
    have hall : rows = runD cap (if cap < start then cap else start) ds := by rw [← htot, hr0]; simp [runD]
    co_apply wpC_exit env_terms
    co_then
    exact ⟨rfl, _, resultsC_none (by rfl) _, hall ▸ hG.more.toHW⟩
end Go.Proofs.Ytpolipcicfjkiaa.Cy
/- The open functions' calls in the program with the loud ones shut. Conditions: none. -/
namespace Go.Proofs.Ytpolipcicfjkiaa.PA
open Go Go.Conc Go.Proofs.Ytpolipcicfjkiaa.Cy
theorem call2 (args : Array Value) (w : World) : (callFunc 2 args).run prog w = .ok (.enter 2 args) w := (enters_run PA.func2 (by rfl) (by rfl) args w).1
theorem call3 (args : Array Value) (w : World) : (callFunc 3 args).run prog w = .ok (.enter 3 args) w := (enters_run PA.func3 (by rfl) (by rfl) args w).1
theorem call4 (args : Array Value) (w : World) : (callFunc 4 args).run prog w = .ok (.enter 4 args) w := (enters_run PA.func4 (by rfl) (by rfl) args w).1
theorem call5 (args : Array Value) (w : World) : (callFunc 5 args).run prog w = .ok (.enter 5 args) w := (enters_run PA.func5 (by rfl) (by rfl) args w).1
theorem call6 (args : Array Value) (w : World) : (callFunc 6 args).run prog w = .ok (.enter 6 args) w := (enters_run PA.func6 (by rfl) (by rfl) args w).1
theorem call7 (args : Array Value) (w : World) : (callFunc 7 args).run prog w = .ok (.enter 7 args) w := (enters_run PA.func7 (by rfl) (by rfl) args w).1
theorem call8 (args : Array Value) (w : World) : (callFunc 8 args).run prog w = .ok (.enter 8 args) w := (enters_run PA.func8 (by rfl) (by rfl) args w).1
theorem call9 (args : Array Value) (w : World) : (callFunc 9 args).run prog w = .ok (.enter 9 args) w := (enters_run PA.func9 (by rfl) (by rfl) args w).1
theorem call10 (args : Array Value) (w : World) : (callFunc 10 args).run prog w = .ok (.enter 10 args) w := (enters_run PA.func10 (by rfl) (by rfl) args w).1
theorem call11 (args : Array Value) (w : World) : (callFunc 11 args).run prog w = .ok (.enter 11 args) w := (enters_run PA.func11 (by rfl) (by rfl) args w).1
theorem call12 (args : Array Value) (w : World) : (callFunc 12 args).run prog w = .ok (.enter 12 args) w := (enters_run PA.func12 (by rfl) (by rfl) args w).1
theorem call13 (args : Array Value) (w : World) : (callFunc 13 args).run prog w = .ok (.enter 13 args) w := (enters_run PA.func13 (by rfl) (by rfl) args w).1
theorem call14 (args : Array Value) (w : World) : (callFunc 14 args).run prog w = .ok (.enter 14 args) w := (enters_run PA.func14 (by rfl) (by rfl) args w).1
theorem call15 (args : Array Value) (w : World) : (callFunc 15 args).run prog w = .ok (.enter 15 args) w := (enters_run PA.func15 (by rfl) (by rfl) args w).1
theorem call16 (args : Array Value) (w : World) : (callFunc 16 args).run prog w = .ok (.enter 16 args) w := (enters_run PA.func16 (by rfl) (by rfl) args w).1
theorem call17 (args : Array Value) (w : World) : (callFunc 17 args).run prog w = .ok (.enter 17 args) w := (enters_run PA.func17 (by rfl) (by rfl) args w).1
theorem call18 (args : Array Value) (w : World) : (callFunc 18 args).run prog w = .ok (.enter 18 args) w := (enters_run PA.func18 (by rfl) (by rfl) args w).1
theorem call19 (args : Array Value) (w : World) : (callFunc 19 args).run prog w = .ok (.enter 19 args) w := (enters_run PA.func19 (by rfl) (by rfl) args w).1
theorem call20 (args : Array Value) (w : World) : (callFunc 20 args).run prog w = .ok (.enter 20 args) w := (enters_run PA.func20 (by rfl) (by rfl) args w).1
theorem call21 (args : Array Value) (w : World) : (callFunc 21 args).run prog w = .ok (.enter 21 args) w := (enters_run PA.func21 (by rfl) (by rfl) args w).1
theorem call22 (args : Array Value) (w : World) : (callFunc 22 args).run prog w = .ok (.enter 22 args) w := (enters_run PA.func22 (by rfl) (by rfl) args w).1
theorem call23 (args : Array Value) (w : World) : (callFunc 23 args).run prog w = .ok (.enter 23 args) w := (enters_run PA.func23 (by rfl) (by rfl) args w).1
theorem call24 (args : Array Value) (w : World) : (callFunc 24 args).run prog w = .ok (.enter 24 args) w := (enters_run PA.func24 (by rfl) (by rfl) args w).1
theorem call25 (args : Array Value) (w : World) : (callFunc 25 args).run prog w = .ok (.enter 25 args) w := (enters_run PA.func25 (by rfl) (by rfl) args w).1
theorem call26 (args : Array Value) (w : World) : (callFunc 26 args).run prog w = .ok (.enter 26 args) w := (enters_run PA.func26 (by rfl) (by rfl) args w).1
theorem call27 (args : Array Value) (w : World) : (callFunc 27 args).run prog w = .ok (.enter 27 args) w := (enters_run PA.func27 (by rfl) (by rfl) args w).1
theorem call29 (args : Array Value) (w : World) : (callFunc 29 args).run prog w = .ok (.enter 29 args) w := (enters_run PA.func29 (by rfl) (by rfl) args w).1
theorem call30 (args : Array Value) (w : World) : (callFunc 30 args).run prog w = .ok (.enter 30 args) w := (enters_run PA.func30 (by rfl) (by rfl) args w).1
theorem call31 (args : Array Value) (w : World) : (callFunc 31 args).run prog w = .ok (.enter 31 args) w := (enters_run PA.func31 (by rfl) (by rfl) args w).1
theorem call32 (args : Array Value) (w : World) : (callFunc 32 args).run prog w = .ok (.enter 32 args) w := (enters_run PA.func32 (by rfl) (by rfl) args w).1
theorem call33 (args : Array Value) (w : World) : (callFunc 33 args).run prog w = .ok (.enter 33 args) w := (enters_run PA.func33 (by rfl) (by rfl) args w).1
theorem call34 (args : Array Value) (w : World) : (callFunc 34 args).run prog w = .ok (.enter 34 args) w := (enters_run PA.func34 (by rfl) (by rfl) args w).1
theorem call35 (args : Array Value) (w : World) : (callFunc 35 args).run prog w = .ok (.enter 35 args) w := (enters_run PA.func35 (by rfl) (by rfl) args w).1
theorem call36 (args : Array Value) (w : World) : (callFunc 36 args).run prog w = .ok (.enter 36 args) w := (enters_run PA.func36 (by rfl) (by rfl) args w).1
theorem call37 (args : Array Value) (w : World) : (callFunc 37 args).run prog w = .ok (.enter 37 args) w := (enters_run PA.func37 (by rfl) (by rfl) args w).1
theorem call38 (args : Array Value) (w : World) : (callFunc 38 args).run prog w = .ok (.enter 38 args) w := (enters_run PA.func38 (by rfl) (by rfl) args w).1
theorem call39 (args : Array Value) (w : World) : (callFunc 39 args).run prog w = .ok (.enter 39 args) w := (enters_run PA.func39 (by rfl) (by rfl) args w).1
theorem call40 (args : Array Value) (w : World) : (callFunc 40 args).run prog w = .ok (.enter 40 args) w := (enters_run PA.func40 (by rfl) (by rfl) args w).1
theorem call41 (args : Array Value) (w : World) : (callFunc 41 args).run prog w = .ok (.enter 41 args) w := (enters_run PA.func41 (by rfl) (by rfl) args w).1
theorem call42 (args : Array Value) (w : World) : (callFunc 42 args).run prog w = .ok (.enter 42 args) w := (enters_run PA.func42 (by rfl) (by rfl) args w).1
theorem call43 (args : Array Value) (w : World) : (callFunc 43 args).run prog w = .ok (.enter 43 args) w := (enters_run PA.func43 (by rfl) (by rfl) args w).1
theorem call44 (args : Array Value) (w : World) : (callFunc 44 args).run prog w = .ok (.enter 44 args) w := (enters_run PA.func44 (by rfl) (by rfl) args w).1
theorem call45 (args : Array Value) (w : World) : (callFunc 45 args).run prog w = .ok (.enter 45 args) w := (enters_run PA.func45 (by rfl) (by rfl) args w).1
theorem call49 (args : Array Value) (w : World) : (callFunc 49 args).run prog w = .ok (.enter 49 args) w := (enters_run PA.func49 (by rfl) (by rfl) args w).1
theorem call51 (args : Array Value) (w : World) : (callFunc 51 args).run prog w = .ok (.enter 51 args) w := (enters_run PA.func51 (by rfl) (by rfl) args w).1
theorem call52 (args : Array Value) (w : World) : (callFunc 52 args).run prog w = .ok (.enter 52 args) w := (enters_run PA.func52 (by rfl) (by rfl) args w).1
theorem call53 (args : Array Value) (w : World) : (callFunc 53 args).run prog w = .ok (.enter 53 args) w := (enters_run PA.func53 (by rfl) (by rfl) args w).1
theorem call54 (args : Array Value) (w : World) : (callFunc 54 args).run prog w = .ok (.enter 54 args) w := (enters_run PA.func54 (by rfl) (by rfl) args w).1
theorem call55 (args : Array Value) (w : World) : (callFunc 55 args).run prog w = .ok (.enter 55 args) w := (enters_run PA.func55 (by rfl) (by rfl) args w).1
theorem call56 (args : Array Value) (w : World) : (callFunc 56 args).run prog w = .ok (.enter 56 args) w := (enters_run PA.func56 (by rfl) (by rfl) args w).1
theorem call57 (args : Array Value) (w : World) : (callFunc 57 args).run prog w = .ok (.enter 57 args) w := (enters_run PA.func57 (by rfl) (by rfl) args w).1
theorem call58 (args : Array Value) (w : World) : (callFunc 58 args).run prog w = .ok (.enter 58 args) w := (enters_run PA.func58 (by rfl) (by rfl) args w).1
theorem call65 (args : Array Value) (w : World) : (callFunc 65 args).run prog w = .ok (.enter 65 args) w := (enters_run PA.func65 (by rfl) (by rfl) args w).1
theorem call66 (args : Array Value) (w : World) : (callFunc 66 args).run prog w = .ok (.enter 66 args) w := (enters_run PA.func66 (by rfl) (by rfl) args w).1
theorem call68 (args : Array Value) (w : World) : (callFunc 68 args).run prog w = .ok (.enter 68 args) w := (enters_run PA.func68 (by rfl) (by rfl) args w).1
theorem call69 (args : Array Value) (w : World) : (callFunc 69 args).run prog w = .ok (.enter 69 args) w := (enters_run PA.func69 (by rfl) (by rfl) args w).1
theorem call72 (args : Array Value) (w : World) : (callFunc 72 args).run prog w = .ok (.enter 72 args) w := (enters_run PA.func72 (by rfl) (by rfl) args w).1
theorem call73 (args : Array Value) (w : World) : (callFunc 73 args).run prog w = .ok (.enter 73 args) w := (enters_run PA.func73 (by rfl) (by rfl) args w).1
theorem call74 (args : Array Value) (w : World) : (callFunc 74 args).run prog w = .ok (.enter 74 args) w := (enters_run PA.func74 (by rfl) (by rfl) args w).1
theorem call77 (args : Array Value) (w : World) : (callFunc 77 args).run prog w = .ok (.enter 77 args) w := (enters_run PA.func77 (by rfl) (by rfl) args w).1
theorem call80 (args : Array Value) (w : World) : (callFunc 80 args).run prog w = .ok (.enter 80 args) w := (enters_run PA.func80 (by rfl) (by rfl) args w).1
theorem call81 (args : Array Value) (w : World) : (callFunc 81 args).run prog w = .ok (.enter 81 args) w := (enters_run PA.func81 (by rfl) (by rfl) args w).1
theorem call87 (args : Array Value) (w : World) : (callFunc 87 args).run prog w = .ok (.enter 87 args) w := (enters_run PA.func87 (by rfl) (by rfl) args w).1
theorem call88 (args : Array Value) (w : World) : (callFunc 88 args).run prog w = .ok (.enter 88 args) w := (enters_run PA.func88 (by rfl) (by rfl) args w).1
theorem call89 (args : Array Value) (w : World) : (callFunc 89 args).run prog w = .ok (.enter 89 args) w := (enters_run PA.func89 (by rfl) (by rfl) args w).1
theorem call90 (args : Array Value) (w : World) : (callFunc 90 args).run prog w = .ok (.enter 90 args) w := (enters_run PA.func90 (by rfl) (by rfl) args w).1
theorem call91 (args : Array Value) (w : World) : (callFunc 91 args).run prog w = .ok (.enter 91 args) w := (enters_run PA.func91 (by rfl) (by rfl) args w).1
theorem call92 (args : Array Value) (w : World) : (callFunc 92 args).run prog w = .ok (.enter 92 args) w := (enters_run PA.func92 (by rfl) (by rfl) args w).1
attribute [simp] call2 call3 call4 call5 call6 call7 call8 call9 call10 call11 call12 call13 call14 call15 call16 call17 call18 call19 call20 call21 call22 call23 call24 call25 call26 call27 call29 call30 call31 call32
attribute [simp] call33 call34 call35 call36 call37 call38 call39 call40 call41 call42 call43 call44 call45 call49 call51 call52 call53 call54 call55 call56 call57 call58 call65 call66 call68 call69 call72 call73 call74 call77
attribute [simp] call80 call81 call87 call88 call89 call90 call91 call92
end Go.Proofs.Ytpolipcicfjkiaa.PA

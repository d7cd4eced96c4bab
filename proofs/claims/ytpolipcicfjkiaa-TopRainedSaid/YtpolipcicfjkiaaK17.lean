/- Rounds that may end the loop; the iterator of a year's days, yielding to such. Conditions: none. -/
import Derived.Test.YtpolipcicfjkiaaK16
import Derived.Great.BuildSlice
namespace Go.Proofs.Ytpolipcicfjkiaa.Cy
open Go Go.Conc Go.RowKit Go.Proofs

section
variable {P : Program} {main : Bool} {b : Frame} {a : Act} {k : List Item} {cs : List Frame} {w : World}
/-- A round ends the loop by a return. -/
theorem stepR_ret {l : Nat} {r : Loop} {c : Frame} (hb : b.roundOf = some l) (hk : b.kind = .normal) (h : w.heap[l]? = some (.loop r)) :
    stepG P main (G (b.atR a (.code .ret :: k)) (c :: cs)) w = .go (G (c.finish (.bool false)) cs) (w.putObj l (.loop { r with state := .done, pending := some .ret })) (seen P b.fn ((Instr.endRound l (some .ret)).events P w #[])) := by
  have h1 := run_endRound (P := P) (some .ret) h
  simp at h1
  simp [G, stepG, stepG.exec, Frame.atR, hb, h1, GStep.after, doReturn, hk]
theorem stepR_cond {c : Operand} {x y : Code} {t : Bool} (hc : a.eval c = .bool t) : stepG P main (G (b.atR a (.code (.cond c x y) :: k)) cs) w = .go (G (b.atR a (.code (if t then x else y) :: k)) cs) w := by
  have he := Frame.eval_atR b a (.code (.cond c x y) :: k)
  simp only [Frame.atR] at he
  simp [G, stepG, stepG.exec, Frame.atR, he, hc]
/-- The iterator has returned: what the round left to be done. -/
theorem stepR_endRange2 {l : Nat} {r : Loop} {j : Code} (_hk : b.kind ≠ .early) (h : w.heap[l]? = some (.loop r)) (hr : r.state ≠ .busy) (hp : r.pending = some j) :
    stepG P main (G (b.atR a (.endRangeFunc l :: k)) cs) w = .go (G (b.atR a (.code j :: k)) cs) (w.putObj l (.loop { r with state := .exhausted })) (seen P b.fn ((Instr.endLoop l).events P w #[])) := by
  have h1 := run_endLoop (P := P) h hr
  rw [hp] at h1
  simp [G, stepG, stepG.exec, Frame.atR, h1, GStep.after, hp]
theorem ev_endJ {l : Nat} {r : Loop} (j : Option Code) (h : w.heap[l]? = some (.loop r)) : ∀ e ∈ (Instr.endRound l j).events P w #[], e.loc = .obj l := by
  intro e he
  cases j <;> simp [Instr.endRound, Sem.events_bind, ev_getLoop h, run_getLoop' h, ev_setLoop h] at he <;> rcases he with rfl | rfl <;> rfl
end

/-- The round comes back with 'true', or with 'false'. -/
def RoundC2 (P : Program) (main : Bool) (R : World → World → Prop) (D : World → World → Array Event → Prop) (l : Nat) (r : Loop) (vs : Array Value) (n : Nat) (w : World) (Post PostX : World → Prop) : Prop :=
  ∀ (c : Frame) (cs : List Frame) (Stop : Goroutine → World → Prop) (m : Nat), (∀ w', Post w' → Goes P main R D Stop m (G (c.finish (.bool true)) cs) w') → (∀ w', PostX w' → Goes P main R D Stop m (G (c.finish (.bool false)) cs) w') →
    Goes P main R D Stop (m + n) (G (Frame.round l r.fn ((r.params.zip vs).foldl (fun tmps (t, x) => tmps.setIfInBounds t x) r.tmps) r.assign r.body .normal) (c :: cs)) w
theorem RoundC2.mono {P : Program} {main : Bool} {R : World → World → Prop} {D : World → World → Array Event → Prop} {l : Nat} {r : Loop} {vs : Array Value} {n : Nat} {w : World} {Post PostX Post' PostX' : World → Prop} (h : RoundC2 P main R D l r vs n w Post PostX) (hp : ∀ w', Post w' → Post' w') (hx : ∀ w', PostX w' → PostX' w') : RoundC2 P main R D l r vs n w Post' PostX' :=
  fun c cs Stop m hc hd => h c cs Stop m (fun w' q => hc w' (hp w' q)) (fun w' q => hd w' (hx w' q))

section
variable {P : Program} {main : Bool} {R : World → World → Prop} {D : World → World → Array Event → Prop} {fn : FuncId} {Q : Exit → Act → World → Prop} {a : Act} {w : World}
theorem opsC_yield2 {ops : Array Oper} {i : Nat} {rest : List Nat} {o : Oper} {l : Nat} {r : Loop} {f : Operand} {args : Array Operand} {ats : Array TypeId} {nr n : Nat} {vs : Array Value} (ho : ops[i]? = some o) (hw : Region.wanted o (yielded ops a.tmps) = true)
    (hop : o.op = .call { callee := .value f, args, argTypes := ats }) (hf : a.eval f = .func (.yield l) #[] #[]) (hs : args.size = r.params.size) (hargs : args.map a.eval = vs)
    (h : ∀ w₁, R w w₁ → w₁.heap[l]? = some (.loop r) ∧ D w₁ w₁ (seen P fn ((Instr.yield l vs).events P w₁ #[])) ∧
      RoundC2 P main R D l r vs nr w₁ (fun w' => OpsC P main R D fn ops rest n Q (a.put o.dst (.bool true)) w') (fun w' => OpsC P main R D fn ops rest n Q (a.put o.dst (.bool false)) w')) : OpsC P main R D fn ops (i :: rest) (n + nr + 1) Q a w := by
  subst hargs
  intro b k cs Stop m hb hk hc
  have e : m + (n + nr + 1) = (m + n + nr) + 1 := by omega
  rw [e]
  refine Goes.step rfl fun w₁ h₁ => ?_
  obtain ⟨h2, h3, h4⟩ := h w₁ h₁
  have hn : ∀ a' todo, b.at a' todo = ({ b with roundOf := none }).atR a' todo := fun _ _ => rfl
  rw [hn, stepR_yield ho hw hop (by exact hk) hf h2 hs]
  refine ⟨by show D w₁ w₁ (seen P b.fn _); rw [hb]; exact h3, ?_⟩
  refine h4 _ cs Stop (m + n) (fun w' hp => ?_) (fun w' hp => ?_)
  · have := hp b k cs Stop m hb hk hc
    rw [← hn, Frame.finish_at, ho]
    exact this
  · have := hp b k cs Stop m hb hk hc
    rw [← hn, Frame.finish_at, ho]
    exact this
end

/-- The body of a loop over the iterator that may end it. -/
structure BodyOk2 (kr B : Nat) (J JX : List (Int × Int × Int) → World → Prop) (l : Nat) (r : Loop) : Prop where
  rely : ∀ rows w w₁, J rows w → Env w w₁ → J rows w₁
  more : ∀ rows w c e, J rows w → J rows (w.alloc (.cells c e))
  set : ∀ rows w cb i v c e fr, B ≤ cb → J rows w → w.heap[cb]? = some (.cells c e fr) → e ≠ 3 → e ≠ 60 → e ≠ 70 → e ≠ 90 → e ≠ 4 → J rows (w.setCell ⟨cb, i, none⟩ v)
  loop : ∀ rows w, J rows w → w.heap[l]? = some (.loop r)
  low : ∀ rows w, J rows w → B ≤ w.heap.size
  relyX : ∀ rows w w₁, JX rows w → Env w w₁ → JX rows w₁
  two : r.params.size = 2
  round : ∀ (rows : List (Int × Int × Int)) (lv lack over : Int) (S : List (Nat × Obj)) (w : World), rows.length < 366 → J rows w → Keep S w →
    RoundC2 PA.prog true Env DN l r #[.int .i64 rows.length, .agg #[.int .i64 lv, .int .i64 lack, .int .i64 over]] kr w (fun w' => J (rows ++ [(lv, lack, over)]) w' ∧ Keep S w') (fun w' => JX (rows ++ [(lv, lack, over)]) w')
theorem HW2.set' {J : World → Prop} {B : Nat} {S : List (Nat × Obj)} (hS : No120 S) {cb : Nat} (hcb : B ≤ cb) (hJS : ∀ w cb i v c fr, B ≤ cb → J w → w.heap[cb]? = some (.cells c 120 fr) → J (w.setCell ⟨cb, i, none⟩ v)) (w : World) (x : Int) (h : HW2 J S cb w) : HW2 J S cb (w.setCell ⟨cb, 1, none⟩ (.int .i64 x)) := by
  obtain ⟨c, hc⟩ := h.cis
  obtain ⟨c', hc'⟩ := set_own (ad := ⟨cb, 1, none⟩) (v := .int .i64 x) hc
  exact ⟨⟨hJS _ _ _ _ _ _ hcb h.body hc, h.keep.set120 hS hc⟩, c', hc'⟩
theorem HW2.day' {J : World → Prop} {B : Nat} {S : List (Nat × Obj)} {cb tb : Nat} {cap lv : Int} {w : World} (hJS : ∀ w cb i v c e fr, B ≤ cb → J w → w.heap[cb]? = some (.cells c e fr) → e ≠ 3 → e ≠ 60 → e ≠ 70 → e ≠ 90 → e ≠ 4 → J (w.setCell ⟨cb, i, none⟩ v))
    {c : Array Value} (h : HB1 (HCF (HW2 J S cb) cb cap lv) tb (.cells c 59) w) (htb : B ≤ tb) (hne : ∀ p ∈ S, p.1 ≠ tb) (hcne : cb ≠ tb) (i : Nat) (v : Value) : HB1 (HCF (HW2 J S cb) cb cap lv) tb (.cells (c.setIfInBounds i v) 59) (w.setCell ⟨tb, i, none⟩ v) :=
  ⟨⟨set_blk h.one.blk⟩, ⟨heap_set_ne h.more.blk hcne⟩, ⟨⟨hJS _ _ _ _ _ _ _ htb h.more.more.body h.one.blk (by decide) (by decide) (by decide) (by decide) (by decide), h.more.more.keep.set_ne hne⟩, h.more.more.cis.elim fun c h => ⟨c, heap_set_ne h hcne⟩⟩⟩
theorem BodyOk2.set120 {kr B : Nat} {J JX : List (Int × Int × Int) → World → Prop} {l : Nat} {r : Loop} (hB : BodyOk2 kr B J JX l r) (rows : List (Int × Int × Int)) : ∀ w cb i v c fr, B ≤ cb → J rows w → w.heap[cb]? = some (.cells c 120 fr) → J rows (w.setCell ⟨cb, i, none⟩ v) :=
  fun w cb i v c fr hcb h hb => hB.set rows w cb i v c 120 fr hcb h hb (by decide) (by decide) (by decide) (by decide) (by decide)

set_option maxRecDepth 100000 in
set_option maxHeartbeats 4000000 in
theorem f72_co2 (kr k4 n : Nat) : ∃ k, ∀ (B : Nat) (J JX : List (Int × Int × Int) → World → Prop) (l : Nat) (r : Loop) (_ : BodyOk2 kr B J JX l r) (S : List (Nat × Obj)) (_ : No120 S) (yb fb db o capc y2 gf off : Nat) (sl : Option Addr) (_ : 0 < n → sl = some ⟨db, o, none⟩) (cap start : Int) (ds : List (Int × Int)) (dc : Array Value) (fr1 fr2 fr3 fr4 : Nat × Nat) (_ : ds.length = n) (_ : n ≤ 366)
    (_ : (yb, .cells #[.int .i64 cap, .int .i64 start, .slice sl n capc] 24 fr1) ∈ S) (_ : (fb, .cells #[.func (.func gf) #[] #[.pointer (some ⟨y2, 0, none⟩)]] 89 fr2) ∈ S)
    (_ : ∃ a b, (y2, .cells #[a, b, .slice sl n capc] 24 fr3) ∈ S) (et : TypeId) (_ : ∀ rows w, J rows w → 0 < n → w.heap[db]? = some (.cells dc et fr4))
    (_ : ∀ (i : Nat) (d : Int × Int), ds[i]? = some d → dc[o + i * 3 + off]? = some (.int .i64 d.1) ∧ dc[o + i * 3 + 2]? = some (.int .i64 d.2) ∧ (∃ x, dc[o + i * 3]? = some (.int .i64 x)) ∧ ∃ x, dc[o + i * 3 + 1]? = some (.int .i64 x))
    (_ : ∀ (F : World → Prop) (_ : ∀ w w₁, F w → Env w w₁ → F w₁) (i : Nat) (lo : Int) (w : World), i < n → HYF F y2 db o n capc i off lo w →
      CallsC PA.prog true Env DN gf #[.int .i64 i, .pointer (some ⟨y2, 0, none⟩)] k4 w fun v w' => v = .int .i64 lo ∧ HYF F y2 db o n capc i off lo w')
    (w : World), HW (J []) S w →
    CallsC PA.prog true Env DN 72 #[.func (.yield l) #[] #[], .pointer (some ⟨yb, 0, none⟩), .pointer (some ⟨fb, 0, none⟩)] k w fun _ w' => HW (J (runD cap (if cap < start then cap else start) ds)) S w' ∨ ∃ pre post, runD cap (if cap < start then cap else start) ds = pre ++ post ∧ JX pre w' := by
  have hme := fun (w : World) (es : Array Event) (x y : Int) => ev_min2 (P := PA.prog) #[3, 3] 3 .i64 .i64 x y w es
  have hrb := rb120
  have heb := eb120
  have hrb7 := rb70
  have heb7 := eb70
  obtain ⟨k3, hr3⟩ := f73_co true
  obtain ⟨k7, hr7⟩ := f74_co true
  co_apply Exists.intro
  intro B J JX l r hB S hS yb fb db o capc y2 gf off sl hsl cap start ds dc fr1 fr2 fr3 fr4 hn hn366 h1 h2 h3 et h4 hd hr4 w hF
  obtain ⟨qa, qb, h3⟩ := h3
  have hrr := hB.round
  have hR := fun rows => @HW.rely (J rows) (hB.rely rows) S
  co_apply callsC_of_wpC PA.func72 (by rfl) rfl
  simp only [Try.ntmps72, List.size_toArray, List.length_cons, List.length_nil, Nat.reduceAdd, Nat.reduceSub, Array.replicate_succ, Array.replicate_zero, List.push_toArray, List.append_toArray, List.nil_append, List.cons_append]
  co_apply wpC_seq env_terms
  co_reg env_terms
  co_op (hR []) hF (co_quiet env_terms)
  co_opw (hR []) hF (have hc := hF.keep.cell h1 (i := 0) rfl) (refine dn_still ?_; co_evs (intro r; simp))
  co_op (hR []) hF (co_quiet env_terms)
  co_opw (hR []) hF (have hc := hF.keep.cell h1 (i := 1) rfl) (refine dn_still ?_; co_evs (intro r; simp))
  co_op (hR []) hF (co_quiet env_terms)
  co_opw (hR []) hF (have hc := hF.keep.cell h1 (i := 0) rfl) (refine dn_still ?_; co_evs (intro r; simp))
  clear hc
  co_opw (hR []) hF (skip) (co_still env_terms)
  co_opw (hR []) hF (skip) (rw [listed_nil (by simp [go_sem]; exact heb _ _ _ _)]; exact Terms.idle env_terms _)
  co_opw (hR []) hF (skip) (refine dn_new ?_; co_evs (intro r; simp))
  rename_i W
  have hG : HB1 (HW (J []) S) W.heap.size (.cells #[.int .i64 0, .int .i64 0] 120) _ := ⟨hb_new W _, ⟨hB.more _ _ _ _ hF.body, hF.keep.alloc _⟩⟩
  have hcb : B ≤ W.heap.size := hB.low _ _ hF.body
  clear hF
  generalize W.heap.size = cb at hG hcb ⊢
  generalize W.alloc (.cells #[.int .i64 0, .int .i64 0] 120) = W' at hG ⊢
  co_opw (HB1.rely (fun _ _ h r => hR [] h r)) hG (have hc0 := cell_blk (i := 0) hG.one.blk rfl; have hz0 := thaw_blk (i := 0) hG.one.blk; have hb1 := set_blk (i := 0) (v := .int .i64 cap) hG.one.blk; have hc1 := cell_blk (i := 1) hb1 rfl; have hz1 := thaw_blk (i := 1) hb1) (refine dn_cells (own_trans (own_setCell hG.one.blk) (own_setCell hb1)) ?_; intro e he; have hm := mem_listed he; simp [go_sem, *] at hm; rcases hm with rfl | rfl <;> (intro r; simp))
  have hb2 := set_blk (i := 1) (v := .int .i64 (if cap < start then cap else start)) hb1
  have hG2 : HCF (HW2 (J []) S cb) cb cap (if cap < start then cap else start) _ := ⟨⟨hb2⟩, ⟨⟨hB.set _ _ _ _ _ _ _ _ hcb (hB.set _ _ _ _ _ _ _ _ hcb hG.more.body hG.one.blk (by decide) (by decide) (by decide) (by decide) (by decide)) hb1 (by decide) (by decide) (by decide) (by decide) (by decide), (hG.more.keep.set120 hS hG.one.blk).set120 hS hb1⟩, _, hb2⟩⟩
  clear hG hb2 hb1 hc0 hz0 hc1 hz1
  have hFR := fun rows => fun (w w₁ : World) (h : HW2 (J rows) S cb w) (r : Env w w₁) => HW2.rely (hB.rely rows) h r
  have hR2 := fun rows lv => @HCF.rely (HW2 (J rows) S cb) (hFR rows) cb cap lv
  co_apply opsC_nil env_terms
  co_then
  co_apply wpC_seq env_terms
  co_reg env_terms
  co_op (hR2 [] _) hG2 (co_quiet env_terms)
  co_opw (hR2 [] _) hG2 (have hc := hG2.more.keep.cell h1 (i := 2) rfl) (refine dn_still ?_; co_evs (intro r; simp))
  clear hc
  co_op (hR2 [] _) hG2 (co_quiet env_terms)
  co_op (hR2 [] _) hG2 (co_quiet env_terms)
  co_apply opsC_nil env_terms
  co_then
  co_apply wpC_block env_terms
  co_apply wpC_loop env_terms (I := fun a w => ∃ (rows : List (Int × Int × Int)) (lv : Int) (rest : List (Int × Int)) (y3 y5 y6 y7 y8 y9 y10 y11 y12 y13 y14 y15 y16 y17 y21 y22 y23 y24 y25 y26 y27 y28 y29 y30 y31 y32 y33 y34 y35 y36 y37 y38 y39 y40 y41 : Value), a = ⟨#[.func (.yield l) #[] #[], .pointer (some ⟨yb, 0, none⟩), .pointer (some ⟨fb, 0, none⟩), y3, .pointer (some ⟨cb, 0, none⟩), y5, y6, y7, y8, y9, y10, y11, y12, y13, y14, y15, y16, y17, .slice sl n capc, .int .i64 n, .int .i64 rows.length, y21, y22, y23, y24, y25, y26, y27, y28, y29, y30, y31, y32, y33, y34, y35, y36, y37, y38, y39, y40, y41], []⟩ ∧ rest = ds.drop rows.length ∧ rows ++ runD cap lv rest = runD cap (if cap < start then cap else start) ds ∧ rows.length ≤ n ∧ HCF (HW2 (J rows) S cb) cb cap lv w) (μ := fun a _ => match a.eval (.tmp 20) with | .int _ x => n - x.toNat | _ => 0) (N := n)
  · exact ⟨[], _, ds, _, _, _, _, _, _, _, _, _, _, _, _, _, _, _, _, _, _, _, _, _, _, _, _, _, _, _, _, _, _, _, _, _, _, _, rfl, rfl, rfl, Nat.zero_le _, hG2⟩
  · simp [Act.eval]
  clear hG2
  rintro a w' ⟨rows, lv, rest, y3, y5, y6, y7, y8, y9, y10, y11, y12, y13, y14, y15, y16, y17, y21, y22, y23, y24, y25, y26, y27, y28, y29, y30, y31, y32, y33, y34, y35, y36, y37, y38, y39, y40, y41, rfl, hrest, htot, hle, hG⟩
  co_apply wpC_seq env_terms
  co_reg env_terms
  co_op (hR2 _ _) hG (co_quiet env_terms)
  co_apply opsC_nil env_terms
  co_then
  co_apply wpC_seq env_terms
  co_split env_terms (decide ((rows.length : Int) < (n : Int)))
  · intro hlt
    have hlt : rows.length < n := by simpa using hlt
    replace h4 := fun rows w h => h4 rows w h (by omega)
    obtain rfl := hsl (by omega)
    have hn0 : ds[rows.length]? = some ds[rows.length] := List.getElem?_eq_getElem (by omega)
    obtain ⟨d, hdd⟩ : ∃ d, ds[rows.length]? = some d := ⟨_, hn0⟩
    clear hn0
    obtain ⟨e1, e2, ⟨e3, e4⟩, e5, e6⟩ := hd _ _ hdd
    have hrd : rest = d :: ds.drop (rows.length + 1) := by rw [hrest, ← List.getElem_cons_drop (by omega : rows.length < ds.length)]; congr 1; simpa [List.getElem?_eq_getElem (by omega : rows.length < ds.length)] using hdd
    co_apply wpC_skip env_terms
    co_then
    co_apply wpC_seq env_terms
    co_apply wpC_block env_terms
    co_apply wpC_seq env_terms
    co_reg env_terms
    co_op (hR2 _ _) hG (co_quiet env_terms)
    co_opw (hR2 _ _) hG (skip) (co_still env_terms)
    co_opw (hR2 _ _) hG (have hc0 := cell_blk (h4 _ _ hG.more.body) e4; have hc1 := cell_blk (h4 _ _ hG.more.body) e6; have hc2 := cell_blk (h4 _ _ hG.more.body) e2) (refine dn_still ?_; intro e he; have hm := mem_listed he; simp [go_sem, *] at hm; rcases hm with rfl | rfl | rfl <;> (intro r; simp))
    clear hc0 hc1 hc2
    co_opw (hR2 _ _) hG (skip) (refine dn_new ?_; co_evs (intro r; simp))
    rename_i W
    have hne : ∀ p ∈ S, p.1 ≠ W.heap.size := fun p hp => Nat.ne_of_lt (hG.more.keep.lt p hp)
    have htb : B ≤ W.heap.size := hB.low _ _ hG.more.body
    have hcne : cb ≠ W.heap.size := Nat.ne_of_lt (Array.getElem?_eq_some_iff.1 hG.blk).1
    have hG2 : HB1 (HCF (HW2 (J rows) S cb) cb cap lv) W.heap.size (.cells #[.int .i64 0, .int .i64 0, .int .i64 0] 59) (W.alloc (.cells #[.int .i64 0, .int .i64 0, .int .i64 0] 59)) :=
      ⟨hb_new W _, ⟨(hb_old ⟨hG.blk⟩ _).blk⟩, ⟨⟨hB.more _ _ _ _ hG.more.body, hG.more.keep.alloc _⟩, hG.more.cis.elim fun c h => ⟨c, (hb_old ⟨h⟩ _).blk⟩⟩⟩
    clear hG
    generalize W.heap.size = tb at hG2 hne hcne htb ⊢
    generalize W.alloc (.cells #[.int .i64 0, .int .i64 0, .int .i64 0] 59) = W' at hG2 ⊢
    have hR3 := fun (w w₁ : World) (h : HB1 (HCF (HW2 (J rows) S cb) cb cap lv) tb (.cells #[.int .i64 0, .int .i64 0, .int .i64 0] 59) w) (r : Env w w₁) => HB1.rely (fun _ _ h r => hR2 rows lv h r) h r
    co_op (hR3 _ _) hG2 (co_quiet env_terms)
    co_opw (hR3 _ _) hG2 (have hb0 := hG2.one.blk; have hc0 := cell_blk (i := 0) hb0 rfl; have hz0 := thaw_blk (i := 0) hb0; have hb1 := set_blk (i := 0) (v := .int .i64 e3) hb0; have hc1 := cell_blk (i := 1) hb1 rfl; have hz1 := thaw_blk (i := 1) hb1; have hb2 := set_blk (i := 1) (v := .int .i64 e5) hb1; have hc2 := cell_blk (i := 2) hb2 rfl; have hz2 := thaw_blk (i := 2) hb2) (refine dn_cells (own_trans (own_setCell hb0) (own_trans (own_setCell hb1) (own_setCell hb2))) ?_; intro e he; have hm := mem_listed he; simp [go_sem, *] at hm; rcases hm with rfl | rfl | rfl <;> (intro r; simp))
    have hG3 := HW2.join (HW2.day' (hB.set rows) (HW2.day' (hB.set rows) (HW2.day' (hB.set rows) hG2 htb hne hcne 0 (.int .i64 e3)) htb hne hcne 1 (.int .i64 e5)) htb hne hcne 2 (.int .i64 d.2))
    clear hG2 hb0 hb1 hb2 hc0 hc1 hc2 hz0 hz1 hz2 hR3 hne hcne
    have hS6 : No120 ((tb, .cells #[.int .i64 e3, .int .i64 e5, .int .i64 d.2] 59) :: S) := by
      intro p hp
      rcases List.mem_cons.1 hp with rfl | hp
      · intro c fr e; cases e
      · exact hS p hp
    have hsub : ∀ p ∈ S, p ∈ ((tb, .cells #[.int .i64 e3, .int .i64 e5, .int .i64 d.2] 59) :: S) := fun p hp => List.mem_cons_of_mem _ hp
    have hday := List.mem_cons_self (a := (tb, Obj.cells #[.int .i64 e3, .int .i64 e5, .int .i64 d.2] 59)) (l := S)
    change HCF (HW2 (J rows) ((tb, .cells #[.int .i64 e3, .int .i64 e5, .int .i64 d.2] 59) :: S) cb) cb cap lv _ at hG3
    generalize ((tb, Obj.cells #[.int .i64 e3, .int .i64 e5, .int .i64 d.2] 59) :: S) = S6 at hG3 hS6 hsub hday
    have hFR6 := fun rows => fun (w w₁ : World) (h : HW2 (J rows) S6 cb w) (r : Env w w₁) => HW2.rely (hB.rely rows) h r
    have hR6 := fun rows lv => @HCF.rely (HW2 (J rows) S6 cb) (hFR6 rows) cb cap lv
    co_apply opsC_nil env_terms
    co_then
    co_apply wpC_seq env_terms
    co_reg env_terms
    co_opw (hR6 _ _) hG3 (have hc := hG3.more.keep.cell (hsub _ h2) (i := 0) rfl) (refine dn_still ?_; co_evs (intro r; simp))
    clear hc
    co_op (hR6 _ _) hG3 (co_quiet env_terms)
    have hF4 : HYF (HCF (HW2 (J rows) S6 cb) cb cap lv) y2 db o n capc rows.length off d.1 _ :=
      ⟨⟨hG3.more.keep.cell (hsub _ h3) (i := 2) rfl, cell_blk (h4 _ _ hG3.more.body) e1⟩, hG3⟩
    co_apply opsC_callv1 env_terms rfl (by rfl) rfl rfl (hr4 _ (fun w w₁ h r => hR6 rows lv h r) rows.length d.1 _ hlt hF4) (by simp [Act.eval])
    rintro _ w4 ⟨rfl, hF4⟩
    replace hG3 := hF4.more
    clear hF4
    walk_nrm
    co_apply opsC_call1 env_terms rfl (by rfl) rfl (hr3 (HW2 (J rows) S6 cb) cb (hFR6 rows) (fun w x h => HW2.set' hS6 hcb (hB.set120 rows) w x h) cap lv d.1 _ hG3) (by simp [Act.eval])
    rintro _ w5 ⟨rfl, hG5⟩
    walk_nrm
    co_op (hR6 _ _) hG5 (co_quiet env_terms)
    co_apply opsC_nil env_terms
    co_then
    co_apply wpC_seq env_terms
    co_reg env_terms
    co_op (hR6 _ _) hG5 (co_quiet env_terms)
    co_opw (hR6 _ _) hG5 (have hc := hG5.more.keep.cell hday (i := 2) rfl) (refine dn_still ?_; co_evs (intro r; simp))
    clear hc
    co_apply opsC_call1 env_terms rfl (by rfl) rfl (hr7 (HW2 (J rows) S6 cb) cb (hFR6 rows) (fun w x h => HW2.set' hS6 hcb (hB.set120 rows) w x h) cap _ d.2 _ hG5) (by simp [Act.eval])
    rintro _ w6 ⟨rfl, hG6⟩
    walk_nrm
    co_op (hR6 _ _) hG6 (co_quiet env_terms)
    co_apply opsC_nil env_terms
    co_then
    co_apply wpC_seq env_terms
    co_reg env_terms
    co_op (hR6 _ _) hG6 (co_quiet env_terms)
    co_op (hR6 _ _) hG6 (co_quiet env_terms)
    co_op (hR6 _ _) hG6 (co_quiet env_terms)
    co_opw (hR6 _ _) hG6 (have hc := hG6.c1) (refine dn_still ?_; co_evs (intro r; simp))
    clear hc
    co_op (hR6 _ _) hG6 (co_quiet env_terms)
    co_op (hR6 _ _) hG6 (co_quiet env_terms)
    co_opw (hR6 _ _) hG6 (skip) (rw [listed_nil (by simp [go_sem]; exact heb7 _ _ _ _ _)]; exact Terms.idle env_terms _)
    have hlt366 : rows.length < 366 := by omega
    co_apply opsC_yield2 (l := l) (r := r) (nr := kr) (vs := #[.int .i64 rows.length, .agg #[.int .i64 _, .int .i64 _, .int .i64 _]]) rfl (by rfl) rfl rfl (by rw [hB.two]; rfl) (by simp [Act.eval]; exact ⟨rfl, rfl, rfl⟩)
    intro w7 hR7
    replace hG6 := hR6 _ _ hG6 hR7
    refine ⟨hB.loop _ _ hG6.more.body, dn_yield (hB.loop _ _ hG6.more.body) (ev_yield (hB.loop _ _ hG6.more.body) (by rw [hB.two]; rfl)), ?_⟩
    refine RoundC2.mono (hrr rows _ _ _ ((cb, .cells #[.int .i64 cap, .int .i64 _] 120) :: S) w7 hlt366 hG6.more.body ((hG6.more.keep.sub hsub).cons hG6.blk (ap_cells (by decide) (by decide) (by decide)))) ?_ ?_
    rotate_left
    · intro w8 hX8
      replace hX8 := hX8
      walk_nrm
      co_op (hB.relyX _ _ _) hX8 (co_quiet env_terms)
      co_apply opsC_nil env_terms
      co_then
      co_apply wpC_cond env_terms (t := true) rfl
      simp only [if_true]
      co_apply wpC_ret env_terms
      co_then
      exact ⟨rfl, _, resultsC_none (by rfl) _, .inr ⟨rows ++ [stepD cap lv d.1 d.2], runD cap (stepD cap lv d.1 d.2).1 (ds.drop (rows.length + 1)), by rw [← htot, hrd]; simp [runD], hX8⟩⟩
    rintro w8 ⟨hJ8, hK8⟩
    have hG8 : HCF (HW2 (J (rows ++ [stepD cap lv d.1 d.2])) S cb) cb cap (stepD cap lv d.1 d.2).1 w8 := ⟨⟨hK8.at (List.mem_cons_self ..)⟩, ⟨⟨hJ8, hK8.sub fun p hp => List.mem_cons_of_mem _ hp⟩, _, hK8.at (List.mem_cons_self ..)⟩⟩
    clear hG6 hJ8 hK8 hG3 hG5
    walk_nrm
    co_op (hR2 _ _) hG8 (co_quiet env_terms)
    co_apply opsC_nil env_terms
    co_then
    co_apply wpC_cond env_terms (t := false) rfl
    simp only [Bool.false_eq_true, if_false]
    co_apply wpC_skip env_terms
    co_then
    co_reg env_terms
    co_op (hR2 _ _) hG8 (co_quiet env_terms)
    co_op (hR2 _ _) hG8 (co_quiet env_terms)
    co_apply opsC_nil env_terms
    co_then
    have hw1 : IntKind.i64.wrap ((rows.length : Int) + 1) = ((rows ++ [stepD cap lv d.1 d.2]).length : Int) := by rw [IntKind.wrap_i64]; simp; omega
    rw [hw1]
    refine ⟨⟨rows ++ [stepD cap lv d.1 d.2], (stepD cap lv d.1 d.2).1, ds.drop (rows.length + 1), _, _, _, _, _, _, _, _, _, _, _, _, _, _, _, _, _, _, _, _, _, _, _, _, _, _, _, _, _, _, _, _, _, _, _, rfl, by simp, ?_, by simp; omega, hG8⟩, ?_⟩
    · rw [← htot, hrd]; simp [runD]
    · simp; omega
  · intro hge
    have hge : rows.length = n := by simp at hge; omega
    have hr0 : rest = [] := by rw [hrest]; exact List.drop_eq_nil_of_le (by omega)
    have hall : rows = runD cap (if cap < start then cap else start) ds := by rw [← htot, hr0]; simp [runD]
    co_apply wpC_exit env_terms
    co_then
    exact ⟨rfl, _, resultsC_none (by rfl) _, .inl (hall ▸ hG.more.toHW)⟩
end Go.Proofs.Ytpolipcicfjkiaa.Cy
/- A worker's loop: what it holds. Conditions: none. -/
namespace Go.Proofs.Ytpolipcicfjkiaa.Cy
open Go Go.Conc Go.RowKit Go.Proofs

section
variable {P : Program} {main : Bool} {R : World → World → Prop} {D : World → World → Array Event → Prop} {fn : FuncId} {l : Nat} {Q : Act → World → Prop} {a : Act} {w : World}
def noDefer (ops : Array Oper) : Bool := ops.toList.all fun o => match o.op with | .defer _ => false | _ => true
theorem noDefer_spec {ops : Array Oper} (h : noDefer ops = true) : ∀ (i : Nat) (o : Oper), ops[i]? = some o → ∀ c, o.op ≠ .defer c := by
  intro i o ho c hc
  unfold noDefer at h
  rw [List.all_eq_true] at h
  have := h o (by rw [Array.mem_toList_iff]; exact Array.mem_of_getElem? ho)
  rw [hc] at this
  cases this

theorem opsR_cons_k (T : Terms R D) {ops : Array Oper} (hdf : noDefer ops = true) {i : Nat} {rest : List Nat} {o : Oper} {n : Nat} (ho : ops[i]? = some o) (hw : Region.wanted o (yielded ops a.tmps) = true)
    (h : ∀ w₁, R w w₁ → ∀ K : Act → World → Prop, (∀ a' w', D w₁ w' (listed P fn a o w₁) ∧ OpsR P main R D fn l ops rest n Q a' w' → K a' w') → uponK o a K ((execOp a.eval o).run P w₁)) : OpsR P main R D fn l ops (i :: rest) (n + 1) Q a w := by
  refine opsR_of_opC T (noDefer_spec hdf) ?_
  unfold OpC
  rw [ho]
  simp only [hw, if_true]
  intro w₁ h₁
  exact h w₁ h₁ _ fun _ _ x => x
theorem roundC_at (T : Terms R D) {r : Loop} {vs : Array Value} {n₁ n₂ : Nat} {Post : World → Prop} {f : FuncId} {A B : Code} {tm : Array Value} (e1 : r.fn = f) (e2 : r.assign = A) (e3 : r.body = B) (e4 : (r.params.zip vs).foldl (fun tmps (t, x) => tmps.setIfInBounds t x) r.tmps = tm)
    (h : WpR P main R D f l A n₁ (fun a₁ w₁ => ∀ w₂, R w₁ w₂ → w₂.heap[l]? = some (.loop r) ∧ r.state = .ready ∧ D w₂ (w₂.putObj l (.loop { r with state := .busy })) (seen P f ((Instr.beginRound l).events P w₂ #[])) ∧
      WpR P main R D f l B n₂ (fun _ w₃ => ∀ w₄, R w₃ w₄ → ∃ r', w₄.heap[l]? = some (.loop r') ∧ D w₄ (w₄.putObj l (.loop { r' with state := .ready, pending := none })) (seen P f ((Instr.endRound l none).events P w₄ #[])) ∧
        Post (w₄.putObj l (.loop { r' with state := .ready, pending := none }))) a₁ (w₂.putObj l (.loop { r with state := .busy }))) ⟨tm, []⟩ w) : RoundC P main R D l r vs (n₁ + n₂ + 2) w Post := by
  subst e1 e2 e3 e4
  exact roundC_of T h
end

/-- What the days' rows read once the sums are laid into them. -/
def accD : Int → List (Int × Int × Int) → List Value
  | _, [] => []
  | s, d :: ds => .int .i64 d.1 :: .int .i64 d.2.1 :: .int .i64 (IntKind.i64.wrap (s + d.2.2)) :: accD (IntKind.i64.wrap (s + d.2.2)) ds
def sumD : Int → List (Int × Int × Int) → Int
  | s, [] => s
  | s, d :: ds => sumD (IntKind.i64.wrap (s + d.2.2)) ds
theorem sumD_snoc (d : Int × Int × Int) : ∀ (ds : List (Int × Int × Int)) (s : Int), sumD s (ds ++ [d]) = IntKind.i64.wrap (sumD s ds + d.2.2)
  | [], _ => rfl
  | _ :: ds, _ => sumD_snoc d ds _
theorem accD_snoc (d : Int × Int × Int) : ∀ (ds : List (Int × Int × Int)) (s : Int), accD s (ds ++ [d]) = accD s ds ++ [.int .i64 d.1, .int .i64 d.2.1, .int .i64 (IntKind.i64.wrap (sumD s ds + d.2.2))]
  | [], _ => rfl
  | e :: ds, s => by
    show Value.int .i64 e.1 :: Value.int .i64 e.2.1 :: Value.int .i64 _ :: accD _ (ds ++ [d]) = _
    rw [accD_snoc d ds]
    rfl

theorem ownsRow_of {w w' : World} {e : TypeId} {size : Nat} {v : Value} {n : Nat} {xs : List Value} (h : w.ownsRow 0 e size v n xs) (hb : ∀ (g : Nat) (o : Obj), v.ownBlock = some g → w.heap[g]? = some o → w'.heap[g]? = some o) : w'.ownsRow 0 e size v n xs := by
  refine ⟨h.1, ?_⟩
  rcases h.2 with h2 | ⟨g, cap, cur, rfl, h3, h4, h5⟩
  · exact .inl h2
  · exact .inr ⟨g, cap, cur, rfl, h3, hb g _ rfl h4, h5⟩
theorem ownsRow_blk {w : World} {e : TypeId} {size : Nat} {v : Value} {n : Nat} {xs : List Value} (h : w.ownsRow 0 e size v n xs) {g : Nat} (hg : v.ownBlock = some g) : ∃ c, w.heap[g]? = some (.cells c e) := by
  rcases h.2 with ⟨rfl, _⟩ | ⟨g', cap, cur, rfl, h3, h4, h5⟩
  · simp [Value.ownBlock] at hg
  · simp [Value.ownBlock] at hg; subst hg; exact ⟨_, h4⟩

/-- What a worker holds at its loop's record. -/
structure JL (l : Nat) (r : Loop) (sb ob onb : Nat) (s : Int) (fnv : Value) (fro : Nat × Nat) (v : Value) (n : Nat) (xs : List Value) (w : World) : Prop where
  lp : w.heap[l]? = some (.loop r)
  sm : w.heap[sb]? = some (.cells #[.int .i64 s] 3)
  one : w.heap[onb]? = some (.cells #[.pointer (some ⟨ob, 0, none⟩), fnv] 90 fro)
  out : w.heap[ob]? = some (.cells #[v] 60)
  row : w.ownsRow 0 70 3 v n xs

section
variable {l : Nat} {r : Loop} {sb ob onb : Nat} {s : Int} {fnv : Value} {fro : Nat × Nat} {v : Value} {n : Nat} {xs : List Value} {w w₁ : World}
theorem JL.kept (h : JL l r sb ob onb s fnv fro v n xs w) (hk : ∀ b o, w.heap[b]? = some o → (b = l ∨ b = sb ∨ b = onb ∨ b = ob ∨ v.ownBlock = some b) → w₁.heap[b]? = some o) : JL l r sb ob onb s fnv fro v n xs w₁ :=
  ⟨hk _ _ h.lp (.inl rfl), hk _ _ h.sm (.inr (.inl rfl)), hk _ _ h.one (.inr (.inr (.inl rfl))), hk _ _ h.out (.inr (.inr (.inr (.inl rfl)))), ownsRow_of h.row fun _g _o hg ho => hk _ _ ho (.inr (.inr (.inr (.inr hg))))⟩
theorem JL.rely (h : JL l r sb ob onb s fnv fro v n xs w) (e : Env w w₁) : JL l r sb ob onb s fnv fro v n xs w₁ := h.kept fun _b _o hb _ => env_at e hb
theorem JL.alloc (h : JL l r sb ob onb s fnv fro v n xs w) (o : Obj) : JL l r sb ob onb s fnv fro v n xs (w.alloc o) := h.kept fun _b _o' hb _ => (hb_old ⟨hb⟩ o).blk
/-- A store into a block that is none of these. -/
theorem JL.set (h : JL l r sb ob onb s fnv fro v n xs w) {cb i : Nat} {x : Value} (hne : ∀ b, (b = l ∨ b = sb ∨ b = onb ∨ b = ob ∨ v.ownBlock = some b) → b ≠ cb) : JL l r sb ob onb s fnv fro v n xs (w.setCell ⟨cb, i, none⟩ x) :=
  h.kept fun b _o hb hc => heap_set_ne hb (hne b hc)
/-- .. by its type. -/
theorem JL.setTy (h : JL l r sb ob onb s fnv fro v n xs w) {cb i : Nat} {x : Value} {c : Array Value} {e : TypeId} {fr : Nat × Nat} (hb : w.heap[cb]? = some (.cells c e fr)) (h3 : e ≠ 3) (h60 : e ≠ 60) (h70 : e ≠ 70) (h90 : e ≠ 90) : JL l r sb ob onb s fnv fro v n xs (w.setCell ⟨cb, i, none⟩ x) := by
  refine h.set fun b hc e' => ?_
  subst e'
  rcases hc with rfl | rfl | rfl | rfl | hc
  · rw [h.lp] at hb; cases hb
  · rw [h.sm] at hb; cases hb; exact h3 rfl
  · rw [h.one] at hb; cases hb; exact h90 rfl
  · rw [h.out] at hb; cases hb; exact h60 rfl
  · obtain ⟨c, hc⟩ := ownsRow_blk h.row hc
    rw [hc] at hb; cases hb; exact h70 rfl
theorem JL.putLoop (h : JL l r sb ob onb s fnv fro v n xs w) (r' : Loop) : JL l r' sb ob onb s fnv fro v n xs (w.putObj l (.loop r')) := by
  have hlt := (Array.getElem?_eq_some_iff.1 h.lp).1
  have hk : ∀ (b : Nat) (c : Array Value) (e : TypeId) (fr : Nat × Nat), w.heap[b]? = some (Obj.cells c e fr) → (w.putObj l (.loop r')).heap[b]? = some (Obj.cells c e fr) := fun b c e fr hb => by
    rw [World.putObj_heap_other (fun e' => by rw [e', h.lp] at hb; cases hb)]; exact hb
  exact ⟨World.putObj_heap_same hlt, hk _ _ _ _ h.sm, hk _ _ _ _ h.one, hk _ _ _ _ h.out, ownsRow_of h.row fun g o hg ho => by
    obtain ⟨c, hc⟩ := ownsRow_blk h.row hg
    rw [hc] at ho; cases ho
    exact hk _ _ _ _ hc⟩
end
end Go.Proofs.Ytpolipcicfjkiaa.Cy
/- lasts' closure; lacking; a call in a round. Conditions: none. -/
namespace Go.Proofs.Ytpolipcicfjkiaa.Cy
open Go Go.Conc Go.RowKit Go.Proofs

set_option maxRecDepth 100000 in
theorem f52_co : ∃ k, ∀ (yb db o n cap : Nat) (F : World → Prop) (_ : ∀ w w₁, F w → Env w w₁ → F w₁) (i : Nat) (lo : Int) (w : World), i < n → HYF F yb db o n cap i 0 lo w →
    CallsC PA.prog true Env DN 52 #[.int .i64 i, .pointer (some ⟨yb, 0, none⟩)] k w fun v w' => v = .int .i64 lo ∧ HYF F yb db o n cap i 0 lo w' := by
  co_apply Exists.intro
  intro yb db o n cap F hFR i lo w hi hF
  co_apply callsC_of_wpC PA.func52 (by rfl) rfl
  simp only [Try.ntmps52, List.size_toArray, List.length_cons, List.length_nil, Nat.reduceAdd, Nat.reduceSub, Array.replicate_succ, Array.replicate_zero, List.push_toArray, List.append_toArray, List.nil_append, List.cons_append]
  co_stmt env_terms (HYF.rely hFR) hF (co_quiet env_terms)
  co_apply wpC_seq env_terms
  co_reg env_terms
  co_op (HYF.rely hFR) hF (co_quiet env_terms)
  co_opw (HYF.rely hFR) hF (have hc := hF.toHY.c0) (refine dn_still ?_; co_evs (intro r; simp))
  co_op (HYF.rely hFR) hF (co_quiet env_terms)
  co_opw (HYF.rely hFR) hF (skip) (co_still env_terms)
  co_op (HYF.rely hFR) hF (co_quiet env_terms)
  co_op (HYF.rely hFR) hF (co_quiet env_terms)
  co_opw (HYF.rely hFR) hF (have hc := hF.toHY.c1; simp only [Nat.add_zero] at hc) (refine dn_still ?_; co_evs (intro r; simp))
  co_op (HYF.rely hFR) hF (co_quiet env_terms)
  co_ctl env_terms
  co_then
  co_ctl env_terms
  exact ⟨rfl, _, resultsC_tmp (by rfl) _, by simp, hF⟩

def FF (F : World → Prop) (w : World) : Prop := F w
set_option maxRecDepth 100000 in
theorem f31_co : ∃ k, ∀ (F : World → Prop) (_ : ∀ w w₁, F w → Env w w₁ → F w₁) (_ : ∀ w c e, F w → F (w.alloc (.cells c e))) (lv lack ov : Int) (w : World), F w →
    CallsC PA.prog true Env DN 31 #[.agg #[.int .i64 lv, .int .i64 lack, .int .i64 ov]] k w fun v w' => v = .bool (decide (0 < lack)) ∧ F w' := by
  co_apply Exists.intro
  intro F hFR hFA lv lack ov w hF
  co_apply callsC_of_wpC PA.func31 (by rfl) rfl
  simp only [Try.ntmps31, List.size_toArray, List.length_cons, List.length_nil, Nat.reduceAdd, Nat.reduceSub, Array.replicate_succ, Array.replicate_zero, List.push_toArray, List.append_toArray, List.nil_append, List.cons_append]
  co_apply wpC_seq env_terms
  co_reg env_terms
  co_opw (fun h r => hFR _ _ h r) hF (skip) (refine dn_new ?_; co_evs (intro r; simp))
  rename_i W
  have hB : HB1 F W.heap.size (.cells #[.int .i64 lv, .int .i64 lack, .int .i64 ov] 70) (W.alloc (.cells #[.int .i64 lv, .int .i64 lack, .int .i64 ov] 70)) := ⟨hb_new W _, hFA _ _ _ hF⟩
  clear hF
  generalize W.heap.size = tb at hB ⊢
  generalize W.alloc (.cells #[.int .i64 lv, .int .i64 lack, .int .i64 ov] 70) = W' at hB ⊢
  co_op (HB1.rely hFR) hB (co_quiet env_terms)
  co_apply opsC_nil env_terms
  co_then
  co_apply wpC_seq env_terms
  co_reg env_terms
  co_op (HB1.rely hFR) hB (co_quiet env_terms)
  co_opw (HB1.rely hFR) hB (have hc := cell_blk (i := 1) hB.one.blk rfl) (refine dn_still ?_; co_evs (intro r; simp))
  co_op (HB1.rely hFR) hB (co_quiet env_terms)
  co_op (HB1.rely hFR) hB (co_quiet env_terms)
  co_apply opsC_nil env_terms
  co_then
  co_ctl env_terms
  exact ⟨rfl, _, resultsC_tmp (by rfl) _, by simp, hB.more⟩

section
variable {P : Program} {main : Bool} {b : Frame} {a : Act} {k : List Item} {cs : List Frame} {w : World}
theorem stepR_enter {ops : Array Oper} {i : Nat} {rest : List Nat} {o : Oper} {f : FuncId} {args : Array Value} {w' : World} (ho : ops[i]? = some o) (hw : Region.wanted o (yielded ops a.tmps) = true) (hd : ∀ c, o.op ≠ .defer c)
    (hk : b.kind ≠ .early) (hr : (execOp a.eval o).run P w = .ok (.enter f args) w') :
    stepG P main (G (b.atR a (.inRegion ops (i :: rest) :: k)) cs) w = .go (G (Frame.enter P f args .normal) (b.atR a (.inRegion ops (i :: rest) :: k) :: cs)) w' (listed P b.fn a o w) := by
  have hk' : (b.kind == CallKind.early) = false := by simpa using hk
  rw [stepR_oper ho hw hd]
  simp [stepG.apply, hr, G, Frame.atR, hk', GStep.after, listed]
theorem finish_atR {ops : Array Oper} {i : Nat} {rest : List Nat} {o : Oper} {v : Value} (ho : ops[i]? = some o) : (b.atR a (.inRegion ops (i :: rest) :: k)).finish v = b.atR (a.put o.dst v) (.inRegion ops rest :: k) := by
  simp [Frame.finish, Frame.atR, ho, Act.put]
  cases o.dst <;> exact ⟨rfl, rfl⟩
end
section
variable {P : Program} {main : Bool} {R : World → World → Prop} {D : World → World → Array Event → Prop}
/-- A call in a round, by the callee's contract. -/
theorem opsR_call (T : Terms R D) {fnc : FuncId} {l : Nat} {Q : Act → World → Prop} {a : Act} {w : World} {ops : Array Oper} {i : Nat} {rest : List Nat} {o : Oper} {g : FuncId} {args : Array Operand} {ats : Array TypeId} {nf n : Nat} {Post : Value → World → Prop} {vs : Array Value}
    (ho : ops[i]? = some o) (hw : Region.wanted o (yielded ops a.tmps) = true) (hop : o.op = .call { callee := .value (.func g), args, argTypes := ats })
    (hcall : CallsC P main R D g vs nf w Post) (hargs : args.map a.eval = vs) (hnext : ∀ v w', Post v w' → OpsR P main R D fnc l ops rest n Q (a.put o.dst v) w') : OpsR P main R D fnc l ops (i :: rest) (n + nf + 3) Q a w := by
  subst hargs
  intro b k cs Stop m hbf hk hro hc
  obtain ⟨fn, c, hf, hname, hbody, hwp⟩ := hcall
  have hfin : ∀ v, (b.atR a (.inRegion ops (i :: rest) :: k)).finish v = b.atR (a.put o.dst v) (.inRegion ops rest :: k) := fun v => finish_atR ho
  have hb' : fn.body.isNone = false := by rw [hbody]; rfl
  have hleave : ∀ (a' : Act) (w' : World) (todo : List Item), (a'.defers = [] ∧ ∃ v, ResultsC P fn a'.tmps v ∧ Post v w') →
      Goes P main R D Stop (m + n + 1) (G { (Go.Conc.base g).at a' todo with mode := .returning } (b.atR a (.inRegion ops (i :: rest) :: k) :: cs)) w' := by
    rintro a' w' todo ⟨hd, v, hr, hp⟩
    refine Goes.step rfl fun w₁ h₁ => ?_
    rw [stepG_leave (b := Go.Conc.base g) rfl hd hf (hr w₁).1 (hr w₁).2, hfin]
    exact ⟨T.idle _, (hnext v w' hp b k cs Stop m hbf hk hro hc).rely T.trans h₁⟩
  have hbodyG : Goes P main R D Stop (m + n + 2 + nf) (G ((Go.Conc.base g).at { tmps := args.map a.eval ++ Array.replicate (fn.ntmps - (args.map a.eval).size) undef, defers := [] } [.code c]) (b.atR a (.inRegion ops (i :: rest) :: k) :: cs)) w := by
    refine hwp (Go.Conc.base g) [] _ Stop (m + n + 2) rfl (by simp [Go.Conc.base]) fun e a' w' q => ?_
    cases e with
    | normal => exact Goes.step rfl fun w₁ h₁ => by rw [stepG_end]; exact ⟨T.idle _, (hleave a' w' [] q).rely T.trans h₁⟩
    | ret => exact fun todo => (hleave a' w' todo q).more
    | exit id => exact q.elim
    | goto l => exact q.elim
    | panic ch => exact q.elim
    | outgrown => exact q.elim
  have e : m + (n + nf + 3) = (m + n + 2 + nf) + 1 := by omega
  rw [e]
  refine Goes.step rfl fun w₁ h₁ => ?_
  rw [stepR_enter ho hw (by rw [hop]; simp) hk (run_call_body hop hf hname hb'), enter_at _ hf hbody]
  have hl : listed P b.fn a o w₁ = #[] := by unfold listed; rw [events_call_body hop hf hname hb']; exact seen_none P _
  rw [hl]
  exact ⟨T.idle _, hbodyG.rely T.trans h₁⟩
end
end Go.Proofs.Ytpolipcicfjkiaa.Cy

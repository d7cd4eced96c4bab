/- lasts, by its contract. Conditions: none. -/
import Derived.Test.YtpolipcicfjkiaaK21
namespace Go.Proofs.Ytpolipcicfjkiaa.Cy
open Go Go.Conc Go.RowKit Go.Proofs

/-- What stood below B stands. -/
structure BelowH (B : Nat) (w w' : World) : Prop where
  size : w.heap.size ≤ w'.heap.size
  block : ∀ k, k < B → w'.heap[k]? = w.heap[k]?

def lastsB (size start : Int) (ds : List (Int × Int)) : Bool := (runD size (if size < start then size else start) ds).all fun d => !decide (0 < d.2.1)

/-- Where lasts is about to leave. -/
def St32 (B : Nat) (O : Nat → Option Obj) (bl : Bool) (cs : List Frame) (g : Goroutine) (w : World) : Prop :=
  ∃ (tm : Array Value) (todo : List Item) (rb : Nat), g = G { (Go.Conc.base 32).at ⟨tm, []⟩ todo with mode := .returning } cs ∧ tm[2]? = some (.pointer (some ⟨rb, 0, none⟩)) ∧ w.heap[rb]? = some (.cells #[.bool bl] 4) ∧ Olds B O w

theorem putD {w : World} {D b : Nat} {d : Option (List Deferred)} {o : Obj} (hD : w.heap[D]? = some (.deferred d)) {c : Array Value} {e : TypeId} {fr : Nat × Nat} (hb : w.heap[b]? = some (.cells c e fr)) : (w.putObj D o).heap[b]? = some (.cells c e fr) := by
  rw [World.putObj_heap_other (fun e' => by rw [e', hD] at hb; cases hb)]
  exact hb

theorem end32 {B : Nat} {O : Nat → Option Obj} {bl : Bool} {cs : List Frame} {tm : Array Value} {todo : List Item} {rb Dk : Nat} {w : World} (h1 : tm[2]? = some (.pointer (some ⟨rb, 0, none⟩))) (h2 : w.heap[rb]? = some (.cells #[.bool bl] 4)) (h3 : w.heap[Dk]? = some (.deferred (some []))) (h4 : Olds B O w) (h5 : B ≤ Dk) :
    Goes PA.prog true Env DN (St32 B O bl cs) 1 (G { (Go.Conc.base 32).at ⟨tm, [{ target := .collected Dk, args := #[] }]⟩ todo with mode := .returning } cs) w :=
  goes_collect (b := Go.Conc.base 32) (a := ⟨tm, []⟩) (by simp [Go.Conc.base]) fun w₁ e => by
    have h3 := env_at e h3
    refine ⟨h3, dn_take h3 (ev_take h3), fun w₂ e2 => ⟨tm, todo, rb, rfl, h1, env_at e2 (putD h3 (env_at e h2)), ((h4.rely e).put h5).rely e2⟩⟩

set_option maxHeartbeats 4000000 in
theorem goes32 (n : Nat) : ∃ N, ∀ (size start : Int) (sl : Option Addr) (o capc db : Nat) (dc : Array Value) (et : TypeId) (frd : Nat × Nat) (ds : List (Int × Int)) (_ : ds.length = n) (_ : n ≤ 366) (_ : 0 < n → sl = some ⟨db, o, none⟩)
    (_ : ∀ (i : Nat) (d : Int × Int), ds[i]? = some d → dc[o + i * 3 + 0]? = some (.int .i64 d.1) ∧ dc[o + i * 3 + 2]? = some (.int .i64 d.2) ∧ (∃ x, dc[o + i * 3]? = some (.int .i64 x)) ∧ ∃ x, dc[o + i * 3 + 1]? = some (.int .i64 x))
    (w : World) (_ : 0 < n → w.heap[db]? = some (.cells dc et frd)) (cs : List Frame),
    Goes PA.prog true Env DN (St32 w.heap.size (fun b : Nat => w.heap[b]?) (lastsB size start ds) cs) N (G ((Go.Conc.base 32).at ⟨#[.agg #[.int .i64 size, .int .i64 start, .slice sl n capc], undef, undef, undef, undef, undef, undef, undef, undef, undef, undef, undef], []⟩ [.code (codeOf Try.f32)]) cs) w := by
  obtain ⟨k0, h0⟩ := r0_32
  obtain ⟨k1, h1⟩ := r1_32
  obtain ⟨k5, h5⟩ := r5_32
  obtain ⟨kr, hbody⟩ := body32
  obtain ⟨k4, h52⟩ := f52_co
  obtain ⟨k72, h72⟩ := f72_co2 kr k4 n
  refine ⟨((((((2 + k5 + 1 + 1) + k72 + 4) + 1) + k1) + 1) + 1 + k0) + 1, ?_⟩
  intro size start sl o capc db dc et frd ds hn hn366 hsl hd w hdays cs
  generalize hB : w.heap.size = B
  generalize hO : (fun b : Nat => w.heap[b]?) = O
  have hold : Olds B O w := ⟨by omega, fun b _ => by rw [← hO]⟩
  have hdb : 0 < n → db < B ∧ O db = some (.cells dc et frd) := fun h => ⟨by rw [← hB]; exact (Array.getElem?_eq_some_iff.1 (hdays h)).1, by rw [← hO]; exact hdays h⟩
  rw [c32_is]
  refine gl_seq env_terms (gl_wp (h0 B O size start sl n capc w hold) rfl (by decide) fun e a' w1 q => ?_)
  obtain ⟨rfl, yb, rb, rfl, hF⟩ := q
  refine ⟨rfl, gl_seq env_terms (gl_seq env_terms (gl_wp (h1 B O size start sl n capc yb rb w1 hF) rfl (by decide) fun e a' w2 q => ?_))⟩
  obtain ⟨rfl, b1, b2, rfl, hF2⟩ := q
  refine ⟨rfl, gl_block env_terms ?_⟩
  refine goes_range2 env_terms (m := 2 + k5 + 1 + 1) (n := k72) (by decide) rfl fun w5 hR5 => ?_
  replace hF2 := HBF.rely H32.rely hF2 hR5
  refine ⟨dn_W1 _ _ _ _ _ _, fun vs hvs => ?_⟩
  have hvs : vs = #[.func (.yield (w5.heap.size + 1)) #[] #[], .pointer (some ⟨b1, 0, none⟩), .pointer (some ⟨b2, 0, none⟩)] := by rw [← hvs]; simp
  subst hvs
  generalize hW6 : W1 (Go.Conc.base 32) _ _ _ _ w5 = W6
  have hDk : W6.heap[w5.heap.size]? = some (.deferred (some [])) := by rw [← hW6]; exact (hb_old (hb_new w5 _) _).blk
  have hl : W6.heap[w5.heap.size + 1]? = some (.loop (recO Try.f32 #[.agg #[.int .i64 size, .int .i64 start, .slice sl n capc], .pointer (some ⟨yb, 0, none⟩), .pointer (some ⟨rb, 0, none⟩), undef, undef, .agg #[.int .i64 size, .int .i64 start, .slice sl n capc], .func (.func 52) #[] #[.pointer (some ⟨yb, 0, none⟩)], .func (.func 72) #[] #[.pointer (some ⟨b1, 0, none⟩), .pointer (some ⟨b2, 0, none⟩)], undef, undef, undef, undef] w5.heap.size)) := by
    rw [← hW6]
    have := hb_new (w5.alloc (.deferred (some []))) (.loop (recO Try.f32 #[.agg #[.int .i64 size, .int .i64 start, .slice sl n capc], .pointer (some ⟨yb, 0, none⟩), .pointer (some ⟨rb, 0, none⟩), undef, undef, .agg #[.int .i64 size, .int .i64 start, .slice sl n capc], .func (.func 52) #[] #[.pointer (some ⟨yb, 0, none⟩)], .func (.func 72) #[] #[.pointer (some ⟨b1, 0, none⟩), .pointer (some ⟨b2, 0, none⟩)], undef, undef, undef, undef] w5.heap.size))
    have hsz : (w5.alloc (.deferred (some []))).heap.size = w5.heap.size + 1 := by simp
    have h2 := this.blk
    rw [hsz] at h2
    exact h2
  have hold6 : ∀ (b : Nat) (o : Obj), w5.heap[b]? = some o → W6.heap[b]? = some o := fun b o hb => by rw [← hW6]; exact (hb_old (hb_old ⟨hb⟩ _) _).blk
  have hBw : B ≤ w5.heap.size := hF2.more.old.le
  have hO6 : Olds B O W6 := by rw [← hW6]; exact (hF2.more.old.alloc _).alloc _
  have hlB : B ≤ w5.heap.size + 1 := by omega
  clear hW6
  generalize w5.heap.size + 1 = l at hl hlB ⊢
  generalize w5.heap.size = Dk at hDk hl hBw ⊢
  have hS0 : Keep [(b1, .cells #[.int .i64 size, .int .i64 start, .slice sl n capc] 24), (b2, .cells #[.func (.func 52) #[] #[.pointer (some ⟨yb, 0, none⟩)]] 89), (yb, .cells #[.int .i64 size, .int .i64 start, .slice sl n capc] 24)] W6 := by
    intro p hp
    simp only [List.mem_cons, List.not_mem_nil, or_false] at hp
    rcases hp with rfl | rfl | rfl
    · exact ⟨hold6 _ _ hF2.both.one.blk, ap_cells (by decide) (by decide) (by decide)⟩
    · exact ⟨hold6 _ _ hF2.both.two.blk, ap_cells (by decide) (by decide) (by decide)⟩
    · exact ⟨hold6 _ _ hF2.more.y, ap_cells (by decide) (by decide) (by decide)⟩
  have h120 : No120 [(b1, .cells #[.int .i64 size, .int .i64 start, .slice sl n capc] 24), (b2, .cells #[.func (.func 52) #[] #[.pointer (some ⟨yb, 0, none⟩)]] 89), (yb, .cells #[.int .i64 size, .int .i64 start, .slice sl n capc] 24)] := by
    intro p hp c fr
    simp only [List.mem_cons, List.not_mem_nil, or_false] at hp
    rcases hp with rfl | rfl | rfl <;> (intro e; cases e)
  have hJ0 : jL B O l (recO Try.f32 #[.agg #[.int .i64 size, .int .i64 start, .slice sl n capc], .pointer (some ⟨yb, 0, none⟩), .pointer (some ⟨rb, 0, none⟩), undef, undef, .agg #[.int .i64 size, .int .i64 start, .slice sl n capc], .func (.func 52) #[] #[.pointer (some ⟨yb, 0, none⟩)], .func (.func 72) #[] #[.pointer (some ⟨b1, 0, none⟩), .pointer (some ⟨b2, 0, none⟩)], undef, undef, undef, undef] Dk) rb Dk [] W6 := ⟨⟨hl, hold6 _ _ hF2.more.r, hDk, hO6, hlB, hF2.more.rB⟩, fun d hd => by cases hd⟩
  refine (h72 B (jL B O l (recO Try.f32 #[.agg #[.int .i64 size, .int .i64 start, .slice sl n capc], .pointer (some ⟨yb, 0, none⟩), .pointer (some ⟨rb, 0, none⟩), undef, undef, .agg #[.int .i64 size, .int .i64 start, .slice sl n capc], .func (.func 52) #[] #[.pointer (some ⟨yb, 0, none⟩)], .func (.func 72) #[] #[.pointer (some ⟨b1, 0, none⟩), .pointer (some ⟨b2, 0, none⟩)], undef, undef, undef, undef] Dk) rb Dk) (jX B O l (recO Try.f32 #[.agg #[.int .i64 size, .int .i64 start, .slice sl n capc], .pointer (some ⟨yb, 0, none⟩), .pointer (some ⟨rb, 0, none⟩), undef, undef, .agg #[.int .i64 size, .int .i64 start, .slice sl n capc], .func (.func 52) #[] #[.pointer (some ⟨yb, 0, none⟩)], .func (.func 72) #[] #[.pointer (some ⟨b1, 0, none⟩), .pointer (some ⟨b2, 0, none⟩)], undef, undef, undef, undef] Dk) rb Dk) l (recO Try.f32 #[.agg #[.int .i64 size, .int .i64 start, .slice sl n capc], .pointer (some ⟨yb, 0, none⟩), .pointer (some ⟨rb, 0, none⟩), undef, undef, .agg #[.int .i64 size, .int .i64 start, .slice sl n capc], .func (.func 52) #[] #[.pointer (some ⟨yb, 0, none⟩)], .func (.func 72) #[] #[.pointer (some ⟨b1, 0, none⟩), .pointer (some ⟨b2, 0, none⟩)], undef, undef, undef, undef] Dk) (hbody B O l rb Dk (.agg #[.int .i64 size, .int .i64 start, .slice sl n capc]) (.pointer (some ⟨yb, 0, none⟩)) undef undef (.agg #[.int .i64 size, .int .i64 start, .slice sl n capc]) (.func (.func 52) #[] #[.pointer (some ⟨yb, 0, none⟩)]) (.func (.func 72) #[] #[.pointer (some ⟨b1, 0, none⟩), .pointer (some ⟨b2, 0, none⟩)]) undef undef undef undef) _ h120 b1 b2 db o capc yb 52 0 sl hsl size start ds dc (0, 0) (0, 0) (0, 0) frd hn hn366 (by simp) (by simp) ⟨.int .i64 size, .int .i64 start, by simp⟩ et
    (fun rows w h h0 => by rw [h.1.old.same db (hdb h0).1]; exact (hdb h0).2) hd (fun F hF i lo w hi h => h52 yb db o n capc F hF i lo w hi h) W6 ⟨hJ0, hS0⟩).mono ?_
  rintro _ w7 hend w8 h8
  rcases hend with ⟨hJ, _⟩ | ⟨pre, post, htot, hX⟩
  · have hq := hJ.1.rely h8
    refine ⟨_, hq.lp, by simp [recO], dn_loop hq.lp (ev_endLoop hq.lp (by simp [recO])), .inl ⟨rfl, ?_⟩⟩
    have hq2 := hq.put { recO Try.f32 #[.agg #[.int .i64 size, .int .i64 start, .slice sl n capc], .pointer (some ⟨yb, 0, none⟩), .pointer (some ⟨rb, 0, none⟩), undef, undef, .agg #[.int .i64 size, .int .i64 start, .slice sl n capc], .func (.func 52) #[] #[.pointer (some ⟨yb, 0, none⟩)], .func (.func 72) #[] #[.pointer (some ⟨b1, 0, none⟩), .pointer (some ⟨b2, 0, none⟩)], undef, undef, undef, undef] Dk with state := .exhausted }
    have hbl : lastsB size start ds = true := by
      unfold lastsB
      rw [List.all_eq_true]
      intro d hd
      have := hJ.2 d hd
      simp [this]
    rw [hbl]
    refine gl_inBlock env_terms (gl_seq env_terms (gl_wp (h5 B O rb (.agg #[.int .i64 size, .int .i64 start, .slice sl n capc]) (.pointer (some ⟨yb, 0, none⟩)) undef undef (.agg #[.int .i64 size, .int .i64 start, .slice sl n capc]) (.func (.func 52) #[] #[.pointer (some ⟨yb, 0, none⟩)]) (.func (.func 72) #[] #[.pointer (some ⟨b1, 0, none⟩), .pointer (some ⟨b2, 0, none⟩)]) undef undef undef undef _ Dk _ ⟨hq2.rs, hq2.df, hq2.old, hq2.rB⟩) rfl (by decide) fun e a' w9 q => ?_))
    obtain ⟨rfl, rfl, q1, q2, q3⟩ := q
    exact ⟨rfl, gl_ret env_terms fun todo => end32 rfl q1 q2 q3 hBw⟩
  · have hq := hX.1.rely h8
    refine ⟨_, hq.lp, by simp, dn_loop hq.lp (ev_endLoop hq.lp (by simp)), .inr ⟨.ret, rfl, ?_⟩⟩
    have hq2 := hq.put { ({ recO Try.f32 #[.agg #[.int .i64 size, .int .i64 start, .slice sl n capc], .pointer (some ⟨yb, 0, none⟩), .pointer (some ⟨rb, 0, none⟩), undef, undef, .agg #[.int .i64 size, .int .i64 start, .slice sl n capc], .func (.func 52) #[] #[.pointer (some ⟨yb, 0, none⟩)], .func (.func 72) #[] #[.pointer (some ⟨b1, 0, none⟩), .pointer (some ⟨b2, 0, none⟩)], undef, undef, undef, undef] Dk with state := .done, pending := some .ret } : Loop) with state := .exhausted }
    have hbl : lastsB size start ds = false := by
      obtain ⟨d, hd, hd2⟩ := hX.2
      unfold lastsB
      rw [List.all_eq_false]
      exact ⟨d, by rw [htot]; exact List.mem_append_left _ hd, by simp [hd2]⟩
    rw [hbl]
    refine Goes.mono (n := 1 + 1) ?_ (by omega)
    exact gl_ret env_terms fun todo => end32 rfl hq2.rs hq2.df hq2.old hBw

/-- lasts. -/
theorem lasts_any (size start : Int) (sl : Option Addr) (n o capc db : Nat) (dc : Array Value) (et : TypeId) (frd : Nat × Nat) (ds : List (Int × Int)) (hn : ds.length = n) (hn366 : n ≤ 366) (hsl : 0 < n → sl = some ⟨db, o, none⟩)
    (hd : ∀ (i : Nat) (d : Int × Int), ds[i]? = some d → dc[o + i * 3 + 0]? = some (.int .i64 d.1) ∧ dc[o + i * 3 + 2]? = some (.int .i64 d.2) ∧ (∃ x, dc[o + i * 3]? = some (.int .i64 x)) ∧ ∃ x, dc[o + i * 3 + 1]? = some (.int .i64 x))
    (w : World) (hdays : 0 < n → w.heap[db]? = some (.cells dc et frd)) :
    Calls PA.prog 32 #[.agg #[.int .i64 size, .int .i64 start, .slice sl n capc]] w fun e w' => e = .returned (.bool (lastsB size start ds)) ∧ BelowH w.heap.size w w' := by
  intro cs
  obtain ⟨N, hN⟩ := goes32 n
  obtain ⟨g', w', hst, tm, todo, rb, rfl, h1, h2, h3⟩ := steps_of_goes Env.refl _ _ _ (hN size start sl o capc db dc et frd ds hn hn366 hsl hd w hdays cs)
  have hbody : Try.f32.body = some (codeOf Try.f32) := rfl
  have hent : Frame.enter PA.prog 32 #[.agg #[.int .i64 size, .int .i64 start, .slice sl n capc]] .normal = (Go.Conc.base 32).at ⟨#[.agg #[.int .i64 size, .int .i64 start, .slice sl n capc], undef, undef, undef, undef, undef, undef, undef, undef, undef, undef, undef], []⟩ [.code (codeOf Try.f32)] := by
    rw [enter_at _ PA.func32 hbody]
    have : Try.f32.ntmps = 12 := rfl
    simp
    rfl
  refine ⟨.returned (.bool (lastsB size start ds)), w', { (Go.Conc.base 32).at ⟨tm, []⟩ todo with mode := .returning }, ⟨rfl, h3.le, h3.same⟩, ?_, rfl, rfl, rfl, rfl, _, PA.func32, ?_⟩
  · rw [hent]
    exact hst
  · have hc := cell_blk (i := 0) h2 rfl
    have hr : Try.f32.results = #[.cell 2 4] := rfl
    have h1' : tm.getD 2 undef = .pointer (some ⟨rb, 0, none⟩) := by simp [h1]
    simp [results, Frame.at, h1, go_sem, hc]
end Go.Proofs.Ytpolipcicfjkiaa.Cy

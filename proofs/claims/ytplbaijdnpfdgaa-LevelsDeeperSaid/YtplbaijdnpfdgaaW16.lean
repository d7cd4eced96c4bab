/- The iterator over the lists of words: its contract. -/
import Derived.Test.YtplbaijdnpfdgaaW15
namespace Go.Proofs.Ytplbaijdnpfdgaa
open Go.RowKit Go.Sort Go.Shelf
attribute [local go_sem] Oper.semAt_some run_store_func

set_option maxRecDepth 100000 in
set_option maxHeartbeats 2000000 in
theorem lists_any (many below : Int) (w : World) :
    Calls Try.prog 71 #[I many, I below] w fun e w' => e = .returned (.func (.func 100) #[] #[.pointer (some ⟨w.heap.size, 0, none⟩), .pointer (some ⟨w.heap.size + 1, 0, none⟩)]) ∧ w' = (w.alloc (.cells #[I many] 3)).alloc (.cells #[I below] 3) := by
  go_enter Try.func71, Try.ntmps71
  go_wp2
  go_ret
  exact ⟨rfl, rfl⟩

set_option maxRecDepth 100000 in
set_option maxHeartbeats 4000000 in
theorem lists1_in (l Bm Bb many below : Nat) (hmany : many ≤ 100) (hbelow : below ≤ 100) (J Jx : List YL → World → Prop) (W : World) (hJ : AbidesFrom W.heap.size J)
    (hY : ∀ pre x W1, J pre W1 → RY (listsD below many []) pre x W1 → YieldAt Fence.wide 3 Try.prog l (encY x) W1 fun e W' =>
      (e = .returned (.bool true) ∧ J (pre ++ [x]) W' ∧ KpC W1 W') ∨ (e = .returned (.bool false) ∧ Jx (pre ++ [x]) W'))
    (hm : W.cell? ⟨Bm, 0, none⟩ = some (I (many : Nat))) (hb : W.cell? ⟨Bb, 0, none⟩ = some (I (below : Nat))) (h0 : J [] W) :
    CallsIn Fence.wide 4 Try.prog 100 #[.func (.yield l) #[] #[], .pointer (some ⟨Bm, 0, none⟩), .pointer (some ⟨Bb, 0, none⟩)] W fun e W' => (∃ v, e = .returned v) ∧
      ((∃ ys : List YL, ys.map Prod.snd = listsD below many [] ∧ J ys W') ∨ (∃ pre, True ∧ Jx pre W')) := by
  have HM := Lib.hid hm
  have HB := Lib.hid hb
  have HJ := Lib.hid hJ
  have HY := Lib.hid hY
  have S := Lib.hid (show St W ((W.alloc (.cells #[.func (.yield l) #[] #[]] 110)).alloc (.cells #[.func (.func 101) #[] #[.pointer (some ⟨Bm, 0, none⟩), .pointer (some ⟨W.heap.size, 0, none⟩), .pointer (some ⟨Bb, 0, none⟩), .pointer (some ⟨W.heap.size + 1, 0, none⟩)]] 110)) (W.heap.size + 1 + 1) [.box (W.heap.size + 1) [.func (.func 101) #[] #[.pointer (some ⟨Bm, 0, none⟩), .pointer (some ⟨W.heap.size, 0, none⟩), .pointer (some ⟨Bb, 0, none⟩), .pointer (some ⟨W.heap.size + 1, 0, none⟩)]], .box W.heap.size [.func (.yield l) #[] #[]]] from ((St.init W).alloc [.func (.yield l) #[] #[]] 110).alloc [.func (.func 101) #[] #[.pointer (some ⟨Bm, 0, none⟩), .pointer (some ⟨W.heap.size, 0, none⟩), .pointer (some ⟨Bb, 0, none⟩), .pointer (some ⟨W.heap.size + 1, 0, none⟩)]] 110)
  clear hm hb hJ hY
  refine callsIn_of_wp Try.func100 rfl trivial ?_ rfl
  simp only [Try.ntmps100, List.size_toArray, List.length_cons, List.length_nil, Nat.reduceAdd, Nat.reduceSub, Array.replicate_succ, Array.replicate_zero, List.push_toArray, List.append_toArray, List.nil_append, List.cons_append]
  gi_wp2_with fail
  refine ⟨trivial, callsIn_wide.2 ?_⟩
  refine (callsIn_wide.1 (from_in l Bm W.heap.size Bb (W.heap.size + 1) many below hmany hbelow J Jx (listsD below many []) W.heap.size HJ.out HY.out many [] none 0 0 [] _ rfl (by simp) (by omega) (fun _ => rfl) (ints_nil _) ⟨keep_cell S.out.bel HM.out, S.out.get 1 0 rfl rfl, keep_cell S.out.bel HB.out, S.out.get 0 0 rfl rfl⟩ S.out.bel.size (HJ.out _ _ _ none h0 (grown_of_below S.out.bel none) (by simp)) (by simp))).mono ?_
  rintro e W2 (⟨rfl, q, hq, hJq, -⟩ | ⟨rfl, q, hJx⟩)
  · have HQ := Lib.hid hq
    have HJQ := Lib.hid hJq
    clear hq hJq
    gi_wp2
    go_end0
    exact ⟨⟨_, rfl⟩, .inl ⟨q, HQ.out, by simpa using HJQ.out⟩⟩
  · have HJX := Lib.hid hJx
    clear hJx
    gi_wp2
    go_end0
    exact ⟨⟨_, rfl⟩, .inr ⟨q, trivial, HJX.out⟩⟩

/-- The contract: all lists, the least one first; what is cells may not turn while a round goes on. -/
theorem lists_seq (w : World) (Bm Bb many below : Nat) (hmany : many ≤ 100) (hbelow : below ≤ 100) (hm : w.cell? ⟨Bm, 0, none⟩ = some (I (many : Nat))) (hb : w.cell? ⟨Bb, 0, none⟩ = some (I (below : Nat))) :
    SeqR Fence.wide 4 Try.prog 100 #[.pointer (some ⟨Bm, 0, none⟩), .pointer (some ⟨Bb, 0, none⟩)] encY KpC (fun ys => ys.map Prod.snd = listsD below many []) (fun _ => True) (fun _ => True) (RY (listsD below many [])) w := fun l J Jx W hW hJ _ _ hY h0 =>
  lists1_in l Bm Bb many below hmany hbelow J Jx W hJ hY (keep_cell hW hm) (keep_cell hW hb) h0
end Go.Proofs.Ytplbaijdnpfdgaa

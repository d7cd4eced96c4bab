/- Layer 1: all lists of so many numbers below a number, ascending. No program here. -/
namespace Go.Proofs.Ytplbaijdnpfdgaa
def nextN (l : List Nat) : Nat := match l.getLast? with | none => 0 | some x => x + 1
/-- The lists that begin with one, and have so many numbers more. -/
def listsD (below : Nat) : Nat → List Nat → List (List Nat)
  | 0, l => [l]
  | d + 1, l => (List.range' (nextN l) (below - nextN l)).flatMap fun n => listsD below d (l ++ [n])
/-- The same, of the first k numbers that may come next. -/
def listsK (below d : Nat) (l : List Nat) (k : Nat) : List (List Nat) := (List.range' (nextN l) k).flatMap fun n => listsD below d (l ++ [n])
theorem listsK_all (below d : Nat) (l : List Nat) : listsK below d l (below - nextN l) = listsD below (d + 1) l := rfl
theorem listsK_succ (below d : Nat) (l : List Nat) (k : Nat) : listsK below d l (k + 1) = listsK below d l k ++ listsD below d (l ++ [nextN l + k]) := by
  unfold listsK
  rw [List.range'_concat, List.flatMap_append]
  simp
theorem listsK_prefix (below d : Nat) (l : List Nat) (k : Nat) (h : k ≤ below - nextN l) : listsK below d l k <+: listsD below (d + 1) l := by
  rw [← listsK_all]
  unfold listsK
  obtain ⟨m, hm⟩ : ∃ m, below - nextN l = k + m := ⟨below - nextN l - k, by omega⟩
  rw [hm, ← List.range'_append_1, List.flatMap_append]
  exact List.prefix_append _ _
theorem listsD_len {below : Nat} : ∀ (d : Nat) (l x : List Nat), x ∈ listsD below d l → x.length = l.length + d
  | 0, l, x, h => by
    have : x = l := by simpa [listsD] using h
    rw [this]; rfl
  | d + 1, l, x, h => by
    obtain ⟨n, _, hx⟩ := List.mem_flatMap.1 h
    have := listsD_len d (l ++ [n]) x hx
    simp at this
    omega
theorem nextN_snoc (l : List Nat) (x : Nat) : nextN (l ++ [x]) = x + 1 := by simp [nextN]
end Go.Proofs.Ytplbaijdnpfdgaa

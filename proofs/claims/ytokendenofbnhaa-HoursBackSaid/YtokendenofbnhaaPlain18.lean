/- HoursBack: what the loops make. No program here. -/
import Derived.Test.YtokendenofbnhaaPlain16
namespace Go.Proofs.Ytokendenofbnhaa
/-- Of a list, as far as a loop has come; of another one behind it. -/
def mixL {α : Type} (a b : List α) (k : Nat) : List α := a.take k ++ b.drop k
theorem mixL_len {α : Type} (a b : List α) (k : Nat) (h : a.length = b.length) (hk : k ≤ a.length) : (mixL a b k).length = b.length := by
  unfold mixL
  rw [List.length_append, List.length_take, List.length_drop]
  omega
theorem mixL_zero {α : Type} (a b : List α) : mixL a b 0 = b := by simp [mixL]
theorem mixL_all {α : Type} (a b : List α) (h : a.length = b.length) : mixL a b b.length = a := by
  unfold mixL
  rw [List.drop_length, List.append_nil, ← h, List.take_length]
theorem mixL_succ {α : Type} (a b : List α) (k : Nat) (h : a.length = b.length) (hk : k < a.length) : (mixL a b k).set k a[k] = mixL a b (k + 1) := set_mid a b k h hk
end Go.Proofs.Ytokendenofbnhaa

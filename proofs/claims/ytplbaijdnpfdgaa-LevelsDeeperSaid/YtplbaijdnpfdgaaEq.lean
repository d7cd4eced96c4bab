/- Spans, soundings and slopes held against each other. No function here; no conditions. -/
import Derived.Test.YtplbaijdnpfdgaaBase
import Derived.Laws.StructEq
namespace Go.Proofs.Ytplbaijdnpfdgaa
open Go.RowKit

theorem guardT40 : Try.prog.eqGuardType Try.prog.depth 40 = false := by kernel_rfl
theorem stoodT40 : Try.prog.stoodInHeld 40 = false := by kernel_rfl
theorem fieldsT40 : Try.prog.underlying 40 = some (.struct (Try.prog.fieldsOf 40)) := by kernel_rfl
theorem guardT57 : Try.prog.eqGuardType Try.prog.depth 57 = false := by kernel_rfl
theorem stoodT57 : Try.prog.stoodInHeld 57 = false := by kernel_rfl
theorem fieldsT57 : Try.prog.underlying 57 = some (.struct (Try.prog.fieldsOf 57)) := by kernel_rfl
theorem guardT47 : Try.prog.eqGuardType Try.prog.depth 47 = false := by kernel_rfl
theorem stoodT47 : Try.prog.stoodInHeld 47 = false := by kernel_rfl
theorem fieldsT47 : Try.prog.underlying 47 = some (.struct (Try.prog.fieldsOf 47)) := by kernel_rfl

theorem span_equal (d : Nat) (a b : Sp) (w : World) : (Op.equalIn (d + 3) 40 a.val b.val).run Try.prog w = .ok (a == b) w := by
  obtain ⟨a1, a2⟩ := a
  obtain ⟨b1, b2⟩ := b
  rw [run_equalIn_agg w _ _ _ _ fieldsT40 stoodT40]
  have hf : (Try.prog.fieldsOf 40).toList = [{ name := "Low", type := 3, offset := 0, embedded := false, tag := "", pkgPath := "", byteOffset := 0 }, { name := "High", type := 3, offset := 1, embedded := false, tag := "", pkgPath := "", byteOffset := 8 }] := by kernel_rfl
  rw [hf]
  have e : ((⟨a1, a2⟩ : Sp) == ⟨b1, b2⟩) = (decide (a1 = b1) && decide (a2 = b2)) := by
    rw [Bool.eq_iff_iff, beq_iff_eq, Sp.mk.injEq]; simp
  rw [e]
  simp [Op.eqFields, go_sem]
  by_cases h1 : a1 = b1 <;> by_cases h2 : a2 = b2 <;> simp [h1, h2]
theorem snd_equal (d : Nat) (a b : Snd) (w : World) : (Op.equalIn (d + 4) 57 a.val b.val).run Try.prog w = .ok (a == b) w := by
  obtain ⟨a1, a2, a3⟩ := a
  obtain ⟨b1, b2, b3⟩ := b
  rw [run_equalIn_agg w _ _ _ _ fieldsT57 stoodT57]
  have hf : (Try.prog.fieldsOf 57).toList = [{ name := "Well", type := 3, offset := 0, embedded := false, tag := "", pkgPath := "", byteOffset := 0 }, { name := "Low", type := 3, offset := 1, embedded := false, tag := "", pkgPath := "", byteOffset := 8 }, { name := "High", type := 3, offset := 2, embedded := false, tag := "", pkgPath := "", byteOffset := 16 }] := by kernel_rfl
  rw [hf]
  have e : ((⟨a1, a2, a3⟩ : Snd) == ⟨b1, b2, b3⟩) = (decide (a1 = b1) && (decide (a2 = b2) && decide (a3 = b3))) := by
    rw [Bool.eq_iff_iff, beq_iff_eq, Snd.mk.injEq]; simp
  rw [e]
  simp [Op.eqFields, go_sem]
  by_cases h1 : a1 = b1 <;> by_cases h2 : a2 = b2 <;> by_cases h3 : a3 = b3 <;> simp [h1, h2, h3]
theorem slp_equal (d : Nat) (a b : Slp) (w : World) : (Op.equalIn (d + 5) 47 a.val b.val).run Try.prog w = .ok (a == b) w := by
  obtain ⟨a1, a2, a3, a4⟩ := a
  obtain ⟨b1, b2, b3, b4⟩ := b
  rw [run_equalIn_agg w _ _ _ _ fieldsT47 stoodT47]
  have hf : (Try.prog.fieldsOf 47).toList = [{ name := "A", type := 3, offset := 0, embedded := false, tag := "", pkgPath := "", byteOffset := 0 }, { name := "B", type := 3, offset := 1, embedded := false, tag := "", pkgPath := "", byteOffset := 8 }, { name := "Low", type := 3, offset := 2, embedded := false, tag := "", pkgPath := "", byteOffset := 16 }, { name := "High", type := 3, offset := 3, embedded := false, tag := "", pkgPath := "", byteOffset := 24 }] := by kernel_rfl
  rw [hf]
  have e : ((⟨a1, a2, a3, a4⟩ : Slp) == ⟨b1, b2, b3, b4⟩) = (decide (a1 = b1) && (decide (a2 = b2) && (decide (a3 = b3) && decide (a4 = b4)))) := by
    rw [Bool.eq_iff_iff, beq_iff_eq, Slp.mk.injEq]; simp
  rw [e]
  simp [Op.eqFields, go_sem]
  by_cases h1 : a1 = b1 <;> by_cases h2 : a2 = b2 <;> by_cases h3 : a3 = b3 <;> by_cases h4 : a4 = b4 <;> simp [h1, h2, h3, h4]
theorem span_neq (a b : Sp) (w : World) : (binOp .neq 40 a.val b.val).run Try.prog w = .ok (.bool (!(a == b))) w := by rw [run_neq_struct, span_equal 9997]; rfl
theorem span_eql (a b : Sp) (w : World) : (binOp .eql 40 a.val b.val).run Try.prog w = .ok (.bool (a == b)) w := by rw [run_eql_struct, span_equal 9997]; rfl
theorem snd_neq (a b : Snd) (w : World) : (binOp .neq 57 a.val b.val).run Try.prog w = .ok (.bool (!(a == b))) w := by rw [run_neq_struct, snd_equal 9996]; rfl
theorem slp_neq (a b : Slp) (w : World) : (binOp .neq 47 a.val b.val).run Try.prog w = .ok (.bool (!(a == b))) w := by rw [run_neq_struct, slp_equal 9995]; rfl
end Go.Proofs.Ytplbaijdnpfdgaa

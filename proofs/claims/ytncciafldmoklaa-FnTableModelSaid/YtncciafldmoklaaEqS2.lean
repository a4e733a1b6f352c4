/-
  Equality of structs as an operation.
  Conditions: none.
-/
import Derived.Test.YtncciafldmoklaaEqS
import Derived.Test.YtncciafldmoklaaEngX
import Derived.Test.YtncciafldmoklaaBase
import Derived.Laws.StructEq
set_option linter.unusedSimpArgs false
set_option linter.unusedVariables false
namespace Go.Proofs.Ytncciafldmoklaa
open Go.RowKit



set_option maxHeartbeats 8000000 in
theorem eqiSlot {a0 : Int} {a1 : Int} {a2 : Int} {a3 : Int} {a4 : Int} {a5 : Int} {a6 : Int} {b0 : Int} {b1 : Int} {b2 : Int} {b3 : Int} {b4 : Int} {b5 : Int} {b6 : Int} (w : World) : (Op.equalIn 10000 46 (.agg #[.int .i64 a0, .int .i64 a1, .int .i64 a2, .int .i64 a3, .int .i64 a4, .int .i64 a5, .int .i64 a6]) (.agg #[.int .i64 b0, .int .i64 b1, .int .i64 b2, .int .i64 b3, .int .i64 b4, .int .i64 b5, .int .i64 b6])).run Try.prog w = .ok (decide (a0 = b0 ∧ a1 = b1 ∧ a2 = b2 ∧ a3 = b3 ∧ a4 = b4 ∧ a5 = b5 ∧ a6 = b6)) w := by
  have hS : Try.prog.underlying 46 = some (.struct (Try.prog.fieldsOf 46)) := by kernel_rfl
  rw [show (10000 : Nat) = 9999 + 1 from rfl, run_equalIn_agg w 9999 46 _ _ hS Try.stoodInHeld46]
  simp only [Program.fieldsOf, Try.underlying46]
  go_simp
  have hst : ∀ x y : ByteArray, (x.toList = y.toList) = (x = y) := fun x y => propext ⟨fun h => by have := str_eq x y; rw [h] at this; simpa using this.symm, fun h => by rw [h]⟩
  try simp only [hst]
  by_cases h0 : a0 = b0
  case neg => rw [if_neg h0, decide_eq_false h0, Bool.false_and]
  rw [if_pos h0, decide_eq_true h0, Bool.true_and]
  by_cases h1 : a1 = b1
  case neg => rw [if_neg h1, decide_eq_false h1, Bool.false_and]
  rw [if_pos h1, decide_eq_true h1, Bool.true_and]
  by_cases h2 : a2 = b2
  case neg => rw [if_neg h2, decide_eq_false h2, Bool.false_and]
  rw [if_pos h2, decide_eq_true h2, Bool.true_and]
  by_cases h3 : a3 = b3
  case neg => rw [if_neg h3, decide_eq_false h3, Bool.false_and]
  rw [if_pos h3, decide_eq_true h3, Bool.true_and]
  by_cases h4 : a4 = b4
  case neg => rw [if_neg h4, decide_eq_false h4, Bool.false_and]
  rw [if_pos h4, decide_eq_true h4, Bool.true_and]
  by_cases h5 : a5 = b5
  case neg => rw [if_neg h5, decide_eq_false h5, Bool.false_and]
  rw [if_pos h5, decide_eq_true h5, Bool.true_and]
  by_cases h6 : a6 = b6
  case neg => rw [if_neg h6, decide_eq_false h6]
  rw [if_pos h6, decide_eq_true h6]
theorem eqbSlot {a0 : Int} {a1 : Int} {a2 : Int} {a3 : Int} {a4 : Int} {a5 : Int} {a6 : Int} {b0 : Int} {b1 : Int} {b2 : Int} {b3 : Int} {b4 : Int} {b5 : Int} {b6 : Int} : BinR Try.prog .eql 46 (.agg [.int .i64 a0, .int .i64 a1, .int .i64 a2, .int .i64 a3, .int .i64 a4, .int .i64 a5, .int .i64 a6].toArray) (.agg [.int .i64 b0, .int .i64 b1, .int .i64 b2, .int .i64 b3, .int .i64 b4, .int .i64 b5, .int .i64 b6].toArray) (.bool (decide (a0 = b0 ∧ a1 = b1 ∧ a2 = b2 ∧ a3 = b3 ∧ a4 = b4 ∧ a5 = b5 ∧ a6 = b6))) :=
  ⟨rfl, rfl, rfl, fun x y w => by
    rw [Sem.run_bind, run_eqGuard_agg w _ _ _ _ _ _ Try.eqGuardType46, Result.andThen_ok, run_eql_struct, eqiSlot]; rfl⟩
theorem nebSlot {a0 : Int} {a1 : Int} {a2 : Int} {a3 : Int} {a4 : Int} {a5 : Int} {a6 : Int} {b0 : Int} {b1 : Int} {b2 : Int} {b3 : Int} {b4 : Int} {b5 : Int} {b6 : Int} : BinR Try.prog .neq 46 (.agg [.int .i64 a0, .int .i64 a1, .int .i64 a2, .int .i64 a3, .int .i64 a4, .int .i64 a5, .int .i64 a6].toArray) (.agg [.int .i64 b0, .int .i64 b1, .int .i64 b2, .int .i64 b3, .int .i64 b4, .int .i64 b5, .int .i64 b6].toArray) (.bool (!decide (a0 = b0 ∧ a1 = b1 ∧ a2 = b2 ∧ a3 = b3 ∧ a4 = b4 ∧ a5 = b5 ∧ a6 = b6))) :=
  ⟨rfl, rfl, rfl, fun x y w => by
    rw [Sem.run_bind, run_eqGuard_agg w _ _ _ _ _ _ Try.eqGuardType46, Result.andThen_ok, run_neq_struct, eqiSlot]; rfl⟩
theorem nebFlow_same {a0 : Int} {a1 : Int} {a2 : Int} {a3 : Int} {a4 : Int} : BinR Try.prog .neq 25 (.agg [.int .i64 a0, .int .i64 a1, .int .i64 a2, .int .i64 a3, .int .i64 a4].toArray) (.agg [.int .i64 a0, .int .i64 a1, .int .i64 a2, .int .i64 a3, .int .i64 a4].toArray) (.bool false) := by
  have h := nebFlow (a0 := a0) (a1 := a1) (a2 := a2) (a3 := a3) (a4 := a4) (b0 := a0) (b1 := a1) (b2 := a2) (b3 := a3) (b4 := a4)
  rw [decide_eq_true (by simp)] at h
  exact h
theorem nebPacket_same {a0 : Int} {a1 : Int} {a2 : Int} {a3 : Int} {a4 : Int} {a5 : Int} {a6 : Int} {a7 : Int} {a8 : Int} {a9 : Int} {a10 : Int} {a11 : Int} {a12 : Int} {a13 : Int} {a14 : Int} {a15 : ByteArray} : BinR Try.prog .neq 83 (.agg [.int .i64 a0, .int .i64 a1, .int .i64 a2, .int .i64 a3, .int .i64 a4, .int .i64 a5, .int .i64 a6, .int .i64 a7, .int .i64 a8, .int .i64 a9, .int .i64 a10, .int .i64 a11, .int .i64 a12, .int .i64 a13, .int .i64 a14, .string a15].toArray) (.agg [.int .i64 a0, .int .i64 a1, .int .i64 a2, .int .i64 a3, .int .i64 a4, .int .i64 a5, .int .i64 a6, .int .i64 a7, .int .i64 a8, .int .i64 a9, .int .i64 a10, .int .i64 a11, .int .i64 a12, .int .i64 a13, .int .i64 a14, .string a15].toArray) (.bool false) := by
  have h := nebPacket (a0 := a0) (a1 := a1) (a2 := a2) (a3 := a3) (a4 := a4) (a5 := a5) (a6 := a6) (a7 := a7) (a8 := a8) (a9 := a9) (a10 := a10) (a11 := a11) (a12 := a12) (a13 := a13) (a14 := a14) (a15 := a15) (b0 := a0) (b1 := a1) (b2 := a2) (b3 := a3) (b4 := a4) (b5 := a5) (b6 := a6) (b7 := a7) (b8 := a8) (b9 := a9) (b10 := a10) (b11 := a11) (b12 := a12) (b13 := a13) (b14 := a14) (b15 := a15)
  rw [decide_eq_true (by simp)] at h
  exact h
theorem nebSlot_same {a0 : Int} {a1 : Int} {a2 : Int} {a3 : Int} {a4 : Int} {a5 : Int} {a6 : Int} : BinR Try.prog .neq 46 (.agg [.int .i64 a0, .int .i64 a1, .int .i64 a2, .int .i64 a3, .int .i64 a4, .int .i64 a5, .int .i64 a6].toArray) (.agg [.int .i64 a0, .int .i64 a1, .int .i64 a2, .int .i64 a3, .int .i64 a4, .int .i64 a5, .int .i64 a6].toArray) (.bool false) := by
  have h := nebSlot (a0 := a0) (a1 := a1) (a2 := a2) (a3 := a3) (a4 := a4) (a5 := a5) (a6 := a6) (b0 := a0) (b1 := a1) (b2 := a2) (b3 := a3) (b4 := a4) (b5 := a5) (b6 := a6)
  rw [decide_eq_true (by simp)] at h
  exact h
end Go.Proofs.Ytncciafldmoklaa

/-
  Equality of structs as an operation.
  Conditions: none.
-/
import Derived.Test.YtgkedbhpeafbbaaTab
import Derived.Test.YtgkedbhpeafbbaaEngX
import Derived.Test.YtgkedbhpeafbbaaBase
import Derived.Laws.StructEq
set_option linter.unusedSimpArgs false
set_option linter.unusedVariables false
namespace Go.Proofs.Ytgkedbhpeafbbaa
open Go.RowKit

set_option maxHeartbeats 8000000 in
theorem eqiFlow {a0 : Int} {a1 : Int} {a2 : Int} {a3 : Int} {a4 : Int} {b0 : Int} {b1 : Int} {b2 : Int} {b3 : Int} {b4 : Int} (w : World) : (Op.equalIn 10000 42 (.agg #[.int .i64 a0, .int .i64 a1, .int .i64 a2, .int .i64 a3, .int .i64 a4]) (.agg #[.int .i64 b0, .int .i64 b1, .int .i64 b2, .int .i64 b3, .int .i64 b4])).run Try.prog w = .ok (decide (a0 = b0 ∧ a1 = b1 ∧ a2 = b2 ∧ a3 = b3 ∧ a4 = b4)) w := by
  have hS : Try.prog.underlying 42 = some (.struct (Try.prog.fieldsOf 42)) := by kernel_rfl
  rw [show (10000 : Nat) = 9999 + 1 from rfl, run_equalIn_agg w 9999 42 _ _ hS Try.stoodInHeld42]
  simp only [Program.fieldsOf, Try.underlying42]
  go_simp
  have hst : ∀ x y : ByteArray, (x.toList = y.toList) = (x = y) := fun x y => propext ⟨fun h => by have := str_eq x y; rw [h] at this; simpa using this.symm, fun h => by rw [h]⟩
  try simp only [hst]
  by_cases h0 : a0 = b0
  case neg => rw [if_neg h0, decide_eq_false h0, Bool.false_and]
  rw [if_pos h0, decide_eq_true h0, Bool.true_and]
  by_cases h1 : a1 = b1
  case neg => rw [if_neg h1, decide_eq_false h1, Bool.false_and]
  rw [if_pos h1, decide_eq_true h1, Bool.true_and]
  by_cases h2 : a2 = b2
  case neg => rw [if_neg h2, decide_eq_false h2, Bool.false_and]
  rw [if_pos h2, decide_eq_true h2, Bool.true_and]
  by_cases h3 : a3 = b3
  case neg => rw [if_neg h3, decide_eq_false h3, Bool.false_and]
  rw [if_pos h3, decide_eq_true h3, Bool.true_and]
  by_cases h4 : a4 = b4
  case neg => rw [if_neg h4, decide_eq_false h4]
  rw [if_pos h4, decide_eq_true h4]
theorem eqbFlow {a0 : Int} {a1 : Int} {a2 : Int} {a3 : Int} {a4 : Int} {b0 : Int} {b1 : Int} {b2 : Int} {b3 : Int} {b4 : Int} : BinR Try.prog .eql 42 (.agg [.int .i64 a0, .int .i64 a1, .int .i64 a2, .int .i64 a3, .int .i64 a4].toArray) (.agg [.int .i64 b0, .int .i64 b1, .int .i64 b2, .int .i64 b3, .int .i64 b4].toArray) (.bool (decide (a0 = b0 ∧ a1 = b1 ∧ a2 = b2 ∧ a3 = b3 ∧ a4 = b4))) :=
  ⟨rfl, rfl, rfl, fun x y w => by
    rw [Sem.run_bind, run_eqGuard_agg w _ _ _ _ _ _ Try.eqGuardType42, Result.andThen_ok, run_eql_struct, eqiFlow]; rfl⟩
theorem nebFlow {a0 : Int} {a1 : Int} {a2 : Int} {a3 : Int} {a4 : Int} {b0 : Int} {b1 : Int} {b2 : Int} {b3 : Int} {b4 : Int} : BinR Try.prog .neq 42 (.agg [.int .i64 a0, .int .i64 a1, .int .i64 a2, .int .i64 a3, .int .i64 a4].toArray) (.agg [.int .i64 b0, .int .i64 b1, .int .i64 b2, .int .i64 b3, .int .i64 b4].toArray) (.bool (!decide (a0 = b0 ∧ a1 = b1 ∧ a2 = b2 ∧ a3 = b3 ∧ a4 = b4))) :=
  ⟨rfl, rfl, rfl, fun x y w => by
    rw [Sem.run_bind, run_eqGuard_agg w _ _ _ _ _ _ Try.eqGuardType42, Result.andThen_ok, run_neq_struct, eqiFlow]; rfl⟩

set_option maxHeartbeats 8000000 in
theorem eqiPacket {a0 : Int} {a1 : Int} {a2 : Int} {a3 : Int} {a4 : Int} {a5 : Int} {a6 : Int} {a7 : Int} {a8 : Int} {a9 : Int} {a10 : Int} {a11 : Int} {a12 : Int} {a13 : Int} {a14 : Int} {a15 : ByteArray} {b0 : Int} {b1 : Int} {b2 : Int} {b3 : Int} {b4 : Int} {b5 : Int} {b6 : Int} {b7 : Int} {b8 : Int} {b9 : Int} {b10 : Int} {b11 : Int} {b12 : Int} {b13 : Int} {b14 : Int} {b15 : ByteArray} (w : World) : (Op.equalIn 10000 52 (.agg #[.int .i64 a0, .int .i64 a1, .int .i64 a2, .int .i64 a3, .int .i64 a4, .int .i64 a5, .int .i64 a6, .int .i64 a7, .int .i64 a8, .int .i64 a9, .int .i64 a10, .int .i64 a11, .int .i64 a12, .int .i64 a13, .int .i64 a14, .string a15]) (.agg #[.int .i64 b0, .int .i64 b1, .int .i64 b2, .int .i64 b3, .int .i64 b4, .int .i64 b5, .int .i64 b6, .int .i64 b7, .int .i64 b8, .int .i64 b9, .int .i64 b10, .int .i64 b11, .int .i64 b12, .int .i64 b13, .int .i64 b14, .string b15])).run Try.prog w = .ok (decide (a0 = b0 ∧ a1 = b1 ∧ a2 = b2 ∧ a3 = b3 ∧ a4 = b4 ∧ a5 = b5 ∧ a6 = b6 ∧ a7 = b7 ∧ a8 = b8 ∧ a9 = b9 ∧ a10 = b10 ∧ a11 = b11 ∧ a12 = b12 ∧ a13 = b13 ∧ a14 = b14 ∧ a15 = b15)) w := by
  have hS : Try.prog.underlying 52 = some (.struct (Try.prog.fieldsOf 52)) := by kernel_rfl
  rw [show (10000 : Nat) = 9999 + 1 from rfl, run_equalIn_agg w 9999 52 _ _ hS Try.stoodInHeld52]
  simp only [Program.fieldsOf, Try.underlying52]
  go_simp
  have hst : ∀ x y : ByteArray, (x.toList = y.toList) = (x = y) := fun x y => propext ⟨fun h => by have := str_eq x y; rw [h] at this; simpa using this.symm, fun h => by rw [h]⟩
  try simp only [hst]
  by_cases h0 : a0 = b0
  case neg => rw [if_neg h0, decide_eq_false h0, Bool.false_and]
  rw [if_pos h0, decide_eq_true h0, Bool.true_and]
  by_cases h1 : a1 = b1
  case neg => rw [if_neg h1, decide_eq_false h1, Bool.false_and]
  rw [if_pos h1, decide_eq_true h1, Bool.true_and]
  by_cases h2 : a2 = b2
  case neg => rw [if_neg h2, decide_eq_false h2, Bool.false_and]
  rw [if_pos h2, decide_eq_true h2, Bool.true_and]
  by_cases h3 : a3 = b3
  case neg => rw [if_neg h3, decide_eq_false h3, Bool.false_and]
  rw [if_pos h3, decide_eq_true h3, Bool.true_and]
  by_cases h4 : a4 = b4
  case neg => rw [if_neg h4, decide_eq_false h4, Bool.false_and]
  rw [if_pos h4, decide_eq_true h4, Bool.true_and]
  by_cases h5 : a5 = b5
  case neg => rw [if_neg h5, decide_eq_false h5, Bool.false_and]
  rw [if_pos h5, decide_eq_true h5, Bool.true_and]
  by_cases h6 : a6 = b6
  case neg => rw [if_neg h6, decide_eq_false h6, Bool.false_and]
  rw [if_pos h6, decide_eq_true h6, Bool.true_and]
  by_cases h7 : a7 = b7
  case neg => rw [if_neg h7, decide_eq_false h7, Bool.false_and]
  rw [if_pos h7, decide_eq_true h7, Bool.true_and]
  by_cases h8 : a8 = b8
  case neg => rw [if_neg h8, decide_eq_false h8, Bool.false_and]
  rw [if_pos h8, decide_eq_true h8, Bool.true_and]
  by_cases h9 : a9 = b9
  case neg => rw [if_neg h9, decide_eq_false h9, Bool.false_and]
  rw [if_pos h9, decide_eq_true h9, Bool.true_and]
  by_cases h10 : a10 = b10
  case neg => rw [if_neg h10, decide_eq_false h10, Bool.false_and]
  rw [if_pos h10, decide_eq_true h10, Bool.true_and]
  by_cases h11 : a11 = b11
  case neg => rw [if_neg h11, decide_eq_false h11, Bool.false_and]
  rw [if_pos h11, decide_eq_true h11, Bool.true_and]
  by_cases h12 : a12 = b12
  case neg => rw [if_neg h12, decide_eq_false h12, Bool.false_and]
  rw [if_pos h12, decide_eq_true h12, Bool.true_and]
  by_cases h13 : a13 = b13
  case neg => rw [if_neg h13, decide_eq_false h13, Bool.false_and]
  rw [if_pos h13, decide_eq_true h13, Bool.true_and]
  by_cases h14 : a14 = b14
  case neg => rw [if_neg h14, decide_eq_false h14, Bool.false_and]
  rw [if_pos h14, decide_eq_true h14, Bool.true_and]
  by_cases h15 : a15 = b15
  case neg => rw [if_neg h15, decide_eq_false h15]
  rw [if_pos h15, decide_eq_true h15]
theorem eqbPacket {a0 : Int} {a1 : Int} {a2 : Int} {a3 : Int} {a4 : Int} {a5 : Int} {a6 : Int} {a7 : Int} {a8 : Int} {a9 : Int} {a10 : Int} {a11 : Int} {a12 : Int} {a13 : Int} {a14 : Int} {a15 : ByteArray} {b0 : Int} {b1 : Int} {b2 : Int} {b3 : Int} {b4 : Int} {b5 : Int} {b6 : Int} {b7 : Int} {b8 : Int} {b9 : Int} {b10 : Int} {b11 : Int} {b12 : Int} {b13 : Int} {b14 : Int} {b15 : ByteArray} : BinR Try.prog .eql 52 (.agg [.int .i64 a0, .int .i64 a1, .int .i64 a2, .int .i64 a3, .int .i64 a4, .int .i64 a5, .int .i64 a6, .int .i64 a7, .int .i64 a8, .int .i64 a9, .int .i64 a10, .int .i64 a11, .int .i64 a12, .int .i64 a13, .int .i64 a14, .string a15].toArray) (.agg [.int .i64 b0, .int .i64 b1, .int .i64 b2, .int .i64 b3, .int .i64 b4, .int .i64 b5, .int .i64 b6, .int .i64 b7, .int .i64 b8, .int .i64 b9, .int .i64 b10, .int .i64 b11, .int .i64 b12, .int .i64 b13, .int .i64 b14, .string b15].toArray) (.bool (decide (a0 = b0 ∧ a1 = b1 ∧ a2 = b2 ∧ a3 = b3 ∧ a4 = b4 ∧ a5 = b5 ∧ a6 = b6 ∧ a7 = b7 ∧ a8 = b8 ∧ a9 = b9 ∧ a10 = b10 ∧ a11 = b11 ∧ a12 = b12 ∧ a13 = b13 ∧ a14 = b14 ∧ a15 = b15))) :=
  ⟨rfl, rfl, rfl, fun x y w => by
    rw [Sem.run_bind, run_eqGuard_agg w _ _ _ _ _ _ Try.eqGuardType52, Result.andThen_ok, run_eql_struct, eqiPacket]; rfl⟩
theorem nebPacket {a0 : Int} {a1 : Int} {a2 : Int} {a3 : Int} {a4 : Int} {a5 : Int} {a6 : Int} {a7 : Int} {a8 : Int} {a9 : Int} {a10 : Int} {a11 : Int} {a12 : Int} {a13 : Int} {a14 : Int} {a15 : ByteArray} {b0 : Int} {b1 : Int} {b2 : Int} {b3 : Int} {b4 : Int} {b5 : Int} {b6 : Int} {b7 : Int} {b8 : Int} {b9 : Int} {b10 : Int} {b11 : Int} {b12 : Int} {b13 : Int} {b14 : Int} {b15 : ByteArray} : BinR Try.prog .neq 52 (.agg [.int .i64 a0, .int .i64 a1, .int .i64 a2, .int .i64 a3, .int .i64 a4, .int .i64 a5, .int .i64 a6, .int .i64 a7, .int .i64 a8, .int .i64 a9, .int .i64 a10, .int .i64 a11, .int .i64 a12, .int .i64 a13, .int .i64 a14, .string a15].toArray) (.agg [.int .i64 b0, .int .i64 b1, .int .i64 b2, .int .i64 b3, .int .i64 b4, .int .i64 b5, .int .i64 b6, .int .i64 b7, .int .i64 b8, .int .i64 b9, .int .i64 b10, .int .i64 b11, .int .i64 b12, .int .i64 b13, .int .i64 b14, .string b15].toArray) (.bool (!decide (a0 = b0 ∧ a1 = b1 ∧ a2 = b2 ∧ a3 = b3 ∧ a4 = b4 ∧ a5 = b5 ∧ a6 = b6 ∧ a7 = b7 ∧ a8 = b8 ∧ a9 = b9 ∧ a10 = b10 ∧ a11 = b11 ∧ a12 = b12 ∧ a13 = b13 ∧ a14 = b14 ∧ a15 = b15))) :=
  ⟨rfl, rfl, rfl, fun x y w => by
    rw [Sem.run_bind, run_eqGuard_agg w _ _ _ _ _ _ Try.eqGuardType52, Result.andThen_ok, run_neq_struct, eqiPacket]; rfl⟩
end Go.Proofs.Ytgkedbhpeafbbaa

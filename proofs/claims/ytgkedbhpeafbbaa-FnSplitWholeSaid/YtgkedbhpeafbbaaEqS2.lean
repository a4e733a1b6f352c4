/-
  Equality of structs as an operation.
  Conditions: none.
-/
import Derived.Test.YtgkedbhpeafbbaaEqS
import Derived.Test.YtgkedbhpeafbbaaEngX
import Derived.Test.YtgkedbhpeafbbaaBase
import Derived.Laws.StructEq
set_option linter.unusedSimpArgs false
set_option linter.unusedVariables false
namespace Go.Proofs.Ytgkedbhpeafbbaa
open Go.RowKit

set_option maxHeartbeats 8000000 in
theorem eqiSuper {a0 : Int} {a1 : Int} {a2 : Int} {a3 : Int} {a4 : Int} {a5 : Int} {a6 : Int} {a7 : Int} {a8 : Int} {a9 : Int} {a10 : Int} {a11 : Int} {a12 : Int} {a13 : Int} {a14 : Int} {a15 : ByteArray} {a16 : Int} {a17 : Int} {b0 : Int} {b1 : Int} {b2 : Int} {b3 : Int} {b4 : Int} {b5 : Int} {b6 : Int} {b7 : Int} {b8 : Int} {b9 : Int} {b10 : Int} {b11 : Int} {b12 : Int} {b13 : Int} {b14 : Int} {b15 : ByteArray} {b16 : Int} {b17 : Int} (w : World) : (Op.equalIn 10000 54 (.agg #[.int .i64 a0, .int .i64 a1, .int .i64 a2, .int .i64 a3, .int .i64 a4, .int .i64 a5, .int .i64 a6, .int .i64 a7, .int .i64 a8, .int .i64 a9, .int .i64 a10, .int .i64 a11, .int .i64 a12, .int .i64 a13, .int .i64 a14, .string a15, .int .i64 a16, .int .i64 a17]) (.agg #[.int .i64 b0, .int .i64 b1, .int .i64 b2, .int .i64 b3, .int .i64 b4, .int .i64 b5, .int .i64 b6, .int .i64 b7, .int .i64 b8, .int .i64 b9, .int .i64 b10, .int .i64 b11, .int .i64 b12, .int .i64 b13, .int .i64 b14, .string b15, .int .i64 b16, .int .i64 b17])).run Try.prog w = .ok (decide (a0 = b0 ∧ a1 = b1 ∧ a2 = b2 ∧ a3 = b3 ∧ a4 = b4 ∧ a5 = b5 ∧ a6 = b6 ∧ a7 = b7 ∧ a8 = b8 ∧ a9 = b9 ∧ a10 = b10 ∧ a11 = b11 ∧ a12 = b12 ∧ a13 = b13 ∧ a14 = b14 ∧ a15 = b15 ∧ a16 = b16 ∧ a17 = b17)) w := by
  have hS : Try.prog.underlying 54 = some (.struct (Try.prog.fieldsOf 54)) := by kernel_rfl
  rw [show (10000 : Nat) = 9999 + 1 from rfl, run_equalIn_agg w 9999 54 _ _ hS Try.stoodInHeld54]
  simp only [Program.fieldsOf, Try.underlying54]
  go_simp
  have hst : ∀ x y : ByteArray, (x.toList = y.toList) = (x = y) := fun x y => propext ⟨fun h => by have := str_eq x y; rw [h] at this; simpa using this.symm, fun h => by rw [h]⟩
  try simp only [hst]
  by_cases h0 : a0 = b0
  case neg => rw [if_neg h0, decide_eq_false h0, Bool.false_and]
  rw [if_pos h0, decide_eq_true h0, Bool.true_and]
  by_cases h1 : a1 = b1
  case neg => rw [if_neg h1, decide_eq_false h1, Bool.false_and]
  rw [if_pos h1, decide_eq_true h1, Bool.true_and]
  by_cases h2 : a2 = b2
  case neg => rw [if_neg h2, decide_eq_false h2, Bool.false_and]
  rw [if_pos h2, decide_eq_true h2, Bool.true_and]
  by_cases h3 : a3 = b3
  case neg => rw [if_neg h3, decide_eq_false h3, Bool.false_and]
  rw [if_pos h3, decide_eq_true h3, Bool.true_and]
  by_cases h4 : a4 = b4
  case neg => rw [if_neg h4, decide_eq_false h4, Bool.false_and]
  rw [if_pos h4, decide_eq_true h4, Bool.true_and]
  by_cases h5 : a5 = b5
  case neg => rw [if_neg h5, decide_eq_false h5, Bool.false_and]
  rw [if_pos h5, decide_eq_true h5, Bool.true_and]
  by_cases h6 : a6 = b6
  case neg => rw [if_neg h6, decide_eq_false h6, Bool.false_and]
  rw [if_pos h6, decide_eq_true h6, Bool.true_and]
  by_cases h7 : a7 = b7
  case neg => rw [if_neg h7, decide_eq_false h7, Bool.false_and]
  rw [if_pos h7, decide_eq_true h7, Bool.true_and]
  by_cases h8 : a8 = b8
  case neg => rw [if_neg h8, decide_eq_false h8, Bool.false_and]
  rw [if_pos h8, decide_eq_true h8, Bool.true_and]
  by_cases h9 : a9 = b9
  case neg => rw [if_neg h9, decide_eq_false h9, Bool.false_and]
  rw [if_pos h9, decide_eq_true h9, Bool.true_and]
  by_cases h10 : a10 = b10
  case neg => rw [if_neg h10, decide_eq_false h10, Bool.false_and]
  rw [if_pos h10, decide_eq_true h10, Bool.true_and]
  by_cases h11 : a11 = b11
  case neg => rw [if_neg h11, decide_eq_false h11, Bool.false_and]
  rw [if_pos h11, decide_eq_true h11, Bool.true_and]
  by_cases h12 : a12 = b12
  case neg => rw [if_neg h12, decide_eq_false h12, Bool.false_and]
  rw [if_pos h12, decide_eq_true h12, Bool.true_and]
  by_cases h13 : a13 = b13
  case neg => rw [if_neg h13, decide_eq_false h13, Bool.false_and]
  rw [if_pos h13, decide_eq_true h13, Bool.true_and]
  by_cases h14 : a14 = b14
  case neg => rw [if_neg h14, decide_eq_false h14, Bool.false_and]
  rw [if_pos h14, decide_eq_true h14, Bool.true_and]
  by_cases h15 : a15 = b15
  case neg => rw [if_neg h15, decide_eq_false h15, Bool.false_and]
  rw [if_pos h15, decide_eq_true h15, Bool.true_and]
  by_cases h16 : a16 = b16
  case neg => rw [if_neg h16, decide_eq_false h16, Bool.false_and]
  rw [if_pos h16, decide_eq_true h16, Bool.true_and]
  by_cases h17 : a17 = b17
  case neg => rw [if_neg h17, decide_eq_false h17]
  rw [if_pos h17, decide_eq_true h17]
theorem eqbSuper {a0 : Int} {a1 : Int} {a2 : Int} {a3 : Int} {a4 : Int} {a5 : Int} {a6 : Int} {a7 : Int} {a8 : Int} {a9 : Int} {a10 : Int} {a11 : Int} {a12 : Int} {a13 : Int} {a14 : Int} {a15 : ByteArray} {a16 : Int} {a17 : Int} {b0 : Int} {b1 : Int} {b2 : Int} {b3 : Int} {b4 : Int} {b5 : Int} {b6 : Int} {b7 : Int} {b8 : Int} {b9 : Int} {b10 : Int} {b11 : Int} {b12 : Int} {b13 : Int} {b14 : Int} {b15 : ByteArray} {b16 : Int} {b17 : Int} : BinR Try.prog .eql 54 (.agg [.int .i64 a0, .int .i64 a1, .int .i64 a2, .int .i64 a3, .int .i64 a4, .int .i64 a5, .int .i64 a6, .int .i64 a7, .int .i64 a8, .int .i64 a9, .int .i64 a10, .int .i64 a11, .int .i64 a12, .int .i64 a13, .int .i64 a14, .string a15, .int .i64 a16, .int .i64 a17].toArray) (.agg [.int .i64 b0, .int .i64 b1, .int .i64 b2, .int .i64 b3, .int .i64 b4, .int .i64 b5, .int .i64 b6, .int .i64 b7, .int .i64 b8, .int .i64 b9, .int .i64 b10, .int .i64 b11, .int .i64 b12, .int .i64 b13, .int .i64 b14, .string b15, .int .i64 b16, .int .i64 b17].toArray) (.bool (decide (a0 = b0 ∧ a1 = b1 ∧ a2 = b2 ∧ a3 = b3 ∧ a4 = b4 ∧ a5 = b5 ∧ a6 = b6 ∧ a7 = b7 ∧ a8 = b8 ∧ a9 = b9 ∧ a10 = b10 ∧ a11 = b11 ∧ a12 = b12 ∧ a13 = b13 ∧ a14 = b14 ∧ a15 = b15 ∧ a16 = b16 ∧ a17 = b17))) :=
  ⟨rfl, rfl, rfl, fun x y w => by
    rw [Sem.run_bind, run_eqGuard_agg w _ _ _ _ _ _ Try.eqGuardType54, Result.andThen_ok, run_eql_struct, eqiSuper]; rfl⟩
theorem nebSuper {a0 : Int} {a1 : Int} {a2 : Int} {a3 : Int} {a4 : Int} {a5 : Int} {a6 : Int} {a7 : Int} {a8 : Int} {a9 : Int} {a10 : Int} {a11 : Int} {a12 : Int} {a13 : Int} {a14 : Int} {a15 : ByteArray} {a16 : Int} {a17 : Int} {b0 : Int} {b1 : Int} {b2 : Int} {b3 : Int} {b4 : Int} {b5 : Int} {b6 : Int} {b7 : Int} {b8 : Int} {b9 : Int} {b10 : Int} {b11 : Int} {b12 : Int} {b13 : Int} {b14 : Int} {b15 : ByteArray} {b16 : Int} {b17 : Int} : BinR Try.prog .neq 54 (.agg [.int .i64 a0, .int .i64 a1, .int .i64 a2, .int .i64 a3, .int .i64 a4, .int .i64 a5, .int .i64 a6, .int .i64 a7, .int .i64 a8, .int .i64 a9, .int .i64 a10, .int .i64 a11, .int .i64 a12, .int .i64 a13, .int .i64 a14, .string a15, .int .i64 a16, .int .i64 a17].toArray) (.agg [.int .i64 b0, .int .i64 b1, .int .i64 b2, .int .i64 b3, .int .i64 b4, .int .i64 b5, .int .i64 b6, .int .i64 b7, .int .i64 b8, .int .i64 b9, .int .i64 b10, .int .i64 b11, .int .i64 b12, .int .i64 b13, .int .i64 b14, .string b15, .int .i64 b16, .int .i64 b17].toArray) (.bool (!decide (a0 = b0 ∧ a1 = b1 ∧ a2 = b2 ∧ a3 = b3 ∧ a4 = b4 ∧ a5 = b5 ∧ a6 = b6 ∧ a7 = b7 ∧ a8 = b8 ∧ a9 = b9 ∧ a10 = b10 ∧ a11 = b11 ∧ a12 = b12 ∧ a13 = b13 ∧ a14 = b14 ∧ a15 = b15 ∧ a16 = b16 ∧ a17 = b17))) :=
  ⟨rfl, rfl, rfl, fun x y w => by
    rw [Sem.run_bind, run_eqGuard_agg w _ _ _ _ _ _ Try.eqGuardType54, Result.andThen_ok, run_neq_struct, eqiSuper]; rfl⟩

set_option maxHeartbeats 8000000 in
theorem eqiStream {a0 : Int} {a1 : Int} {a2 : Int} {a3 : Int} {a4 : Int} {a5 : Int} {a6 : ByteArray} {a7 : Bool} {b0 : Int} {b1 : Int} {b2 : Int} {b3 : Int} {b4 : Int} {b5 : Int} {b6 : ByteArray} {b7 : Bool} (w : World) : (Op.equalIn 10000 73 (.agg #[.int .i64 a0, .int .i64 a1, .int .i64 a2, .int .i64 a3, .int .i64 a4, .int .i64 a5, .string a6, .bool a7]) (.agg #[.int .i64 b0, .int .i64 b1, .int .i64 b2, .int .i64 b3, .int .i64 b4, .int .i64 b5, .string b6, .bool b7])).run Try.prog w = .ok (decide (a0 = b0 ∧ a1 = b1 ∧ a2 = b2 ∧ a3 = b3 ∧ a4 = b4 ∧ a5 = b5 ∧ a6 = b6 ∧ a7 = b7)) w := by
  have hS : Try.prog.underlying 73 = some (.struct (Try.prog.fieldsOf 73)) := by kernel_rfl
  rw [show (10000 : Nat) = 9999 + 1 from rfl, run_equalIn_agg w 9999 73 _ _ hS Try.stoodInHeld73]
  simp only [Program.fieldsOf, Try.underlying73]
  go_simp
  have hst : ∀ x y : ByteArray, (x.toList = y.toList) = (x = y) := fun x y => propext ⟨fun h => by have := str_eq x y; rw [h] at this; simpa using this.symm, fun h => by rw [h]⟩
  try simp only [hst]
  by_cases h0 : a0 = b0
  case neg => rw [if_neg h0, decide_eq_false h0, Bool.false_and]
  rw [if_pos h0, decide_eq_true h0, Bool.true_and]
  by_cases h1 : a1 = b1
  case neg => rw [if_neg h1, decide_eq_false h1, Bool.false_and]
  rw [if_pos h1, decide_eq_true h1, Bool.true_and]
  by_cases h2 : a2 = b2
  case neg => rw [if_neg h2, decide_eq_false h2, Bool.false_and]
  rw [if_pos h2, decide_eq_true h2, Bool.true_and]
  by_cases h3 : a3 = b3
  case neg => rw [if_neg h3, decide_eq_false h3, Bool.false_and]
  rw [if_pos h3, decide_eq_true h3, Bool.true_and]
  by_cases h4 : a4 = b4
  case neg => rw [if_neg h4, decide_eq_false h4, Bool.false_and]
  rw [if_pos h4, decide_eq_true h4, Bool.true_and]
  by_cases h5 : a5 = b5
  case neg => rw [if_neg h5, decide_eq_false h5, Bool.false_and]
  rw [if_pos h5, decide_eq_true h5, Bool.true_and]
  by_cases h6 : a6 = b6
  case neg => rw [if_neg h6, decide_eq_false h6, Bool.false_and]
  rw [if_pos h6, decide_eq_true h6, Bool.true_and]
  by_cases h7 : a7 = b7
  case neg => rw [if_neg h7, decide_eq_false h7]
  rw [if_pos h7, decide_eq_true h7]
theorem eqbStream {a0 : Int} {a1 : Int} {a2 : Int} {a3 : Int} {a4 : Int} {a5 : Int} {a6 : ByteArray} {a7 : Bool} {b0 : Int} {b1 : Int} {b2 : Int} {b3 : Int} {b4 : Int} {b5 : Int} {b6 : ByteArray} {b7 : Bool} : BinR Try.prog .eql 73 (.agg [.int .i64 a0, .int .i64 a1, .int .i64 a2, .int .i64 a3, .int .i64 a4, .int .i64 a5, .string a6, .bool a7].toArray) (.agg [.int .i64 b0, .int .i64 b1, .int .i64 b2, .int .i64 b3, .int .i64 b4, .int .i64 b5, .string b6, .bool b7].toArray) (.bool (decide (a0 = b0 ∧ a1 = b1 ∧ a2 = b2 ∧ a3 = b3 ∧ a4 = b4 ∧ a5 = b5 ∧ a6 = b6 ∧ a7 = b7))) :=
  ⟨rfl, rfl, rfl, fun x y w => by
    rw [Sem.run_bind, run_eqGuard_agg w _ _ _ _ _ _ Try.eqGuardType73, Result.andThen_ok, run_eql_struct, eqiStream]; rfl⟩
theorem nebStream {a0 : Int} {a1 : Int} {a2 : Int} {a3 : Int} {a4 : Int} {a5 : Int} {a6 : ByteArray} {a7 : Bool} {b0 : Int} {b1 : Int} {b2 : Int} {b3 : Int} {b4 : Int} {b5 : Int} {b6 : ByteArray} {b7 : Bool} : BinR Try.prog .neq 73 (.agg [.int .i64 a0, .int .i64 a1, .int .i64 a2, .int .i64 a3, .int .i64 a4, .int .i64 a5, .string a6, .bool a7].toArray) (.agg [.int .i64 b0, .int .i64 b1, .int .i64 b2, .int .i64 b3, .int .i64 b4, .int .i64 b5, .string b6, .bool b7].toArray) (.bool (!decide (a0 = b0 ∧ a1 = b1 ∧ a2 = b2 ∧ a3 = b3 ∧ a4 = b4 ∧ a5 = b5 ∧ a6 = b6 ∧ a7 = b7))) :=
  ⟨rfl, rfl, rfl, fun x y w => by
    rw [Sem.run_bind, run_eqGuard_agg w _ _ _ _ _ _ Try.eqGuardType73, Result.andThen_ok, run_neq_struct, eqiStream]; rfl⟩

theorem nebFlow_same {a0 : Int} {a1 : Int} {a2 : Int} {a3 : Int} {a4 : Int} : BinR Try.prog .neq 42 (.agg [.int .i64 a0, .int .i64 a1, .int .i64 a2, .int .i64 a3, .int .i64 a4].toArray) (.agg [.int .i64 a0, .int .i64 a1, .int .i64 a2, .int .i64 a3, .int .i64 a4].toArray) (.bool false) := by
  have h := nebFlow (a0 := a0) (a1 := a1) (a2 := a2) (a3 := a3) (a4 := a4) (b0 := a0) (b1 := a1) (b2 := a2) (b3 := a3) (b4 := a4)
  rw [decide_eq_true (by simp)] at h
  exact h
theorem nebPacket_same {a0 : Int} {a1 : Int} {a2 : Int} {a3 : Int} {a4 : Int} {a5 : Int} {a6 : Int} {a7 : Int} {a8 : Int} {a9 : Int} {a10 : Int} {a11 : Int} {a12 : Int} {a13 : Int} {a14 : Int} {a15 : ByteArray} : BinR Try.prog .neq 52 (.agg [.int .i64 a0, .int .i64 a1, .int .i64 a2, .int .i64 a3, .int .i64 a4, .int .i64 a5, .int .i64 a6, .int .i64 a7, .int .i64 a8, .int .i64 a9, .int .i64 a10, .int .i64 a11, .int .i64 a12, .int .i64 a13, .int .i64 a14, .string a15].toArray) (.agg [.int .i64 a0, .int .i64 a1, .int .i64 a2, .int .i64 a3, .int .i64 a4, .int .i64 a5, .int .i64 a6, .int .i64 a7, .int .i64 a8, .int .i64 a9, .int .i64 a10, .int .i64 a11, .int .i64 a12, .int .i64 a13, .int .i64 a14, .string a15].toArray) (.bool false) := by
  have h := nebPacket (a0 := a0) (a1 := a1) (a2 := a2) (a3 := a3) (a4 := a4) (a5 := a5) (a6 := a6) (a7 := a7) (a8 := a8) (a9 := a9) (a10 := a10) (a11 := a11) (a12 := a12) (a13 := a13) (a14 := a14) (a15 := a15) (b0 := a0) (b1 := a1) (b2 := a2) (b3 := a3) (b4 := a4) (b5 := a5) (b6 := a6) (b7 := a7) (b8 := a8) (b9 := a9) (b10 := a10) (b11 := a11) (b12 := a12) (b13 := a13) (b14 := a14) (b15 := a15)
  rw [decide_eq_true (by simp)] at h
  exact h
theorem nebSuper_same {a0 : Int} {a1 : Int} {a2 : Int} {a3 : Int} {a4 : Int} {a5 : Int} {a6 : Int} {a7 : Int} {a8 : Int} {a9 : Int} {a10 : Int} {a11 : Int} {a12 : Int} {a13 : Int} {a14 : Int} {a15 : ByteArray} {a16 : Int} {a17 : Int} : BinR Try.prog .neq 54 (.agg [.int .i64 a0, .int .i64 a1, .int .i64 a2, .int .i64 a3, .int .i64 a4, .int .i64 a5, .int .i64 a6, .int .i64 a7, .int .i64 a8, .int .i64 a9, .int .i64 a10, .int .i64 a11, .int .i64 a12, .int .i64 a13, .int .i64 a14, .string a15, .int .i64 a16, .int .i64 a17].toArray) (.agg [.int .i64 a0, .int .i64 a1, .int .i64 a2, .int .i64 a3, .int .i64 a4, .int .i64 a5, .int .i64 a6, .int .i64 a7, .int .i64 a8, .int .i64 a9, .int .i64 a10, .int .i64 a11, .int .i64 a12, .int .i64 a13, .int .i64 a14, .string a15, .int .i64 a16, .int .i64 a17].toArray) (.bool false) := by
  have h := nebSuper (a0 := a0) (a1 := a1) (a2 := a2) (a3 := a3) (a4 := a4) (a5 := a5) (a6 := a6) (a7 := a7) (a8 := a8) (a9 := a9) (a10 := a10) (a11 := a11) (a12 := a12) (a13 := a13) (a14 := a14) (a15 := a15) (a16 := a16) (a17 := a17) (b0 := a0) (b1 := a1) (b2 := a2) (b3 := a3) (b4 := a4) (b5 := a5) (b6 := a6) (b7 := a7) (b8 := a8) (b9 := a9) (b10 := a10) (b11 := a11) (b12 := a12) (b13 := a13) (b14 := a14) (b15 := a15) (b16 := a16) (b17 := a17)
  rw [decide_eq_true (by simp)] at h
  exact h
theorem nebStream_same {a0 : Int} {a1 : Int} {a2 : Int} {a3 : Int} {a4 : Int} {a5 : Int} {a6 : ByteArray} {a7 : Bool} : BinR Try.prog .neq 73 (.agg [.int .i64 a0, .int .i64 a1, .int .i64 a2, .int .i64 a3, .int .i64 a4, .int .i64 a5, .string a6, .bool a7].toArray) (.agg [.int .i64 a0, .int .i64 a1, .int .i64 a2, .int .i64 a3, .int .i64 a4, .int .i64 a5, .string a6, .bool a7].toArray) (.bool false) := by
  have h := nebStream (a0 := a0) (a1 := a1) (a2 := a2) (a3 := a3) (a4 := a4) (a5 := a5) (a6 := a6) (a7 := a7) (b0 := a0) (b1 := a1) (b2 := a2) (b3 := a3) (b4 := a4) (b5 := a5) (b6 := a6) (b7 := a7)
  rw [decide_eq_true (by simp)] at h
  exact h
end Go.Proofs.Ytgkedbhpeafbbaa

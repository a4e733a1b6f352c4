/-
  The tests of packets as functions: the reference's and the program's answer by the same law.
  Conditions: none.
-/
import Derived.Test.YtlhngkkablhpdaaW2Ok
set_option linter.unusedSimpArgs false
set_option linter.unusedVariables false
namespace Go.Proofs.Ytlhngkkablhpdaa
open Go.RowKit


/-- The flags of a segment that streams. -/
abbrev Strm (x : Int) : Prop := x = 16 ∨ x = 17 ∨ x = 24 ∨ x = 25
theorem an9 {x : Int} (h : 0 ≤ x ∧ x ≤ 31) : ∃ y, bitsOf .i64 .andNot x 9 = y ∧ (y = 16 ↔ Strm x) := by
  refine ⟨_, rfl, ?_⟩
  obtain ⟨n, rfl⟩ : ∃ n : Nat, x = n := ⟨x.toNat, by omega⟩
  have key : ∀ n : _root_.Fin 32, (bitsOf .i64 .andNot ((n.val : Nat) : Int) 9 = 16 ↔ Strm ((n.val : Nat) : Int)) := by decide +kernel
  exact key ⟨n, by omega⟩
theorem an25 {x : Int} (h : 0 ≤ x ∧ x ≤ 31) : ∃ y z, bitsOf .i64 .and x 16 = y ∧ bitsOf .i64 .andNot x 25 = z ∧ ((¬ y = 0 ∧ z = 0) ↔ Strm x) := by
  refine ⟨_, _, rfl, rfl, ?_⟩
  obtain ⟨n, rfl⟩ : ∃ n : Nat, x = n := ⟨x.toNat, by omega⟩
  have key : ∀ n : _root_.Fin 32, ((¬ bitsOf .i64 .and ((n.val : Nat) : Int) 16 = 0 ∧ bitsOf .i64 .andNot ((n.val : Nat) : Int) 25 = 0) ↔ Strm ((n.val : Nat) : Int)) := by decide +kernel
  exact key ⟨n, by omega⟩
theorem bin_an {P : Program} {t : TypeId} {k : IntKind} {a b y : Int} (h : bitsOf k .andNot a b = y) : BinR P .andNot t (.int k a) (.int k b) (.int k y) := h ▸ bin_andNot
theorem bin_ad {P : Program} {t : TypeId} {k : IntKind} {a b y : Int} (h : bitsOf k .and a b = y) : BinR P .and t (.int k a) (.int k b) (.int k y) := h ▸ bin_and


def PkB (x0 x1 x2 x3 x4 x5 x6 x7 x8 x13 : Int) (n : Nat) : Prop := (0 ≤ x0 ∧ x0 ≤ 281474976710655) ∧ (0 ≤ x1 ∧ x1 ≤ 281474976710655) ∧ (-1 ≤ x2 ∧ x2 ≤ 4095) ∧ (0 ≤ x3 ∧ x3 ≤ 255) ∧ (0 ≤ x5 ∧ x5 ≤ 255) ∧ (0 ≤ x4 ∧ x4 ≤ 65535) ∧ (0 ≤ x6 ∧ x6 ≤ 4294967295) ∧ (0 ≤ x7 ∧ x7 ≤ 4294967295) ∧ ((x8 = 6 ∧ Strm x13) ∨ (n : Int) ≤ 128)
instance {x0 x1 x2 x3 x4 x5 x6 x7 x8 x13 : Int} {n : Nat} : Decidable (PkB x0 x1 x2 x3 x4 x5 x6 x7 x8 x13 n) := by unfold PkB; infer_instance
/-- A packet that may be carried as one of many. -/
def SupOk (x0 x1 x2 x3 x4 x5 x6 x7 x8 x9 x10 x11 x12 x13 x14 : Int) (n : Nat) : Prop := SegOk x8 x9 x10 x11 x12 x13 x14 n ∧ PkB x0 x1 x2 x3 x4 x5 x6 x7 x8 x13 n
instance {x0 x1 x2 x3 x4 x5 x6 x7 x8 x9 x10 x11 x12 x13 x14 : Int} {n : Nat} : Decidable (SupOk x0 x1 x2 x3 x4 x5 x6 x7 x8 x9 x10 x11 x12 x13 x14 n) := by unfold SupOk; infer_instance

theorem segB {x0 x1 x2 x3 x4 x5 x6 : Int} {n : Nat} (h : SegOk x0 x1 x2 x3 x4 x5 x6 n) : 0 ≤ x5 ∧ x5 ≤ 31 := by unfold SegOk at h; omega


end Go.Proofs.Ytlhngkkablhpdaa

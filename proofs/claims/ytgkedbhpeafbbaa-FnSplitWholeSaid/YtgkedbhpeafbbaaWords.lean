/-
  The small functions on numbers and words: whether a number is in a range, a number as two or four bytes.
  Conditions: none.
-/
import Derived.Test.YtgkedbhpeafbbaaRows
import Derived.Test.YtgkedbhpeafbbaaBase
set_option linter.unusedSimpArgs false
set_option linter.unusedVariables false
namespace Go.Proofs.Ytgkedbhpeafbbaa
open Go.RowKit

def inB (n lo hi : Int) : Bool := decide (lo ≤ n) && decide (n ≤ hi)

set_option maxHeartbeats 400000 in
theorem between_any (n lo hi : Int) (w : World) :
    Calls Try.prog 104 #[.int .i64 n, .int .i64 lo, .int .i64 hi] w fun e w' => e = .returned (.bool (inB n lo hi)) ∧ w = w' := by
  by_cases h1 : lo ≤ n
  · go_enter Try.func104, Try.ntmps104
    go_wp2
    go_ret
    simp [inB, h1]
  · go_enter Try.func104, Try.ntmps104
    go_wp2
    go_ret
    simp [inB]; omega

set_option maxHeartbeats 400000 in
theorem l01In_any (n lo hi : Int) (w : World) :
    Calls Try.prog 101 #[.int .i64 n, .int .i64 lo, .int .i64 hi] w fun e w' => e = .returned (.bool (inB n lo hi)) ∧ w = w' := by
  by_cases h1 : lo ≤ n
  · go_enter Try.func101, Try.ntmps101
    go_wp2
    go_ret
    simp [inB, h1]
  · go_enter Try.func101, Try.ntmps101
    go_wp2
    go_ret
    simp [inB]; omega

/-- A number as four bytes, the highest first; nothing where it does not fit. -/
def word32 (v : Int) : ByteArray :=
  if 0 ≤ v ∧ v ≤ 4294967295 then ⟨#[UInt8.ofNat (v / 16777216).toNat, UInt8.ofNat (v / 65536 % 256).toNat, UInt8.ofNat (v / 256 % 256).toNat, UInt8.ofNat (v % 256).toNat]⟩ else ⟨#[]⟩

/-- A number as two bytes. -/
def word16 (v : Int) : ByteArray :=
  if 0 ≤ v ∧ v ≤ 65535 then ⟨#[UInt8.ofNat (v / 256).toNat, UInt8.ofNat (v % 256).toNat]⟩ else ⟨#[]⟩

theorem word32_size (v : Int) : (word32 v).size ≤ 4 := by unfold word32; split <;> simp [ByteArray.size]
theorem word16_size (v : Int) : (word16 v).size ≤ 2 := by unfold word16; split <;> simp [ByteArray.size]

set_option maxRecDepth 100000 in
set_option maxHeartbeats 400000 in
theorem word32_impl (v : Int) (w : World) :
    Calls Try.prog 155 #[.int .i64 v] w fun e w' => e = .returned (.string (word32 v)) ∧ Below w.heap.size w w' := by
  by_cases h : 0 ≤ v ∧ v ≤ 4294967295
  · have hb : inB v 0 4294967295 = true := by simp [inB, h]
    have kc := fun w => run_str4 (P := Try.prog) 22 9 5 Try.underlying22 Try.underlying5 Try.underlying9 w (v / 16777216) (v / 65536 % 256) (v / 256 % 256) (v % 256) (by omega) (by omega) (by omega) (by omega)
    obtain ⟨h1, h2⟩ := h
    go_enter Try.func155, Try.ntmps155
    go_wp2_with (go_at_call 104; refine (between_any _ _ _ _).mono ?_; rintro e w' ⟨rfl, rfl⟩)
    go_ret
    exact ⟨by simp [word32, h1, h2], (Below.refl _ _).alloc (Nat.le_refl _) _⟩
  · have hb : inB v 0 4294967295 = false := by simp [inB]; omega
    go_enter Try.func155, Try.ntmps155
    go_wp2_with (go_at_call 104; refine (between_any _ _ _ _).mono ?_; rintro e w' ⟨rfl, rfl⟩)
    go_ret
    exact ⟨by simp [word32, h], Below.refl _ _⟩

set_option maxRecDepth 100000 in
set_option maxHeartbeats 400000 in
theorem word32_spec (v : Int) (w : World) :
    Calls Try.prog 147 #[.int .i64 v] w fun e w' => e = .returned (.string (word32 v)) ∧ Below w.heap.size w w' := by
  by_cases h : 0 ≤ v ∧ v ≤ 4294967295
  · have hb : inB v 0 4294967295 = true := by simp [inB, h]
    have kc := fun w => run_str4 (P := Try.prog) 22 9 5 Try.underlying22 Try.underlying5 Try.underlying9 w (v / 16777216) (v / 65536 % 256) (v / 256 % 256) (v % 256) (by omega) (by omega) (by omega) (by omega)
    obtain ⟨h1, h2⟩ := h
    go_enter Try.func147, Try.ntmps147
    go_wp2_with (go_at_call 101; refine (l01In_any _ _ _ _).mono ?_; rintro e w' ⟨rfl, rfl⟩)
    go_ret
    exact ⟨by simp [word32, h1, h2], (Below.refl _ _).alloc (Nat.le_refl _) _⟩
  · have hb : inB v 0 4294967295 = false := by simp [inB]; omega
    go_enter Try.func147, Try.ntmps147
    go_wp2_with (go_at_call 101; refine (l01In_any _ _ _ _).mono ?_; rintro e w' ⟨rfl, rfl⟩)
    go_ret
    exact ⟨by simp [word32, h], Below.refl _ _⟩

set_option maxRecDepth 100000 in
set_option maxHeartbeats 400000 in
theorem word16_impl (v : Int) (w : World) :
    Calls Try.prog 106 #[.int .i64 v] w fun e w' => e = .returned (.string (word16 v)) ∧ Below w.heap.size w w' := by
  by_cases h : 0 ≤ v ∧ v ≤ 65535
  · have hb : inB v 0 65535 = true := by simp [inB, h]
    have kc := fun w => run_str2 (P := Try.prog) 22 9 5 Try.underlying22 Try.underlying5 Try.underlying9 w (v / 256) (v % 256) (by omega) (by omega)
    obtain ⟨h1, h2⟩ := h
    go_enter Try.func106, Try.ntmps106
    go_wp2_with (go_at_call 104; refine (between_any _ _ _ _).mono ?_; rintro e w' ⟨rfl, rfl⟩)
    go_ret
    exact ⟨by simp [word16, h1, h2], (Below.refl _ _).alloc (Nat.le_refl _) _⟩
  · have hb : inB v 0 65535 = false := by simp [inB]; omega
    go_enter Try.func106, Try.ntmps106
    go_wp2_with (go_at_call 104; refine (between_any _ _ _ _).mono ?_; rintro e w' ⟨rfl, rfl⟩)
    go_ret
    exact ⟨by simp [word16, h], Below.refl _ _⟩

set_option maxRecDepth 100000 in
set_option maxHeartbeats 400000 in
theorem word16_spec (v : Int) (w : World) :
    Calls Try.prog 110 #[.int .i64 v] w fun e w' => e = .returned (.string (word16 v)) ∧ Below w.heap.size w w' := by
  by_cases h : 0 ≤ v ∧ v ≤ 65535
  · have hb : inB v 0 65535 = true := by simp [inB, h]
    have kc := fun w => run_str2 (P := Try.prog) 22 9 5 Try.underlying22 Try.underlying5 Try.underlying9 w (v / 256) (v % 256) (by omega) (by omega)
    obtain ⟨h1, h2⟩ := h
    go_enter Try.func110, Try.ntmps110
    go_wp2_with (go_at_call 101; refine (l01In_any _ _ _ _).mono ?_; rintro e w' ⟨rfl, rfl⟩)
    go_ret
    exact ⟨by simp [word16, h1, h2], (Below.refl _ _).alloc (Nat.le_refl _) _⟩
  · have hb : inB v 0 65535 = false := by simp [inB]; omega
    go_enter Try.func110, Try.ntmps110
    go_wp2_with (go_at_call 101; refine (l01In_any _ _ _ _).mono ?_; rintro e w' ⟨rfl, rfl⟩)
    go_ret
    exact ⟨by simp [word16, h], Below.refl _ _⟩

end Go.Proofs.Ytgkedbhpeafbbaa

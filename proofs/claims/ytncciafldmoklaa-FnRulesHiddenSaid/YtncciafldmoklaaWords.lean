/-
  The small functions on numbers and words: whether a number is in a range, a number as two or four bytes.
  Conditions: none.
-/
import Derived.Test.YtncciafldmoklaaRows
import Derived.Test.YtncciafldmoklaaBase
set_option linter.unusedSimpArgs false
set_option linter.unusedVariables false
namespace Go.Proofs.Ytncciafldmoklaa
open Go.RowKit

def inB (n lo hi : Int) : Bool := decide (lo ≤ n) && decide (n ≤ hi)

set_option maxHeartbeats 400000 in
theorem between_any (n lo hi : Int) (w : World) :
    Calls Try.prog 86 #[.int .i64 n, .int .i64 lo, .int .i64 hi] w fun e w' => e = .returned (.bool (inB n lo hi)) ∧ w = w' := by
  by_cases h1 : lo ≤ n
  · go_enter Try.func86, Try.ntmps86
    go_wp2
    go_ret
    simp [inB, h1]
  · go_enter Try.func86, Try.ntmps86
    go_wp2
    go_ret
    simp [inB]; omega

set_option maxHeartbeats 400000 in
theorem l01In_any (n lo hi : Int) (w : World) :
    Calls Try.prog 90 #[.int .i64 n, .int .i64 lo, .int .i64 hi] w fun e w' => e = .returned (.bool (inB n lo hi)) ∧ w = w' := by
  by_cases h1 : lo ≤ n
  · go_enter Try.func90, Try.ntmps90
    go_wp2
    go_ret
    simp [inB, h1]
  · go_enter Try.func90, Try.ntmps90
    go_wp2
    go_ret
    simp [inB]; omega

/-- A number as four bytes, the highest first; nothing where it does not fit. -/
def word32 (v : Int) : ByteArray :=
  if 0 ≤ v ∧ v ≤ 4294967295 then ⟨#[UInt8.ofNat (v / 16777216).toNat, UInt8.ofNat (v / 65536 % 256).toNat, UInt8.ofNat (v / 256 % 256).toNat, UInt8.ofNat (v % 256).toNat]⟩ else ⟨#[]⟩

/-- A number as two bytes. -/
def word16 (v : Int) : ByteArray :=
  if 0 ≤ v ∧ v ≤ 65535 then ⟨#[UInt8.ofNat (v / 256).toNat, UInt8.ofNat (v % 256).toNat]⟩ else ⟨#[]⟩

theorem word32_size (v : Int) : (word32 v).size ≤ 4 := by unfold word32; split <;> simp [ByteArray.size]
theorem word16_size (v : Int) : (word16 v).size ≤ 2 := by unfold word16; split <;> simp [ByteArray.size]

end Go.Proofs.Ytncciafldmoklaa

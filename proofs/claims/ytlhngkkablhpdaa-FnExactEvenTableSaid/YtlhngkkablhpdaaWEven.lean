/-
  The law FnExactEvenTable walked: it returns true, whatever the numbers.
  Conditions: the arguments are well formed.
-/
import Derived.Test.YtlhngkkablhpdaaEven
import Derived.Test.YtlhngkkablhpdaaOpen
set_option linter.unusedSimpArgs false
set_option linter.unusedVariables false
namespace Go.Proofs.Ytlhngkkablhpdaa
open Go.RowKit

theorem evenT_len (s q : Int) : (evenT s q).length ≤ 16 := by
  unfold evenT
  split
  · rename_i h; have := okSize_le h.1; rw [evL_length]; omega
  · simp

set_option maxRecDepth 100000 in
set_option maxHeartbeats 400000 in
theorem fnExactEvenTable_walk (a : Int) (_ : I64 a) (b : Int) (_ : I64 b) (w : World) :
    Calls Try.prog 9 #[.int .i64 a, .int .i64 b] w fun e w' => e = .returned (.bool true) ∧ Below w.heap.size w w' := by
  have hlen := evenT_len a b
  go_enter Try.func9, Try.ntmps9
  go_wp2_with fail
  refine (evenT_spec a b _).mono ?_
  rintro e w1 ⟨a1, c1, rfl, s1, b1⟩
  go_wp2_with fail
  refine (evenT_impl a b _).mono ?_
  rintro e w2 ⟨a2, c2, rfl, s2, b2⟩
  have z1 := b1.size
  have z2 := b2.size
  go_wp2_with fail
  refine (eqIntS_any a2 a1 c2 c1 _ _ s2.rd (Sv.later s1 b2).rd (by omega)).mono ?_
  rintro e w3 ⟨rfl, b3⟩
  have z3 := b3.size
  go_wp2_with fail
  refine (markIntS_any a2 _ c2 _ _ 1 _ _ (Sv.later s2 b3) (iv_length _) (by omega)).mono ?_
  rintro e w4 ⟨rfl, m4⟩
  have z4 := m4.size
  go_wp2_with fail
  refine (heldIntS_any a2 _ c2 1 _ (Sv.self m4).rd (by omega)).mono ?_
  rintro e w5 ⟨rfl, b5⟩
  have z5 := b5.size
  go_wp2_with fail
  refine (evenT_impl a b _).mono ?_
  rintro e w6 ⟨a6, c6, rfl, s6, b6⟩
  have z6 := b6.size
  go_wp2_with fail
  refine (eqIntS_any a6 a1 c6 c1 _ _ s6.rd (Sv.later (Sv.later (Sv.other m4 (Sv.later (Sv.later s1 b2) b3) (by omega)) b5) b6).rd (by omega)).mono ?_
  rintro e w7 ⟨rfl, b7⟩
  have z7 := b7.size
  go_wp2_with fail
  refine (heldIntS_any a2 _ c2 1 _ (Sv.later (Sv.later (Sv.later (Sv.self m4) b5) b6) b7).rd (by omega)).mono ?_
  rintro e w8 ⟨rfl, b8⟩
  go_wp2_with fail
  go_ret
  exact ⟨rfl, Below.tr (Below.tr (Below.tr (Below.tr (Below.marked m4 (Below.tr (Below.tr b1 b2) b3) (by omega)) b5) b6) b7) b8⟩

end Go.Proofs.Ytlhngkkablhpdaa

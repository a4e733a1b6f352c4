/-
  The bytes that a flow is hashed from; a flow reversed; flows compared and copied.
  Conditions: none.
-/
import Derived.Test.YtncciafldmoklaaWords
set_option linter.unusedSimpArgs false
set_option linter.unusedVariables false
namespace Go.Proofs.Ytncciafldmoklaa
open Go.RowKit

def hashIn (f : Fl) : ByteArray := word32 f.s ++ word32 f.d ++ word16 f.p ++ word16 f.q

theorem hashIn_size (f : Fl) : (hashIn f).size ≤ 12 := by
  have := word32_size f.s; have := word32_size f.d; have := word16_size f.p; have := word16_size f.q
  simp only [hashIn, ByteArray.size_append]; omega

set_option maxRecDepth 100000 in
set_option maxHeartbeats 400000 in
theorem toFlow_any (f : Fl) (w : World) :
    Calls Try.prog 23 #[.agg #[.int .i64 f.k, .int .i64 f.s, .int .i64 f.d, .int .i64 f.p, .int .i64 f.q]] w fun e w' => e = .returned (.agg #[.int .i64 f.k, .int .i64 f.s, .int .i64 f.d, .int .i64 f.p, .int .i64 f.q]) ∧ Below w.heap.size w w' := by
  go_enter Try.func23, Try.ntmps23
  go_wp2
  exact bodyPost_ret (v := .agg #[.int .i64 f.k, .int .i64 f.s, .int .i64 f.d, .int .i64 f.p, .int .i64 f.q]) (by simp [results, Try.results23, go_sem]) rfl ⟨rfl, by ((repeat (with_reducible first | exact Below.refl _ _ | apply Below.al | apply Below.dr | (refine Below.tr ?_ (by assumption)) | (refine Below.marked (by assumption) ?_ ?_) | (refine Below.st ?_ ?_ _))); all_goals (first | omega | (simp; done) | (simp; omega)))⟩

set_option maxRecDepth 100000 in
set_option maxHeartbeats 400000 in
theorem eqFlow_any (f : Fl) (w : World) :
    Calls Try.prog 94 #[.agg #[.int .i64 f.k, .int .i64 f.s, .int .i64 f.d, .int .i64 f.p, .int .i64 f.q], .agg #[.int .i64 f.k, .int .i64 f.s, .int .i64 f.d, .int .i64 f.p, .int .i64 f.q]] w fun e w' => e = .returned (.bool true) ∧ Below w.heap.size w w' := by
  go_enter Try.func94, Try.ntmps94
  go_wp2
  go_ret
  exact ⟨rfl, by ((repeat (with_reducible first | exact Below.refl _ _ | apply Below.al | apply Below.dr | (refine Below.tr ?_ (by assumption)) | (refine Below.marked (by assumption) ?_ ?_) | (refine Below.st ?_ ?_ _))); all_goals (first | omega | (simp; done) | (simp; omega)))⟩

end Go.Proofs.Ytncciafldmoklaa

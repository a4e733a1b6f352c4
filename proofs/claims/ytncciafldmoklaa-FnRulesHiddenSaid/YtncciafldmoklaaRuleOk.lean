/-
  RuleOk and RuleCovers of both programs.
  Conditions: none.
-/
import Derived.Test.YtncciafldmoklaaWords
set_option linter.unusedSimpArgs false
set_option linter.unusedVariables false
namespace Go.Proofs.Ytncciafldmoklaa
open Go.RowKit

/-- RuleOk. -/
def Ru.good (r : Ru) : Bool := inB r.pr 0 1000 && (r.kd == 0 || r.kd == 6 || r.kd == 17) && inB r.ip 0 4294967295 && inB r.bt 0 32 &&
  decide (0 ≤ r.fp) && decide (r.fp ≤ r.lp) && decide (r.lp ≤ 65535) && inB r.vl (-2) 4095 && ((r.ac == 0 && inB r.qu 0 3) || (r.ac == 1 && r.qu == 0))

theorem ret_bool {a b : Bool} (h : a = b) : Ending.returned (.bool a) = Ending.returned (.bool b) := by rw [h]

set_option maxRecDepth 100000 in
set_option maxHeartbeats 2000000 in
theorem ruleOk_impl (r : Ru) (w : World) :
    Calls Try.prog 51 #[.agg #[.int .i64 r.pr, .int .i64 r.kd, .int .i64 r.ip, .int .i64 r.bt, .int .i64 r.fp, .int .i64 r.lp, .int .i64 r.vl, .int .i64 r.ac, .int .i64 r.qu]] w fun e w' => e = .returned (.bool r.good) ∧ Below w.heap.size w w' := by
  go_enter Try.func51, Try.ntmps51
  go_wp2_with (first | (go_at_call 86; refine (between_any _ _ _ _).mono ?_; rintro e w' ⟨rfl, rfl⟩))
  all_goals (go_ret; refine ⟨ret_bool ?_, by ((repeat (with_reducible first | exact Below.refl _ _ | apply Below.al | apply Below.dr | (refine Below.tr ?_ (by assumption)) | (refine Below.marked (by assumption) ?_ ?_) | (refine Below.st ?_ ?_ _))); all_goals (first | omega | (simp; done) | (simp; omega)))⟩)
  all_goals (rw [Bool.eq_iff_iff]; simp only [Ru.good, inB, Bool.and_eq_true, Bool.or_eq_true, Bool.not_eq_true', Bool.not_eq_false', Bool.and_eq_false_iff, Bool.or_eq_false_iff, decide_eq_true_eq, decide_eq_false_iff_not, beq_iff_eq, beq_eq_false_iff_ne, Bool.true_eq_false, Bool.false_eq_true, iff_true, iff_false, true_iff, false_iff] at *; omega)

set_option maxRecDepth 100000 in
set_option maxHeartbeats 2000000 in
theorem ruleOk_spec (r : Ru) (w : World) :
    Calls Try.prog 49 #[.agg #[.int .i64 r.pr, .int .i64 r.kd, .int .i64 r.ip, .int .i64 r.bt, .int .i64 r.fp, .int .i64 r.lp, .int .i64 r.vl, .int .i64 r.ac, .int .i64 r.qu]] w fun e w' => e = .returned (.bool r.good) ∧ Below w.heap.size w w' := by
  go_enter Try.func49, Try.ntmps49
  go_wp2_with (first | (go_at_call 90; refine (l01In_any _ _ _ _).mono ?_; rintro e w' ⟨rfl, rfl⟩))
  all_goals (go_ret; refine ⟨ret_bool ?_, by ((repeat (with_reducible first | exact Below.refl _ _ | apply Below.al | apply Below.dr | (refine Below.tr ?_ (by assumption)) | (refine Below.marked (by assumption) ?_ ?_) | (refine Below.st ?_ ?_ _))); all_goals (first | omega | (simp; done) | (simp; omega)))⟩)
  all_goals (rw [Bool.eq_iff_iff]; simp only [Ru.good, inB, Bool.and_eq_true, Bool.or_eq_true, Bool.not_eq_true', Bool.not_eq_false', Bool.and_eq_false_iff, Bool.or_eq_false_iff, decide_eq_true_eq, decide_eq_false_iff_not, beq_iff_eq, beq_eq_false_iff_ne, Bool.true_eq_false, Bool.false_eq_true, iff_true, iff_false, true_iff, false_iff] at *; omega)

end Go.Proofs.Ytncciafldmoklaa

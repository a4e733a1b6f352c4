/-
  The laws FnExactHashInput and FnExactReversed walked: each returns true at every flow.
  Conditions: the fields are 64-bit integers.
-/
import Derived.Test.YtlhngkkablhpdaaHashIn
import Derived.Test.YtlhngkkablhpdaaOpen
set_option linter.unusedSimpArgs false
set_option linter.unusedVariables false
namespace Go.Proofs.Ytlhngkkablhpdaa
open Go.RowKit

set_option maxRecDepth 100000 in
set_option maxHeartbeats 400000 in
theorem fnExactHashInput_walk (f : Fl) (_ : f.ok) (w : World) :
    Calls Try.prog 7 #[.agg #[.int .i64 f.k, .int .i64 f.s, .int .i64 f.d, .int .i64 f.p, .int .i64 f.q]] w fun e w' => e = .returned (.bool true) ∧ Below w.heap.size w w' := by
  go_enter Try.func7, Try.ntmps7
  go_wp2_with (first
    | (go_at_call 26; refine (toFlow_any f _).mono ?_; rintro e w' ⟨rfl, hb⟩; obtain ⟨hc, hf, hz⟩ := old hb; try simp at hz)
    | (go_at_call 29; refine (hashInput_spec f _).mono ?_; rintro e w' ⟨rfl, hb⟩; obtain ⟨hc, hf, hz⟩ := old hb; try simp at hz)
    | (go_at_call 30; refine (hashInput_impl f _).mono ?_; rintro e w' ⟨rfl, hb⟩; obtain ⟨hc, hf, hz⟩ := old hb; try simp at hz))
  go_ret
  exact ⟨rfl, by ((repeat (with_reducible first | exact Below.refl _ _ | apply Below.al | apply Below.dr | (refine Below.tr ?_ (by assumption)) | (refine Below.marked (by assumption) ?_ ?_) | (refine Below.st ?_ ?_ _))); all_goals (first | omega | (simp; done) | (simp; omega)))⟩

set_option maxRecDepth 100000 in
set_option maxHeartbeats 400000 in
theorem fnExactReversed_walk (f : Fl) (_ : f.ok) (w : World) :
    Calls Try.prog 6 #[.agg #[.int .i64 f.k, .int .i64 f.s, .int .i64 f.d, .int .i64 f.p, .int .i64 f.q]] w fun e w' => e = .returned (.bool true) ∧ Below w.heap.size w w' := by
  go_enter Try.func6, Try.ntmps6
  go_wp2_with (first
    | (go_at_call 26; refine (toFlow_any f _).mono ?_; rintro e w' ⟨rfl, hb⟩; obtain ⟨hc, hf, hz⟩ := old hb; try simp at hz)
    | (go_at_call 25; refine (reversed_spec f _).mono ?_; rintro e w' ⟨rfl, hb⟩; obtain ⟨hc, hf, hz⟩ := old hb; try simp at hz)
    | (go_at_call 27; refine (reversed_impl f _).mono ?_; rintro e w' ⟨rfl, hb⟩; obtain ⟨hc, hf, hz⟩ := old hb; try simp at hz)
    | (go_at_call 28; refine (eqFlow_any ⟨f.k, f.d, f.s, f.q, f.p⟩ _).mono ?_; rintro e w' ⟨rfl, hb⟩; obtain ⟨hc, hf, hz⟩ := old hb; try simp at hz))
  go_ret
  exact ⟨rfl, by ((repeat (with_reducible first | exact Below.refl _ _ | apply Below.al | apply Below.dr | (refine Below.tr ?_ (by assumption)) | (refine Below.marked (by assumption) ?_ ?_) | (refine Below.st ?_ ?_ _))); all_goals (first | omega | (simp; done) | (simp; omega)))⟩

end Go.Proofs.Ytlhngkkablhpdaa

/-
  The laws FnExactRuleOk and FnExactRuleCovers walked: each returns true, whatever the rules.
  Conditions: none.
-/
import Derived.Test.YtncciafldmoklaaRuleCov
import Derived.Test.YtncciafldmoklaaOpen
set_option linter.unusedSimpArgs false
set_option linter.unusedVariables false
namespace Go.Proofs.Ytncciafldmoklaa
open Go.RowKit

set_option maxRecDepth 100000 in
set_option maxHeartbeats 1000000 in
theorem toRule_any (v : Ru) (w : World) :
    Calls Try.prog 50 #[.agg #[.int .i64 v.pr, .int .i64 v.kd, .int .i64 v.ip, .int .i64 v.bt, .int .i64 v.fp, .int .i64 v.lp, .int .i64 v.vl, .int .i64 v.ac, .int .i64 v.qu]] w fun e w' => e = .returned (.agg #[.int .i64 v.pr, .int .i64 v.kd, .int .i64 v.ip, .int .i64 v.bt, .int .i64 v.fp, .int .i64 v.lp, .int .i64 v.vl, .int .i64 v.ac, .int .i64 v.qu]) ∧ Below w.heap.size w w' := by
  go_enter Try.func50, Try.ntmps50
  go_wp2
  exact bodyPost_ret (v := .agg #[.int .i64 v.pr, .int .i64 v.kd, .int .i64 v.ip, .int .i64 v.bt, .int .i64 v.fp, .int .i64 v.lp, .int .i64 v.vl, .int .i64 v.ac, .int .i64 v.qu]) (by simp [results, Try.results50, go_sem, *]) rfl ⟨rfl, by ((repeat (with_reducible first | exact Below.refl _ _ | apply Below.al | apply Below.dr | (refine Below.tr ?_ (by assumption)) | (refine Below.marked (by assumption) ?_ ?_) | (refine Below.st ?_ ?_ _))); all_goals (first | omega | (simp; done) | (simp; omega)))⟩

set_option maxRecDepth 100000 in
set_option maxHeartbeats 1000000 in
theorem fnExactRuleOk_walk (r : Ru) (_ : r.ok) (w : World) :
    Calls Try.prog 13 #[.agg #[.int .i64 r.pr, .int .i64 r.kd, .int .i64 r.ip, .int .i64 r.bt, .int .i64 r.fp, .int .i64 r.lp, .int .i64 r.vl, .int .i64 r.ac, .int .i64 r.qu]] w fun e w' => e = .returned (.bool true) ∧ Below w.heap.size w w' := by
  go_enter Try.func13, Try.ntmps13
  go_wp2_with (first
    | (go_at_call 50; refine (toRule_any r _).mono ?_; rintro e w' ⟨rfl, hb⟩; obtain ⟨hc, hf, hz⟩ := old hb; try simp at hz)
    | (go_at_call 49; refine (ruleOk_spec r _).mono ?_; rintro e w' ⟨rfl, hb⟩; obtain ⟨hc, hf, hz⟩ := old hb; try simp at hz)
    | (go_at_call 51; refine (ruleOk_impl r _).mono ?_; rintro e w' ⟨rfl, hb⟩; obtain ⟨hc, hf, hz⟩ := old hb; try simp at hz))
  go_ret
  exact ⟨rfl, by ((repeat (with_reducible first | exact Below.refl _ _ | apply Below.al | apply Below.dr | (refine Below.tr ?_ (by assumption)) | (refine Below.marked (by assumption) ?_ ?_) | (refine Below.st ?_ ?_ _))); all_goals (first | omega | (simp; done) | (simp; omega)))⟩

set_option maxRecDepth 100000 in
set_option maxHeartbeats 1000000 in
theorem fnExactRuleCovers_walk (r : Ru) (_ : r.ok) (q : Ru) (_ : q.ok) (w : World) :
    Calls Try.prog 14 #[.agg #[.int .i64 r.pr, .int .i64 r.kd, .int .i64 r.ip, .int .i64 r.bt, .int .i64 r.fp, .int .i64 r.lp, .int .i64 r.vl, .int .i64 r.ac, .int .i64 r.qu], .agg #[.int .i64 q.pr, .int .i64 q.kd, .int .i64 q.ip, .int .i64 q.bt, .int .i64 q.fp, .int .i64 q.lp, .int .i64 q.vl, .int .i64 q.ac, .int .i64 q.qu]] w fun e w' => e = .returned (.bool true) ∧ Below w.heap.size w w' := by
  go_enter Try.func14, Try.ntmps14
  go_wp2_with fail
  refine wp_region_later (w.heap.size + 2) (by kernel_rfl) (by kernel_rfl) ?_
  repeat (go_big_quiet_step (first
    | (go_at_call 50; exact later_call (by simp) (toRule_any _ _))
    | (go_at_call 52; exact later_call (by simp) (covers_spec _ _ _))))
  refine wpQuiet_nil ?_
  rintro w1 ⟨⟨_, hb1⟩, rfl⟩
  have hz1 : w.heap.size + 2 ≤ w1.heap.size := by have := hb1.size; simpa using this
  have hc1 : ∀ b o, w1.cell? ⟨b, o, none⟩ = if b < w.heap.size + 2 then ((w.alloc (.cells #[.int .i64 r.pr, .int .i64 r.kd, .int .i64 r.ip, .int .i64 r.bt, .int .i64 r.fp, .int .i64 r.lp, .int .i64 r.vl, .int .i64 r.ac, .int .i64 r.qu] 61)).alloc (.cells #[.int .i64 q.pr, .int .i64 q.kd, .int .i64 q.ip, .int .i64 q.bt, .int .i64 q.fp, .int .i64 q.lp, .int .i64 q.vl, .int .i64 q.ac, .int .i64 q.qu] 61)).cell? ⟨b, o, none⟩ else far w1 ⟨b, o, none⟩ := (old hb1).1
  go_wp2_with fail
  refine wp_region_later (w.heap.size + 2) (by kernel_rfl) (by kernel_rfl) ?_
  repeat (go_big_quiet_step (first
    | (go_at_call 50; exact later_call hz1 (toRule_any _ _))
    | (go_at_call 53; exact later_call hz1 (covers_impl _ _ _))))
  refine wpQuiet_nil ?_
  rintro w2 ⟨⟨_, hb2⟩, rfl⟩
  go_wp2_with fail
  go_ret
  exact ⟨rfl, (Below.al (Below.al (Below.refl _ _) _) _).trans ((hb1.mono (by simp)).trans (hb2.mono (by simp)))⟩

end Go.Proofs.Ytncciafldmoklaa

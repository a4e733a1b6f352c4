/-
  The laws over lists of rules, walked: each returns true, whatever the rules.
  Conditions: the arguments are well formed.
-/
import Derived.Test.YtncciafldmoklaaRulesOk
import Derived.Test.YtncciafldmoklaaOpen
set_option linter.unusedSimpArgs false
set_option linter.unusedVariables false
namespace Go.Proofs.Ytncciafldmoklaa
open Go.RowKit

set_option maxRecDepth 100000 in
set_option maxHeartbeats 1000000 in
theorem fnExactRulesOk_law (a : Option Addr) (c : Nat) (l : List Ru) (w : World) (hl : l.length ≤ maxLen) (hrd : Rd w a (rus l)) (hok : ∀ v ∈ l, v.ok) :
    Calls Try.prog 15 #[.slice a l.length c] w fun e w' => e = .returned (.bool true) ∧ Below w.heap.size w w' := by
  have hl' : l.length ≤ 9223372036854775807 := hl
  by_cases hs : l.length ≤ 1048576
  · have hz := szR_pos (left := 1048576) (n := l.length) (by omega)
    go_enter Try.func15, Try.ntmps15
    go_wp2_with fail
    refine (szRuleS_any a l.length c _ (by omega) hl' _).mono ?_
    rintro e w' ⟨rfl, rfl⟩
    go_wp2_with fail
    refine (toRuleS_any a c l _ (Rd.later hrd (by ((repeat (with_reducible first | exact Below.refl _ _ | apply Below.al | apply Below.dr | (refine Below.tr ?_ (by assumption)) | (refine Below.marked (by assumption) ?_ ?_) | (refine Below.st ?_ ?_ _))); all_goals (first | omega | (simp; done) | (simp; omega))))) (by omega)).mono ?_
    rintro e w1 ⟨a1, c1, rfl, s1, hb1⟩
    obtain ⟨hc1, hf1, hz1⟩ := old hb1
    try simp only [World.size_alloc, World.size_drew, World.size_setCell] at hz1
    try simp only [World.size_alloc, World.size_drew, World.size_setCell] at s1
    go_wp2_with fail
    refine (rulesOk_spec a1 c1 l _ (Sv.rd (B := w.heap.size) (U := w1.heap.size) (by ((repeat (with_reducible first | assumption | apply Sv.al | apply Sv.dr | (refine Sv.later ?_ (by assumption)) | (exact Sv.self (by assumption)) | (refine Sv.other (by assumption) ?_ ?_) | (refine Sv.st ?_ ?_ _))); all_goals (first | omega | (simp only []; omega) | (simp; omega))))) (by omega)).mono ?_
    rintro e w2 ⟨rfl, hb2⟩
    obtain ⟨hc2, hf2, hz2⟩ := old hb2
    try simp only [World.size_alloc, World.size_drew, World.size_setCell] at hz2
    go_wp2_with fail
    refine (toRuleS_any a c l _ (Rd.later hrd (by ((repeat (with_reducible first | exact Below.refl _ _ | apply Below.al | apply Below.dr | (refine Below.tr ?_ (by assumption)) | (refine Below.marked (by assumption) ?_ ?_) | (refine Below.st ?_ ?_ _))); all_goals (first | omega | (simp; done) | (simp; omega))))) (by omega)).mono ?_
    rintro e w3 ⟨a3, c3, rfl, s3, hb3⟩
    obtain ⟨hc3, hf3, hz3⟩ := old hb3
    try simp only [World.size_alloc, World.size_drew, World.size_setCell] at hz3
    try simp only [World.size_alloc, World.size_drew, World.size_setCell] at s3
    go_wp2_with fail
    refine (rulesOk_impl a3 c3 l _ (Sv.rd (B := w2.heap.size) (U := w3.heap.size) (by ((repeat (with_reducible first | assumption | apply Sv.al | apply Sv.dr | (refine Sv.later ?_ (by assumption)) | (exact Sv.self (by assumption)) | (refine Sv.other (by assumption) ?_ ?_) | (refine Sv.st ?_ ?_ _))); all_goals (first | omega | (simp only []; omega) | (simp; omega))))) (by omega)).mono ?_
    rintro e w4 ⟨rfl, hb4⟩
    obtain ⟨hc4, hf4, hz4⟩ := old hb4
    try simp only [World.size_alloc, World.size_drew, World.size_setCell] at hz4
    go_wp2_with fail
    refine (toRuleS_any a c l _ (Rd.later hrd (by ((repeat (with_reducible first | exact Below.refl _ _ | apply Below.al | apply Below.dr | (refine Below.tr ?_ (by assumption)) | (refine Below.marked (by assumption) ?_ ?_) | (refine Below.st ?_ ?_ _))); all_goals (first | omega | (simp; done) | (simp; omega))))) (by omega)).mono ?_
    rintro e w5 ⟨a5, c5, rfl, s5, hb5⟩
    obtain ⟨hc5, hf5, hz5⟩ := old hb5
    try simp only [World.size_alloc, World.size_drew, World.size_setCell] at hz5
    try simp only [World.size_alloc, World.size_drew, World.size_setCell] at s5
    go_wp2_with fail
    refine (eqRuleS_any a3 a5 c3 c5 l _ (Sv.rd (B := w2.heap.size) (U := w3.heap.size) (by ((repeat (with_reducible first | assumption | apply Sv.al | apply Sv.dr | (refine Sv.later ?_ (by assumption)) | (exact Sv.self (by assumption)) | (refine Sv.other (by assumption) ?_ ?_) | (refine Sv.st ?_ ?_ _))); all_goals (first | omega | (simp only []; omega) | (simp; omega))))) (Sv.rd (B := w4.heap.size) (U := w5.heap.size) (by ((repeat (with_reducible first | assumption | apply Sv.al | apply Sv.dr | (refine Sv.later ?_ (by assumption)) | (exact Sv.self (by assumption)) | (refine Sv.other (by assumption) ?_ ?_) | (refine Sv.st ?_ ?_ _))); all_goals (first | omega | (simp only []; omega) | (simp; omega))))) (by omega)).mono ?_
    rintro e w6 ⟨rfl, hb6⟩
    obtain ⟨hc6, hf6, hz6⟩ := old hb6
    try simp only [World.size_alloc, World.size_drew, World.size_setCell] at hz6
    go_wp2_with fail
    go_ret
    exact ⟨rfl, by ((repeat (with_reducible first | exact Below.refl _ _ | apply Below.al | apply Below.dr | (refine Below.tr ?_ (by assumption)) | (refine Below.marked (by assumption) ?_ ?_) | (refine Below.st ?_ ?_ _))); all_goals (first | omega | (simp; done) | (simp; omega)))⟩
  · have hz := szR_neg (left := 1048576) (n := l.length) (by omega)
    go_enter Try.func15, Try.ntmps15
    go_wp2_with fail
    refine (szRuleS_any a l.length c _ (by omega) hl' _).mono ?_
    rintro e w' ⟨rfl, rfl⟩
    go_wp2_with fail
    go_ret
    exact ⟨rfl, by ((repeat (with_reducible first | exact Below.refl _ _ | apply Below.al | apply Below.dr | (refine Below.tr ?_ (by assumption)) | (refine Below.marked (by assumption) ?_ ?_) | (refine Below.st ?_ ?_ _))); all_goals (first | omega | (simp; done) | (simp; omega)))⟩

end Go.Proofs.Ytncciafldmoklaa

/-
  The exact laws over a spread, walked: each returns true, whatever the spread.
  Conditions: the arguments are well formed.
-/
import Derived.Test.YtlhngkkablhpdaaSpOk
import Derived.Test.YtlhngkkablhpdaaOpen
set_option linter.unusedSimpArgs false
set_option linter.unusedVariables false
namespace Go.Proofs.Ytlhngkkablhpdaa
open Go.RowKit

set_option maxRecDepth 100000 in
set_option maxHeartbeats 1000000 in
theorem fnExactSpreadOk_law (key : ByteArray) (a : Option Addr) (c : Nat) (l : List Int) (q : Int) (w : World) (hk : key.size ≤ maxLen) (hl : l.length ≤ maxLen) (hrd : Rd w a (iv l)) (hq : I64 q) :
    Calls Try.prog 10 #[.agg #[.string key, .slice a l.length c], .int .i64 q] w fun e w' => e = .returned (.bool true) ∧ Below w.heap.size w w' := by
  have hl' : l.length ≤ 9223372036854775807 := hl
  by_cases hs : key.size + l.length ≤ 1048576
  · have hz := szR_pos (left := 1048576) (n := key.size + l.length) (by omega)
    simp only [Int.natCast_add] at hz
    go_enter Try.func10, Try.ntmps10
    go_wp2_with fail
    refine (szSpread_any key a l.length c _ (by omega) hk hl' _).mono ?_
    rintro e w1 ⟨rfl, hb1⟩
    obtain ⟨hc1, hf1, hz1⟩ := old hb1
    try simp only [World.size_alloc, World.size_drew, World.size_setCell] at hz1
    go_wp2_with fail
    refine (toSpread_any key a c l _ (Rd.later hrd (by ((repeat (with_reducible first | exact Below.refl _ _ | apply Below.al | apply Below.dr | (refine Below.tr ?_ (by assumption)) | (refine Below.marked (by assumption) ?_ ?_) | (refine Below.st ?_ ?_ _))); all_goals (first | omega | (simp; done) | (simp; omega))))) (by omega)).mono ?_
    rintro e w2 ⟨a2, c2, rfl, s2, hb2⟩
    obtain ⟨hc2, hf2, hz2⟩ := old hb2
    try simp only [World.size_alloc, World.size_drew, World.size_setCell] at hz2
    try simp only [World.size_alloc, World.size_drew, World.size_setCell] at s2
    go_wp2_with fail
    refine (spOk_spec key _ _ l q hq _ (Sv.rd (by ((repeat (with_reducible first | assumption | apply Sv.al | apply Sv.dr | (refine Sv.later ?_ (by assumption)) | (exact Sv.self (by assumption)) | (refine Sv.other (by assumption) ?_ ?_) | (refine Sv.st ?_ ?_ _))); all_goals (first | omega | (simp only []; omega) | (simp; omega))))) (by omega)).mono ?_
    rintro e w3 ⟨rfl, hb3⟩
    obtain ⟨hc3, hf3, hz3⟩ := old hb3
    try simp only [World.size_alloc, World.size_drew, World.size_setCell] at hz3
    go_wp2_with fail
    refine (toSpread_any key a c l _ (Rd.later hrd (by ((repeat (with_reducible first | exact Below.refl _ _ | apply Below.al | apply Below.dr | (refine Below.tr ?_ (by assumption)) | (refine Below.marked (by assumption) ?_ ?_) | (refine Below.st ?_ ?_ _))); all_goals (first | omega | (simp; done) | (simp; omega))))) (by omega)).mono ?_
    rintro e w4 ⟨a4, c4, rfl, s4, hb4⟩
    obtain ⟨hc4, hf4, hz4⟩ := old hb4
    try simp only [World.size_alloc, World.size_drew, World.size_setCell] at hz4
    try simp only [World.size_alloc, World.size_drew, World.size_setCell] at s4
    go_wp2_with fail
    refine (spOk_impl key _ _ l q hq _ (Sv.rd (by ((repeat (with_reducible first | assumption | apply Sv.al | apply Sv.dr | (refine Sv.later ?_ (by assumption)) | (exact Sv.self (by assumption)) | (refine Sv.other (by assumption) ?_ ?_) | (refine Sv.st ?_ ?_ _))); all_goals (first | omega | (simp only []; omega) | (simp; omega))))) (by omega)).mono ?_
    rintro e w5 ⟨rfl, hb5⟩
    obtain ⟨hc5, hf5, hz5⟩ := old hb5
    try simp only [World.size_alloc, World.size_drew, World.size_setCell] at hz5
    go_wp2_with fail
    have x1 : ∀ i, w5.cell? ⟨w4.heap.size, i, none⟩ = (#[.string key, .slice a4 l.length c4] : Array Value)[i]? := by intro i; simp [go_sem, hc1, hc2, hc3, hc4, hc5, ↓IntWalk.iteOmega]
    have x0 : ∀ i, w5.cell? ⟨w.heap.size, i, none⟩ = (#[.string key, .slice a l.length c] : Array Value)[i]? := by intro i; simp [go_sem, hc1, hc2, hc3, hc4, hc5, ↓IntWalk.iteOmega]
    have HM5 : Hid (∀ w', Below w5.heap.size w5 w' → (∀ i, w'.cell? ⟨w4.heap.size, i, none⟩ = (#[.string key, .slice a4 l.length c4] : Array Value)[i]?) ∧ (∀ i, w'.cell? ⟨w.heap.size, i, none⟩ = (#[.string key, .slice a l.length c] : Array Value)[i]?) ∧ Below w5.heap.size w5 w') := fun w' hb => ⟨fun i => (hb.cell (show w4.heap.size < w5.heap.size by omega)).trans (x1 i), fun i => (hb.cell (show w.heap.size < w5.heap.size by omega)).trans (x0 i), hb⟩
    go_region_held3 (fun w' => (∀ i, w'.cell? ⟨w4.heap.size, i, none⟩ = (#[.string key, .slice a4 l.length c4] : Array Value)[i]?) ∧ (∀ i, w'.cell? ⟨w.heap.size, i, none⟩ = (#[.string key, .slice a l.length c] : Array Value)[i]?) ∧ Below w5.heap.size w5 w') (exact HM5.out _ (by ((repeat (with_reducible first | exact Below.refl _ _ | apply Below.al | apply Below.dr | (refine Below.tr ?_ (by assumption)) | (refine Below.marked (by assumption) ?_ ?_) | (refine Below.st ?_ ?_ _))); all_goals (first | omega | (simp; done) | (simp; omega))))) (first | (go_at_call 40; refine (toSpread_any key a c l _ (Rd.later hrd (by ((repeat (with_reducible first | exact Below.refl _ _ | apply Below.al | apply Below.dr | (refine Below.tr ?_ (by assumption)) | (refine Below.marked (by assumption) ?_ ?_) | (refine Below.st ?_ ?_ _))); all_goals (first | omega | (simp; done) | (simp; omega))))) (by omega)).mono ?_; rintro e w6 ⟨a6, c6, rfl, s6, hb6⟩) | (go_at_call 42; refine (eqSpread_any key a4 _ c4 _ l _ ?_ ?_ (by omega)).mono ?_; exact Sv.rd (Sv.later s4 (by ((repeat (with_reducible first | exact Below.refl _ _ | apply Below.al | apply Below.dr | (refine Below.tr ?_ (by assumption)) | (refine Below.marked (by assumption) ?_ ?_) | (refine Below.st ?_ ?_ _))); all_goals (first | omega | (simp; done) | (simp; omega))))); exact Sv.rd (Sv.later s6 (by ((repeat (with_reducible first | exact Below.refl _ _ | apply Below.al | apply Below.dr | (refine Below.tr ?_ (by assumption)) | (refine Below.marked (by assumption) ?_ ?_) | (refine Below.st ?_ ?_ _))); all_goals (first | omega | (simp; done) | (simp; omega))))); rintro e w7 ⟨rfl, hb7⟩))
    obtain ⟨hc6, hf6, hz6⟩ := old hb6
    try simp only [World.size_alloc, World.size_drew, World.size_setCell] at hz6
    try simp only [World.size_alloc, World.size_drew, World.size_setCell] at s6
    obtain ⟨hc7, hf7, hz7⟩ := old hb7
    try simp only [World.size_alloc, World.size_drew, World.size_setCell] at hz7
    clear x1
    clear x0
    go_wp2_with fail
    go_ret
    exact ⟨rfl, by ((repeat (with_reducible first | exact Below.refl _ _ | apply Below.al | apply Below.dr | (refine Below.tr ?_ (by assumption)) | (refine Below.marked (by assumption) ?_ ?_) | (refine Below.st ?_ ?_ _))); all_goals (first | omega | (simp; done) | (simp; omega)))⟩
  · have hz := szR_neg (left := 1048576) (n := key.size + l.length) (by omega)
    simp only [Int.natCast_add] at hz
    go_enter Try.func10, Try.ntmps10
    go_wp2_with fail
    refine (szSpread_any key a l.length c _ (by omega) hk hl' _).mono ?_
    rintro e w1 ⟨rfl, hb1⟩
    obtain ⟨hc1, hf1, hz1⟩ := old hb1
    try simp only [World.size_alloc, World.size_drew, World.size_setCell] at hz1
    go_wp2_with fail
    go_ret
    exact ⟨rfl, by ((repeat (with_reducible first | exact Below.refl _ _ | apply Below.al | apply Below.dr | (refine Below.tr ?_ (by assumption)) | (refine Below.marked (by assumption) ?_ ?_) | (refine Below.st ?_ ?_ _))); all_goals (first | omega | (simp; done) | (simp; omega)))⟩

end Go.Proofs.Ytlhngkkablhpdaa

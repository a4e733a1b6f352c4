/-
  The exact laws over a spread, walked: each returns true, whatever the spread.
  Conditions: the arguments are well formed.
-/
import Derived.Test.YtlhngkkablhpdaaRet
import Derived.Test.YtlhngkkablhpdaaOpen
set_option linter.unusedSimpArgs false
set_option linter.unusedVariables false
namespace Go.Proofs.Ytlhngkkablhpdaa
open Go.RowKit

theorem eqR_any (key : ByteArray) (a1 a2 : Option Addr) (c1 c2 : Nat) (l : List Int) (n : Nat) (hn : l.length = n) (w : World) (h1 : Rd w a1 (iv l)) (h2 : Rd w a2 (iv l)) (hl : n ≤ 2097152) :
    Calls Try.prog 42 #[.agg #[.string key, .slice a1 n c1], .agg #[.string key, .slice a2 n c2]] w fun e w' => e = .returned (.bool true) ∧ Below w.heap.size w w' := by
  subst hn
  exact eqSpread_any key a1 a2 c1 c2 l w h1 h2 hl

set_option maxRecDepth 100000 in
set_option maxHeartbeats 1000000 in
theorem fnExactRetarget_law (key : ByteArray) (a : Option Addr) (c : Nat) (l : List Int) (en q : Int) (w : World) (hk : key.size ≤ maxLen) (hl : l.length ≤ maxLen) (hrd : Rd w a (iv l)) (hen : I64 en) (hq : I64 q) :
    Calls Try.prog 12 #[.agg #[.string key, .slice a l.length c], .int .i64 en, .int .i64 q] w fun e w' => e = .returned (.bool true) ∧ Below w.heap.size w w' := by
  have hl' : l.length ≤ 9223372036854775807 := hl
  by_cases hs : key.size + l.length ≤ 1048576
  · have hz := szR_pos (left := 1048576) (n := key.size + l.length) (by omega)
    simp only [Int.natCast_add] at hz
    go_enter Try.func12, Try.ntmps12
    go_wp2_with fail
    refine (szSpread_any key a l.length c _ (by omega) hk hl' _).mono ?_
    rintro e w1 ⟨rfl, hb1⟩
    obtain ⟨hc1, hf1, hz1⟩ := old hb1
    try simp only [World.size_alloc, World.size_drew, World.size_setCell] at hz1
    go_wp2_with fail
    refine (toSpread_any key a c l _ (Rd.later hrd (by ((repeat (with_reducible first | exact Below.refl _ _ | apply Below.al | apply Below.dr | (refine Below.tr ?_ (by assumption)) | (refine Below.marked (by assumption) ?_ ?_) | (refine Below.st ?_ ?_ _))); all_goals (first | omega | (simp; done) | (simp; omega))))) (by omega)).mono ?_
    rintro e w2 ⟨a2, c2, rfl, s2, hb2⟩
    obtain ⟨hc2, hf2, hz2⟩ := old hb2
    try simp only [World.size_alloc, World.size_drew, World.size_setCell] at hz2
    try simp only [World.size_alloc, World.size_drew, World.size_setCell] at s2
    go_wp2_with fail
    refine (retarget_spec key a2 c2 l en q _ (Sv.rd (Sv.later s2 (by ((repeat (with_reducible first | exact Below.refl _ _ | apply Below.al | apply Below.dr | (refine Below.tr ?_ (by assumption)) | (refine Below.marked (by assumption) ?_ ?_) | (refine Below.st ?_ ?_ _))); all_goals (first | omega | (simp; done) | (simp; omega)))))) (by omega)).mono ?_
    rintro e w3 ⟨a3, c3, rfl, s3, hb3⟩
    obtain ⟨hc3, hf3, hz3⟩ := old hb3
    try simp only [World.size_alloc, World.size_drew, World.size_setCell] at hz3
    try simp only [World.size_alloc, World.size_drew, World.size_setCell] at s3
    go_wp2_with fail
    refine (toSpread_any key a c l _ (Rd.later hrd (by ((repeat (with_reducible first | exact Below.refl _ _ | apply Below.al | apply Below.dr | (refine Below.tr ?_ (by assumption)) | (refine Below.marked (by assumption) ?_ ?_) | (refine Below.st ?_ ?_ _))); all_goals (first | omega | (simp; done) | (simp; omega))))) (by omega)).mono ?_
    rintro e w4 ⟨a4, c4, rfl, s4, hb4⟩
    obtain ⟨hc4, hf4, hz4⟩ := old hb4
    try simp only [World.size_alloc, World.size_drew, World.size_setCell] at hz4
    try simp only [World.size_alloc, World.size_drew, World.size_setCell] at s4
    go_wp2_with fail
    refine (retarget_impl key a4 c4 l en q _ (Sv.rd (Sv.later s4 (by ((repeat (with_reducible first | exact Below.refl _ _ | apply Below.al | apply Below.dr | (refine Below.tr ?_ (by assumption)) | (refine Below.marked (by assumption) ?_ ?_) | (refine Below.st ?_ ?_ _))); all_goals (first | omega | (simp; done) | (simp; omega)))))) (by omega)).mono ?_
    rintro e w5 ⟨a5, c5, rfl, s5, hb5⟩
    obtain ⟨hc5, hf5, hz5⟩ := old hb5
    try simp only [World.size_alloc, World.size_drew, World.size_setCell] at hz5
    try simp only [World.size_alloc, World.size_drew, World.size_setCell] at s5
    go_wp2_with fail
    refine (eqR_any key a5 a3 c5 c3 (retL l en q) l.length (retL_length l en q) _ (Sv.rd (B := w4.heap.size + 1) (U := w5.heap.size) (by ((repeat (with_reducible first | assumption | apply Sv.al | apply Sv.dr | (refine Sv.later ?_ (by assumption)) | (exact Sv.self (by assumption)) | (refine Sv.other (by assumption) ?_ ?_) | (refine Sv.st ?_ ?_ _))); all_goals (first | omega | (simp only []; omega) | (simp; omega))))) (Sv.rd (B := w2.heap.size) (U := w3.heap.size) (by ((repeat (with_reducible first | assumption | apply Sv.al | apply Sv.dr | (refine Sv.later ?_ (by assumption)) | (exact Sv.self (by assumption)) | (refine Sv.other (by assumption) ?_ ?_) | (refine Sv.st ?_ ?_ _))); all_goals (first | omega | (simp only []; omega) | (simp; omega))))) (by omega)).mono ?_
    rintro e w6 ⟨rfl, hb6⟩
    obtain ⟨hc6, hf6, hz6⟩ := old hb6
    try simp only [World.size_alloc, World.size_drew, World.size_setCell] at hz6
    go_wp2_with fail
    have x2 : ∀ i, w6.cell? ⟨w4.heap.size, i, none⟩ = (#[.string key, .slice a4 l.length c4] : Array Value)[i]? := by intro i; simp [go_sem, hc1, hc2, hc3, hc4, hc5, hc6, ↓IntWalk.iteOmega]
    have x0 : ∀ i, w6.cell? ⟨w.heap.size, i, none⟩ = (#[.string key, .slice a l.length c] : Array Value)[i]? := by intro i; simp [go_sem, hc1, hc2, hc3, hc4, hc5, hc6, ↓IntWalk.iteOmega]
    have HM6 : Hid (∀ w', Below w6.heap.size w6 w' → (∀ i, w'.cell? ⟨w4.heap.size, i, none⟩ = (#[.string key, .slice a4 l.length c4] : Array Value)[i]?) ∧ (∀ i, w'.cell? ⟨w.heap.size, i, none⟩ = (#[.string key, .slice a l.length c] : Array Value)[i]?) ∧ Below w6.heap.size w6 w') := fun w' hb => ⟨fun i => (hb.cell (show w4.heap.size < w6.heap.size by first | omega | (simp; done) | (simp; omega))).trans (x2 i), fun i => (hb.cell (show w.heap.size < w6.heap.size by first | omega | (simp; done) | (simp; omega))).trans (x0 i), hb⟩
    go_region_held3 (fun w' => (∀ i, w'.cell? ⟨w4.heap.size, i, none⟩ = (#[.string key, .slice a4 l.length c4] : Array Value)[i]?) ∧ (∀ i, w'.cell? ⟨w.heap.size, i, none⟩ = (#[.string key, .slice a l.length c] : Array Value)[i]?) ∧ Below w6.heap.size w6 w') (exact HM6.out _ (by ((repeat (with_reducible first | exact Below.refl _ _ | apply Below.al | apply Below.dr | (refine Below.tr ?_ (by assumption)) | (refine Below.marked (by assumption) ?_ ?_) | (refine Below.st ?_ ?_ _))); all_goals (first | omega | (simp; done) | (simp; omega))))) (first | (go_at_call 40; refine (toSpread_any key a c l _ (Rd.later hrd (by ((repeat (with_reducible first | exact Below.refl _ _ | apply Below.al | apply Below.dr | (refine Below.tr ?_ (by assumption)) | (refine Below.marked (by assumption) ?_ ?_) | (refine Below.st ?_ ?_ _))); all_goals (first | omega | (simp; done) | (simp; omega))))) (by omega)).mono ?_; rintro e w7 ⟨a7, c7, rfl, s7, hb7⟩) | (go_at_call 42; refine (eqSpread_any key a4 _ c4 _ l _ ?_ ?_ (by omega)).mono ?_; exact Sv.rd (Sv.later s4 (by ((repeat (with_reducible first | exact Below.refl _ _ | apply Below.al | apply Below.dr | (refine Below.tr ?_ (by assumption)) | (refine Below.marked (by assumption) ?_ ?_) | (refine Below.st ?_ ?_ _))); all_goals (first | omega | (simp; done) | (simp; omega))))); exact Sv.rd (Sv.later s7 (by ((repeat (with_reducible first | exact Below.refl _ _ | apply Below.al | apply Below.dr | (refine Below.tr ?_ (by assumption)) | (refine Below.marked (by assumption) ?_ ?_) | (refine Below.st ?_ ?_ _))); all_goals (first | omega | (simp; done) | (simp; omega))))); rintro e w8 ⟨rfl, hb8⟩))
    obtain ⟨hc7, hf7, hz7⟩ := old hb7
    try simp only [World.size_alloc, World.size_drew, World.size_setCell] at hz7
    try simp only [World.size_alloc, World.size_drew, World.size_setCell] at s7
    obtain ⟨hc8, hf8, hz8⟩ := old hb8
    try simp only [World.size_alloc, World.size_drew, World.size_setCell] at hz8
    clear x2
    clear x0
    go_wp2_with fail
    refine (markSpread_any key a4 l.length c4 (w3.heap.size + 1) (w4.heap.size) 1 (iv l) _ (by ((repeat (with_reducible first | assumption | apply Sv.al | apply Sv.dr | (refine Sv.later ?_ (by assumption)) | (exact Sv.self (by assumption)) | (refine Sv.other (by assumption) ?_ ?_) | (refine Sv.st ?_ ?_ _))); all_goals (first | omega | (simp only []; omega) | (simp; omega)))) (by simp [iv_length]) (by first | omega | (simp; omega)) (by omega)).mono ?_
    rintro e w9 ⟨rfl, o9, m9⟩
    obtain ⟨hc9, hf9, hz9⟩ := m9.old
    try simp only [World.size_alloc, World.size_drew, World.size_setCell] at hz9
    go_wp2_with fail
    refine (eqR_any key a5 a3 c5 c3 (retL l en q) l.length (retL_length l en q) _ (Sv.rd (B := w4.heap.size + 1) (U := w5.heap.size) (by ((repeat (with_reducible first | assumption | apply Sv.al | apply Sv.dr | (refine Sv.later ?_ (by assumption)) | (exact Sv.self (by assumption)) | (refine Sv.other (by assumption) ?_ ?_) | (refine Sv.st ?_ ?_ _))); all_goals (first | omega | (simp only []; omega) | (simp; omega))))) (Sv.rd (B := w2.heap.size) (U := w3.heap.size) (by ((repeat (with_reducible first | assumption | apply Sv.al | apply Sv.dr | (refine Sv.later ?_ (by assumption)) | (exact Sv.self (by assumption)) | (refine Sv.other (by assumption) ?_ ?_) | (refine Sv.st ?_ ?_ _))); all_goals (first | omega | (simp only []; omega) | (simp; omega))))) (by omega)).mono ?_
    rintro e w10 ⟨rfl, hb10⟩
    obtain ⟨hc10, hf10, hz10⟩ := old hb10
    try simp only [World.size_alloc, World.size_drew, World.size_setCell] at hz10
    go_wp2_with fail
    refine (markSpread_any key a5 l.length c5 (w4.heap.size + 1) (w5.heap.size) 1 (iv (retL l en q)) _ (by ((repeat (with_reducible first | assumption | apply Sv.al | apply Sv.dr | (refine Sv.later ?_ (by assumption)) | (exact Sv.self (by assumption)) | (refine Sv.other (by assumption) ?_ ?_) | (refine Sv.st ?_ ?_ _))); all_goals (first | omega | (simp only []; omega) | (simp; omega)))) (by rw [iv_length]; exact retL_length l en q) (by first | omega | (simp; omega)) (by omega)).mono ?_
    rintro e w11 ⟨rfl, o11, m11⟩
    obtain ⟨hc11, hf11, hz11⟩ := m11.old
    try simp only [World.size_alloc, World.size_drew, World.size_setCell] at hz11
    go_wp2_with fail
    refine (heldSpread_any key a5 l.length c5 1 _ (Sv.rd (B := w4.heap.size + 1) (U := w5.heap.size) (by ((repeat (with_reducible first | assumption | apply Sv.al | apply Sv.dr | (refine Sv.later ?_ (by assumption)) | (exact Sv.self (by assumption)) | (refine Sv.other (by assumption) ?_ ?_) | (refine Sv.st ?_ ?_ _))); all_goals (first | omega | (simp only []; omega) | (simp; omega))))) (by omega)).mono ?_
    rintro e w12 ⟨rfl, hb12⟩
    obtain ⟨hc12, hf12, hz12⟩ := old hb12
    try simp only [World.size_alloc, World.size_drew, World.size_setCell] at hz12
    go_wp2_with fail
    refine (toSpread_any key a c l _ (Rd.later hrd (by ((repeat (with_reducible first | exact Below.refl _ _ | apply Below.al | apply Below.dr | (refine Below.tr ?_ (by assumption)) | (refine Below.marked (by assumption) ?_ ?_) | (refine Below.st ?_ ?_ _))); all_goals (first | omega | (simp; done) | (simp; omega))))) (by omega)).mono ?_
    rintro e w13 ⟨a13, c13, rfl, s13, hb13⟩
    obtain ⟨hc13, hf13, hz13⟩ := old hb13
    try simp only [World.size_alloc, World.size_drew, World.size_setCell] at hz13
    try simp only [World.size_alloc, World.size_drew, World.size_setCell] at s13
    go_wp2_with fail
    refine (retarget_impl key a13 c13 l en q _ (Sv.rd (Sv.later s13 (by ((repeat (with_reducible first | exact Below.refl _ _ | apply Below.al | apply Below.dr | (refine Below.tr ?_ (by assumption)) | (refine Below.marked (by assumption) ?_ ?_) | (refine Below.st ?_ ?_ _))); all_goals (first | omega | (simp; done) | (simp; omega)))))) (by omega)).mono ?_
    rintro e w14 ⟨a14, c14, rfl, s14, hb14⟩
    obtain ⟨hc14, hf14, hz14⟩ := old hb14
    try simp only [World.size_alloc, World.size_drew, World.size_setCell] at hz14
    try simp only [World.size_alloc, World.size_drew, World.size_setCell] at s14
    go_wp2_with fail
    refine (eqR_any key a14 a3 c14 c3 (retL l en q) l.length (retL_length l en q) _ (Sv.rd (B := w13.heap.size) (U := w14.heap.size) (by ((repeat (with_reducible first | assumption | apply Sv.al | apply Sv.dr | (refine Sv.later ?_ (by assumption)) | (exact Sv.self (by assumption)) | (refine Sv.other (by assumption) ?_ ?_) | (refine Sv.st ?_ ?_ _))); all_goals (first | omega | (simp only []; omega) | (simp; omega))))) (Sv.rd (B := w2.heap.size) (U := w3.heap.size) (by ((repeat (with_reducible first | assumption | apply Sv.al | apply Sv.dr | (refine Sv.later ?_ (by assumption)) | (exact Sv.self (by assumption)) | (refine Sv.other (by assumption) ?_ ?_) | (refine Sv.st ?_ ?_ _))); all_goals (first | omega | (simp only []; omega) | (simp; omega))))) (by omega)).mono ?_
    rintro e w15 ⟨rfl, hb15⟩
    obtain ⟨hc15, hf15, hz15⟩ := old hb15
    try simp only [World.size_alloc, World.size_drew, World.size_setCell] at hz15
    go_wp2_with fail
    refine (heldSpread_any key a5 l.length c5 1 _ (Sv.rd (B := w4.heap.size + 1) (U := w5.heap.size) (by ((repeat (with_reducible first | assumption | apply Sv.al | apply Sv.dr | (refine Sv.later ?_ (by assumption)) | (exact Sv.self (by assumption)) | (refine Sv.other (by assumption) ?_ ?_) | (refine Sv.st ?_ ?_ _))); all_goals (first | omega | (simp only []; omega) | (simp; omega))))) (by omega)).mono ?_
    rintro e w16 ⟨rfl, hb16⟩
    obtain ⟨hc16, hf16, hz16⟩ := old hb16
    try simp only [World.size_alloc, World.size_drew, World.size_setCell] at hz16
    go_wp2_with fail
    go_ret
    exact ⟨rfl, by ((repeat (with_reducible first | exact Below.refl _ _ | apply Below.al | apply Below.dr | (refine Below.tr ?_ (by assumption)) | (refine Below.marked (by assumption) ?_ ?_) | (refine Below.st ?_ ?_ _))); all_goals (first | omega | (simp; done) | (simp; omega)))⟩
  · have hz := szR_neg (left := 1048576) (n := key.size + l.length) (by omega)
    simp only [Int.natCast_add] at hz
    go_enter Try.func12, Try.ntmps12
    go_wp2_with fail
    refine (szSpread_any key a l.length c _ (by omega) hk hl' _).mono ?_
    rintro e w1 ⟨rfl, hb1⟩
    obtain ⟨hc1, hf1, hz1⟩ := old hb1
    try simp only [World.size_alloc, World.size_drew, World.size_setCell] at hz1
    go_wp2_with fail
    go_ret
    exact ⟨rfl, by ((repeat (with_reducible first | exact Below.refl _ _ | apply Below.al | apply Below.dr | (refine Below.tr ?_ (by assumption)) | (refine Below.marked (by assumption) ?_ ?_) | (refine Below.st ?_ ?_ _))); all_goals (first | omega | (simp; done) | (simp; omega)))⟩

end Go.Proofs.Ytlhngkkablhpdaa

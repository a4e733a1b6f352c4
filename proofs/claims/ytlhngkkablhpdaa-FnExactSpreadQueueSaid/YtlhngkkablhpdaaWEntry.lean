/-
  The exact laws over a spread, walked: each returns true, whatever the spread.
  Conditions: the arguments are well formed.
-/
import Derived.Test.YtlhngkkablhpdaaEntry
import Derived.Test.YtlhngkkablhpdaaOpen
set_option linter.unusedSimpArgs false
set_option linter.unusedVariables false
namespace Go.Proofs.Ytlhngkkablhpdaa
open Go.RowKit

set_option maxRecDepth 100000 in
set_option maxHeartbeats 1000000 in
theorem fnExactEntryOf_law (key : ByteArray) (a : Option Addr) (c : Nat) (l : List Int) (f : Fl) (w : World) (hk : key.size ≤ maxLen) (hl : l.length ≤ maxLen) (hrd : Rd w a (iv l)) (hf0 : f.ok) :
    Calls Try.prog 15 #[.agg #[.string key, .slice a l.length c], .agg #[.int .i64 f.k, .int .i64 f.s, .int .i64 f.d, .int .i64 f.p, .int .i64 f.q]] w fun e w' => e = .returned (.bool true) ∧ Below w.heap.size w w' := by
  have hl' : l.length ≤ 9223372036854775807 := hl
  by_cases hs : key.size + l.length ≤ 1048576
  · have hz := szR_pos (left := 1048576) (n := key.size + l.length) (by omega)
    simp only [Int.natCast_add] at hz
    go_enter Try.func15, Try.ntmps15
    go_wp2_with fail
    refine (szSpread_any key a l.length c _ (by omega) hk hl' _).mono ?_
    rintro e w1 ⟨rfl, hb1⟩
    obtain ⟨hc1, hf1, hz1⟩ := old hb1
    try simp only [World.size_alloc, World.size_drew, World.size_setCell] at hz1
    go_wp2_with fail
    have x0 : ∀ i, w1.cell? ⟨w.heap.size, i, none⟩ = (#[.string key, .slice a l.length c] : Array Value)[i]? := by intro i; simp [go_sem, hc1, ↓IntWalk.iteOmega]
    have x1 : ∀ i, w1.cell? ⟨w.heap.size + 1, i, none⟩ = (#[.int .i64 f.k, .int .i64 f.s, .int .i64 f.d, .int .i64 f.p, .int .i64 f.q] : Array Value)[i]? := by intro i; simp [go_sem, hc1, ↓IntWalk.iteOmega]
    have HM1 : Hid (∀ w', Below w1.heap.size w1 w' → (∀ i, w'.cell? ⟨w.heap.size, i, none⟩ = (#[.string key, .slice a l.length c] : Array Value)[i]?) ∧ (∀ i, w'.cell? ⟨w.heap.size + 1, i, none⟩ = (#[.int .i64 f.k, .int .i64 f.s, .int .i64 f.d, .int .i64 f.p, .int .i64 f.q] : Array Value)[i]?) ∧ Below w1.heap.size w1 w') := fun w' hb => ⟨fun i => (hb.cell (show w.heap.size < w1.heap.size by first | omega | (simp; done) | (simp; omega))).trans (x0 i), fun i => (hb.cell (show w.heap.size + 1 < w1.heap.size by first | omega | (simp; done) | (simp; omega))).trans (x1 i), hb⟩
    go_region_held3 (fun w' => (∀ i, w'.cell? ⟨w.heap.size, i, none⟩ = (#[.string key, .slice a l.length c] : Array Value)[i]?) ∧ (∀ i, w'.cell? ⟨w.heap.size + 1, i, none⟩ = (#[.int .i64 f.k, .int .i64 f.s, .int .i64 f.d, .int .i64 f.p, .int .i64 f.q] : Array Value)[i]?) ∧ Below w1.heap.size w1 w') (exact HM1.out _ (by ((repeat (with_reducible first | exact Below.refl _ _ | apply Below.al | apply Below.dr | (refine Below.tr ?_ (by assumption)) | (refine Below.marked (by assumption) ?_ ?_) | (refine Below.st ?_ ?_ _))); all_goals (first | omega | (simp; done) | (simp; omega))))) (first | (go_at_call 40; refine (toSpread_any key a c l _ (Rd.later hrd (by ((repeat (with_reducible first | exact Below.refl _ _ | apply Below.al | apply Below.dr | (refine Below.tr ?_ (by assumption)) | (refine Below.marked (by assumption) ?_ ?_) | (refine Below.st ?_ ?_ _))); all_goals (first | omega | (simp; done) | (simp; omega))))) (by omega)).mono ?_; rintro e w2 ⟨a2, c2, rfl, s2, hb2⟩) | (go_at_call 26; refine (toFlow_any f _).mono ?_; rintro e w3 ⟨rfl, hb3⟩) | (go_at_call 53; refine (entry_spec key a2 c2 l f (by omega) (by omega) _).mono ?_; rintro e w4 ⟨rfl, hb4⟩))
    obtain ⟨hc2, hf2, hz2⟩ := old hb2
    try simp only [World.size_alloc, World.size_drew, World.size_setCell] at hz2
    try simp only [World.size_alloc, World.size_drew, World.size_setCell] at s2
    obtain ⟨hc3, hf3, hz3⟩ := old hb3
    try simp only [World.size_alloc, World.size_drew, World.size_setCell] at hz3
    obtain ⟨hc4, hf4, hz4⟩ := old hb4
    try simp only [World.size_alloc, World.size_drew, World.size_setCell] at hz4
    clear x0
    clear x1
    go_wp2_with fail
    refine (toSpread_any key a c l _ (Rd.later hrd (by ((repeat (with_reducible first | exact Below.refl _ _ | apply Below.al | apply Below.dr | (refine Below.tr ?_ (by assumption)) | (refine Below.marked (by assumption) ?_ ?_) | (refine Below.st ?_ ?_ _))); all_goals (first | omega | (simp; done) | (simp; omega))))) (by omega)).mono ?_
    rintro e w5 ⟨a5, c5, rfl, s5, hb5⟩
    obtain ⟨hc5, hf5, hz5⟩ := old hb5
    try simp only [World.size_alloc, World.size_drew, World.size_setCell] at hz5
    try simp only [World.size_alloc, World.size_drew, World.size_setCell] at s5
    go_wp2_with fail
    have x2 : ∀ i, (w5.alloc (.cells (#[.string key, .slice a5 l.length c5]) 45)).cell? ⟨w5.heap.size, i, none⟩ = (#[.string key, .slice a5 l.length c5] : Array Value)[i]? := by intro i; simp [go_sem, hc1, hc2, hc3, hc4, hc5, ↓IntWalk.iteOmega]
    have x1 : ∀ i, (w5.alloc (.cells (#[.string key, .slice a5 l.length c5]) 45)).cell? ⟨w.heap.size + 1, i, none⟩ = (#[.int .i64 f.k, .int .i64 f.s, .int .i64 f.d, .int .i64 f.p, .int .i64 f.q] : Array Value)[i]? := by intro i; simp [go_sem, hc1, hc2, hc3, hc4, hc5, ↓IntWalk.iteOmega]
    have HM5 : Hid (∀ w', Below (w5.alloc (.cells (#[.string key, .slice a5 l.length c5]) 45)).heap.size (w5.alloc (.cells (#[.string key, .slice a5 l.length c5]) 45)) w' → (∀ i, w'.cell? ⟨w5.heap.size, i, none⟩ = (#[.string key, .slice a5 l.length c5] : Array Value)[i]?) ∧ (∀ i, w'.cell? ⟨w.heap.size + 1, i, none⟩ = (#[.int .i64 f.k, .int .i64 f.s, .int .i64 f.d, .int .i64 f.p, .int .i64 f.q] : Array Value)[i]?) ∧ Below (w5.alloc (.cells (#[.string key, .slice a5 l.length c5]) 45)).heap.size (w5.alloc (.cells (#[.string key, .slice a5 l.length c5]) 45)) w') := fun w' hb => ⟨fun i => (hb.cell (show w5.heap.size < (w5.alloc (.cells (#[.string key, .slice a5 l.length c5]) 45)).heap.size by first | omega | (simp; done) | (simp; omega))).trans (x2 i), fun i => (hb.cell (show w.heap.size + 1 < (w5.alloc (.cells (#[.string key, .slice a5 l.length c5]) 45)).heap.size by first | omega | (simp; done) | (simp; omega))).trans (x1 i), hb⟩
    go_region_held3 (fun w' => (∀ i, w'.cell? ⟨w5.heap.size, i, none⟩ = (#[.string key, .slice a5 l.length c5] : Array Value)[i]?) ∧ (∀ i, w'.cell? ⟨w.heap.size + 1, i, none⟩ = (#[.int .i64 f.k, .int .i64 f.s, .int .i64 f.d, .int .i64 f.p, .int .i64 f.q] : Array Value)[i]?) ∧ Below (w5.alloc (.cells (#[.string key, .slice a5 l.length c5]) 45)).heap.size (w5.alloc (.cells (#[.string key, .slice a5 l.length c5]) 45)) w') (exact HM5.out _ (by ((repeat (with_reducible first | exact Below.refl _ _ | apply Below.al | apply Below.dr | (refine Below.tr ?_ (by assumption)) | (refine Below.marked (by assumption) ?_ ?_) | (refine Below.st ?_ ?_ _))); all_goals (first | omega | (simp; done) | (simp; omega))))) (first | (go_at_call 26; refine (toFlow_any f _).mono ?_; rintro e w6 ⟨rfl, hb6⟩) | (go_at_call 54; refine (entry_impl key a5 c5 l f (by omega) (by omega) _).mono ?_; rintro e w7 ⟨rfl, hb7⟩))
    obtain ⟨hc6, hf6, hz6⟩ := old hb6
    try simp only [World.size_alloc, World.size_drew, World.size_setCell] at hz6
    obtain ⟨hc7, hf7, hz7⟩ := old hb7
    try simp only [World.size_alloc, World.size_drew, World.size_setCell] at hz7
    clear x2
    clear x1
    go_wp2_with fail
    have x2 : ∀ i, w7.cell? ⟨w5.heap.size, i, none⟩ = (#[.string key, .slice a5 l.length c5] : Array Value)[i]? := by intro i; simp [go_sem, hc1, hc2, hc3, hc4, hc5, hc6, hc7, ↓IntWalk.iteOmega]
    have x0 : ∀ i, w7.cell? ⟨w.heap.size, i, none⟩ = (#[.string key, .slice a l.length c] : Array Value)[i]? := by intro i; simp [go_sem, hc1, hc2, hc3, hc4, hc5, hc6, hc7, ↓IntWalk.iteOmega]
    have HM7 : Hid (∀ w', Below w7.heap.size w7 w' → (∀ i, w'.cell? ⟨w5.heap.size, i, none⟩ = (#[.string key, .slice a5 l.length c5] : Array Value)[i]?) ∧ (∀ i, w'.cell? ⟨w.heap.size, i, none⟩ = (#[.string key, .slice a l.length c] : Array Value)[i]?) ∧ Below w7.heap.size w7 w') := fun w' hb => ⟨fun i => (hb.cell (show w5.heap.size < w7.heap.size by first | omega | (simp; done) | (simp; omega))).trans (x2 i), fun i => (hb.cell (show w.heap.size < w7.heap.size by first | omega | (simp; done) | (simp; omega))).trans (x0 i), hb⟩
    go_region_held3 (fun w' => (∀ i, w'.cell? ⟨w5.heap.size, i, none⟩ = (#[.string key, .slice a5 l.length c5] : Array Value)[i]?) ∧ (∀ i, w'.cell? ⟨w.heap.size, i, none⟩ = (#[.string key, .slice a l.length c] : Array Value)[i]?) ∧ Below w7.heap.size w7 w') (exact HM7.out _ (by ((repeat (with_reducible first | exact Below.refl _ _ | apply Below.al | apply Below.dr | (refine Below.tr ?_ (by assumption)) | (refine Below.marked (by assumption) ?_ ?_) | (refine Below.st ?_ ?_ _))); all_goals (first | omega | (simp; done) | (simp; omega))))) (first | (go_at_call 40; refine (toSpread_any key a c l _ (Rd.later hrd (by ((repeat (with_reducible first | exact Below.refl _ _ | apply Below.al | apply Below.dr | (refine Below.tr ?_ (by assumption)) | (refine Below.marked (by assumption) ?_ ?_) | (refine Below.st ?_ ?_ _))); all_goals (first | omega | (simp; done) | (simp; omega))))) (by omega)).mono ?_; rintro e w8 ⟨a8, c8, rfl, s8, hb8⟩) | (go_at_call 42; refine (eqSpread_any key a5 _ c5 _ l _ ?_ ?_ (by omega)).mono ?_; exact Sv.rd (Sv.later s5 (by ((repeat (with_reducible first | exact Below.refl _ _ | apply Below.al | apply Below.dr | (refine Below.tr ?_ (by assumption)) | (refine Below.marked (by assumption) ?_ ?_) | (refine Below.st ?_ ?_ _))); all_goals (first | omega | (simp; done) | (simp; omega))))); exact Sv.rd (Sv.later s8 (by ((repeat (with_reducible first | exact Below.refl _ _ | apply Below.al | apply Below.dr | (refine Below.tr ?_ (by assumption)) | (refine Below.marked (by assumption) ?_ ?_) | (refine Below.st ?_ ?_ _))); all_goals (first | omega | (simp; done) | (simp; omega))))); rintro e w9 ⟨rfl, hb9⟩))
    obtain ⟨hc8, hf8, hz8⟩ := old hb8
    try simp only [World.size_alloc, World.size_drew, World.size_setCell] at hz8
    try simp only [World.size_alloc, World.size_drew, World.size_setCell] at s8
    obtain ⟨hc9, hf9, hz9⟩ := old hb9
    try simp only [World.size_alloc, World.size_drew, World.size_setCell] at hz9
    clear x2
    clear x0
    go_wp2_with fail
    go_ret
    exact ⟨rfl, by ((repeat (with_reducible first | exact Below.refl _ _ | apply Below.al | apply Below.dr | (refine Below.tr ?_ (by assumption)) | (refine Below.marked (by assumption) ?_ ?_) | (refine Below.st ?_ ?_ _))); all_goals (first | omega | (simp; done) | (simp; omega)))⟩
  · have hz := szR_neg (left := 1048576) (n := key.size + l.length) (by omega)
    simp only [Int.natCast_add] at hz
    go_enter Try.func15, Try.ntmps15
    go_wp2_with fail
    refine (szSpread_any key a l.length c _ (by omega) hk hl' _).mono ?_
    rintro e w1 ⟨rfl, hb1⟩
    obtain ⟨hc1, hf1, hz1⟩ := old hb1
    try simp only [World.size_alloc, World.size_drew, World.size_setCell] at hz1
    go_wp2_with fail
    go_ret
    exact ⟨rfl, by ((repeat (with_reducible first | exact Below.refl _ _ | apply Below.al | apply Below.dr | (refine Below.tr ?_ (by assumption)) | (refine Below.marked (by assumption) ?_ ?_) | (refine Below.st ?_ ?_ _))); all_goals (first | omega | (simp; done) | (simp; omega)))⟩

set_option maxRecDepth 100000 in
set_option maxHeartbeats 1000000 in
theorem fnExactSpreadQueue_law (key : ByteArray) (a : Option Addr) (c : Nat) (l : List Int) (q : Int) (f : Fl) (w : World) (hk : key.size ≤ maxLen) (hl : l.length ≤ maxLen) (hrd : Rd w a (iv l)) (hq : I64 q) (hf0 : f.ok) :
    Calls Try.prog 16 #[.agg #[.string key, .slice a l.length c], .int .i64 q, .agg #[.int .i64 f.k, .int .i64 f.s, .int .i64 f.d, .int .i64 f.p, .int .i64 f.q]] w fun e w' => e = .returned (.bool true) ∧ Below w.heap.size w w' := by
  have hl' : l.length ≤ 9223372036854775807 := hl
  by_cases hs : key.size + l.length ≤ 1048576
  · have hz := szR_pos (left := 1048576) (n := key.size + l.length) (by omega)
    simp only [Int.natCast_add] at hz
    go_enter Try.func16, Try.ntmps16
    go_wp2_with fail
    refine (szSpread_any key a l.length c _ (by omega) hk hl' _).mono ?_
    rintro e w1 ⟨rfl, hb1⟩
    obtain ⟨hc1, hf1, hz1⟩ := old hb1
    try simp only [World.size_alloc, World.size_drew, World.size_setCell] at hz1
    go_wp2_with fail
    have x0 : ∀ i, w1.cell? ⟨w.heap.size, i, none⟩ = (#[.string key, .slice a l.length c] : Array Value)[i]? := by intro i; simp [go_sem, hc1, ↓IntWalk.iteOmega]
    have x1 : ∀ i, w1.cell? ⟨w.heap.size + 1, i, none⟩ = (#[.int .i64 f.k, .int .i64 f.s, .int .i64 f.d, .int .i64 f.p, .int .i64 f.q] : Array Value)[i]? := by intro i; simp [go_sem, hc1, ↓IntWalk.iteOmega]
    have HM1 : Hid (∀ w', Below w1.heap.size w1 w' → (∀ i, w'.cell? ⟨w.heap.size, i, none⟩ = (#[.string key, .slice a l.length c] : Array Value)[i]?) ∧ (∀ i, w'.cell? ⟨w.heap.size + 1, i, none⟩ = (#[.int .i64 f.k, .int .i64 f.s, .int .i64 f.d, .int .i64 f.p, .int .i64 f.q] : Array Value)[i]?) ∧ Below w1.heap.size w1 w') := fun w' hb => ⟨fun i => (hb.cell (show w.heap.size < w1.heap.size by first | omega | (simp; done) | (simp; omega))).trans (x0 i), fun i => (hb.cell (show w.heap.size + 1 < w1.heap.size by first | omega | (simp; done) | (simp; omega))).trans (x1 i), hb⟩
    go_region_held3 (fun w' => (∀ i, w'.cell? ⟨w.heap.size, i, none⟩ = (#[.string key, .slice a l.length c] : Array Value)[i]?) ∧ (∀ i, w'.cell? ⟨w.heap.size + 1, i, none⟩ = (#[.int .i64 f.k, .int .i64 f.s, .int .i64 f.d, .int .i64 f.p, .int .i64 f.q] : Array Value)[i]?) ∧ Below w1.heap.size w1 w') (exact HM1.out _ (by ((repeat (with_reducible first | exact Below.refl _ _ | apply Below.al | apply Below.dr | (refine Below.tr ?_ (by assumption)) | (refine Below.marked (by assumption) ?_ ?_) | (refine Below.st ?_ ?_ _))); all_goals (first | omega | (simp; done) | (simp; omega))))) (first | (go_at_call 40; refine (toSpread_any key a c l _ (Rd.later hrd (by ((repeat (with_reducible first | exact Below.refl _ _ | apply Below.al | apply Below.dr | (refine Below.tr ?_ (by assumption)) | (refine Below.marked (by assumption) ?_ ?_) | (refine Below.st ?_ ?_ _))); all_goals (first | omega | (simp; done) | (simp; omega))))) (by omega)).mono ?_; rintro e w2 ⟨a2, c2, rfl, s2, hb2⟩) | (go_at_call 26; refine (toFlow_any f _).mono ?_; rintro e w3 ⟨rfl, hb3⟩) | (go_at_call 55; refine (sprQ_spec key a2 c2 l q hq f (by omega) (by omega) _ ?_).mono ?_; exact Sv.rd (Sv.later s2 (by ((repeat (with_reducible first | exact Below.refl _ _ | apply Below.al | apply Below.dr | (refine Below.tr ?_ (by assumption)) | (refine Below.marked (by assumption) ?_ ?_) | (refine Below.st ?_ ?_ _))); all_goals (first | omega | (simp; done) | (simp; omega))))); rintro e w4 ⟨rfl, hb4⟩))
    obtain ⟨hc2, hf2, hz2⟩ := old hb2
    try simp only [World.size_alloc, World.size_drew, World.size_setCell] at hz2
    try simp only [World.size_alloc, World.size_drew, World.size_setCell] at s2
    obtain ⟨hc3, hf3, hz3⟩ := old hb3
    try simp only [World.size_alloc, World.size_drew, World.size_setCell] at hz3
    obtain ⟨hc4, hf4, hz4⟩ := old hb4
    try simp only [World.size_alloc, World.size_drew, World.size_setCell] at hz4
    clear x0
    clear x1
    go_wp2_with fail
    refine (toSpread_any key a c l _ (Rd.later hrd (by ((repeat (with_reducible first | exact Below.refl _ _ | apply Below.al | apply Below.dr | (refine Below.tr ?_ (by assumption)) | (refine Below.marked (by assumption) ?_ ?_) | (refine Below.st ?_ ?_ _))); all_goals (first | omega | (simp; done) | (simp; omega))))) (by omega)).mono ?_
    rintro e w5 ⟨a5, c5, rfl, s5, hb5⟩
    obtain ⟨hc5, hf5, hz5⟩ := old hb5
    try simp only [World.size_alloc, World.size_drew, World.size_setCell] at hz5
    try simp only [World.size_alloc, World.size_drew, World.size_setCell] at s5
    go_wp2_with fail
    have x2 : ∀ i, (w5.alloc (.cells (#[.string key, .slice a5 l.length c5]) 45)).cell? ⟨w5.heap.size, i, none⟩ = (#[.string key, .slice a5 l.length c5] : Array Value)[i]? := by intro i; simp [go_sem, hc1, hc2, hc3, hc4, hc5, ↓IntWalk.iteOmega]
    have x1 : ∀ i, (w5.alloc (.cells (#[.string key, .slice a5 l.length c5]) 45)).cell? ⟨w.heap.size + 1, i, none⟩ = (#[.int .i64 f.k, .int .i64 f.s, .int .i64 f.d, .int .i64 f.p, .int .i64 f.q] : Array Value)[i]? := by intro i; simp [go_sem, hc1, hc2, hc3, hc4, hc5, ↓IntWalk.iteOmega]
    have HM5 : Hid (∀ w', Below (w5.alloc (.cells (#[.string key, .slice a5 l.length c5]) 45)).heap.size (w5.alloc (.cells (#[.string key, .slice a5 l.length c5]) 45)) w' → (∀ i, w'.cell? ⟨w5.heap.size, i, none⟩ = (#[.string key, .slice a5 l.length c5] : Array Value)[i]?) ∧ (∀ i, w'.cell? ⟨w.heap.size + 1, i, none⟩ = (#[.int .i64 f.k, .int .i64 f.s, .int .i64 f.d, .int .i64 f.p, .int .i64 f.q] : Array Value)[i]?) ∧ Below (w5.alloc (.cells (#[.string key, .slice a5 l.length c5]) 45)).heap.size (w5.alloc (.cells (#[.string key, .slice a5 l.length c5]) 45)) w') := fun w' hb => ⟨fun i => (hb.cell (show w5.heap.size < (w5.alloc (.cells (#[.string key, .slice a5 l.length c5]) 45)).heap.size by first | omega | (simp; done) | (simp; omega))).trans (x2 i), fun i => (hb.cell (show w.heap.size + 1 < (w5.alloc (.cells (#[.string key, .slice a5 l.length c5]) 45)).heap.size by first | omega | (simp; done) | (simp; omega))).trans (x1 i), hb⟩
    go_region_held3 (fun w' => (∀ i, w'.cell? ⟨w5.heap.size, i, none⟩ = (#[.string key, .slice a5 l.length c5] : Array Value)[i]?) ∧ (∀ i, w'.cell? ⟨w.heap.size + 1, i, none⟩ = (#[.int .i64 f.k, .int .i64 f.s, .int .i64 f.d, .int .i64 f.p, .int .i64 f.q] : Array Value)[i]?) ∧ Below (w5.alloc (.cells (#[.string key, .slice a5 l.length c5]) 45)).heap.size (w5.alloc (.cells (#[.string key, .slice a5 l.length c5]) 45)) w') (exact HM5.out _ (by ((repeat (with_reducible first | exact Below.refl _ _ | apply Below.al | apply Below.dr | (refine Below.tr ?_ (by assumption)) | (refine Below.marked (by assumption) ?_ ?_) | (refine Below.st ?_ ?_ _))); all_goals (first | omega | (simp; done) | (simp; omega))))) (first | (go_at_call 26; refine (toFlow_any f _).mono ?_; rintro e w6 ⟨rfl, hb6⟩) | (go_at_call 56; refine (sprQ_impl key a5 c5 l q hq f (by omega) (by omega) _ ?_).mono ?_; exact Sv.rd (Sv.later s5 (by ((repeat (with_reducible first | exact Below.refl _ _ | apply Below.al | apply Below.dr | (refine Below.tr ?_ (by assumption)) | (refine Below.marked (by assumption) ?_ ?_) | (refine Below.st ?_ ?_ _))); all_goals (first | omega | (simp; done) | (simp; omega))))); rintro e w7 ⟨rfl, hb7⟩))
    obtain ⟨hc6, hf6, hz6⟩ := old hb6
    try simp only [World.size_alloc, World.size_drew, World.size_setCell] at hz6
    obtain ⟨hc7, hf7, hz7⟩ := old hb7
    try simp only [World.size_alloc, World.size_drew, World.size_setCell] at hz7
    clear x2
    clear x1
    go_wp2_with fail
    have x2 : ∀ i, w7.cell? ⟨w5.heap.size, i, none⟩ = (#[.string key, .slice a5 l.length c5] : Array Value)[i]? := by intro i; simp [go_sem, hc1, hc2, hc3, hc4, hc5, hc6, hc7, ↓IntWalk.iteOmega]
    have x0 : ∀ i, w7.cell? ⟨w.heap.size, i, none⟩ = (#[.string key, .slice a l.length c] : Array Value)[i]? := by intro i; simp [go_sem, hc1, hc2, hc3, hc4, hc5, hc6, hc7, ↓IntWalk.iteOmega]
    have HM7 : Hid (∀ w', Below w7.heap.size w7 w' → (∀ i, w'.cell? ⟨w5.heap.size, i, none⟩ = (#[.string key, .slice a5 l.length c5] : Array Value)[i]?) ∧ (∀ i, w'.cell? ⟨w.heap.size, i, none⟩ = (#[.string key, .slice a l.length c] : Array Value)[i]?) ∧ Below w7.heap.size w7 w') := fun w' hb => ⟨fun i => (hb.cell (show w5.heap.size < w7.heap.size by first | omega | (simp; done) | (simp; omega))).trans (x2 i), fun i => (hb.cell (show w.heap.size < w7.heap.size by first | omega | (simp; done) | (simp; omega))).trans (x0 i), hb⟩
    go_region_held3 (fun w' => (∀ i, w'.cell? ⟨w5.heap.size, i, none⟩ = (#[.string key, .slice a5 l.length c5] : Array Value)[i]?) ∧ (∀ i, w'.cell? ⟨w.heap.size, i, none⟩ = (#[.string key, .slice a l.length c] : Array Value)[i]?) ∧ Below w7.heap.size w7 w') (exact HM7.out _ (by ((repeat (with_reducible first | exact Below.refl _ _ | apply Below.al | apply Below.dr | (refine Below.tr ?_ (by assumption)) | (refine Below.marked (by assumption) ?_ ?_) | (refine Below.st ?_ ?_ _))); all_goals (first | omega | (simp; done) | (simp; omega))))) (first | (go_at_call 40; refine (toSpread_any key a c l _ (Rd.later hrd (by ((repeat (with_reducible first | exact Below.refl _ _ | apply Below.al | apply Below.dr | (refine Below.tr ?_ (by assumption)) | (refine Below.marked (by assumption) ?_ ?_) | (refine Below.st ?_ ?_ _))); all_goals (first | omega | (simp; done) | (simp; omega))))) (by omega)).mono ?_; rintro e w8 ⟨a8, c8, rfl, s8, hb8⟩) | (go_at_call 42; refine (eqSpread_any key a5 _ c5 _ l _ ?_ ?_ (by omega)).mono ?_; exact Sv.rd (Sv.later s5 (by ((repeat (with_reducible first | exact Below.refl _ _ | apply Below.al | apply Below.dr | (refine Below.tr ?_ (by assumption)) | (refine Below.marked (by assumption) ?_ ?_) | (refine Below.st ?_ ?_ _))); all_goals (first | omega | (simp; done) | (simp; omega))))); exact Sv.rd (Sv.later s8 (by ((repeat (with_reducible first | exact Below.refl _ _ | apply Below.al | apply Below.dr | (refine Below.tr ?_ (by assumption)) | (refine Below.marked (by assumption) ?_ ?_) | (refine Below.st ?_ ?_ _))); all_goals (first | omega | (simp; done) | (simp; omega))))); rintro e w9 ⟨rfl, hb9⟩))
    obtain ⟨hc8, hf8, hz8⟩ := old hb8
    try simp only [World.size_alloc, World.size_drew, World.size_setCell] at hz8
    try simp only [World.size_alloc, World.size_drew, World.size_setCell] at s8
    obtain ⟨hc9, hf9, hz9⟩ := old hb9
    try simp only [World.size_alloc, World.size_drew, World.size_setCell] at hz9
    clear x2
    clear x0
    go_wp2_with fail
    go_ret
    exact ⟨rfl, by ((repeat (with_reducible first | exact Below.refl _ _ | apply Below.al | apply Below.dr | (refine Below.tr ?_ (by assumption)) | (refine Below.marked (by assumption) ?_ ?_) | (refine Below.st ?_ ?_ _))); all_goals (first | omega | (simp; done) | (simp; omega)))⟩
  · have hz := szR_neg (left := 1048576) (n := key.size + l.length) (by omega)
    simp only [Int.natCast_add] at hz
    go_enter Try.func16, Try.ntmps16
    go_wp2_with fail
    refine (szSpread_any key a l.length c _ (by omega) hk hl' _).mono ?_
    rintro e w1 ⟨rfl, hb1⟩
    obtain ⟨hc1, hf1, hz1⟩ := old hb1
    try simp only [World.size_alloc, World.size_drew, World.size_setCell] at hz1
    go_wp2_with fail
    go_ret
    exact ⟨rfl, by ((repeat (with_reducible first | exact Below.refl _ _ | apply Below.al | apply Below.dr | (refine Below.tr ?_ (by assumption)) | (refine Below.marked (by assumption) ?_ ?_) | (refine Below.st ?_ ?_ _))); all_goals (first | omega | (simp; done) | (simp; omega)))⟩

end Go.Proofs.Ytlhngkkablhpdaa

/-
  Spreads: a key and a table of queues; copied, compared, marked, held against the marks; the entry and the queue of a flow; an entry changed.
  Conditions: at most 2^20 bytes and entries.
-/
import Derived.Test.YtlhngkkablhpdaaEven
import Derived.Test.YtlhngkkablhpdaaHashB
set_option linter.unusedSimpArgs false
set_option linter.unusedVariables false
namespace Go.Proofs.Ytlhngkkablhpdaa
open Go.RowKit

/-- A call hands back a spread whose table is new. -/
def RetSpread (w : World) (key : ByteArray) (l : List Int) (e : Ending) (w' : World) : Prop :=
  ∃ a c, e = .returned (.agg #[.string key, .slice a l.length c]) ∧ Sv w' w.heap.size w'.heap.size a (iv l) ∧ Below w.heap.size w w'

set_option maxRecDepth 100000 in
set_option maxHeartbeats 400000 in
theorem toSpread_any (key : ByteArray) (a : Option Addr) (c : Nat) (l : List Int) (w : World) (h1 : Rd w a (iv l)) (hl : l.length ≤ 1048576) :
    Calls Try.prog 40 #[.agg #[.string key, .slice a l.length c]] w (RetSpread w key l) := by
  go_enter Try.func40, Try.ntmps40
  go_wp2_with fail
  refine (toIntS_any a c l _ (Rd.later h1 (by ((repeat (with_reducible first | exact Below.refl _ _ | apply Below.al | apply Below.dr | (refine Below.tr ?_ (by assumption)) | (refine Below.marked (by assumption) ?_ ?_) | (refine Below.st ?_ ?_ _))); all_goals (first | omega | (simp; done) | (simp; omega))))) hl).mono ?_
  rintro e w1 ⟨a1, c1, rfl, s1, hb⟩
  obtain ⟨hc, hf, hz⟩ := old hb; try simp at hz
  try simp at s1
  go_wp2_with fail
  refine bodyPost_ret (v := .agg #[.string key, .slice a1 l.length c1]) (by simp [results, Try.results40, go_sem, ↓IntWalk.iteOmega, hc]) rfl ⟨a1, c1, rfl, ?_, by ((repeat (with_reducible first | exact Below.refl _ _ | apply Below.al | apply Below.dr | (refine Below.tr ?_ (by assumption)) | (refine Below.marked (by assumption) ?_ ?_) | (refine Below.st ?_ ?_ _))); all_goals (first | omega | (simp; done) | (simp; omega)))⟩
  refine Sv.wide (B := w.heap.size + 1 + 1 + 1) (U := w1.heap.size) ?_ (by omega) (by simp)
  ((repeat (with_reducible first | assumption | apply Sv.al | apply Sv.dr | (refine Sv.later ?_ (by assumption)) | (exact Sv.self (by assumption)) | (refine Sv.other (by assumption) ?_ ?_) | (refine Sv.st ?_ ?_ _))); all_goals (first | omega | (simp only []; omega) | (simp; omega)))

set_option maxRecDepth 100000 in
set_option maxHeartbeats 400000 in
theorem eqSpread_any (key : ByteArray) (a1 a2 : Option Addr) (c1 c2 : Nat) (l : List Int) (w : World) (h1 : Rd w a1 (iv l)) (h2 : Rd w a2 (iv l)) (hl : l.length ≤ 2097152) :
    Calls Try.prog 42 #[.agg #[.string key, .slice a1 l.length c1], .agg #[.string key, .slice a2 l.length c2]] w fun e w' => e = .returned (.bool true) ∧ Below w.heap.size w w' := by
  go_enter Try.func42, Try.ntmps42
  go_wp2_with fail
  refine (eqIntS_any a1 a2 c1 c2 l _ (Rd.later h1 (by ((repeat (with_reducible first | exact Below.refl _ _ | apply Below.al | apply Below.dr | (refine Below.tr ?_ (by assumption)) | (refine Below.marked (by assumption) ?_ ?_) | (refine Below.st ?_ ?_ _))); all_goals (first | omega | (simp; done) | (simp; omega))))) (Rd.later h2 (by ((repeat (with_reducible first | exact Below.refl _ _ | apply Below.al | apply Below.dr | (refine Below.tr ?_ (by assumption)) | (refine Below.marked (by assumption) ?_ ?_) | (refine Below.st ?_ ?_ _))); all_goals (first | omega | (simp; done) | (simp; omega))))) hl).mono ?_
  rintro e w1 ⟨rfl, hb⟩
  go_wp2_with fail
  go_ret
  exact ⟨rfl, by ((repeat (with_reducible first | exact Below.refl _ _ | apply Below.al | apply Below.dr | (refine Below.tr ?_ (by assumption)) | (refine Below.marked (by assumption) ?_ ?_) | (refine Below.st ?_ ?_ _))); all_goals (first | omega | (simp; done) | (simp; omega)))⟩

set_option maxRecDepth 100000 in
set_option maxHeartbeats 400000 in
theorem markSpread_any (key : ByteArray) (a : Option Addr) (n c B U : Nat) (k0 : Int) (xs : List Value) (w : World) (h1 : Sv w B U a xs) (hx : xs.length = n) (hU : U ≤ w.heap.size) (hk0 : 0 ≤ k0 ∧ k0 + n ≤ 1000000000000) :
    Calls Try.prog 47 #[.agg #[.string key, .slice a n c], .int .i64 k0] w fun e w' => e = .returned (.int .i64 (k0 + n)) ∧ ∃ o, Marked (w.alloc o) w' B U a (marks mkI k0 n) := by
  go_enter Try.func47, Try.ntmps47
  go_wp2_with fail
  refine (markIntS_any a n c B U k0 xs _ (Sv.al h1 _) hx hk0).mono ?_
  rintro e w1 ⟨rfl, m⟩
  go_wp2_with fail
  go_ret
  exact ⟨rfl, _, m⟩

set_option maxRecDepth 100000 in
set_option maxHeartbeats 400000 in
theorem heldSpread_any (key : ByteArray) (a : Option Addr) (n c : Nat) (k0 : Int) (w : World) (h1 : Rd w a (marks mkI k0 n)) (hk0 : 0 ≤ k0 ∧ k0 + n ≤ 1000000000000) :
    Calls Try.prog 48 #[.agg #[.string key, .slice a n c], .int .i64 k0] w fun e w' => e = .returned (.int .i64 (k0 + n)) ∧ Below w.heap.size w w' := by
  go_enter Try.func48, Try.ntmps48
  go_wp2_with fail
  refine (heldIntS_any a n c k0 _ (Rd.al h1 _) hk0).mono ?_
  rintro e w1 ⟨rfl, hb⟩
  have hpos : 0 ≤ k0 + n := by omega
  go_wp2_with fail
  go_ret
  exact ⟨rfl, by ((repeat (with_reducible first | exact Below.refl _ _ | apply Below.al | apply Below.dr | (refine Below.tr ?_ (by assumption)) | (refine Below.marked (by assumption) ?_ ?_) | (refine Below.st ?_ ?_ _))); all_goals (first | omega | (simp; done) | (simp; omega)))⟩

set_option maxRecDepth 100000 in
set_option maxHeartbeats 400000 in
theorem szSpread_any (key : ByteArray) (a : Option Addr) (n c : Nat) (left : Int) (hl : 0 ≤ left ∧ left ≤ 1048576) (hk : key.size ≤ maxLen) (hn : n ≤ 9223372036854775807) (w : World) :
    Calls Try.prog 38 #[.agg #[.string key, .slice a n c], .int .i64 left] w fun e w' => e = .returned (.int .i64 (szR left ((key.size + n : Nat) : Int))) ∧ Below w.heap.size w w' := by
  unfold maxLen at hk
  obtain ⟨h0, h1⟩ := hl
  by_cases h : left - key.size < 0
  · have HX : Hid (szR left ((key.size + n : Nat) : Int) = -1) := by unfold Hid; exact szR_neg (by omega)
    go_enter Try.func38, Try.ntmps38
    go_wp2
    go_ret
    exact ⟨by rw [HX.out]; rfl, by ((repeat (with_reducible first | exact Below.refl _ _ | apply Below.al | apply Below.dr | (refine Below.tr ?_ (by assumption)) | (refine Below.marked (by assumption) ?_ ?_) | (refine Below.st ?_ ?_ _))); all_goals (first | omega | (simp; done) | (simp; omega)))⟩
  · have HX : Hid (szR left ((key.size + n : Nat) : Int) = szR (left - key.size) n) := szR_add _ _ _ h
    by_cases h2 : left - key.size - n < 0
    · have HY : szR (left - key.size) n = -1 := by unfold szR; rw [if_pos h2]
      go_enter Try.func38, Try.ntmps38
      go_wp2_with (go_at_call 74; refine (szIntS_any a n c _ (by omega) hn _).mono ?_; rintro e w' ⟨rfl, rfl⟩)
      go_ret
      exact ⟨by rw [HX.out, HY]; rfl, by ((repeat (with_reducible first | exact Below.refl _ _ | apply Below.al | apply Below.dr | (refine Below.tr ?_ (by assumption)) | (refine Below.marked (by assumption) ?_ ?_) | (refine Below.st ?_ ?_ _))); all_goals (first | omega | (simp; done) | (simp; omega)))⟩
    · have HY : szR (left - key.size) n = left - key.size - n := by unfold szR; rw [if_neg h2]
      go_enter Try.func38, Try.ntmps38
      go_wp2_with (go_at_call 74; refine (szIntS_any a n c _ (by omega) hn _).mono ?_; rintro e w' ⟨rfl, rfl⟩)
      go_ret
      exact ⟨by rw [HX.out, HY]; rfl, by ((repeat (with_reducible first | exact Below.refl _ _ | apply Below.al | apply Below.dr | (refine Below.tr ?_ (by assumption)) | (refine Below.marked (by assumption) ?_ ?_) | (refine Below.st ?_ ?_ _))); all_goals (first | omega | (simp; done) | (simp; omega)))⟩

end Go.Proofs.Ytlhngkkablhpdaa

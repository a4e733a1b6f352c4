/-
  EntryOf and SpreadQueue of both programs.
  Conditions: at most 2^20 bytes and entries.
-/
import Derived.Test.YtlhngkkablhpdaaSpOk
set_option linter.unusedSimpArgs false
set_option linter.unusedVariables false
namespace Go.Proofs.Ytlhngkkablhpdaa
open Go.RowKit

/-- EntryOf. -/
def entry (key : ByteArray) (l : List Int) (f : Fl) : Int := if l.length = 0 ∨ hashF key f < 0 then -1 else hashF key f % l.length

theorem entry_lt (key : ByteArray) (l : List Int) (f : Fl) : -1 ≤ entry key l f ∧ (entry key l f < l.length) := by
  unfold entry
  split
  · omega
  · rename_i h
    have h0 : (0 : Int) < l.length := by omega
    have h1 := Int.emod_nonneg (hashF key f) (show (l.length : Int) ≠ 0 by omega)
    have h2 := Int.emod_lt_of_pos (hashF key f) h0
    omega

/-- SpreadQueue. -/
def sprQ (key : ByteArray) (l : List Int) (q : Int) (f : Fl) : Int := if spOk key l q = true ∧ 0 ≤ entry key l f then l.getD (entry key l f).toNat 0 else -1

set_option maxRecDepth 100000 in
set_option maxHeartbeats 1000000 in
theorem entry_impl (key : ByteArray) (a : Option Addr) (c : Nat) (l : List Int) (f : Fl) (hk : key.size ≤ 1048576) (hl : l.length ≤ 1048576) (w : World) :
    Calls Try.prog 54 #[.agg #[.string key, .slice a l.length c], .agg #[.int .i64 f.k, .int .i64 f.s, .int .i64 f.d, .int .i64 f.p, .int .i64 f.q]] w fun e w' => e = .returned (.int .i64 (entry key l f)) ∧ Below w.heap.size w w' := by
  obtain ⟨hh0, hh1⟩ : -1 ≤ hashF key f ∧ hashF key f < 4294967296 := hashB_lt _ _
  by_cases h1 : l.length = 0
  · have HX : Hid (entry key l f = -1) := by unfold Hid entry; rw [if_pos (.inl h1)]
    go_enter Try.func54, Try.ntmps54
    go_wp2_with (first | (go_at_call 44; refine (hashF_impl key f hk _).mono ?_; rintro e w' ⟨rfl, hb⟩; obtain ⟨hc, hf, hz⟩ := old hb; try simp at hz))
    go_ret
    exact ⟨by rw [HX.out]; rfl, by ((repeat (with_reducible first | exact Below.refl _ _ | apply Below.al | apply Below.dr | (refine Below.tr ?_ (by assumption)) | (refine Below.marked (by assumption) ?_ ?_) | (refine Below.st ?_ ?_ _))); all_goals (first | omega | (simp; done) | (simp; omega)))⟩
  · have h1b : ((l.length : Int) == 0) = false := by rw [beq_eq_false_iff_ne]; omega
    by_cases h2 : hashF key f < 0
    · have HX : Hid (entry key l f = -1) := by unfold Hid entry; rw [if_pos (.inr h2)]
      go_enter Try.func54, Try.ntmps54
      go_wp2_with (first | (go_at_call 44; refine (hashF_impl key f hk _).mono ?_; rintro e w' ⟨rfl, hb⟩; obtain ⟨hc, hf, hz⟩ := old hb; try simp at hz))
      go_ret
      exact ⟨by rw [HX.out]; rfl, by ((repeat (with_reducible first | exact Below.refl _ _ | apply Below.al | apply Below.dr | (refine Below.tr ?_ (by assumption)) | (refine Below.marked (by assumption) ?_ ?_) | (refine Below.st ?_ ?_ _))); all_goals (first | omega | (simp; done) | (simp; omega)))⟩
    · have HX : Hid (entry key l f = hashF key f % l.length) := by unfold Hid entry; rw [if_neg (by omega)]
      have h3 : 0 ≤ hashF key f := by omega
      have hm0 := Int.emod_nonneg (hashF key f) (show (l.length : Int) ≠ 0 by omega)
      have hm1 := Int.emod_lt_of_pos (hashF key f) (show (0 : Int) < l.length by omega)
      go_enter Try.func54, Try.ntmps54
      go_wp2_with (first | (go_at_call 44; refine (hashF_impl key f hk _).mono ?_; rintro e w' ⟨rfl, hb⟩; obtain ⟨hc, hf, hz⟩ := old hb; try simp at hz))
      go_ret
      exact ⟨by rw [HX.out]; rfl, by ((repeat (with_reducible first | exact Below.refl _ _ | apply Below.al | apply Below.dr | (refine Below.tr ?_ (by assumption)) | (refine Below.marked (by assumption) ?_ ?_) | (refine Below.st ?_ ?_ _))); all_goals (first | omega | (simp; done) | (simp; omega)))⟩

set_option maxRecDepth 100000 in
set_option maxHeartbeats 1000000 in
theorem entry_spec (key : ByteArray) (a : Option Addr) (c : Nat) (l : List Int) (f : Fl) (hk : key.size ≤ 1048576) (hl : l.length ≤ 1048576) (w : World) :
    Calls Try.prog 53 #[.agg #[.string key, .slice a l.length c], .agg #[.int .i64 f.k, .int .i64 f.s, .int .i64 f.d, .int .i64 f.p, .int .i64 f.q]] w fun e w' => e = .returned (.int .i64 (entry key l f)) ∧ Below w.heap.size w w' := by
  obtain ⟨hh0, hh1⟩ : -1 ≤ hashF key f ∧ hashF key f < 4294967296 := hashB_lt _ _
  by_cases h1 : l.length = 0
  · have HX : Hid (entry key l f = -1) := by unfold Hid entry; rw [if_pos (.inl h1)]
    go_enter Try.func53, Try.ntmps53
    go_wp2_with (first | (go_at_call 43; refine (hashF_spec key f hk _).mono ?_; rintro e w' ⟨rfl, hb⟩; obtain ⟨hc, hf, hz⟩ := old hb; try simp at hz))
    go_ret
    exact ⟨by rw [HX.out]; rfl, by ((repeat (with_reducible first | exact Below.refl _ _ | apply Below.al | apply Below.dr | (refine Below.tr ?_ (by assumption)) | (refine Below.marked (by assumption) ?_ ?_) | (refine Below.st ?_ ?_ _))); all_goals (first | omega | (simp; done) | (simp; omega)))⟩
  · have h1b : ((l.length : Int) == 0) = false := by rw [beq_eq_false_iff_ne]; omega
    by_cases h2 : hashF key f < 0
    · have HX : Hid (entry key l f = -1) := by unfold Hid entry; rw [if_pos (.inr h2)]
      go_enter Try.func53, Try.ntmps53
      go_wp2_with (first | (go_at_call 43; refine (hashF_spec key f hk _).mono ?_; rintro e w' ⟨rfl, hb⟩; obtain ⟨hc, hf, hz⟩ := old hb; try simp at hz))
      go_ret
      exact ⟨by rw [HX.out]; rfl, by ((repeat (with_reducible first | exact Below.refl _ _ | apply Below.al | apply Below.dr | (refine Below.tr ?_ (by assumption)) | (refine Below.marked (by assumption) ?_ ?_) | (refine Below.st ?_ ?_ _))); all_goals (first | omega | (simp; done) | (simp; omega)))⟩
    · have HX : Hid (entry key l f = hashF key f % l.length) := by unfold Hid entry; rw [if_neg (by omega)]
      have h3 : 0 ≤ hashF key f := by omega
      have hm0 := Int.emod_nonneg (hashF key f) (show (l.length : Int) ≠ 0 by omega)
      have hm1 := Int.emod_lt_of_pos (hashF key f) (show (0 : Int) < l.length by omega)
      go_enter Try.func53, Try.ntmps53
      go_wp2_with (first | (go_at_call 43; refine (hashF_spec key f hk _).mono ?_; rintro e w' ⟨rfl, hb⟩; obtain ⟨hc, hf, hz⟩ := old hb; try simp at hz))
      go_ret
      exact ⟨by rw [HX.out]; rfl, by ((repeat (with_reducible first | exact Below.refl _ _ | apply Below.al | apply Below.dr | (refine Below.tr ?_ (by assumption)) | (refine Below.marked (by assumption) ?_ ?_) | (refine Below.st ?_ ?_ _))); all_goals (first | omega | (simp; done) | (simp; omega)))⟩

set_option maxRecDepth 100000 in
set_option maxHeartbeats 1000000 in
theorem sprQ_impl (key : ByteArray) (a : Option Addr) (c : Nat) (l : List Int) (q : Int) (hq : I64 q) (f : Fl) (hk : key.size ≤ 1048576) (hl : l.length ≤ 1048576) (w : World) (h1 : Rd w a (iv l)) :
    Calls Try.prog 56 #[.agg #[.string key, .slice a l.length c], .int .i64 q, .agg #[.int .i64 f.k, .int .i64 f.s, .int .i64 f.d, .int .i64 f.p, .int .i64 f.q]] w fun e w' => e = .returned (.int .i64 (sprQ key l q f)) ∧ Below w.heap.size w w' := by
  obtain ⟨he0, he1⟩ := entry_lt key l f
  by_cases h2 : spOk key l q = true
  · by_cases h3 : entry key l f < 0
    · have HX : Hid (sprQ key l q f = -1) := by unfold Hid sprQ; rw [if_neg (by omega)]
      go_enter Try.func56, Try.ntmps56
      go_wp2_with (first | (go_at_call 54; refine (entry_impl key a c l f hk hl _).mono ?_; rintro e w' ⟨rfl, hb⟩; obtain ⟨hc, hf, hz⟩ := old hb; try simp at hz) | (go_at_call 41; refine (spOk_impl key a c l q hq _ (Rd.later h1 (by ((repeat (with_reducible first | exact Below.refl _ _ | apply Below.al | apply Below.dr | (refine Below.tr ?_ (by assumption)) | (refine Below.marked (by assumption) ?_ ?_) | (refine Below.st ?_ ?_ _))); all_goals (first | omega | (simp; done) | (simp; omega))))) hl).mono ?_; rintro e w' ⟨rfl, hb⟩; obtain ⟨hc, hf, hz⟩ := old hb; try simp at hz))
      go_ret
      exact ⟨by rw [HX.out]; rfl, by ((repeat (with_reducible first | exact Below.refl _ _ | apply Below.al | apply Below.dr | (refine Below.tr ?_ (by assumption)) | (refine Below.marked (by assumption) ?_ ?_) | (refine Below.st ?_ ?_ _))); all_goals (first | omega | (simp; done) | (simp; omega)))⟩
    · obtain ⟨k, hk2⟩ := Int.eq_ofNat_of_zero_le (show 0 ≤ entry key l f by omega)
      have hk3 : k < l.length := by omega
      have HX : Hid (sprQ key l q f = l[k]) := by unfold Hid sprQ; rw [if_pos ⟨h2, by omega⟩, hk2]; simp [hk3]
      obtain ⟨b1, o1, rfl, hlt, hc1⟩ := Rd.int h1 k hk3
      clear he0 he1 h3
      go_enter Try.func56, Try.ntmps56
      go_wp2_with (first | (go_at_call 54; refine (entry_impl key _ c l f hk hl _).mono ?_; rintro e w' ⟨rfl, hb⟩; obtain ⟨hc, hf, hz⟩ := old hb; try simp at hz; rw [hk2]) | (go_at_call 41; refine (spOk_impl key _ c l q hq _ (Rd.later h1 (by ((repeat (with_reducible first | exact Below.refl _ _ | apply Below.al | apply Below.dr | (refine Below.tr ?_ (by assumption)) | (refine Below.marked (by assumption) ?_ ?_) | (refine Below.st ?_ ?_ _))); all_goals (first | omega | (simp; done) | (simp; omega))))) hl).mono ?_; rintro e w' ⟨rfl, hb⟩; obtain ⟨hc, hf, hz⟩ := old hb; try simp at hz))
      go_ret
      exact ⟨by rw [HX.out]; rfl, by ((repeat (with_reducible first | exact Below.refl _ _ | apply Below.al | apply Below.dr | (refine Below.tr ?_ (by assumption)) | (refine Below.marked (by assumption) ?_ ?_) | (refine Below.st ?_ ?_ _))); all_goals (first | omega | (simp; done) | (simp; omega)))⟩
  · have HX : Hid (sprQ key l q f = -1) := by unfold Hid sprQ; rw [if_neg (by simp [h2])]
    have h2 : spOk key l q = false := by simpa using h2
    by_cases h3 : entry key l f < 0
    · go_enter Try.func56, Try.ntmps56
      go_wp2_with (first | (go_at_call 54; refine (entry_impl key a c l f hk hl _).mono ?_; rintro e w' ⟨rfl, hb⟩; obtain ⟨hc, hf, hz⟩ := old hb; try simp at hz) | (go_at_call 41; refine (spOk_impl key a c l q hq _ (Rd.later h1 (by ((repeat (with_reducible first | exact Below.refl _ _ | apply Below.al | apply Below.dr | (refine Below.tr ?_ (by assumption)) | (refine Below.marked (by assumption) ?_ ?_) | (refine Below.st ?_ ?_ _))); all_goals (first | omega | (simp; done) | (simp; omega))))) hl).mono ?_; rintro e w' ⟨rfl, hb⟩; obtain ⟨hc, hf, hz⟩ := old hb; try simp at hz))
      go_ret
      exact ⟨by rw [HX.out]; rfl, by ((repeat (with_reducible first | exact Below.refl _ _ | apply Below.al | apply Below.dr | (refine Below.tr ?_ (by assumption)) | (refine Below.marked (by assumption) ?_ ?_) | (refine Below.st ?_ ?_ _))); all_goals (first | omega | (simp; done) | (simp; omega)))⟩
    · go_enter Try.func56, Try.ntmps56
      go_wp2_with (first | (go_at_call 54; refine (entry_impl key a c l f hk hl _).mono ?_; rintro e w' ⟨rfl, hb⟩; obtain ⟨hc, hf, hz⟩ := old hb; try simp at hz) | (go_at_call 41; refine (spOk_impl key a c l q hq _ (Rd.later h1 (by ((repeat (with_reducible first | exact Below.refl _ _ | apply Below.al | apply Below.dr | (refine Below.tr ?_ (by assumption)) | (refine Below.marked (by assumption) ?_ ?_) | (refine Below.st ?_ ?_ _))); all_goals (first | omega | (simp; done) | (simp; omega))))) hl).mono ?_; rintro e w' ⟨rfl, hb⟩; obtain ⟨hc, hf, hz⟩ := old hb; try simp at hz))
      go_ret
      exact ⟨by rw [HX.out]; rfl, by ((repeat (with_reducible first | exact Below.refl _ _ | apply Below.al | apply Below.dr | (refine Below.tr ?_ (by assumption)) | (refine Below.marked (by assumption) ?_ ?_) | (refine Below.st ?_ ?_ _))); all_goals (first | omega | (simp; done) | (simp; omega)))⟩

set_option maxRecDepth 100000 in
set_option maxHeartbeats 1000000 in
theorem sprQ_spec (key : ByteArray) (a : Option Addr) (c : Nat) (l : List Int) (q : Int) (hq : I64 q) (f : Fl) (hk : key.size ≤ 1048576) (hl : l.length ≤ 1048576) (w : World) (h1 : Rd w a (iv l)) :
    Calls Try.prog 55 #[.agg #[.string key, .slice a l.length c], .int .i64 q, .agg #[.int .i64 f.k, .int .i64 f.s, .int .i64 f.d, .int .i64 f.p, .int .i64 f.q]] w fun e w' => e = .returned (.int .i64 (sprQ key l q f)) ∧ Below w.heap.size w w' := by
  obtain ⟨he0, he1⟩ := entry_lt key l f
  by_cases h2 : spOk key l q = true
  · by_cases h3 : entry key l f < 0
    · have HX : Hid (sprQ key l q f = -1) := by unfold Hid sprQ; rw [if_neg (by omega)]
      go_enter Try.func55, Try.ntmps55
      go_wp2_with (first | (go_at_call 53; refine (entry_spec key a c l f hk hl _).mono ?_; rintro e w' ⟨rfl, hb⟩; obtain ⟨hc, hf, hz⟩ := old hb; try simp at hz) | (go_at_call 39; refine (spOk_spec key a c l q hq _ (Rd.later h1 (by ((repeat (with_reducible first | exact Below.refl _ _ | apply Below.al | apply Below.dr | (refine Below.tr ?_ (by assumption)) | (refine Below.marked (by assumption) ?_ ?_) | (refine Below.st ?_ ?_ _))); all_goals (first | omega | (simp; done) | (simp; omega))))) hl).mono ?_; rintro e w' ⟨rfl, hb⟩; obtain ⟨hc, hf, hz⟩ := old hb; try simp at hz))
      go_ret
      exact ⟨by rw [HX.out]; rfl, by ((repeat (with_reducible first | exact Below.refl _ _ | apply Below.al | apply Below.dr | (refine Below.tr ?_ (by assumption)) | (refine Below.marked (by assumption) ?_ ?_) | (refine Below.st ?_ ?_ _))); all_goals (first | omega | (simp; done) | (simp; omega)))⟩
    · obtain ⟨k, hk2⟩ := Int.eq_ofNat_of_zero_le (show 0 ≤ entry key l f by omega)
      have hk3 : k < l.length := by omega
      have HX : Hid (sprQ key l q f = l[k]) := by unfold Hid sprQ; rw [if_pos ⟨h2, by omega⟩, hk2]; simp [hk3]
      obtain ⟨b1, o1, rfl, hlt, hc1⟩ := Rd.int h1 k hk3
      clear he0 he1 h3
      go_enter Try.func55, Try.ntmps55
      go_wp2_with (first | (go_at_call 53; refine (entry_spec key _ c l f hk hl _).mono ?_; rintro e w' ⟨rfl, hb⟩; obtain ⟨hc, hf, hz⟩ := old hb; try simp at hz; rw [hk2]) | (go_at_call 39; refine (spOk_spec key _ c l q hq _ (Rd.later h1 (by ((repeat (with_reducible first | exact Below.refl _ _ | apply Below.al | apply Below.dr | (refine Below.tr ?_ (by assumption)) | (refine Below.marked (by assumption) ?_ ?_) | (refine Below.st ?_ ?_ _))); all_goals (first | omega | (simp; done) | (simp; omega))))) hl).mono ?_; rintro e w' ⟨rfl, hb⟩; obtain ⟨hc, hf, hz⟩ := old hb; try simp at hz))
      go_ret
      exact ⟨by rw [HX.out]; rfl, by ((repeat (with_reducible first | exact Below.refl _ _ | apply Below.al | apply Below.dr | (refine Below.tr ?_ (by assumption)) | (refine Below.marked (by assumption) ?_ ?_) | (refine Below.st ?_ ?_ _))); all_goals (first | omega | (simp; done) | (simp; omega)))⟩
  · have HX : Hid (sprQ key l q f = -1) := by unfold Hid sprQ; rw [if_neg (by simp [h2])]
    have h2 : spOk key l q = false := by simpa using h2
    by_cases h3 : entry key l f < 0
    · go_enter Try.func55, Try.ntmps55
      go_wp2_with (first | (go_at_call 53; refine (entry_spec key a c l f hk hl _).mono ?_; rintro e w' ⟨rfl, hb⟩; obtain ⟨hc, hf, hz⟩ := old hb; try simp at hz) | (go_at_call 39; refine (spOk_spec key a c l q hq _ (Rd.later h1 (by ((repeat (with_reducible first | exact Below.refl _ _ | apply Below.al | apply Below.dr | (refine Below.tr ?_ (by assumption)) | (refine Below.marked (by assumption) ?_ ?_) | (refine Below.st ?_ ?_ _))); all_goals (first | omega | (simp; done) | (simp; omega))))) hl).mono ?_; rintro e w' ⟨rfl, hb⟩; obtain ⟨hc, hf, hz⟩ := old hb; try simp at hz))
      go_ret
      exact ⟨by rw [HX.out]; rfl, by ((repeat (with_reducible first | exact Below.refl _ _ | apply Below.al | apply Below.dr | (refine Below.tr ?_ (by assumption)) | (refine Below.marked (by assumption) ?_ ?_) | (refine Below.st ?_ ?_ _))); all_goals (first | omega | (simp; done) | (simp; omega)))⟩
    · go_enter Try.func55, Try.ntmps55
      go_wp2_with (first | (go_at_call 53; refine (entry_spec key a c l f hk hl _).mono ?_; rintro e w' ⟨rfl, hb⟩; obtain ⟨hc, hf, hz⟩ := old hb; try simp at hz) | (go_at_call 39; refine (spOk_spec key a c l q hq _ (Rd.later h1 (by ((repeat (with_reducible first | exact Below.refl _ _ | apply Below.al | apply Below.dr | (refine Below.tr ?_ (by assumption)) | (refine Below.marked (by assumption) ?_ ?_) | (refine Below.st ?_ ?_ _))); all_goals (first | omega | (simp; done) | (simp; omega))))) hl).mono ?_; rintro e w' ⟨rfl, hb⟩; obtain ⟨hc, hf, hz⟩ := old hb; try simp at hz))
      go_ret
      exact ⟨by rw [HX.out]; rfl, by ((repeat (with_reducible first | exact Below.refl _ _ | apply Below.al | apply Below.dr | (refine Below.tr ?_ (by assumption)) | (refine Below.marked (by assumption) ?_ ?_) | (refine Below.st ?_ ?_ _))); all_goals (first | omega | (simp; done) | (simp; omega)))⟩

end Go.Proofs.Ytlhngkkablhpdaa

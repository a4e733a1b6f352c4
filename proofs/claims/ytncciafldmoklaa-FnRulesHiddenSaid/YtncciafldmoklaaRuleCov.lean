/-
  RuleCovers of both programs.
  Conditions: none.
-/
import Derived.Test.YtncciafldmoklaaRuleOk
set_option linter.unusedSimpArgs false
set_option linter.unusedVariables false
namespace Go.Proofs.Ytncciafldmoklaa
open Go.RowKit

/-- Two addresses have the same k highest of 32 bits. -/
def preEq (a b k : Int) : Bool := a / 2 ^ (32 - k).toNat == b / 2 ^ (32 - k).toNat

theorem good_bits {r : Ru} (h : r.good = true) : 0 ≤ r.bt ∧ r.bt ≤ 32 := by
  simp [Ru.good, inB] at h
  omega

/-- RuleCovers, where both rules are good. -/
def covT (a b : Ru) : Bool := (a.kd == 0 || a.kd == b.kd) && decide (a.bt ≤ b.bt) && preEq a.ip b.ip a.bt && decide (a.fp ≤ b.fp) && decide (b.lp ≤ a.lp) && (a.vl == -2 || a.vl == b.vl)
/-- RuleCovers. -/
def covers (a b : Ru) : Bool := a.good && b.good && covT a b

set_option maxRecDepth 100000 in
set_option maxHeartbeats 2000000 in
theorem samePre_any (a b k : Int) (hk : 0 ≤ k ∧ k ≤ 32) (w : World) :
    Calls Try.prog 95 #[.int .i64 a, .int .i64 b, .int .i64 k] w fun e w' => e = .returned (.bool (preEq a b k)) ∧ Below w.heap.size w w' := by
  obtain ⟨h1, h2⟩ := hk
  go_enter Try.func95, Try.ntmps95
  go_wp2
  refine wp_region_later w.heap.size (by kernel_rfl) (by kernel_rfl) ?_
  repeat (go_big_quiet_step (fail))
  refine wpQuiet_nil ?_
  rintro _ ⟨⟨w1, hb⟩, rfl⟩
  go_wp2
  go_ret
  exact ⟨rfl, hb⟩

set_option maxRecDepth 100000 in
set_option maxHeartbeats 4000000 in
theorem covers_impl (a b : Ru) (w : World) :
    Calls Try.prog 53 #[.agg #[.int .i64 a.pr, .int .i64 a.kd, .int .i64 a.ip, .int .i64 a.bt, .int .i64 a.fp, .int .i64 a.lp, .int .i64 a.vl, .int .i64 a.ac, .int .i64 a.qu], .agg #[.int .i64 b.pr, .int .i64 b.kd, .int .i64 b.ip, .int .i64 b.bt, .int .i64 b.fp, .int .i64 b.lp, .int .i64 b.vl, .int .i64 b.ac, .int .i64 b.qu]] w fun e w' => e = .returned (.bool (covers a b)) ∧ Below w.heap.size w w' := by
  by_cases ga : a.good = true
  · obtain ⟨h1, h2⟩ := good_bits ga
    by_cases gb : b.good = true
    · have HX : Hid (covers a b = covT a b) := by unfold Hid covers; rw [ga, gb]; rfl
      go_enter Try.func53, Try.ntmps53
      go_wp2_with (first | (go_at_call 51; refine (ruleOk_impl _ _).mono ?_; rintro e w' ⟨rfl, hb⟩; obtain ⟨hc, hf, hz⟩ := old hb; try simp at hz) | (go_at_call 95; refine (samePre_any _ _ _ ⟨h1, h2⟩ _).mono ?_; rintro e w' ⟨rfl, hb⟩; obtain ⟨hc, hf, hz⟩ := old hb; try simp at hz))
      all_goals (go_ret; refine ⟨ret_bool ?_, by ((repeat (with_reducible first | exact Below.refl _ _ | apply Below.al | apply Below.dr | (refine Below.tr ?_ (by assumption)) | (refine Below.marked (by assumption) ?_ ?_) | (refine Below.st ?_ ?_ _))); all_goals (first | omega | (simp; done) | (simp; omega)))⟩)
      all_goals (rw [HX.out, Bool.eq_iff_iff]; simp only [covT, preEq, Bool.and_eq_true, Bool.or_eq_true, Bool.not_eq_true', Bool.not_eq_false', Bool.and_eq_false_iff, Bool.or_eq_false_iff, decide_eq_true_eq, decide_eq_false_iff_not, beq_iff_eq, beq_eq_false_iff_ne, Bool.true_eq_false, Bool.false_eq_true, iff_true, iff_false, true_iff, false_iff, Bool.not_true, Bool.not_false] at *; omega)
    · have gb : b.good = false := by simpa using gb
      have HX : Hid (covers a b = false) := by unfold Hid covers; simp [gb]
      go_enter Try.func53, Try.ntmps53
      go_wp2_with (first | (go_at_call 51; refine (ruleOk_impl _ _).mono ?_; rintro e w' ⟨rfl, hb⟩; obtain ⟨hc, hf, hz⟩ := old hb; try simp at hz) | (go_at_call 95; refine (samePre_any _ _ _ ⟨by omega, by omega⟩ _).mono ?_; rintro e w' ⟨rfl, hb⟩; obtain ⟨hc, hf, hz⟩ := old hb; try simp at hz))
      go_ret
      exact ⟨by rw [HX.out]; rfl, by ((repeat (with_reducible first | exact Below.refl _ _ | apply Below.al | apply Below.dr | (refine Below.tr ?_ (by assumption)) | (refine Below.marked (by assumption) ?_ ?_) | (refine Below.st ?_ ?_ _))); all_goals (first | omega | (simp; done) | (simp; omega)))⟩
  · have ga : a.good = false := by simpa using ga
    have HX : Hid (covers a b = false) := by unfold Hid covers; simp [ga]
    go_enter Try.func53, Try.ntmps53
    go_wp2_with (first | (go_at_call 51; refine (ruleOk_impl _ _).mono ?_; rintro e w' ⟨rfl, hb⟩; obtain ⟨hc, hf, hz⟩ := old hb; try simp at hz) | (go_at_call 95; refine (samePre_any _ _ _ ⟨by omega, by omega⟩ _).mono ?_; rintro e w' ⟨rfl, hb⟩; obtain ⟨hc, hf, hz⟩ := old hb; try simp at hz))
    go_ret
    exact ⟨by rw [HX.out]; rfl, by ((repeat (with_reducible first | exact Below.refl _ _ | apply Below.al | apply Below.dr | (refine Below.tr ?_ (by assumption)) | (refine Below.marked (by assumption) ?_ ?_) | (refine Below.st ?_ ?_ _))); all_goals (first | omega | (simp; done) | (simp; omega)))⟩

set_option maxRecDepth 100000 in
set_option maxHeartbeats 8000000 in
theorem covers_spec (a b : Ru) (w : World) :
    Calls Try.prog 52 #[.agg #[.int .i64 a.pr, .int .i64 a.kd, .int .i64 a.ip, .int .i64 a.bt, .int .i64 a.fp, .int .i64 a.lp, .int .i64 a.vl, .int .i64 a.ac, .int .i64 a.qu], .agg #[.int .i64 b.pr, .int .i64 b.kd, .int .i64 b.ip, .int .i64 b.bt, .int .i64 b.fp, .int .i64 b.lp, .int .i64 b.vl, .int .i64 b.ac, .int .i64 b.qu]] w fun e w' => e = .returned (.bool (covers a b)) ∧ Below w.heap.size w w' := by
  cases t0 : a.good with
  | false =>
    have HX : Hid (covers a b = false) := by unfold Hid covers covT; simp [t0]
    have r0 : ∀ w, Calls Try.prog 49 #[.agg #[.int .i64 a.pr, .int .i64 a.kd, .int .i64 a.ip, .int .i64 a.bt, .int .i64 a.fp, .int .i64 a.lp, .int .i64 a.vl, .int .i64 a.ac, .int .i64 a.qu]] w fun e w' => e = .returned (.bool false) ∧ Below w.heap.size w w' := fun w => by have h := ruleOk_spec a w; rwa [t0] at h
    go_enter Try.func52, Try.ntmps52
    go_wp2
    refine wp_region_later (w.heap.size + 2) (by kernel_rfl) (by kernel_rfl) ?_
    dsimp only [List.append]
    repeat (go_big_quiet_step (first | (go_at_call 49; with_reducible exact later_call (by simp) (r0 _))))
    refine wpQuiet_nil ?_
    rintro _ ⟨⟨w1, hb⟩, rfl⟩
    go_wp2
    go_ret
    exact ⟨ret_bool HX.out.symm, (Below.al (Below.al (Below.refl _ _) _) _).trans (hb.mono (by simp))⟩
  | true =>
    obtain ⟨h1, h2⟩ := good_bits t0
    cases t1 : b.good with
    | false =>
      have HX : Hid (covers a b = false) := by unfold Hid covers covT; simp [t0, t1]
      have r0 : ∀ w, Calls Try.prog 49 #[.agg #[.int .i64 a.pr, .int .i64 a.kd, .int .i64 a.ip, .int .i64 a.bt, .int .i64 a.fp, .int .i64 a.lp, .int .i64 a.vl, .int .i64 a.ac, .int .i64 a.qu]] w fun e w' => e = .returned (.bool true) ∧ Below w.heap.size w w' := fun w => by have h := ruleOk_spec a w; rwa [t0] at h
      have r1 : ∀ w, Calls Try.prog 49 #[.agg #[.int .i64 b.pr, .int .i64 b.kd, .int .i64 b.ip, .int .i64 b.bt, .int .i64 b.fp, .int .i64 b.lp, .int .i64 b.vl, .int .i64 b.ac, .int .i64 b.qu]] w fun e w' => e = .returned (.bool false) ∧ Below w.heap.size w w' := fun w => by have h := ruleOk_spec b w; rwa [t1] at h
      go_enter Try.func52, Try.ntmps52
      go_wp2
      refine wp_region_later (w.heap.size + 2) (by kernel_rfl) (by kernel_rfl) ?_
      dsimp only [List.append]
      repeat (go_big_quiet_step (first | (go_at_call 49; with_reducible exact later_call (by simp) (r0 _)) | (go_at_call 49; with_reducible exact later_call (by simp) (r1 _))))
      refine wpQuiet_nil ?_
      rintro _ ⟨⟨w1, hb⟩, rfl⟩
      go_wp2
      go_ret
      exact ⟨ret_bool HX.out.symm, (Below.al (Below.al (Below.refl _ _) _) _).trans (hb.mono (by simp))⟩
    | true =>
      cases t2 : (a.kd == 0) with
      | false =>
        cases t3 : (a.kd == b.kd) with
        | false =>
          have HX : Hid (covers a b = false) := by unfold Hid covers covT; simp [t0, t1, t2, t3]
          have r0 : ∀ w, Calls Try.prog 49 #[.agg #[.int .i64 a.pr, .int .i64 a.kd, .int .i64 a.ip, .int .i64 a.bt, .int .i64 a.fp, .int .i64 a.lp, .int .i64 a.vl, .int .i64 a.ac, .int .i64 a.qu]] w fun e w' => e = .returned (.bool true) ∧ Below w.heap.size w w' := fun w => by have h := ruleOk_spec a w; rwa [t0] at h
          have r1 : ∀ w, Calls Try.prog 49 #[.agg #[.int .i64 b.pr, .int .i64 b.kd, .int .i64 b.ip, .int .i64 b.bt, .int .i64 b.fp, .int .i64 b.lp, .int .i64 b.vl, .int .i64 b.ac, .int .i64 b.qu]] w fun e w' => e = .returned (.bool true) ∧ Below w.heap.size w w' := fun w => by have h := ruleOk_spec b w; rwa [t1] at h
          go_enter Try.func52, Try.ntmps52
          go_wp2
          refine wp_region_later (w.heap.size + 2) (by kernel_rfl) (by kernel_rfl) ?_
          dsimp only [List.append]
          repeat (go_big_quiet_step (first | (go_at_call 49; with_reducible exact later_call (by simp) (r0 _)) | (go_at_call 49; with_reducible exact later_call (by simp) (r1 _))))
          refine wpQuiet_nil ?_
          rintro _ ⟨⟨w1, hb⟩, rfl⟩
          go_wp2
          go_ret
          exact ⟨ret_bool HX.out.symm, (Below.al (Below.al (Below.refl _ _) _) _).trans (hb.mono (by simp))⟩
        | true =>
          cases t4 : decide (a.bt ≤ b.bt) with
          | false =>
            have HX : Hid (covers a b = false) := by unfold Hid covers covT; simp [t0, t1, t2, t3, t4]
            have t4p := t4
            simp only [decide_eq_false_iff_not, Int.not_le] at t4p
            have r0 : ∀ w, Calls Try.prog 49 #[.agg #[.int .i64 a.pr, .int .i64 a.kd, .int .i64 a.ip, .int .i64 a.bt, .int .i64 a.fp, .int .i64 a.lp, .int .i64 a.vl, .int .i64 a.ac, .int .i64 a.qu]] w fun e w' => e = .returned (.bool true) ∧ Below w.heap.size w w' := fun w => by have h := ruleOk_spec a w; rwa [t0] at h
            have r1 : ∀ w, Calls Try.prog 49 #[.agg #[.int .i64 b.pr, .int .i64 b.kd, .int .i64 b.ip, .int .i64 b.bt, .int .i64 b.fp, .int .i64 b.lp, .int .i64 b.vl, .int .i64 b.ac, .int .i64 b.qu]] w fun e w' => e = .returned (.bool true) ∧ Below w.heap.size w w' := fun w => by have h := ruleOk_spec b w; rwa [t1] at h
            go_enter Try.func52, Try.ntmps52
            go_wp2
            refine wp_region_later (w.heap.size + 2) (by kernel_rfl) (by kernel_rfl) ?_
            dsimp only [List.append]
            repeat (go_big_quiet_step (first | (go_at_call 49; with_reducible exact later_call (by simp) (r0 _)) | (go_at_call 49; with_reducible exact later_call (by simp) (r1 _))))
            refine wpQuiet_nil ?_
            rintro _ ⟨⟨w1, hb⟩, rfl⟩
            go_wp2
            go_ret
            exact ⟨ret_bool HX.out.symm, (Below.al (Below.al (Below.refl _ _) _) _).trans (hb.mono (by simp))⟩
          | true =>
            cases t5 : preEq a.ip b.ip a.bt with
            | false =>
              have HX : Hid (covers a b = false) := by unfold Hid covers covT; simp [t0, t1, t2, t3, t4, t5]
              have t4p := t4
              simp only [decide_eq_true_eq] at t4p
              have t5' : (a.ip / 2 ^ (32 - a.bt).toNat == b.ip / 2 ^ (32 - a.bt).toNat) = false := t5
              have r0 : ∀ w, Calls Try.prog 49 #[.agg #[.int .i64 a.pr, .int .i64 a.kd, .int .i64 a.ip, .int .i64 a.bt, .int .i64 a.fp, .int .i64 a.lp, .int .i64 a.vl, .int .i64 a.ac, .int .i64 a.qu]] w fun e w' => e = .returned (.bool true) ∧ Below w.heap.size w w' := fun w => by have h := ruleOk_spec a w; rwa [t0] at h
              have r1 : ∀ w, Calls Try.prog 49 #[.agg #[.int .i64 b.pr, .int .i64 b.kd, .int .i64 b.ip, .int .i64 b.bt, .int .i64 b.fp, .int .i64 b.lp, .int .i64 b.vl, .int .i64 b.ac, .int .i64 b.qu]] w fun e w' => e = .returned (.bool true) ∧ Below w.heap.size w w' := fun w => by have h := ruleOk_spec b w; rwa [t1] at h
              go_enter Try.func52, Try.ntmps52
              go_wp2
              refine wp_region_later (w.heap.size + 2) (by kernel_rfl) (by kernel_rfl) ?_
              dsimp only [List.append]
              repeat (go_big_quiet_step (first | (go_at_call 49; with_reducible exact later_call (by simp) (r0 _)) | (go_at_call 49; with_reducible exact later_call (by simp) (r1 _))))
              refine wpQuiet_nil ?_
              rintro _ ⟨⟨w1, hb⟩, rfl⟩
              go_wp2
              go_ret
              exact ⟨ret_bool HX.out.symm, (Below.al (Below.al (Below.refl _ _) _) _).trans (hb.mono (by simp))⟩
            | true =>
              cases t6 : decide (a.fp ≤ b.fp) with
              | false =>
                have HX : Hid (covers a b = false) := by unfold Hid covers covT; simp [t0, t1, t2, t3, t4, t5, t6]
                have t4p := t4
                simp only [decide_eq_true_eq] at t4p
                have t5' : (a.ip / 2 ^ (32 - a.bt).toNat == b.ip / 2 ^ (32 - a.bt).toNat) = true := t5
                have t6p := t6
                simp only [decide_eq_false_iff_not, Int.not_le] at t6p
                have r0 : ∀ w, Calls Try.prog 49 #[.agg #[.int .i64 a.pr, .int .i64 a.kd, .int .i64 a.ip, .int .i64 a.bt, .int .i64 a.fp, .int .i64 a.lp, .int .i64 a.vl, .int .i64 a.ac, .int .i64 a.qu]] w fun e w' => e = .returned (.bool true) ∧ Below w.heap.size w w' := fun w => by have h := ruleOk_spec a w; rwa [t0] at h
                have r1 : ∀ w, Calls Try.prog 49 #[.agg #[.int .i64 b.pr, .int .i64 b.kd, .int .i64 b.ip, .int .i64 b.bt, .int .i64 b.fp, .int .i64 b.lp, .int .i64 b.vl, .int .i64 b.ac, .int .i64 b.qu]] w fun e w' => e = .returned (.bool true) ∧ Below w.heap.size w w' := fun w => by have h := ruleOk_spec b w; rwa [t1] at h
                go_enter Try.func52, Try.ntmps52
                go_wp2
                refine wp_region_later (w.heap.size + 2) (by kernel_rfl) (by kernel_rfl) ?_
                dsimp only [List.append]
                repeat (go_big_quiet_step (first | (go_at_call 49; with_reducible exact later_call (by simp) (r0 _)) | (go_at_call 49; with_reducible exact later_call (by simp) (r1 _))))
                refine wpQuiet_nil ?_
                rintro _ ⟨⟨w1, hb⟩, rfl⟩
                go_wp2
                go_ret
                exact ⟨ret_bool HX.out.symm, (Below.al (Below.al (Below.refl _ _) _) _).trans (hb.mono (by simp))⟩
              | true =>
                cases t7 : decide (b.lp ≤ a.lp) with
                | false =>
                  have HX : Hid (covers a b = false) := by unfold Hid covers covT; simp [t0, t1, t2, t3, t4, t5, t6, t7]
                  have t4p := t4
                  simp only [decide_eq_true_eq] at t4p
                  have t5' : (a.ip / 2 ^ (32 - a.bt).toNat == b.ip / 2 ^ (32 - a.bt).toNat) = true := t5
                  have t6p := t6
                  simp only [decide_eq_true_eq] at t6p
                  have t7p := t7
                  simp only [decide_eq_false_iff_not, Int.not_le] at t7p
                  have r0 : ∀ w, Calls Try.prog 49 #[.agg #[.int .i64 a.pr, .int .i64 a.kd, .int .i64 a.ip, .int .i64 a.bt, .int .i64 a.fp, .int .i64 a.lp, .int .i64 a.vl, .int .i64 a.ac, .int .i64 a.qu]] w fun e w' => e = .returned (.bool true) ∧ Below w.heap.size w w' := fun w => by have h := ruleOk_spec a w; rwa [t0] at h
                  have r1 : ∀ w, Calls Try.prog 49 #[.agg #[.int .i64 b.pr, .int .i64 b.kd, .int .i64 b.ip, .int .i64 b.bt, .int .i64 b.fp, .int .i64 b.lp, .int .i64 b.vl, .int .i64 b.ac, .int .i64 b.qu]] w fun e w' => e = .returned (.bool true) ∧ Below w.heap.size w w' := fun w => by have h := ruleOk_spec b w; rwa [t1] at h
                  go_enter Try.func52, Try.ntmps52
                  go_wp2
                  refine wp_region_later (w.heap.size + 2) (by kernel_rfl) (by kernel_rfl) ?_
                  dsimp only [List.append]
                  repeat (go_big_quiet_step (first | (go_at_call 49; with_reducible exact later_call (by simp) (r0 _)) | (go_at_call 49; with_reducible exact later_call (by simp) (r1 _))))
                  refine wpQuiet_nil ?_
                  rintro _ ⟨⟨w1, hb⟩, rfl⟩
                  go_wp2
                  go_ret
                  exact ⟨ret_bool HX.out.symm, (Below.al (Below.al (Below.refl _ _) _) _).trans (hb.mono (by simp))⟩
                | true =>
                  cases t8 : (a.vl == -2) with
                  | false =>
                    cases t9 : (a.vl == b.vl) with
                    | false =>
                      have HX : Hid (covers a b = false) := by unfold Hid covers covT; simp [t0, t1, t2, t3, t4, t5, t6, t7, t8, t9]
                      have t4p := t4
                      simp only [decide_eq_true_eq] at t4p
                      have t5' : (a.ip / 2 ^ (32 - a.bt).toNat == b.ip / 2 ^ (32 - a.bt).toNat) = true := t5
                      have t6p := t6
                      simp only [decide_eq_true_eq] at t6p
                      have t7p := t7
                      simp only [decide_eq_true_eq] at t7p
                      have r0 : ∀ w, Calls Try.prog 49 #[.agg #[.int .i64 a.pr, .int .i64 a.kd, .int .i64 a.ip, .int .i64 a.bt, .int .i64 a.fp, .int .i64 a.lp, .int .i64 a.vl, .int .i64 a.ac, .int .i64 a.qu]] w fun e w' => e = .returned (.bool true) ∧ Below w.heap.size w w' := fun w => by have h := ruleOk_spec a w; rwa [t0] at h
                      have r1 : ∀ w, Calls Try.prog 49 #[.agg #[.int .i64 b.pr, .int .i64 b.kd, .int .i64 b.ip, .int .i64 b.bt, .int .i64 b.fp, .int .i64 b.lp, .int .i64 b.vl, .int .i64 b.ac, .int .i64 b.qu]] w fun e w' => e = .returned (.bool true) ∧ Below w.heap.size w w' := fun w => by have h := ruleOk_spec b w; rwa [t1] at h
                      go_enter Try.func52, Try.ntmps52
                      go_wp2
                      refine wp_region_later (w.heap.size + 2) (by kernel_rfl) (by kernel_rfl) ?_
                      dsimp only [List.append]
                      repeat (go_big_quiet_step (first | (go_at_call 49; with_reducible exact later_call (by simp) (r0 _)) | (go_at_call 49; with_reducible exact later_call (by simp) (r1 _))))
                      refine wpQuiet_nil ?_
                      rintro _ ⟨⟨w1, hb⟩, rfl⟩
                      go_wp2
                      go_ret
                      exact ⟨ret_bool HX.out.symm, (Below.al (Below.al (Below.refl _ _) _) _).trans (hb.mono (by simp))⟩
                    | true =>
                      have HX : Hid (covers a b = true) := by unfold Hid covers covT; simp [t0, t1, t2, t3, t4, t5, t6, t7, t8, t9]
                      have t4p := t4
                      simp only [decide_eq_true_eq] at t4p
                      have t5' : (a.ip / 2 ^ (32 - a.bt).toNat == b.ip / 2 ^ (32 - a.bt).toNat) = true := t5
                      have t6p := t6
                      simp only [decide_eq_true_eq] at t6p
                      have t7p := t7
                      simp only [decide_eq_true_eq] at t7p
                      have r0 : ∀ w, Calls Try.prog 49 #[.agg #[.int .i64 a.pr, .int .i64 a.kd, .int .i64 a.ip, .int .i64 a.bt, .int .i64 a.fp, .int .i64 a.lp, .int .i64 a.vl, .int .i64 a.ac, .int .i64 a.qu]] w fun e w' => e = .returned (.bool true) ∧ Below w.heap.size w w' := fun w => by have h := ruleOk_spec a w; rwa [t0] at h
                      have r1 : ∀ w, Calls Try.prog 49 #[.agg #[.int .i64 b.pr, .int .i64 b.kd, .int .i64 b.ip, .int .i64 b.bt, .int .i64 b.fp, .int .i64 b.lp, .int .i64 b.vl, .int .i64 b.ac, .int .i64 b.qu]] w fun e w' => e = .returned (.bool true) ∧ Below w.heap.size w w' := fun w => by have h := ruleOk_spec b w; rwa [t1] at h
                      go_enter Try.func52, Try.ntmps52
                      go_wp2
                      refine wp_region_later (w.heap.size + 2) (by kernel_rfl) (by kernel_rfl) ?_
                      dsimp only [List.append]
                      repeat (go_big_quiet_step (first | (go_at_call 49; with_reducible exact later_call (by simp) (r0 _)) | (go_at_call 49; with_reducible exact later_call (by simp) (r1 _))))
                      refine wpQuiet_nil ?_
                      rintro _ ⟨⟨w1, hb⟩, rfl⟩
                      go_wp2
                      go_ret
                      exact ⟨ret_bool HX.out.symm, (Below.al (Below.al (Below.refl _ _) _) _).trans (hb.mono (by simp))⟩
                  | true =>
                    have HX : Hid (covers a b = true) := by unfold Hid covers covT; simp [t0, t1, t2, t3, t4, t5, t6, t7, t8]
                    have t4p := t4
                    simp only [decide_eq_true_eq] at t4p
                    have t5' : (a.ip / 2 ^ (32 - a.bt).toNat == b.ip / 2 ^ (32 - a.bt).toNat) = true := t5
                    have t6p := t6
                    simp only [decide_eq_true_eq] at t6p
                    have t7p := t7
                    simp only [decide_eq_true_eq] at t7p
                    have r0 : ∀ w, Calls Try.prog 49 #[.agg #[.int .i64 a.pr, .int .i64 a.kd, .int .i64 a.ip, .int .i64 a.bt, .int .i64 a.fp, .int .i64 a.lp, .int .i64 a.vl, .int .i64 a.ac, .int .i64 a.qu]] w fun e w' => e = .returned (.bool true) ∧ Below w.heap.size w w' := fun w => by have h := ruleOk_spec a w; rwa [t0] at h
                    have r1 : ∀ w, Calls Try.prog 49 #[.agg #[.int .i64 b.pr, .int .i64 b.kd, .int .i64 b.ip, .int .i64 b.bt, .int .i64 b.fp, .int .i64 b.lp, .int .i64 b.vl, .int .i64 b.ac, .int .i64 b.qu]] w fun e w' => e = .returned (.bool true) ∧ Below w.heap.size w w' := fun w => by have h := ruleOk_spec b w; rwa [t1] at h
                    go_enter Try.func52, Try.ntmps52
                    go_wp2
                    refine wp_region_later (w.heap.size + 2) (by kernel_rfl) (by kernel_rfl) ?_
                    dsimp only [List.append]
                    repeat (go_big_quiet_step (first | (go_at_call 49; with_reducible exact later_call (by simp) (r0 _)) | (go_at_call 49; with_reducible exact later_call (by simp) (r1 _))))
                    refine wpQuiet_nil ?_
                    rintro _ ⟨⟨w1, hb⟩, rfl⟩
                    go_wp2
                    go_ret
                    exact ⟨ret_bool HX.out.symm, (Below.al (Below.al (Below.refl _ _) _) _).trans (hb.mono (by simp))⟩
      | true =>
        cases t4 : decide (a.bt ≤ b.bt) with
        | false =>
          have HX : Hid (covers a b = false) := by unfold Hid covers covT; simp [t0, t1, t2, t4]
          have t4p := t4
          simp only [decide_eq_false_iff_not, Int.not_le] at t4p
          have r0 : ∀ w, Calls Try.prog 49 #[.agg #[.int .i64 a.pr, .int .i64 a.kd, .int .i64 a.ip, .int .i64 a.bt, .int .i64 a.fp, .int .i64 a.lp, .int .i64 a.vl, .int .i64 a.ac, .int .i64 a.qu]] w fun e w' => e = .returned (.bool true) ∧ Below w.heap.size w w' := fun w => by have h := ruleOk_spec a w; rwa [t0] at h
          have r1 : ∀ w, Calls Try.prog 49 #[.agg #[.int .i64 b.pr, .int .i64 b.kd, .int .i64 b.ip, .int .i64 b.bt, .int .i64 b.fp, .int .i64 b.lp, .int .i64 b.vl, .int .i64 b.ac, .int .i64 b.qu]] w fun e w' => e = .returned (.bool true) ∧ Below w.heap.size w w' := fun w => by have h := ruleOk_spec b w; rwa [t1] at h
          go_enter Try.func52, Try.ntmps52
          go_wp2
          refine wp_region_later (w.heap.size + 2) (by kernel_rfl) (by kernel_rfl) ?_
          dsimp only [List.append]
          repeat (go_big_quiet_step (first | (go_at_call 49; with_reducible exact later_call (by simp) (r0 _)) | (go_at_call 49; with_reducible exact later_call (by simp) (r1 _))))
          refine wpQuiet_nil ?_
          rintro _ ⟨⟨w1, hb⟩, rfl⟩
          go_wp2
          go_ret
          exact ⟨ret_bool HX.out.symm, (Below.al (Below.al (Below.refl _ _) _) _).trans (hb.mono (by simp))⟩
        | true =>
          cases t5 : preEq a.ip b.ip a.bt with
          | false =>
            have HX : Hid (covers a b = false) := by unfold Hid covers covT; simp [t0, t1, t2, t4, t5]
            have t4p := t4
            simp only [decide_eq_true_eq] at t4p
            have t5' : (a.ip / 2 ^ (32 - a.bt).toNat == b.ip / 2 ^ (32 - a.bt).toNat) = false := t5
            have r0 : ∀ w, Calls Try.prog 49 #[.agg #[.int .i64 a.pr, .int .i64 a.kd, .int .i64 a.ip, .int .i64 a.bt, .int .i64 a.fp, .int .i64 a.lp, .int .i64 a.vl, .int .i64 a.ac, .int .i64 a.qu]] w fun e w' => e = .returned (.bool true) ∧ Below w.heap.size w w' := fun w => by have h := ruleOk_spec a w; rwa [t0] at h
            have r1 : ∀ w, Calls Try.prog 49 #[.agg #[.int .i64 b.pr, .int .i64 b.kd, .int .i64 b.ip, .int .i64 b.bt, .int .i64 b.fp, .int .i64 b.lp, .int .i64 b.vl, .int .i64 b.ac, .int .i64 b.qu]] w fun e w' => e = .returned (.bool true) ∧ Below w.heap.size w w' := fun w => by have h := ruleOk_spec b w; rwa [t1] at h
            go_enter Try.func52, Try.ntmps52
            go_wp2
            refine wp_region_later (w.heap.size + 2) (by kernel_rfl) (by kernel_rfl) ?_
            dsimp only [List.append]
            repeat (go_big_quiet_step (first | (go_at_call 49; with_reducible exact later_call (by simp) (r0 _)) | (go_at_call 49; with_reducible exact later_call (by simp) (r1 _))))
            refine wpQuiet_nil ?_
            rintro _ ⟨⟨w1, hb⟩, rfl⟩
            go_wp2
            go_ret
            exact ⟨ret_bool HX.out.symm, (Below.al (Below.al (Below.refl _ _) _) _).trans (hb.mono (by simp))⟩
          | true =>
            cases t6 : decide (a.fp ≤ b.fp) with
            | false =>
              have HX : Hid (covers a b = false) := by unfold Hid covers covT; simp [t0, t1, t2, t4, t5, t6]
              have t4p := t4
              simp only [decide_eq_true_eq] at t4p
              have t5' : (a.ip / 2 ^ (32 - a.bt).toNat == b.ip / 2 ^ (32 - a.bt).toNat) = true := t5
              have t6p := t6
              simp only [decide_eq_false_iff_not, Int.not_le] at t6p
              have r0 : ∀ w, Calls Try.prog 49 #[.agg #[.int .i64 a.pr, .int .i64 a.kd, .int .i64 a.ip, .int .i64 a.bt, .int .i64 a.fp, .int .i64 a.lp, .int .i64 a.vl, .int .i64 a.ac, .int .i64 a.qu]] w fun e w' => e = .returned (.bool true) ∧ Below w.heap.size w w' := fun w => by have h := ruleOk_spec a w; rwa [t0] at h
              have r1 : ∀ w, Calls Try.prog 49 #[.agg #[.int .i64 b.pr, .int .i64 b.kd, .int .i64 b.ip, .int .i64 b.bt, .int .i64 b.fp, .int .i64 b.lp, .int .i64 b.vl, .int .i64 b.ac, .int .i64 b.qu]] w fun e w' => e = .returned (.bool true) ∧ Below w.heap.size w w' := fun w => by have h := ruleOk_spec b w; rwa [t1] at h
              go_enter Try.func52, Try.ntmps52
              go_wp2
              refine wp_region_later (w.heap.size + 2) (by kernel_rfl) (by kernel_rfl) ?_
              dsimp only [List.append]
              repeat (go_big_quiet_step (first | (go_at_call 49; with_reducible exact later_call (by simp) (r0 _)) | (go_at_call 49; with_reducible exact later_call (by simp) (r1 _))))
              refine wpQuiet_nil ?_
              rintro _ ⟨⟨w1, hb⟩, rfl⟩
              go_wp2
              go_ret
              exact ⟨ret_bool HX.out.symm, (Below.al (Below.al (Below.refl _ _) _) _).trans (hb.mono (by simp))⟩
            | true =>
              cases t7 : decide (b.lp ≤ a.lp) with
              | false =>
                have HX : Hid (covers a b = false) := by unfold Hid covers covT; simp [t0, t1, t2, t4, t5, t6, t7]
                have t4p := t4
                simp only [decide_eq_true_eq] at t4p
                have t5' : (a.ip / 2 ^ (32 - a.bt).toNat == b.ip / 2 ^ (32 - a.bt).toNat) = true := t5
                have t6p := t6
                simp only [decide_eq_true_eq] at t6p
                have t7p := t7
                simp only [decide_eq_false_iff_not, Int.not_le] at t7p
                have r0 : ∀ w, Calls Try.prog 49 #[.agg #[.int .i64 a.pr, .int .i64 a.kd, .int .i64 a.ip, .int .i64 a.bt, .int .i64 a.fp, .int .i64 a.lp, .int .i64 a.vl, .int .i64 a.ac, .int .i64 a.qu]] w fun e w' => e = .returned (.bool true) ∧ Below w.heap.size w w' := fun w => by have h := ruleOk_spec a w; rwa [t0] at h
                have r1 : ∀ w, Calls Try.prog 49 #[.agg #[.int .i64 b.pr, .int .i64 b.kd, .int .i64 b.ip, .int .i64 b.bt, .int .i64 b.fp, .int .i64 b.lp, .int .i64 b.vl, .int .i64 b.ac, .int .i64 b.qu]] w fun e w' => e = .returned (.bool true) ∧ Below w.heap.size w w' := fun w => by have h := ruleOk_spec b w; rwa [t1] at h
                go_enter Try.func52, Try.ntmps52
                go_wp2
                refine wp_region_later (w.heap.size + 2) (by kernel_rfl) (by kernel_rfl) ?_
                dsimp only [List.append]
                repeat (go_big_quiet_step (first | (go_at_call 49; with_reducible exact later_call (by simp) (r0 _)) | (go_at_call 49; with_reducible exact later_call (by simp) (r1 _))))
                refine wpQuiet_nil ?_
                rintro _ ⟨⟨w1, hb⟩, rfl⟩
                go_wp2
                go_ret
                exact ⟨ret_bool HX.out.symm, (Below.al (Below.al (Below.refl _ _) _) _).trans (hb.mono (by simp))⟩
              | true =>
                cases t8 : (a.vl == -2) with
                | false =>
                  cases t9 : (a.vl == b.vl) with
                  | false =>
                    have HX : Hid (covers a b = false) := by unfold Hid covers covT; simp [t0, t1, t2, t4, t5, t6, t7, t8, t9]
                    have t4p := t4
                    simp only [decide_eq_true_eq] at t4p
                    have t5' : (a.ip / 2 ^ (32 - a.bt).toNat == b.ip / 2 ^ (32 - a.bt).toNat) = true := t5
                    have t6p := t6
                    simp only [decide_eq_true_eq] at t6p
                    have t7p := t7
                    simp only [decide_eq_true_eq] at t7p
                    have r0 : ∀ w, Calls Try.prog 49 #[.agg #[.int .i64 a.pr, .int .i64 a.kd, .int .i64 a.ip, .int .i64 a.bt, .int .i64 a.fp, .int .i64 a.lp, .int .i64 a.vl, .int .i64 a.ac, .int .i64 a.qu]] w fun e w' => e = .returned (.bool true) ∧ Below w.heap.size w w' := fun w => by have h := ruleOk_spec a w; rwa [t0] at h
                    have r1 : ∀ w, Calls Try.prog 49 #[.agg #[.int .i64 b.pr, .int .i64 b.kd, .int .i64 b.ip, .int .i64 b.bt, .int .i64 b.fp, .int .i64 b.lp, .int .i64 b.vl, .int .i64 b.ac, .int .i64 b.qu]] w fun e w' => e = .returned (.bool true) ∧ Below w.heap.size w w' := fun w => by have h := ruleOk_spec b w; rwa [t1] at h
                    go_enter Try.func52, Try.ntmps52
                    go_wp2
                    refine wp_region_later (w.heap.size + 2) (by kernel_rfl) (by kernel_rfl) ?_
                    dsimp only [List.append]
                    repeat (go_big_quiet_step (first | (go_at_call 49; with_reducible exact later_call (by simp) (r0 _)) | (go_at_call 49; with_reducible exact later_call (by simp) (r1 _))))
                    refine wpQuiet_nil ?_
                    rintro _ ⟨⟨w1, hb⟩, rfl⟩
                    go_wp2
                    go_ret
                    exact ⟨ret_bool HX.out.symm, (Below.al (Below.al (Below.refl _ _) _) _).trans (hb.mono (by simp))⟩
                  | true =>
                    have HX : Hid (covers a b = true) := by unfold Hid covers covT; simp [t0, t1, t2, t4, t5, t6, t7, t8, t9]
                    have t4p := t4
                    simp only [decide_eq_true_eq] at t4p
                    have t5' : (a.ip / 2 ^ (32 - a.bt).toNat == b.ip / 2 ^ (32 - a.bt).toNat) = true := t5
                    have t6p := t6
                    simp only [decide_eq_true_eq] at t6p
                    have t7p := t7
                    simp only [decide_eq_true_eq] at t7p
                    have r0 : ∀ w, Calls Try.prog 49 #[.agg #[.int .i64 a.pr, .int .i64 a.kd, .int .i64 a.ip, .int .i64 a.bt, .int .i64 a.fp, .int .i64 a.lp, .int .i64 a.vl, .int .i64 a.ac, .int .i64 a.qu]] w fun e w' => e = .returned (.bool true) ∧ Below w.heap.size w w' := fun w => by have h := ruleOk_spec a w; rwa [t0] at h
                    have r1 : ∀ w, Calls Try.prog 49 #[.agg #[.int .i64 b.pr, .int .i64 b.kd, .int .i64 b.ip, .int .i64 b.bt, .int .i64 b.fp, .int .i64 b.lp, .int .i64 b.vl, .int .i64 b.ac, .int .i64 b.qu]] w fun e w' => e = .returned (.bool true) ∧ Below w.heap.size w w' := fun w => by have h := ruleOk_spec b w; rwa [t1] at h
                    go_enter Try.func52, Try.ntmps52
                    go_wp2
                    refine wp_region_later (w.heap.size + 2) (by kernel_rfl) (by kernel_rfl) ?_
                    dsimp only [List.append]
                    repeat (go_big_quiet_step (first | (go_at_call 49; with_reducible exact later_call (by simp) (r0 _)) | (go_at_call 49; with_reducible exact later_call (by simp) (r1 _))))
                    refine wpQuiet_nil ?_
                    rintro _ ⟨⟨w1, hb⟩, rfl⟩
                    go_wp2
                    go_ret
                    exact ⟨ret_bool HX.out.symm, (Below.al (Below.al (Below.refl _ _) _) _).trans (hb.mono (by simp))⟩
                | true =>
                  have HX : Hid (covers a b = true) := by unfold Hid covers covT; simp [t0, t1, t2, t4, t5, t6, t7, t8]
                  have t4p := t4
                  simp only [decide_eq_true_eq] at t4p
                  have t5' : (a.ip / 2 ^ (32 - a.bt).toNat == b.ip / 2 ^ (32 - a.bt).toNat) = true := t5
                  have t6p := t6
                  simp only [decide_eq_true_eq] at t6p
                  have t7p := t7
                  simp only [decide_eq_true_eq] at t7p
                  have r0 : ∀ w, Calls Try.prog 49 #[.agg #[.int .i64 a.pr, .int .i64 a.kd, .int .i64 a.ip, .int .i64 a.bt, .int .i64 a.fp, .int .i64 a.lp, .int .i64 a.vl, .int .i64 a.ac, .int .i64 a.qu]] w fun e w' => e = .returned (.bool true) ∧ Below w.heap.size w w' := fun w => by have h := ruleOk_spec a w; rwa [t0] at h
                  have r1 : ∀ w, Calls Try.prog 49 #[.agg #[.int .i64 b.pr, .int .i64 b.kd, .int .i64 b.ip, .int .i64 b.bt, .int .i64 b.fp, .int .i64 b.lp, .int .i64 b.vl, .int .i64 b.ac, .int .i64 b.qu]] w fun e w' => e = .returned (.bool true) ∧ Below w.heap.size w w' := fun w => by have h := ruleOk_spec b w; rwa [t1] at h
                  go_enter Try.func52, Try.ntmps52
                  go_wp2
                  refine wp_region_later (w.heap.size + 2) (by kernel_rfl) (by kernel_rfl) ?_
                  dsimp only [List.append]
                  repeat (go_big_quiet_step (first | (go_at_call 49; with_reducible exact later_call (by simp) (r0 _)) | (go_at_call 49; with_reducible exact later_call (by simp) (r1 _))))
                  refine wpQuiet_nil ?_
                  rintro _ ⟨⟨w1, hb⟩, rfl⟩
                  go_wp2
                  go_ret
                  exact ⟨ret_bool HX.out.symm, (Below.al (Below.al (Below.refl _ _) _) _).trans (hb.mono (by simp))⟩

end Go.Proofs.Ytncciafldmoklaa

/-
  RulesOk of both programs.
  Conditions: at most 2^20 rules.
-/
import Derived.Test.YtncciafldmoklaaRuleOk
import Derived.Test.YtncciafldmoklaaSRule
set_option linter.unusedSimpArgs false
set_option linter.unusedVariables false
namespace Go.Proofs.Ytncciafldmoklaa
open Go.RowKit

/-- RulesOk. -/
def rulesOk (l : List Ru) : Bool := l.all Ru.good && decide (l.length ≤ 12)

theorem rulesOk_len {l : List Ru} (h : rulesOk l = true) : l.length ≤ 12 := by simp [rulesOk] at h; exact h.2

set_option maxRecDepth 100000 in
set_option maxHeartbeats 2000000 in
theorem rulesOk_impl (a : Option Addr) (c : Nat) (l : List Ru) (w : World) (h1 : Rd w a (rus l)) (hl : l.length ≤ 1048576) :
    Calls Try.prog 57 #[.slice a l.length c] w fun e w' => e = .returned (.bool (rulesOk l)) ∧ Below w.heap.size w w' := by
  go_enter Try.func57, Try.ntmps57
  go_wp2_with fail
  go_loopg [7] l.length (fun g i wr => ∃ k : Nat, k ≤ l.length ∧ g = l.length - k ∧ i = .int .i64 (k : Int) ∧ Below w.heap.size w wr ∧ (l.take k).all Ru.good = true)
  case atStart => exact ⟨0, by omega, rfl, rfl, Below.refl _ _, by simp⟩
  case round =>
    obtain ⟨k, hk3, rfl, rfl, hbel, hall⟩ := hrel
    by_cases hk2 : k < l.length
    · have hi1 : (0 : Int) ≤ k := by omega
      have hi2 : (k : Int) < l.length := by omega
      cases hg : (l[k]).good with
      | true =>
        have hA : Hid ((l.take (k + 1)).all Ru.good = true) := by
          unfold Hid; rw [List.take_succ_eq_append_getElem hk2, List.all_append, hall]; simp [hg]
        have hr : ∀ w, Calls Try.prog 51 #[.agg #[.int .i64 l[k].pr, .int .i64 l[k].kd, .int .i64 l[k].ip, .int .i64 l[k].bt, .int .i64 l[k].fp, .int .i64 l[k].lp, .int .i64 l[k].vl, .int .i64 l[k].ac, .int .i64 l[k].qu]] w fun e w' => e = .returned (.bool true) ∧ Below w.heap.size w w' := fun w => by have h := ruleOk_impl l[k] w; rwa [hg] at h
        clear hall hg
        obtain ⟨bp, op, rfl, ltp, ccp⟩ := Rd.at_ Ru.cs_length (Rd.later h1 hbel) k hk2 (by decide)
        have p0 : wr.cell? ⟨bp, op + k * 9, none⟩ = some (.int .i64 l[k].pr) := ccp 0 (by decide)
        have p1 : wr.cell? ⟨bp, op + k * 9 + 1, none⟩ = some (.int .i64 l[k].kd) := by rw [Nat.add_assoc]; exact ccp 1 (by decide)
        have p2 : wr.cell? ⟨bp, op + k * 9 + 2, none⟩ = some (.int .i64 l[k].ip) := by rw [Nat.add_assoc]; exact ccp 2 (by decide)
        have p3 : wr.cell? ⟨bp, op + k * 9 + 3, none⟩ = some (.int .i64 l[k].bt) := by rw [Nat.add_assoc]; exact ccp 3 (by decide)
        have p4 : wr.cell? ⟨bp, op + k * 9 + 4, none⟩ = some (.int .i64 l[k].fp) := by rw [Nat.add_assoc]; exact ccp 4 (by decide)
        have p5 : wr.cell? ⟨bp, op + k * 9 + 5, none⟩ = some (.int .i64 l[k].lp) := by rw [Nat.add_assoc]; exact ccp 5 (by decide)
        have p6 : wr.cell? ⟨bp, op + k * 9 + 6, none⟩ = some (.int .i64 l[k].vl) := by rw [Nat.add_assoc]; exact ccp 6 (by decide)
        have p7 : wr.cell? ⟨bp, op + k * 9 + 7, none⟩ = some (.int .i64 l[k].ac) := by rw [Nat.add_assoc]; exact ccp 7 (by decide)
        have p8 : wr.cell? ⟨bp, op + k * 9 + 8, none⟩ = some (.int .i64 l[k].qu) := by rw [Nat.add_assoc]; exact ccp 8 (by decide)
        clear ccp
        go_wp2_with (go_at_call 51; refine (hr _).mono ?_; rintro e w' ⟨rfl, hb⟩; obtain ⟨hc, hf, hz⟩ := old hb; try simp at hz)
        go_roundg (l.length - (k + 1))
        case measure => omega
        case rel => exact ⟨k + 1, by omega, rfl, by go_num, Below.tr hbel (by ((repeat (with_reducible first | exact Below.refl _ _ | apply Below.al | apply Below.dr | (refine Below.tr ?_ (by assumption)) | (refine Below.marked (by assumption) ?_ ?_) | (refine Below.st ?_ ?_ _))); all_goals (first | omega | (simp; done) | (simp; omega)))), hA.out⟩
      | false =>
        have HX : Hid (rulesOk l = false) := by
          unfold Hid rulesOk
          have : l.all Ru.good = false := by rw [List.all_eq_false]; exact ⟨l[k], List.getElem_mem hk2, by rw [hg]; decide⟩
          rw [this]; rfl
        have hr : ∀ w, Calls Try.prog 51 #[.agg #[.int .i64 l[k].pr, .int .i64 l[k].kd, .int .i64 l[k].ip, .int .i64 l[k].bt, .int .i64 l[k].fp, .int .i64 l[k].lp, .int .i64 l[k].vl, .int .i64 l[k].ac, .int .i64 l[k].qu]] w fun e w' => e = .returned (.bool false) ∧ Below w.heap.size w w' := fun w => by have h := ruleOk_impl l[k] w; rwa [hg] at h
        clear hall hg
        obtain ⟨bp, op, rfl, ltp, ccp⟩ := Rd.at_ Ru.cs_length (Rd.later h1 hbel) k hk2 (by decide)
        have p0 : wr.cell? ⟨bp, op + k * 9, none⟩ = some (.int .i64 l[k].pr) := ccp 0 (by decide)
        have p1 : wr.cell? ⟨bp, op + k * 9 + 1, none⟩ = some (.int .i64 l[k].kd) := by rw [Nat.add_assoc]; exact ccp 1 (by decide)
        have p2 : wr.cell? ⟨bp, op + k * 9 + 2, none⟩ = some (.int .i64 l[k].ip) := by rw [Nat.add_assoc]; exact ccp 2 (by decide)
        have p3 : wr.cell? ⟨bp, op + k * 9 + 3, none⟩ = some (.int .i64 l[k].bt) := by rw [Nat.add_assoc]; exact ccp 3 (by decide)
        have p4 : wr.cell? ⟨bp, op + k * 9 + 4, none⟩ = some (.int .i64 l[k].fp) := by rw [Nat.add_assoc]; exact ccp 4 (by decide)
        have p5 : wr.cell? ⟨bp, op + k * 9 + 5, none⟩ = some (.int .i64 l[k].lp) := by rw [Nat.add_assoc]; exact ccp 5 (by decide)
        have p6 : wr.cell? ⟨bp, op + k * 9 + 6, none⟩ = some (.int .i64 l[k].vl) := by rw [Nat.add_assoc]; exact ccp 6 (by decide)
        have p7 : wr.cell? ⟨bp, op + k * 9 + 7, none⟩ = some (.int .i64 l[k].ac) := by rw [Nat.add_assoc]; exact ccp 7 (by decide)
        have p8 : wr.cell? ⟨bp, op + k * 9 + 8, none⟩ = some (.int .i64 l[k].qu) := by rw [Nat.add_assoc]; exact ccp 8 (by decide)
        clear ccp
        go_wp2_with (go_at_call 51; refine (hr _).mono ?_; rintro e w' ⟨rfl, hb⟩; obtain ⟨hc, hf, hz⟩ := old hb; try simp at hz)
        go_ret
        exact ⟨by rw [HX.out]; rfl, Below.tr hbel (by ((repeat (with_reducible first | exact Below.refl _ _ | apply Below.al | apply Below.dr | (refine Below.tr ?_ (by assumption)) | (refine Below.marked (by assumption) ?_ ?_) | (refine Below.st ?_ ?_ _))); all_goals (first | omega | (simp; done) | (simp; omega))))⟩
    · have hke : k = l.length := by omega
      have HX : Hid (rulesOk l = decide ((l.length : Int) ≤ 12)) := by
        unfold Hid rulesOk; rw [hke, List.take_length] at hall; rw [hall, Bool.true_and]; exact decide_eq_decide.2 (by omega)
      clear hke hall
      go_wp2_with fail
      go_ret
      exact ⟨by rw [HX.out]; rfl, hbel⟩

set_option maxRecDepth 100000 in
set_option maxHeartbeats 2000000 in
theorem rulesOk_spec (a : Option Addr) (c : Nat) (l : List Ru) (w : World) (h1 : Rd w a (rus l)) (hl : l.length ≤ 1048576) :
    Calls Try.prog 55 #[.slice a l.length c] w fun e w' => e = .returned (.bool (rulesOk l)) ∧ Below w.heap.size w w' := by
  go_enter Try.func55, Try.ntmps55
  go_wp2_with fail
  go_loopg [3] l.length (fun g i wr => ∃ k : Nat, k ≤ l.length ∧ g = l.length - k ∧ i = .int .i64 (k : Int) ∧ Below w.heap.size w wr ∧ (l.take k).all Ru.good = true)
  case atStart => exact ⟨0, by omega, rfl, rfl, Below.refl _ _, by simp⟩
  case round =>
    obtain ⟨k, hk3, rfl, rfl, hbel, hall⟩ := hrel
    by_cases hk2 : k < l.length
    · have hi1 : (0 : Int) ≤ k := by omega
      have hi2 : (k : Int) < l.length := by omega
      cases hg : (l[k]).good with
      | true =>
        have hA : Hid ((l.take (k + 1)).all Ru.good = true) := by
          unfold Hid; rw [List.take_succ_eq_append_getElem hk2, List.all_append, hall]; simp [hg]
        have hr : ∀ w, Calls Try.prog 49 #[.agg #[.int .i64 l[k].pr, .int .i64 l[k].kd, .int .i64 l[k].ip, .int .i64 l[k].bt, .int .i64 l[k].fp, .int .i64 l[k].lp, .int .i64 l[k].vl, .int .i64 l[k].ac, .int .i64 l[k].qu]] w fun e w' => e = .returned (.bool true) ∧ Below w.heap.size w w' := fun w => by have h := ruleOk_spec l[k] w; rwa [hg] at h
        clear hall hg
        obtain ⟨bp, op, rfl, ltp, ccp⟩ := Rd.at_ Ru.cs_length (Rd.later h1 hbel) k hk2 (by decide)
        have p0 : wr.cell? ⟨bp, op + k * 9, none⟩ = some (.int .i64 l[k].pr) := ccp 0 (by decide)
        have p1 : wr.cell? ⟨bp, op + k * 9 + 1, none⟩ = some (.int .i64 l[k].kd) := by rw [Nat.add_assoc]; exact ccp 1 (by decide)
        have p2 : wr.cell? ⟨bp, op + k * 9 + 2, none⟩ = some (.int .i64 l[k].ip) := by rw [Nat.add_assoc]; exact ccp 2 (by decide)
        have p3 : wr.cell? ⟨bp, op + k * 9 + 3, none⟩ = some (.int .i64 l[k].bt) := by rw [Nat.add_assoc]; exact ccp 3 (by decide)
        have p4 : wr.cell? ⟨bp, op + k * 9 + 4, none⟩ = some (.int .i64 l[k].fp) := by rw [Nat.add_assoc]; exact ccp 4 (by decide)
        have p5 : wr.cell? ⟨bp, op + k * 9 + 5, none⟩ = some (.int .i64 l[k].lp) := by rw [Nat.add_assoc]; exact ccp 5 (by decide)
        have p6 : wr.cell? ⟨bp, op + k * 9 + 6, none⟩ = some (.int .i64 l[k].vl) := by rw [Nat.add_assoc]; exact ccp 6 (by decide)
        have p7 : wr.cell? ⟨bp, op + k * 9 + 7, none⟩ = some (.int .i64 l[k].ac) := by rw [Nat.add_assoc]; exact ccp 7 (by decide)
        have p8 : wr.cell? ⟨bp, op + k * 9 + 8, none⟩ = some (.int .i64 l[k].qu) := by rw [Nat.add_assoc]; exact ccp 8 (by decide)
        clear ccp
        go_wp2_with (go_at_call 49; refine (hr _).mono ?_; rintro e w' ⟨rfl, hb⟩; obtain ⟨hc, hf, hz⟩ := old hb; try simp at hz)
        go_roundg (l.length - (k + 1))
        case measure => omega
        case rel => exact ⟨k + 1, by omega, rfl, by go_num, Below.tr hbel (by ((repeat (with_reducible first | exact Below.refl _ _ | apply Below.al | apply Below.dr | (refine Below.tr ?_ (by assumption)) | (refine Below.marked (by assumption) ?_ ?_) | (refine Below.st ?_ ?_ _))); all_goals (first | omega | (simp; done) | (simp; omega)))), hA.out⟩
      | false =>
        have HX : Hid (rulesOk l = false) := by
          unfold Hid rulesOk
          have : l.all Ru.good = false := by rw [List.all_eq_false]; exact ⟨l[k], List.getElem_mem hk2, by rw [hg]; decide⟩
          rw [this]; rfl
        have hr : ∀ w, Calls Try.prog 49 #[.agg #[.int .i64 l[k].pr, .int .i64 l[k].kd, .int .i64 l[k].ip, .int .i64 l[k].bt, .int .i64 l[k].fp, .int .i64 l[k].lp, .int .i64 l[k].vl, .int .i64 l[k].ac, .int .i64 l[k].qu]] w fun e w' => e = .returned (.bool false) ∧ Below w.heap.size w w' := fun w => by have h := ruleOk_spec l[k] w; rwa [hg] at h
        clear hall hg
        obtain ⟨bp, op, rfl, ltp, ccp⟩ := Rd.at_ Ru.cs_length (Rd.later h1 hbel) k hk2 (by decide)
        have p0 : wr.cell? ⟨bp, op + k * 9, none⟩ = some (.int .i64 l[k].pr) := ccp 0 (by decide)
        have p1 : wr.cell? ⟨bp, op + k * 9 + 1, none⟩ = some (.int .i64 l[k].kd) := by rw [Nat.add_assoc]; exact ccp 1 (by decide)
        have p2 : wr.cell? ⟨bp, op + k * 9 + 2, none⟩ = some (.int .i64 l[k].ip) := by rw [Nat.add_assoc]; exact ccp 2 (by decide)
        have p3 : wr.cell? ⟨bp, op + k * 9 + 3, none⟩ = some (.int .i64 l[k].bt) := by rw [Nat.add_assoc]; exact ccp 3 (by decide)
        have p4 : wr.cell? ⟨bp, op + k * 9 + 4, none⟩ = some (.int .i64 l[k].fp) := by rw [Nat.add_assoc]; exact ccp 4 (by decide)
        have p5 : wr.cell? ⟨bp, op + k * 9 + 5, none⟩ = some (.int .i64 l[k].lp) := by rw [Nat.add_assoc]; exact ccp 5 (by decide)
        have p6 : wr.cell? ⟨bp, op + k * 9 + 6, none⟩ = some (.int .i64 l[k].vl) := by rw [Nat.add_assoc]; exact ccp 6 (by decide)
        have p7 : wr.cell? ⟨bp, op + k * 9 + 7, none⟩ = some (.int .i64 l[k].ac) := by rw [Nat.add_assoc]; exact ccp 7 (by decide)
        have p8 : wr.cell? ⟨bp, op + k * 9 + 8, none⟩ = some (.int .i64 l[k].qu) := by rw [Nat.add_assoc]; exact ccp 8 (by decide)
        clear ccp
        go_wp2_with (go_at_call 49; refine (hr _).mono ?_; rintro e w' ⟨rfl, hb⟩; obtain ⟨hc, hf, hz⟩ := old hb; try simp at hz)
        go_ret
        exact ⟨by rw [HX.out]; rfl, Below.tr hbel (by ((repeat (with_reducible first | exact Below.refl _ _ | apply Below.al | apply Below.dr | (refine Below.tr ?_ (by assumption)) | (refine Below.marked (by assumption) ?_ ?_) | (refine Below.st ?_ ?_ _))); all_goals (first | omega | (simp; done) | (simp; omega))))⟩
    · have hke : k = l.length := by omega
      have HX : Hid (rulesOk l = decide ((l.length : Int) ≤ 12)) := by
        unfold Hid rulesOk; rw [hke, List.take_length] at hall; rw [hall, Bool.true_and]; exact decide_eq_decide.2 (by omega)
      clear hke hall
      go_wp2_with fail
      go_ret
      exact ⟨by rw [HX.out]; rfl, hbel⟩

end Go.Proofs.Ytncciafldmoklaa

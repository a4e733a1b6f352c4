/-
  Rule: copied field by field, compared, marked, held against the marks; one by one and in slices.
  Conditions: at most 2^20 elements.
-/
import Derived.Test.YtncciafldmoklaaInts
set_option linter.unusedSimpArgs false
set_option linter.unusedVariables false
namespace Go.Proofs.Ytncciafldmoklaa
open Go.RowKit

set_option maxRecDepth 100000 in
set_option maxHeartbeats 4000000 in
theorem toRule_any (v : Ru) (w : World) :
    Calls Try.prog 50 #[.agg #[.int .i64 v.pr, .int .i64 v.kd, .int .i64 v.ip, .int .i64 v.bt, .int .i64 v.fp, .int .i64 v.lp, .int .i64 v.vl, .int .i64 v.ac, .int .i64 v.qu]] w fun e w' => e = .returned (.agg #[.int .i64 v.pr, .int .i64 v.kd, .int .i64 v.ip, .int .i64 v.bt, .int .i64 v.fp, .int .i64 v.lp, .int .i64 v.vl, .int .i64 v.ac, .int .i64 v.qu]) ∧ Below w.heap.size w w' := by
  go_enter Try.func50, Try.ntmps50
  go_wp2
  exact bodyPost_ret (v := .agg #[.int .i64 v.pr, .int .i64 v.kd, .int .i64 v.ip, .int .i64 v.bt, .int .i64 v.fp, .int .i64 v.lp, .int .i64 v.vl, .int .i64 v.ac, .int .i64 v.qu]) (by simp [results, Try.results50, go_sem, *]) rfl ⟨rfl, by ((repeat (with_reducible first | exact Below.refl _ _ | apply Below.al | apply Below.dr | (refine Below.tr ?_ (by assumption)) | (refine Below.marked (by assumption) ?_ ?_) | (refine Below.st ?_ ?_ _))); all_goals (first | omega | (simp; done) | (simp; omega)))⟩

set_option maxRecDepth 100000 in
set_option maxHeartbeats 4000000 in
theorem eqRule_any (v : Ru) (w : World) :
    Calls Try.prog 96 #[.agg #[.int .i64 v.pr, .int .i64 v.kd, .int .i64 v.ip, .int .i64 v.bt, .int .i64 v.fp, .int .i64 v.lp, .int .i64 v.vl, .int .i64 v.ac, .int .i64 v.qu], .agg #[.int .i64 v.pr, .int .i64 v.kd, .int .i64 v.ip, .int .i64 v.bt, .int .i64 v.fp, .int .i64 v.lp, .int .i64 v.vl, .int .i64 v.ac, .int .i64 v.qu]] w fun e w' => e = .returned (.bool true) ∧ Below w.heap.size w w' := by
  go_enter Try.func96, Try.ntmps96
  go_wp2
  go_ret
  exact ⟨rfl, by ((repeat (with_reducible first | exact Below.refl _ _ | apply Below.al | apply Below.dr | (refine Below.tr ?_ (by assumption)) | (refine Below.marked (by assumption) ?_ ?_) | (refine Below.st ?_ ?_ _))); all_goals (first | omega | (simp; done) | (simp; omega)))⟩

def Ru.cs (v : Ru) : List Value := [.int .i64 v.pr, .int .i64 v.kd, .int .i64 v.ip, .int .i64 v.bt, .int .i64 v.fp, .int .i64 v.lp, .int .i64 v.vl, .int .i64 v.ac, .int .i64 v.qu]
theorem Ru.cs_length (v : Ru) : v.cs.length = 9 := rfl
def rus (l : List Ru) : List Value := l.flatMap Ru.cs
theorem rus_length (l : List Ru) : (rus l).length = l.length * 9 := flat_len _ _ Ru.cs_length l

set_option maxRecDepth 100000 in
set_option maxHeartbeats 4000000 in
theorem eqRuleS_any (a1 a2 : Option Addr) (c1 c2 : Nat) (l : List Ru) (w : World) (h1 : Rd w a1 (rus l)) (h2 : Rd w a2 (rus l)) (hl : l.length ≤ 2097152) :
    Calls Try.prog 58 #[.slice a1 l.length c1, .slice a2 l.length c2] w fun e w' => e = .returned (.bool true) ∧ Below w.heap.size w w' := by
  go_enter Try.func58, Try.ntmps58
  go_wp2
  go_loopg [5] l.length (fun g i wr => ∃ k : Nat, k ≤ l.length ∧ g = l.length - k ∧ i = .int .i64 (k : Int) ∧ Below w.heap.size w wr)
  case atStart => exact ⟨0, by omega, rfl, rfl, Below.refl _ _⟩
  case round =>
    obtain ⟨k, hk, rfl, rfl, hbel⟩ := hrel
    by_cases hk2 : k < l.length
    · obtain ⟨bp, op, rfl, ltp, ccp⟩ := Rd.at_ Ru.cs_length (Rd.later h1 hbel) k hk2 (by decide)
      have p0 : wr.cell? ⟨bp, op + k * 9, none⟩ = some (.int .i64 l[k].pr) := ccp 0 (by decide)
      have p1 : wr.cell? ⟨bp, op + k * 9 + 1, none⟩ = some (.int .i64 l[k].kd) := by rw [Nat.add_assoc]; exact ccp 1 (by decide)
      have p2 : wr.cell? ⟨bp, op + k * 9 + 2, none⟩ = some (.int .i64 l[k].ip) := by rw [Nat.add_assoc]; exact ccp 2 (by decide)
      have p3 : wr.cell? ⟨bp, op + k * 9 + 3, none⟩ = some (.int .i64 l[k].bt) := by rw [Nat.add_assoc]; exact ccp 3 (by decide)
      have p4 : wr.cell? ⟨bp, op + k * 9 + 4, none⟩ = some (.int .i64 l[k].fp) := by rw [Nat.add_assoc]; exact ccp 4 (by decide)
      have p5 : wr.cell? ⟨bp, op + k * 9 + 5, none⟩ = some (.int .i64 l[k].lp) := by rw [Nat.add_assoc]; exact ccp 5 (by decide)
      have p6 : wr.cell? ⟨bp, op + k * 9 + 6, none⟩ = some (.int .i64 l[k].vl) := by rw [Nat.add_assoc]; exact ccp 6 (by decide)
      have p7 : wr.cell? ⟨bp, op + k * 9 + 7, none⟩ = some (.int .i64 l[k].ac) := by rw [Nat.add_assoc]; exact ccp 7 (by decide)
      have p8 : wr.cell? ⟨bp, op + k * 9 + 8, none⟩ = some (.int .i64 l[k].qu) := by rw [Nat.add_assoc]; exact ccp 8 (by decide)
      obtain ⟨bq, oq, rfl, ltq, ccq⟩ := Rd.at_ Ru.cs_length (Rd.later h2 hbel) k hk2 (by decide)
      have q0 : wr.cell? ⟨bq, oq + k * 9, none⟩ = some (.int .i64 l[k].pr) := ccq 0 (by decide)
      have q1 : wr.cell? ⟨bq, oq + k * 9 + 1, none⟩ = some (.int .i64 l[k].kd) := by rw [Nat.add_assoc]; exact ccq 1 (by decide)
      have q2 : wr.cell? ⟨bq, oq + k * 9 + 2, none⟩ = some (.int .i64 l[k].ip) := by rw [Nat.add_assoc]; exact ccq 2 (by decide)
      have q3 : wr.cell? ⟨bq, oq + k * 9 + 3, none⟩ = some (.int .i64 l[k].bt) := by rw [Nat.add_assoc]; exact ccq 3 (by decide)
      have q4 : wr.cell? ⟨bq, oq + k * 9 + 4, none⟩ = some (.int .i64 l[k].fp) := by rw [Nat.add_assoc]; exact ccq 4 (by decide)
      have q5 : wr.cell? ⟨bq, oq + k * 9 + 5, none⟩ = some (.int .i64 l[k].lp) := by rw [Nat.add_assoc]; exact ccq 5 (by decide)
      have q6 : wr.cell? ⟨bq, oq + k * 9 + 6, none⟩ = some (.int .i64 l[k].vl) := by rw [Nat.add_assoc]; exact ccq 6 (by decide)
      have q7 : wr.cell? ⟨bq, oq + k * 9 + 7, none⟩ = some (.int .i64 l[k].ac) := by rw [Nat.add_assoc]; exact ccq 7 (by decide)
      have q8 : wr.cell? ⟨bq, oq + k * 9 + 8, none⟩ = some (.int .i64 l[k].qu) := by rw [Nat.add_assoc]; exact ccq 8 (by decide)
      clear h1 h2 ccp ccq
      have hi1 : (0 : Int) ≤ k := by omega
      have hi2 : (k : Int) < l.length := by omega
      go_wp2
      skip
      refine wp_region_later wr.heap.size (by kernel_rfl) (by kernel_rfl) ?_
      repeat (go_big_quiet_step ((go_at_call 96; exact later_call (by simp) (eqRule_any l[k] _))))
      refine wpQuiet_nil ?_
      rintro _ ⟨⟨w1, hb⟩, rfl⟩
      go_wp2
      go_roundg (l.length - (k + 1))
      case measure => omega
      case rel => exact ⟨k + 1, by omega, rfl, by go_num, Below.tr hbel hb⟩
    · go_wp2
      go_ret
      exact ⟨rfl, hbel⟩

theorem el_Rule : El Try.prog 71 63 9 72 := by
  obtain ⟨i, hi, hz0, hz1, hz2⟩ := info_parts (P := Try.prog) (e := 63) (z := .agg #[.int .i64 0, .int .i64 0, .int .i64 0, .int .i64 0, .int .i64 0, .int .i64 0, .int .i64 0, .int .i64 0, .int .i64 0]) (size := 9) (bytes := 72) (by kernel_rfl)
  exact ⟨Try.underlying71, ⟨i, _, hi, hz0, hz1, hz2, rfl⟩, by decide⟩

theorem rus_getD (l : List Ru) (k j : Nat) (hk : k < l.length) (hj : j < 9) : (rus l).getD (k * 9 + j) undef = (l[k].cs)[j]'hj := by
  unfold rus
  rw [List.getD_eq_getElem?_getD, flat_at Ru.cs 9 Ru.cs_length l k j hk hj, List.getElem?_eq_getElem hk]
  simp only [Option.bind_some]
  rw [List.getElem?_eq_getElem (by rw [Ru.cs_length]; exact hj)]
  rfl

set_option maxRecDepth 100000 in
set_option maxHeartbeats 4000000 in
theorem toRuleS_any (a : Option Addr) (c : Nat) (l : List Ru) (w : World) (h1 : Rd w a (rus l)) (hl : l.length ≤ 1048576) :
    Calls Try.prog 56 #[.slice a l.length c] w (RetSv w l.length (rus l)) := by
  obtain ⟨C, hC, hmk⟩ := run_mk el_Rule l.length (by omega) (by decide)
  have hr0 : Row (w.alloc (.cells C 63)) w.heap.size C.toList := by
    have := Row.of_block (heap_alloc_new w (.cells C 63)) (.inl (Nat.le_refl _)) C.size (Nat.le_refl _)
    rwa [List.take_of_length_le (by simp)] at this
  have hp0 : Pre (w.alloc (.cells C 63)) w.heap.size (l.length * 9) (fun i => (rus l).getD i undef) 0 := by
    have := Pre.start hr0 (fun i => (rus l).getD i undef)
    rwa [Array.length_toList, hC] at this
  clear hr0 hC
  go_enter Try.func56, Try.ntmps56
  go_wp2
  go_loopg [4] l.length (fun g i wr => ∃ k : Nat, k ≤ l.length ∧ g = l.length - k ∧ i = .int .i64 (k : Int) ∧ Below w.heap.size w wr ∧ Pre wr w.heap.size (l.length * 9) (fun i => (rus l).getD i undef) (k * 9))
  case atStart => exact ⟨0, by omega, rfl, rfl, Below.al (Below.refl _ _) _, hp0⟩
  case round =>
    obtain ⟨k, hk, rfl, rfl, hbel, hpre⟩ := hrel
    by_cases hk2 : k < l.length
    · obtain ⟨bp, op, rfl, ltp, ccp⟩ := Rd.at_ Ru.cs_length (Rd.later h1 hbel) k hk2 (by decide)
      have p0 : wr.cell? ⟨bp, op + k * 9, none⟩ = some (.int .i64 l[k].pr) := ccp 0 (by decide)
      have p1 : wr.cell? ⟨bp, op + k * 9 + 1, none⟩ = some (.int .i64 l[k].kd) := by rw [Nat.add_assoc]; exact ccp 1 (by decide)
      have p2 : wr.cell? ⟨bp, op + k * 9 + 2, none⟩ = some (.int .i64 l[k].ip) := by rw [Nat.add_assoc]; exact ccp 2 (by decide)
      have p3 : wr.cell? ⟨bp, op + k * 9 + 3, none⟩ = some (.int .i64 l[k].bt) := by rw [Nat.add_assoc]; exact ccp 3 (by decide)
      have p4 : wr.cell? ⟨bp, op + k * 9 + 4, none⟩ = some (.int .i64 l[k].fp) := by rw [Nat.add_assoc]; exact ccp 4 (by decide)
      have p5 : wr.cell? ⟨bp, op + k * 9 + 5, none⟩ = some (.int .i64 l[k].lp) := by rw [Nat.add_assoc]; exact ccp 5 (by decide)
      have p6 : wr.cell? ⟨bp, op + k * 9 + 6, none⟩ = some (.int .i64 l[k].vl) := by rw [Nat.add_assoc]; exact ccp 6 (by decide)
      have p7 : wr.cell? ⟨bp, op + k * 9 + 7, none⟩ = some (.int .i64 l[k].ac) := by rw [Nat.add_assoc]; exact ccp 7 (by decide)
      have p8 : wr.cell? ⟨bp, op + k * 9 + 8, none⟩ = some (.int .i64 l[k].qu) := by rw [Nat.add_assoc]; exact ccp 8 (by decide)
      obtain ⟨v0, hc0⟩ := hpre.cell (k * 9) (by omega)
      have hf0 := hpre.free (k * 9) (by omega)
      obtain ⟨v1, hc1⟩ := hpre.cell (k * 9 + 1) (by omega)
      have hf1 := hpre.free (k * 9 + 1) (by omega)
      obtain ⟨v2, hc2⟩ := hpre.cell (k * 9 + 2) (by omega)
      have hf2 := hpre.free (k * 9 + 2) (by omega)
      obtain ⟨v3, hc3⟩ := hpre.cell (k * 9 + 3) (by omega)
      have hf3 := hpre.free (k * 9 + 3) (by omega)
      obtain ⟨v4, hc4⟩ := hpre.cell (k * 9 + 4) (by omega)
      have hf4 := hpre.free (k * 9 + 4) (by omega)
      obtain ⟨v5, hc5⟩ := hpre.cell (k * 9 + 5) (by omega)
      have hf5 := hpre.free (k * 9 + 5) (by omega)
      obtain ⟨v6, hc6⟩ := hpre.cell (k * 9 + 6) (by omega)
      have hf6 := hpre.free (k * 9 + 6) (by omega)
      obtain ⟨v7, hc7⟩ := hpre.cell (k * 9 + 7) (by omega)
      have hf7 := hpre.free (k * 9 + 7) (by omega)
      obtain ⟨v8, hc8⟩ := hpre.cell (k * 9 + 8) (by omega)
      have hf8 := hpre.free (k * 9 + 8) (by omega)
      have hglt := hpre.lt
      have HP := Lib.hid hpre
      have hi1 : (0 : Int) ≤ k := by omega
      have hi2 : (k : Int) < l.length := by omega
      clear h1 hp0 hpre ccp
      skip
      go_wp2_with (go_at_call 50; refine (toRule_any l[k] _).mono ?_; rintro e w' ⟨rfl, hb⟩; obtain ⟨hc, hf, hz⟩ := old hb; try simp at hz)
      go_roundg (l.length - (k + 1))
      case measure => omega
      case rel =>
        refine ⟨k + 1, by omega, rfl, by go_num, by ((repeat (with_reducible first | exact Below.refl _ _ | apply Below.al | apply Below.dr | (refine Below.tr ?_ (by assumption)) | (refine Below.marked (by assumption) ?_ ?_) | (refine Below.st ?_ ?_ _))); all_goals (first | omega | (simp; done) | (simp; omega))), ?_⟩
        have hp := Pre.later HP.out hb
        have hp := hp.step (by omega) (v := .int .i64 l[k].pr) (by rw [show k * 9 = k * 9 + 0 by omega]; exact (rus_getD l k 0 hk2 (by decide)).symm)
        have hp := hp.step (by omega) (v := .int .i64 l[k].kd) (by rw [show k * 9 + 1 = k * 9 + 1 by omega]; exact (rus_getD l k 1 hk2 (by decide)).symm)
        have hp := hp.step (by omega) (v := .int .i64 l[k].ip) (by rw [show k * 9 + 2 = k * 9 + 2 by omega]; exact (rus_getD l k 2 hk2 (by decide)).symm)
        have hp := hp.step (by omega) (v := .int .i64 l[k].bt) (by rw [show k * 9 + 3 = k * 9 + 3 by omega]; exact (rus_getD l k 3 hk2 (by decide)).symm)
        have hp := hp.step (by omega) (v := .int .i64 l[k].fp) (by rw [show k * 9 + 4 = k * 9 + 4 by omega]; exact (rus_getD l k 4 hk2 (by decide)).symm)
        have hp := hp.step (by omega) (v := .int .i64 l[k].lp) (by rw [show k * 9 + 5 = k * 9 + 5 by omega]; exact (rus_getD l k 5 hk2 (by decide)).symm)
        have hp := hp.step (by omega) (v := .int .i64 l[k].vl) (by rw [show k * 9 + 6 = k * 9 + 6 by omega]; exact (rus_getD l k 6 hk2 (by decide)).symm)
        have hp := hp.step (by omega) (v := .int .i64 l[k].ac) (by rw [show k * 9 + 7 = k * 9 + 7 by omega]; exact (rus_getD l k 7 hk2 (by decide)).symm)
        have hp := hp.step (by omega) (v := .int .i64 l[k].qu) (by rw [show k * 9 + 8 = k * 9 + 8 by omega]; exact (rus_getD l k 8 hk2 (by decide)).symm)
        exact (show (k + 1) * 9 = k * 9 + 9 by omega) ▸ hp
    · have hke : k = l.length := by omega
      have hrow : Row wr w.heap.size (rus l) := by
        rw [hke] at hpre
        have := hpre.row
        rw [← rus_length l, range_map_getD] at this
        exact this
      clear hke hpre hp0
      go_wp2
      go_ret
      exact ⟨_, _, rfl, .inr ⟨w.heap.size, rfl, Nat.le_refl _, hrow.lt, hrow⟩, hbel⟩

set_option maxRecDepth 100000 in
set_option maxHeartbeats 4000000 in
theorem markRuleS_any (a : Option Addr) (n c B U : Nat) (k0 : Int) (xs : List Value) (w : World) (h1 : Sv w B U a xs) (hx : xs.length = n * 9) (hk0 : 0 ≤ k0 ∧ k0 + n * 9 ≤ 1000000000000) :
    Calls Try.prog 68 #[.slice a n c, .int .i64 k0] w fun e w' => e = .returned (.int .i64 (k0 + n * 9)) ∧ Marked w w' B U a (marks mkI k0 (n * 9)) := by
  obtain ⟨hk0, hk1⟩ := hk0
  rcases h1 with rfl | ⟨g, rfl, hB, hU, hrow⟩
  · have hn : n = 0 := by simp at hx; omega
    subst hn
    go_enter Try.func68, Try.ntmps68
    go_wp2
    go_loopg [1, 5] 0 (fun g m i wr => i = .int .i64 0 ∧ m = .int .i64 k0 ∧ w = wr)
    case atStart => exact ⟨rfl, rfl, rfl⟩
    case round =>
      obtain ⟨rfl, rfl, rfl⟩ := hrel
      go_wp2
      go_ret
      exact ⟨by simp, .inl ⟨rfl, rfl⟩⟩
  · have hp0 : Pre w g (n * 9) (fun i => mkI i (k0 + i)) 0 := by
      have := Pre.start hrow (fun i => mkI i (k0 + i))
      rwa [hx] at this
    clear hrow hx
    go_enter Try.func68, Try.ntmps68
    go_wp2
    go_loopg [1, 5] n (fun gh m i wr => ∃ k : Nat, k ≤ n ∧ gh = n - k ∧ i = .int .i64 (k : Int) ∧ m = .int .i64 (k0 + k * 9) ∧ Only g w wr ∧ Pre wr g (n * 9) (fun i => mkI i (k0 + i)) (k * 9))
    case atStart => exact ⟨0, by omega, rfl, rfl, by simp, Only.refl _ _, hp0⟩
    case round =>
      obtain ⟨k, hk, rfl, rfl, rfl, honly, hpre⟩ := hrel
      by_cases hk2 : k < n
      · obtain ⟨v0, hc0⟩ := hpre.cell (k * 9) (by omega)
        have hf0 := hpre.free (k * 9) (by omega)
        obtain ⟨v1, hc1⟩ := hpre.cell (k * 9 + 1) (by omega)
        have hf1 := hpre.free (k * 9 + 1) (by omega)
        obtain ⟨v2, hc2⟩ := hpre.cell (k * 9 + 2) (by omega)
        have hf2 := hpre.free (k * 9 + 2) (by omega)
        obtain ⟨v3, hc3⟩ := hpre.cell (k * 9 + 3) (by omega)
        have hf3 := hpre.free (k * 9 + 3) (by omega)
        obtain ⟨v4, hc4⟩ := hpre.cell (k * 9 + 4) (by omega)
        have hf4 := hpre.free (k * 9 + 4) (by omega)
        obtain ⟨v5, hc5⟩ := hpre.cell (k * 9 + 5) (by omega)
        have hf5 := hpre.free (k * 9 + 5) (by omega)
        obtain ⟨v6, hc6⟩ := hpre.cell (k * 9 + 6) (by omega)
        have hf6 := hpre.free (k * 9 + 6) (by omega)
        obtain ⟨v7, hc7⟩ := hpre.cell (k * 9 + 7) (by omega)
        have hf7 := hpre.free (k * 9 + 7) (by omega)
        obtain ⟨v8, hc8⟩ := hpre.cell (k * 9 + 8) (by omega)
        have hf8 := hpre.free (k * 9 + 8) (by omega)
        have HP := Lib.hid hpre
        clear hp0 hpre
        have hi1 : (0 : Int) ≤ k := by omega
        have hi2 : (k : Int) < n := by omega
        go_wp2
        go_roundg (n - (k + 1))
        case measure => omega
        case rel =>
          refine ⟨k + 1, by omega, rfl, by go_num, congrArg (Value.int .i64) (by omega), ?_, ?_⟩
          · repeat (with_reducible first | exact honly | apply Only.st)
          · have hp := HP.out
            have hp := hp.step (by omega) (v := .int .i64 (k0 + k * 9)) (congrArg (Value.int .i64) (by omega))
            have hp := hp.step (by omega) (v := .int .i64 (k0 + k * 9 + 1)) (congrArg (Value.int .i64) (by omega))
            have hp := hp.step (by omega) (v := .int .i64 (k0 + k * 9 + 1 + 1)) (congrArg (Value.int .i64) (by omega))
            have hp := hp.step (by omega) (v := .int .i64 (k0 + k * 9 + 1 + 1 + 1)) (congrArg (Value.int .i64) (by omega))
            have hp := hp.step (by omega) (v := .int .i64 (k0 + k * 9 + 1 + 1 + 1 + 1)) (congrArg (Value.int .i64) (by omega))
            have hp := hp.step (by omega) (v := .int .i64 (k0 + k * 9 + 1 + 1 + 1 + 1 + 1)) (congrArg (Value.int .i64) (by omega))
            have hp := hp.step (by omega) (v := .int .i64 (k0 + k * 9 + 1 + 1 + 1 + 1 + 1 + 1)) (congrArg (Value.int .i64) (by omega))
            have hp := hp.step (by omega) (v := .int .i64 (k0 + k * 9 + 1 + 1 + 1 + 1 + 1 + 1 + 1)) (congrArg (Value.int .i64) (by omega))
            have hp := hp.step (by omega) (v := .int .i64 (k0 + k * 9 + 1 + 1 + 1 + 1 + 1 + 1 + 1 + 1)) (congrArg (Value.int .i64) (by omega))
            exact (show (k + 1) * 9 = k * 9 + 9 by omega) ▸ hp
      · have hke : k = n := by omega
        have hm : Marked w wr B U (some ⟨g, 0, none⟩) (marks mkI k0 (n * 9)) := by
          rw [hke] at hpre
          exact honly.marked hpre ⟨hB, hU⟩
        subst hke
        clear hpre hp0
        go_wp2
        go_ret
        exact ⟨rfl, hm⟩

set_option maxRecDepth 100000 in
set_option maxHeartbeats 4000000 in
theorem szRuleS_any (a : Option Addr) (n c : Nat) (left : Int) (hl : 0 ≤ left ∧ left ≤ 1048576) (hn : n ≤ 9223372036854775807) (w : World) :
    Calls Try.prog 54 #[.slice a n c, .int .i64 left] w fun e w' => e = .returned (.int .i64 (szR left n)) ∧ w = w' := by
  obtain ⟨h0, h1⟩ := hl
  by_cases h : left - n < 0
  · have HX : Hid (szR left n = -1) := by unfold Hid szR; rw [if_pos h]
    go_enter Try.func54, Try.ntmps54
    go_wp2
    go_ret
    exact ⟨by rw [HX.out]; rfl, rfl⟩
  · have HX : Hid (szR left n = left - n) := by unfold Hid szR; rw [if_neg h]
    go_enter Try.func54, Try.ntmps54
    go_wp2
    go_ret
    exact ⟨by rw [HX.out]; rfl, rfl⟩

end Go.Proofs.Ytncciafldmoklaa


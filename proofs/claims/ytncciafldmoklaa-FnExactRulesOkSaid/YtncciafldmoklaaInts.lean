/-
  Slices of integers: copied, compared, marked, held against the marks.
  Conditions: at most 2^20 elements.
-/
import Derived.Test.YtncciafldmoklaaMem
import Derived.Test.YtncciafldmoklaaRows
set_option linter.unusedSimpArgs false
set_option linter.unusedVariables false
namespace Go.Proofs.Ytncciafldmoklaa
open Go.RowKit

theorem run_mk {P : Program} {t e size bytes : Nat} (E : El P t e size bytes) (n : Nat) (hn : n ≤ 2097152) (hb : bytes ≤ 4096) :
    ∃ C : Array Value, C.size = n * size ∧ ∀ (w : World), (Instr.makeSlice t (.int .i64 (n : Int)) (.int .i64 (n : Int))).run P w = .ok (.slice (some ⟨w.heap.size, 0, none⟩) n n) (w.alloc (.cells C e)) := by
  obtain ⟨i, z, hi, hz, hs, hby, hzs⟩ := E.hi
  have hm := Nat.mul_le_mul hb hn
  rw [← hby] at hm
  refine ⟨madeCells z.cells (n * size), by rw [size_madeCells], fun w => ?_⟩
  have h := run_make (P := P) w t e i z E.ht hi hz .i64 .i64 n n (by omega) (by omega) (by
    have : ((i.bytes * n : Nat) : Int) ≤ 281474976710656 := by omega
    rwa [Int.natCast_mul] at this) (by omega)
  rw [hs] at h
  simpa using h

theorem el_int : El Try.prog 38 3 1 8 := by
  obtain ⟨i, hi, hz0, hz1, hz2⟩ := info_parts (P := Try.prog) (e := 3) (z := .int .i64 0) (size := 1) (bytes := 8) (by kernel_rfl)
  exact ⟨Try.underlying38, ⟨i, _, hi, hz0, hz1, hz2, rfl⟩, by decide⟩

set_option maxRecDepth 100000 in
set_option maxHeartbeats 400000 in
theorem eqIntS_any (a1 a2 : Option Addr) (c1 c2 : Nat) (l : List Int) (w : World) (h1 : Rd w a1 (iv l)) (h2 : Rd w a2 (iv l)) (hl : l.length ≤ 2097152) :
    Calls Try.prog 67 #[.slice a1 l.length c1, .slice a2 l.length c2] w fun e w' => e = .returned (.bool true) ∧ Below w.heap.size w w' := by
  go_enter Try.func67, Try.ntmps67
  go_wp2
  go_loopg [5] l.length (fun g i wr => ∃ k : Nat, k ≤ l.length ∧ g = l.length - k ∧ i = .int .i64 (k : Int) ∧ Below w.heap.size w wr)
  case atStart => exact ⟨0, by omega, rfl, rfl, Below.refl _ _⟩
  case round =>
    obtain ⟨k, hk, rfl, rfl, hbel⟩ := hrel
    by_cases hk2 : k < l.length
    · obtain ⟨b1, o1, rfl, _, hc1⟩ := Rd.int (Rd.later h1 hbel) k hk2
      obtain ⟨b2, o2, rfl, _, hc2⟩ := Rd.int (Rd.later h2 hbel) k hk2
      clear h1 h2
      go_wp2
      go_region
      go_wp2
      go_roundg (l.length - (k + 1))
      case measure => omega
      case rel => exact ⟨k + 1, by omega, rfl, by go_num, Below.dr hbel⟩
    · go_wp2
      go_ret
      exact ⟨rfl, hbel⟩

/-- What is left of a bound. -/
def szR (left n : Int) : Int := if left - n < 0 then -1 else left - n

theorem szR_neg {left : Int} {n : Nat} (h : left < n) : szR left n = -1 := by unfold szR; rw [if_pos (by omega)]
theorem szR_pos {left : Int} {n : Nat} (h : (n : Int) ≤ left) : szR left n = left - n := by unfold szR; rw [if_neg (by omega)]
theorem szR_add (left : Int) (a b : Nat) (h : ¬ left - a < 0) : szR left ((a + b : Nat) : Int) = szR (left - a) b := by unfold szR; split <;> split <;> omega

set_option maxRecDepth 100000 in
set_option maxHeartbeats 400000 in
theorem szIntS_any (a : Option Addr) (n c : Nat) (left : Int) (hl : 0 ≤ left ∧ left ≤ 1048576) (hn : n ≤ 9223372036854775807) (w : World) :
    Calls Try.prog 121 #[.slice a n c, .int .i64 left] w fun e w' => e = .returned (.int .i64 (szR left n)) ∧ w = w' := by
  obtain ⟨h0, h1⟩ := hl
  by_cases h : left - n < 0
  · have HX : Hid (szR left n = -1) := by unfold Hid szR; rw [if_pos h]
    go_enter Try.func121, Try.ntmps121
    go_wp2
    go_ret
    exact ⟨by rw [HX.out]; rfl, rfl⟩
  · have HX : Hid (szR left n = left - n) := by unfold Hid szR; rw [if_neg h]
    go_enter Try.func121, Try.ntmps121
    go_wp2
    go_ret
    exact ⟨by rw [HX.out]; rfl, rfl⟩

set_option maxRecDepth 100000 in
set_option maxHeartbeats 400000 in
theorem toIntS_any (a : Option Addr) (c : Nat) (l : List Int) (w : World) (h1 : Rd w a (iv l)) (hl : l.length ≤ 1048576) :
    Calls Try.prog 123 #[.slice a l.length c] w (RetSv w l.length (iv l)) := by
  obtain ⟨C, hC, hmk⟩ := run_mk el_int l.length (by omega) (by decide)
  have hr0 : Row (w.alloc (.cells C 3)) w.heap.size C.toList := by
    have := Row.of_block (heap_alloc_new w (.cells C 3)) (.inl (Nat.le_refl _)) C.size (Nat.le_refl _)
    rwa [List.take_of_length_le (by simp)] at this
  have hp0 : Pre (w.alloc (.cells C 3)) w.heap.size l.length (fun i => (iv l).getD i undef) 0 := by
    have := Pre.start hr0 (fun i => (iv l).getD i undef)
    rwa [Array.length_toList, hC, Nat.mul_one] at this
  clear hr0 hC
  go_enter Try.func123, Try.ntmps123
  go_wp2
  go_loopg [4] l.length (fun g i wr => ∃ k : Nat, k ≤ l.length ∧ g = l.length - k ∧ i = .int .i64 (k : Int) ∧ Below w.heap.size w wr ∧ Pre wr w.heap.size l.length (fun i => (iv l).getD i undef) k)
  case atStart => exact ⟨0, by omega, rfl, rfl, Below.al (Below.refl _ _) _, hp0⟩
  case round =>
    obtain ⟨k, hk, rfl, rfl, hbel, hpre⟩ := hrel
    by_cases hk2 : k < l.length
    · obtain ⟨b1, o1, rfl, _, hc1⟩ := Rd.int (Rd.later h1 hbel) k hk2
      obtain ⟨v, hc2⟩ := hpre.cell k hk2
      have hf2 := hpre.free k hk2
      have hs := Lib.hid (hpre.step hk2 (v := .int .i64 l[k]) (by simp [iv, List.getD_eq_getElem?_getD, hk2]))
      clear h1 hp0 hpre
      go_wp2
      go_roundg (l.length - (k + 1))
      case measure => omega
      case rel => exact ⟨k + 1, by omega, rfl, by go_num, Below.st hbel (by simp) _, hs.out⟩
    · have hke : k = l.length := by omega
      have hrow : Row wr w.heap.size (iv l) := by
        rw [hke] at hpre
        have := hpre.row
        rw [← iv_length l, range_map_getD] at this
        exact this
      clear hke hpre hp0
      go_wp2
      go_ret
      exact ⟨_, _, rfl, .inr ⟨w.heap.size, rfl, Nat.le_refl _, hrow.lt, hrow⟩, hbel⟩

set_option maxRecDepth 100000 in
set_option maxHeartbeats 400000 in
theorem markIntS_any (a : Option Addr) (n c B U : Nat) (k0 : Int) (xs : List Value) (w : World) (h1 : Sv w B U a xs) (hx : xs.length = n) (hk0 : 0 ≤ k0 ∧ k0 + n ≤ 1000000000000) :
    Calls Try.prog 69 #[.slice a n c, .int .i64 k0] w fun e w' => e = .returned (.int .i64 (k0 + n)) ∧ Marked w w' B U a (marks (fun _ => .int .i64) k0 n) := by
  subst hx
  obtain ⟨hk0, hk1⟩ := hk0
  rcases h1 with rfl | ⟨g, rfl, hB, hU, hrow⟩
  · go_enter Try.func69, Try.ntmps69
    go_wp2
    go_loopg [1, 5] 0 (fun g m i wr => i = .int .i64 0 ∧ m = .int .i64 k0 ∧ w = wr)
    case atStart => exact ⟨rfl, rfl, rfl⟩
    case round =>
      obtain ⟨rfl, rfl, rfl⟩ := hrel
      go_wp2
      go_ret
      exact ⟨by simp, .inl ⟨rfl, rfl⟩⟩
  · have hp0 := Pre.start hrow (fun i => .int .i64 (k0 + i))
    go_enter Try.func69, Try.ntmps69
    go_wp2
    go_loopg [1, 5] xs.length (fun gh m i wr => ∃ k : Nat, k ≤ xs.length ∧ gh = xs.length - k ∧ i = .int .i64 (k : Int) ∧ m = .int .i64 (k0 + k) ∧ Only g w wr ∧ Pre wr g xs.length (fun i => .int .i64 (k0 + i)) k)
    case atStart => exact ⟨0, by omega, rfl, rfl, by simp, Only.refl _ _, hp0⟩
    case round =>
      obtain ⟨k, hk, rfl, rfl, rfl, honly, hpre⟩ := hrel
      by_cases hk2 : k < xs.length
      · obtain ⟨v, hc2⟩ := hpre.cell k hk2
        have hf2 := hpre.free k hk2
        have hs := Lib.hid (hpre.step hk2 (v := .int .i64 (k0 + k)) rfl)
        clear hp0 hpre
        go_wp2
        go_roundg (xs.length - (k + 1))
        case measure => omega
        case rel => exact ⟨k + 1, by omega, rfl, by go_num, by go_num, Only.st honly _ _, hs.out⟩
      · have hke : k = xs.length := by omega
        have hm : Marked w wr B U (some ⟨g, 0, none⟩) (marks (fun _ => .int .i64) k0 xs.length) := by
          rw [hke] at hpre
          exact honly.marked hpre ⟨hB, hU⟩
        subst hke
        clear hpre hp0
        go_wp2
        go_ret
        exact ⟨rfl, hm⟩

set_option maxRecDepth 100000 in
set_option maxHeartbeats 400000 in
theorem heldIntS_any (a : Option Addr) (n c : Nat) (k0 : Int) (w : World) (h1 : Rd w a (marks (fun _ => .int .i64) k0 n)) (hk0 : 0 ≤ k0 ∧ k0 + n ≤ 1000000000000) :
    Calls Try.prog 70 #[.slice a n c, .int .i64 k0] w fun e w' => e = .returned (.int .i64 (k0 + n)) ∧ Below w.heap.size w w' := by
  obtain ⟨hk0, hk1⟩ := hk0
  go_enter Try.func70, Try.ntmps70
  go_wp2
  go_loopg [1, 5] n (fun gh m i wr => ∃ k : Nat, k ≤ n ∧ gh = n - k ∧ i = .int .i64 (k : Int) ∧ m = .int .i64 (k0 + k) ∧ w = wr)
  case atStart => exact ⟨0, by omega, rfl, rfl, by simp, rfl⟩
  case round =>
    obtain ⟨k, hk, rfl, rfl, rfl, rfl⟩ := hrel
    by_cases hk2 : k < n
    · rcases h1 with h1 | ⟨b1, o1, rfl, _, hc1⟩
      · have := congrArg List.length h1; rw [marks_length] at this; simp at this; omega
      · have hc := hc1 k (by rw [marks_length]; exact hk2)
        rw [marks_at] at hc
        clear hc1
        go_wp2
        go_roundg (n - (k + 1))
        case measure => omega
        case rel => exact ⟨k + 1, by omega, rfl, by go_num, by go_num, rfl⟩
    · have hke : k = n := by omega
      subst hke
      go_wp2
      go_ret
      exact ⟨rfl, by ((repeat (with_reducible first | exact Below.refl _ _ | apply Below.al | apply Below.dr | (refine Below.tr ?_ (by assumption)) | (refine Below.marked (by assumption) ?_ ?_) | (refine Below.st ?_ ?_ _))); all_goals (first | omega | (simp; done) | (simp; omega)))⟩

end Go.Proofs.Ytncciafldmoklaa

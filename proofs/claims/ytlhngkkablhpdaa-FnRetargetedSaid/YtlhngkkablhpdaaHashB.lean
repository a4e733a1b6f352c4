/-
  The hash of a string of bytes and of a flow.
  Conditions: the strings are at most 2^20 bytes long.
-/
import Derived.Test.YtlhngkkablhpdaaKeyWin
import Derived.Test.YtlhngkkablhpdaaHashIn
set_option linter.unusedSimpArgs false
set_option linter.unusedVariables false
namespace Go.Proofs.Ytlhngkkablhpdaa
open Go.RowKit

/-- The hash of the first k bits. -/
def hb (key s : ByteArray) : Nat → Nat
  | 0 => 0
  | k + 1 => if bitAt s k = 1 then hb key s k ^^^ kw key k 32 else hb key s k

theorem hb_hit {key s : ByteArray} {k : Nat} (h : bitAt s k = 1) : hb key s (k + 1) = hb key s k ^^^ kw key k 32 := by rw [hb, if_pos h]

theorem hb_lt (key s : ByteArray) : ∀ k, hb key s k < 4294967296
  | 0 => by simp [hb]
  | k + 1 => by
    have h1 := hb_lt key s k
    have h2 := kw_small key k 32 (by omega)
    unfold hb
    split
    · exact Nat.xor_lt_two_pow (n := 32) h1 h2
    · exact h1

/-- HashBytes. -/
def hashB (key s : ByteArray) : Int := if key.size = 16 ∧ s.size ≤ 12 then hb key s (8 * s.size) else -1

theorem hashB_lt (key s : ByteArray) : -1 ≤ hashB key s ∧ hashB key s < 4294967296 := by
  have := hb_lt key s (8 * s.size)
  unfold hashB
  split <;> omega

/-- HashFlow. -/
def hashF (key : ByteArray) (f : Fl) : Int := hashB key (hashIn f)

set_option maxRecDepth 100000 in
set_option maxHeartbeats 400000 in
theorem hashB_impl (key s : ByteArray) (hk : key.size ≤ 1048576) (hs : s.size ≤ 1048576) (w : World) :
    Calls Try.prog 32 #[.string key, .string s] w fun e w' => e = .returned (.int .i64 (hashB key s)) ∧ w = w' := by
  by_cases h16 : key.size = 16
  · have hn : ((key.size : Int) != 16) = false := by rw [h16]; rfl
    by_cases h12 : s.size ≤ 12
    · have hd : decide ((12 : Int) < (s.size : Int)) = false := by simp; omega
      have hfin : Hid (hashB key s = (hb key s (8 * s.size) : Int)) := by unfold Hid hashB; rw [if_pos ⟨h16, h12⟩]
      have H16 := Lib.hid h16
      clear h16
      go_enter Try.func32, Try.ntmps32
      go_wp2
      go_loopg [5, 6] (8 * s.size) (fun g n i wr => ∃ k : Nat, k ≤ 8 * s.size ∧ g = 8 * s.size - k ∧ wr = w ∧ i = .int .i64 (k : Int) ∧ n = .int .i64 (hb key s k))
      case atStart => exact ⟨0, by omega, rfl, rfl, rfl, rfl⟩
      case round =>
        obtain ⟨k, hk1, rfl, rfl, rfl, rfl⟩ := hrel
        by_cases hk2 : k < 8 * s.size
        · by_cases hbit : bitAt s k = 1
          · have hq : ((bitAt s k : Int) == 1) = true := by rw [hbit]; rfl
            have hx := xor_nat (hb key s k) (kw key k 32) (by have := hb_lt key s k; omega) (by have := kw_small key k 32 (by omega); omega)
            have HX : Hid (bits .xor .i64 (hb key s k : Int) (kw key k 32 : Int) = (hb key s (k + 1) : Int)) := by rw [hx, hb_hit hbit]; rfl
            have hw : keyWin key (k : Int) = (kw key k 32 : Int) := by unfold keyWin; rw [if_pos ⟨H16.out, by omega, by omega⟩]; rfl
            clear hx hbit
            go_wp2_with (first
              | (go_at_call 68; refine (keyBit_impl s _ (by omega) (by omega) (by omega) _).mono ?_; rintro e w' ⟨rfl, rfl⟩)
              | (go_at_call 24; refine (keyWin_impl key _ (by omega) _).mono ?_; rintro e w' ⟨rfl, rfl⟩))
            go_roundg (8 * s.size - (k + 1))
            case measure => omega
            case rel => exact ⟨k + 1, by omega, rfl, rfl, by go_num, congrArg (Value.int .i64) HX.out⟩
          · have hq : ((bitAt s k : Int) == 1) = false := by rw [beq_eq_false_iff_ne]; omega
            have HX : Hid (hb key s k = hb key s (k + 1)) := by unfold Hid; rw [hb, if_neg hbit]
            clear hbit
            go_wp2_with (go_at_call 68; refine (keyBit_impl s _ (by omega) (by omega) (by omega) _).mono ?_; rintro e w' ⟨rfl, rfl⟩)
            go_roundg (8 * s.size - (k + 1))
            case measure => omega
            case rel => exact ⟨k + 1, by omega, rfl, rfl, by go_num, by rw [HX.out]⟩
        · have hke : k = 8 * s.size := by omega
          have HF : Hid ((hb key s k : Int) = hashB key s) := by unfold Hid; rw [hfin.out, hke]
          clear hke
          go_wp2
          go_ret
          exact ⟨by rw [← HF.out]; rfl, rfl⟩
    · have hd : decide ((12 : Int) < (s.size : Int)) = true := by simp; omega
      have hfin : Hid (hashB key s = -1) := by unfold Hid hashB; rw [if_neg (fun h => h12 h.2)]
      clear h16 h12
      go_enter Try.func32, Try.ntmps32
      go_wp2
      go_ret
      exact ⟨by rw [hfin.out]; rfl, rfl⟩
  · have hn : ((key.size : Int) != 16) = true := by rw [bne_iff_ne]; omega
    have hfin : Hid (hashB key s = -1) := by unfold Hid hashB; rw [if_neg (fun h => h16 h.1)]
    clear h16
    go_enter Try.func32, Try.ntmps32
    go_wp2
    go_ret
    exact ⟨by rw [hfin.out]; rfl, rfl⟩

set_option maxRecDepth 100000 in
set_option maxHeartbeats 400000 in
theorem hashB_spec (key s : ByteArray) (hk : key.size ≤ 1048576) (hs : s.size ≤ 1048576) (w : World) :
    Calls Try.prog 31 #[.string key, .string s] w fun e w' => e = .returned (.int .i64 (hashB key s)) ∧ w = w' := by
  by_cases h16 : key.size = 16
  · have hn : ((key.size : Int) != 16) = false := by rw [h16]; rfl
    by_cases h12 : s.size ≤ 12
    · have hd : decide ((12 : Int) < (s.size : Int)) = false := by simp; omega
      have hfin : Hid (hashB key s = (hb key s (8 * s.size) : Int)) := by unfold Hid hashB; rw [if_pos ⟨h16, h12⟩]
      have H16 := Lib.hid h16
      clear h16
      go_enter Try.func31, Try.ntmps31
      go_wp2
      go_loopg [5, 6] (8 * s.size) (fun g n i wr => ∃ k : Nat, k ≤ 8 * s.size ∧ g = 8 * s.size - k ∧ wr = w ∧ i = .int .i64 (k : Int) ∧ n = .int .i64 (hb key s k))
      case atStart => exact ⟨0, by omega, rfl, rfl, rfl, rfl⟩
      case round =>
        obtain ⟨k, hk1, rfl, rfl, rfl, rfl⟩ := hrel
        by_cases hk2 : k < 8 * s.size
        · by_cases hbit : bitAt s k = 1
          · have hq : ((bitAt s k : Int) == 1) = true := by rw [hbit]; rfl
            have hx := xor_nat (hb key s k) (kw key k 32) (by have := hb_lt key s k; omega) (by have := kw_small key k 32 (by omega); omega)
            have HX : Hid (bits .xor .i64 (hb key s k : Int) (kw key k 32 : Int) = (hb key s (k + 1) : Int)) := by rw [hx, hb_hit hbit]; rfl
            have hw : keyWin key (k : Int) = (kw key k 32 : Int) := by unfold keyWin; rw [if_pos ⟨H16.out, by omega, by omega⟩]; rfl
            clear hx hbit
            go_wp2_with (first
              | (go_at_call 67; refine (keyBit_spec s _ (by omega) (by omega) (by omega) _).mono ?_; rintro e w' ⟨rfl, rfl⟩)
              | (go_at_call 23; refine (keyWin_spec key _ (by omega) _).mono ?_; rintro e w' ⟨rfl, rfl⟩))
            go_roundg (8 * s.size - (k + 1))
            case measure => omega
            case rel => exact ⟨k + 1, by omega, rfl, rfl, by go_num, congrArg (Value.int .i64) HX.out⟩
          · have hq : ((bitAt s k : Int) == 1) = false := by rw [beq_eq_false_iff_ne]; omega
            have HX : Hid (hb key s k = hb key s (k + 1)) := by unfold Hid; rw [hb, if_neg hbit]
            clear hbit
            go_wp2_with (go_at_call 67; refine (keyBit_spec s _ (by omega) (by omega) (by omega) _).mono ?_; rintro e w' ⟨rfl, rfl⟩)
            go_roundg (8 * s.size - (k + 1))
            case measure => omega
            case rel => exact ⟨k + 1, by omega, rfl, rfl, by go_num, by rw [HX.out]⟩
        · have hke : k = 8 * s.size := by omega
          have HF : Hid ((hb key s k : Int) = hashB key s) := by unfold Hid; rw [hfin.out, hke]
          clear hke
          go_wp2
          go_ret
          exact ⟨by rw [← HF.out]; rfl, rfl⟩
    · have hd : decide ((12 : Int) < (s.size : Int)) = true := by simp; omega
      have hfin : Hid (hashB key s = -1) := by unfold Hid hashB; rw [if_neg (fun h => h12 h.2)]
      clear h16 h12
      go_enter Try.func31, Try.ntmps31
      go_wp2
      go_ret
      exact ⟨by rw [hfin.out]; rfl, rfl⟩
  · have hn : ((key.size : Int) != 16) = true := by rw [bne_iff_ne]; omega
    have hfin : Hid (hashB key s = -1) := by unfold Hid hashB; rw [if_neg (fun h => h16 h.1)]
    clear h16
    go_enter Try.func31, Try.ntmps31
    go_wp2
    go_ret
    exact ⟨by rw [hfin.out]; rfl, rfl⟩

set_option maxRecDepth 100000 in
set_option maxHeartbeats 400000 in
theorem hashF_impl (key : ByteArray) (f : Fl) (hk : key.size ≤ 1048576) (w : World) :
    Calls Try.prog 44 #[.string key, .agg #[.int .i64 f.k, .int .i64 f.s, .int .i64 f.d, .int .i64 f.p, .int .i64 f.q]] w fun e w' => e = .returned (.int .i64 (hashF key f)) ∧ Below w.heap.size w w' := by
  have hsz := hashIn_size f
  go_enter Try.func44, Try.ntmps44
  go_wp2_with (first
    | (go_at_call 30; refine (hashInput_impl f _).mono ?_; rintro e w' ⟨rfl, hb⟩; obtain ⟨hc, hf, hz⟩ := old hb; try simp at hz)
    | (go_at_call 32; refine (hashB_impl key (hashIn f) hk (by omega) _).mono ?_; rintro e w' ⟨rfl, rfl⟩))
  go_ret
  exact ⟨rfl, by ((repeat (with_reducible first | exact Below.refl _ _ | apply Below.al | apply Below.dr | (refine Below.tr ?_ (by assumption)) | (refine Below.marked (by assumption) ?_ ?_) | (refine Below.st ?_ ?_ _))); all_goals (first | omega | (simp; done) | (simp; omega)))⟩

set_option maxRecDepth 100000 in
set_option maxHeartbeats 400000 in
theorem hashF_spec (key : ByteArray) (f : Fl) (hk : key.size ≤ 1048576) (w : World) :
    Calls Try.prog 43 #[.string key, .agg #[.int .i64 f.k, .int .i64 f.s, .int .i64 f.d, .int .i64 f.p, .int .i64 f.q]] w fun e w' => e = .returned (.int .i64 (hashF key f)) ∧ Below w.heap.size w w' := by
  have hsz := hashIn_size f
  go_enter Try.func43, Try.ntmps43
  go_wp2_with (first
    | (go_at_call 29; refine (hashInput_spec f _).mono ?_; rintro e w' ⟨rfl, hb⟩; obtain ⟨hc, hf, hz⟩ := old hb; try simp at hz)
    | (go_at_call 31; refine (hashB_spec key (hashIn f) hk (by omega) _).mono ?_; rintro e w' ⟨rfl, rfl⟩))
  go_ret
  exact ⟨rfl, by ((repeat (with_reducible first | exact Below.refl _ _ | apply Below.al | apply Below.dr | (refine Below.tr ?_ (by assumption)) | (refine Below.marked (by assumption) ?_ ?_) | (refine Below.st ?_ ?_ _))); all_goals (first | omega | (simp; done) | (simp; omega)))⟩

end Go.Proofs.Ytlhngkkablhpdaa

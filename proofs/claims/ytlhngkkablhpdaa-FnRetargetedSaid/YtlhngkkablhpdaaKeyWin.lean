/-
  A bit of a string, a window of 32 bits of a key.
  Conditions: the strings are at most 2^20 bytes long.
-/
import Derived.Test.YtlhngkkablhpdaaWords
import Derived.Test.YtlhngkkablhpdaaBits
set_option linter.unusedSimpArgs false
set_option linter.unusedVariables false
namespace Go.Proofs.Ytlhngkkablhpdaa
open Go.RowKit

def bitAt (s : ByteArray) (i : Nat) : Nat := (s.data.toList.getD (i / 8) 0).toNat / 2 ^ (7 - i % 8) % 2

theorem bitAt_lt (s : ByteArray) (i : Nat) : bitAt s i < 2 := Nat.mod_lt _ (by decide)

theorem bit_form (s : ByteArray) (i : Nat) (h : i / 8 < s.size) : (((s[i / 8].toNat / 2 ^ (7 - i % 8) : Nat) : Int) % 2) = (bitAt s i : Int) := by
  unfold bitAt
  have e : s.data.toList.getD (i / 8) 0 = s[i / 8] := by
    have h' : i / 8 < s.data.toList.length := by simpa using h
    rw [List.getD_eq_getElem?_getD, List.getElem?_eq_getElem h']
    rfl
  rw [e]
  omega

set_option maxRecDepth 100000 in
set_option maxHeartbeats 400000 in
theorem keyBit_impl (s : ByteArray) (i : Int) (h0 : 0 ≤ i) (h : i < 8 * s.size) (hs : s.size ≤ 1048576) (w : World) :
    Calls Try.prog 68 #[.string s, .int .i64 i] w fun e w' => e = .returned (.int .i64 (bitAt s i.toNat)) ∧ w = w' := by
  obtain ⟨i, rfl⟩ := Int.eq_ofNat_of_zero_le h0
  have h1 : (i : Int) / 8 < s.size := by omega
  have h2 : i / 8 < s.size := by omega
  have h3 := Lib.hid (bit_form s i h2)
  have hb := s[i / 8].toNat_lt
  have hle : s[i / 8].toNat / 2 ^ (7 - i % 8) ≤ s[i / 8].toNat := Nat.div_le_self _ _
  have h4 : Hid (wrap64 ((s[i / 8].toNat : Int) / 2 ^ (7 - i % 8)) = ((s[i / 8].toNat / 2 ^ (7 - i % 8) : Nat) : Int)) := by
    rw [show ((s[i / 8].toNat : Int) / 2 ^ (7 - i % 8)) = ((s[i / 8].toNat / 2 ^ (7 - i % 8) : Nat) : Int) by simp]
    generalize s[i / 8].toNat / 2 ^ (7 - i % 8) = x at *
    unfold Hid wrap64; omega
  clear hle hb
  go_enter Try.func68, Try.ntmps68
  go_wp2
  go_ret
  refine ⟨?_, rfl⟩
  show Ending.returned (.int .i64 (bits BinOp.and IntKind.i64 (wrap64 ((s[i / 8].toNat : Int) / 2 ^ (7 - i % 8))) 1)) = _
  rw [h4.out, and_1, h3.out]; rfl

set_option maxRecDepth 100000 in
set_option maxHeartbeats 400000 in
theorem keyBit_spec (s : ByteArray) (i : Int) (h0 : 0 ≤ i) (h : i < 8 * s.size) (hs : s.size ≤ 1048576) (w : World) :
    Calls Try.prog 67 #[.string s, .int .i64 i] w fun e w' => e = .returned (.int .i64 (bitAt s i.toNat)) ∧ w = w' := by
  obtain ⟨i, rfl⟩ := Int.eq_ofNat_of_zero_le h0
  have h1 : (i : Int) / 8 < s.size := by omega
  have h2 : i / 8 < s.size := by omega
  have h3 := Lib.hid (bit_form s i h2)
  have h4 : Hid (wrap64 (s[i / 8].toNat : Int) / 2 ^ (7 - i % 8) = ((s[i / 8].toNat / 2 ^ (7 - i % 8) : Nat) : Int)) := by
    have hb := s[i / 8].toNat_lt
    rw [show wrap64 (s[i / 8].toNat : Int) = (s[i / 8].toNat : Int) by unfold wrap64; omega]
    simp [Hid]
  go_enter Try.func67, Try.ntmps67
  go_wp2
  go_ret
  refine ⟨?_, rfl⟩
  show Ending.returned (.int .i64 (bits BinOp.and IntKind.i64 (wrap64 (s[i / 8].toNat : Int) / 2 ^ (7 - i % 8)) 1)) = _
  rw [h4.out, and_1, h3.out]; rfl

/-- The number that the bits b, b+1, .. (k of them) make. -/
def kw (s : ByteArray) (b : Nat) : Nat → Nat
  | 0 => 0
  | k + 1 => 2 * kw s b k + bitAt s (b + k)

theorem kw_lt (s : ByteArray) (b : Nat) : ∀ k, kw s b k < 2 ^ k
  | 0 => by simp [kw]
  | k + 1 => by have := kw_lt s b k; have := bitAt_lt s (b + k); simp only [kw, Nat.pow_succ]; omega

theorem kw_small (s : ByteArray) (b k : Nat) (h : k ≤ 32) : kw s b k < 4294967296 :=
  Nat.lt_of_lt_of_le (kw_lt s b k) (Nat.pow_le_pow_right (by decide) h)

/-- KeyWindow. -/
def keyWin (s : ByteArray) (b : Int) : Int := if s.size = 16 ∧ 0 ≤ b ∧ b ≤ 96 then kw s b.toNat 32 else -1

set_option maxRecDepth 100000 in
set_option maxHeartbeats 400000 in
theorem keyWin_impl (s : ByteArray) (b : Int) (hs : s.size ≤ 1048576) (w : World) :
    Calls Try.prog 24 #[.string s, .int .i64 b] w fun e w' => e = .returned (.int .i64 (keyWin s b)) ∧ w = w' := by
  by_cases h16 : s.size = 16
  · by_cases hb : 0 ≤ b ∧ b ≤ 96
    · obtain ⟨hb0, hb1⟩ := hb
      obtain ⟨b, rfl⟩ := Int.eq_ofNat_of_zero_le hb0
      have hi : inB (b : Int) 0 96 = true := by simp [inB]; omega
      have hn : ((s.size : Int) != 16) = false := by rw [h16]; rfl
      have hfin : Hid (keyWin s (b : Int) = (kw s b 32 : Int)) := by unfold Hid keyWin; rw [if_pos ⟨h16, hb0, hb1⟩]; rfl
      have h128 : 128 ≤ 8 * s.size := by omega
      clear h16
      go_enter Try.func24, Try.ntmps24
      go_wp2_with (go_at_call 66; refine (between_any _ _ _ _).mono ?_; rintro e w' ⟨rfl, rfl⟩)
      go_loopg [5, 6] 32 (fun g n i wr => ∃ k : Nat, k ≤ 32 ∧ g = 32 - k ∧ wr = w ∧ i = .int .i64 (((b + k : Nat) : Int)) ∧ n = .int .i64 (kw s b k))
      case atStart => exact ⟨0, by omega, rfl, rfl, rfl, rfl⟩
      case round =>
        obtain ⟨k, hk, rfl, rfl, rfl, rfl⟩ := hrel
        have hlt := kw_small s b k hk
        have hbt := bitAt_lt s (b + k)
        by_cases hk2 : k < 32
        · have hor := or_bit (kw s b k) (bitAt s (b + k)) (by omega) hbt
          have HO : Hid (bits .or .i64 ((2 * kw s b k : Nat) : Int) (bitAt s (b + k) : Int) = (kw s b (k + 1) : Int)) := by rw [hor]; rfl
          clear hor
          go_wp2_with (go_at_call 68; refine (keyBit_impl s _ (by omega) (by omega) (by omega) _).mono ?_; rintro e w' ⟨rfl, rfl⟩)
          go_roundg (32 - (k + 1))
          case measure => omega
          case rel => exact ⟨k + 1, by omega, rfl, rfl, by go_num, by rw [show ((kw s b k : Int) * 2) = ((2 * kw s b k : Nat) : Int) by omega, HO.out]⟩
        · have : k = 32 := by omega
          subst this
          go_wp2
          go_ret
          exact ⟨by rw [hfin.out]; rfl, rfl⟩
    · have hi : inB b 0 96 = false := by simp [inB]; omega
      have hn : ((s.size : Int) != 16) = false := by rw [h16]; rfl
      have hfin : Hid (keyWin s b = -1) := by unfold Hid keyWin; rw [if_neg (fun h => hb h.2)]
      clear h16 hb
      go_enter Try.func24, Try.ntmps24
      go_wp2_with (go_at_call 66; refine (between_any _ _ _ _).mono ?_; rintro e w' ⟨rfl, rfl⟩)
      go_ret
      exact ⟨by rw [hfin.out]; rfl, rfl⟩
  · have hn : ((s.size : Int) != 16) = true := by rw [bne_iff_ne]; omega
    have hfin : Hid (keyWin s b = -1) := by unfold Hid keyWin; rw [if_neg (fun h => h16 h.1)]
    clear h16
    go_enter Try.func24, Try.ntmps24
    go_wp2
    go_ret
    exact ⟨by rw [hfin.out]; rfl, rfl⟩

set_option maxRecDepth 100000 in
set_option maxHeartbeats 400000 in
theorem keyWin_spec (s : ByteArray) (b : Int) (hs : s.size ≤ 1048576) (w : World) :
    Calls Try.prog 23 #[.string s, .int .i64 b] w fun e w' => e = .returned (.int .i64 (keyWin s b)) ∧ w = w' := by
  by_cases h16 : s.size = 16
  · by_cases hb : 0 ≤ b ∧ b ≤ 96
    · obtain ⟨hb0, hb1⟩ := hb
      obtain ⟨b, rfl⟩ := Int.eq_ofNat_of_zero_le hb0
      have hi : inB (b : Int) 0 96 = true := by simp [inB]; omega
      have hn : ((s.size : Int) != 16) = false := by rw [h16]; rfl
      have hfin : Hid (keyWin s (b : Int) = (kw s b 32 : Int)) := by unfold Hid keyWin; rw [if_pos ⟨h16, hb0, hb1⟩]; rfl
      have h128 : 128 ≤ 8 * s.size := by omega
      clear h16
      go_enter Try.func23, Try.ntmps23
      go_wp2_with (go_at_call 65; refine (l01In_any _ _ _ _).mono ?_; rintro e w' ⟨rfl, rfl⟩)
      go_loopg [5, 6] 32 (fun g n i wr => ∃ k : Nat, k ≤ 32 ∧ g = 32 - k ∧ wr = w ∧ i = .int .i64 ((k : Int)) ∧ n = .int .i64 (kw s b k))
      case atStart => exact ⟨0, by omega, rfl, rfl, rfl, rfl⟩
      case round =>
        obtain ⟨k, hk, rfl, rfl, rfl, rfl⟩ := hrel
        have hlt := kw_small s b k hk
        have hbt := bitAt_lt s (b + k)
        by_cases hk2 : k < 32
        · have hor := or_bit (kw s b k) (bitAt s (b + k)) (by omega) hbt
          have HO : Hid (bits .or .i64 ((2 * kw s b k : Nat) : Int) (bitAt s (b + k) : Int) = (kw s b (k + 1) : Int)) := by rw [hor]; rfl
          clear hor
          go_wp2_with (go_at_call 67; refine (keyBit_spec s _ (by omega) (by omega) (by omega) _).mono ?_; rintro e w' ⟨rfl, rfl⟩)
          go_roundg (32 - (k + 1))
          case measure => omega
          case rel => exact ⟨k + 1, by omega, rfl, rfl, by go_num, congrArg (Value.int .i64) (by show _ = ((2 * kw s b k + bitAt s (b + k) : Nat) : Int); omega)⟩
        · have : k = 32 := by omega
          subst this
          go_wp2
          go_ret
          exact ⟨by rw [hfin.out]; rfl, rfl⟩
    · have hi : inB b 0 96 = false := by simp [inB]; omega
      have hn : ((s.size : Int) != 16) = false := by rw [h16]; rfl
      have hfin : Hid (keyWin s b = -1) := by unfold Hid keyWin; rw [if_neg (fun h => hb h.2)]
      clear h16 hb
      go_enter Try.func23, Try.ntmps23
      go_wp2_with (go_at_call 65; refine (l01In_any _ _ _ _).mono ?_; rintro e w' ⟨rfl, rfl⟩)
      go_ret
      exact ⟨by rw [hfin.out]; rfl, rfl⟩
  · have hn : ((s.size : Int) != 16) = true := by rw [bne_iff_ne]; omega
    have hfin : Hid (keyWin s b = -1) := by unfold Hid keyWin; rw [if_neg (fun h => h16 h.1)]
    clear h16
    go_enter Try.func23, Try.ntmps23
    go_wp2
    go_ret
    exact ⟨by rw [hfin.out]; rfl, rfl⟩

end Go.Proofs.Ytlhngkkablhpdaa

/-
  The hash in plain Lean: the hash of a sum, the hash of both directions of a flow under a repeated key.
  Conditions: each states its own.
-/
import Derived.Test.YtlhngkkablhpdaaHashB
import Derived.Test.YtlhngkkablhpdaaBytes
set_option linter.unusedSimpArgs false
set_option linter.unusedVariables false
namespace Go.Proofs.Ytlhngkkablhpdaa
open Go.RowKit

/-! ### the hash of a sum -/
theorem xorL_getD (a b : ByteArray) : ∀ n k, k < n → (xorL a b n).getD k 0 = (a.data.toList.getD k 0) ^^^ (b.data.toList.getD k 0)
  | 0, k, h => by omega
  | n + 1, k, h => by
    unfold xorL
    rw [List.getD_eq_getElem?_getD]
    rcases Nat.lt_or_ge k n with h1 | h1
    · rw [List.getElem?_append_left (by rw [xorL_length]; exact h1), ← List.getD_eq_getElem?_getD]
      exact xorL_getD a b n k h1
    · have e : k = n := by omega
      subst e
      rw [List.getElem?_append_right (by rw [xorL_length]; exact Nat.le_refl _), xorL_length, Nat.sub_self]
      rfl
theorem bit_xor (x y j : Nat) : (x ^^^ y) / 2 ^ j % 2 = (x / 2 ^ j % 2 + y / 2 ^ j % 2) % 2 := by
  have h := Nat.testBit_xor x y j
  rw [Nat.testBit_eq_decide_div_mod_eq, Nat.testBit_eq_decide_div_mod_eq, Nat.testBit_eq_decide_div_mod_eq] at h
  have h1 := Nat.mod_two_eq_zero_or_one ((x ^^^ y) / 2 ^ j)
  have h2 := Nat.mod_two_eq_zero_or_one (x / 2 ^ j)
  have h3 := Nat.mod_two_eq_zero_or_one (y / 2 ^ j)
  rcases h1 with h1 | h1 <;> rcases h2 with h2 | h2 <;> rcases h3 with h3 | h3 <;> rw [h1, h2, h3] at h ⊢ <;> simp at h ⊢
theorem bitAt_xor (a b : ByteArray) (h : a.size = b.size) (i : Nat) (hi : i < 8 * a.size) : bitAt (xorB a b) i = (bitAt a i + bitAt b i) % 2 := by
  unfold bitAt xorB
  rw [if_pos h]
  have e : (ByteArray.mk (xorL a b a.size).toArray).data.toList = xorL a b a.size := by simp
  rw [e, xorL_getD a b a.size (i / 8) (by omega), UInt8.toNat_xor, bit_xor]
theorem xorB_size (a b : ByteArray) (h : a.size = b.size) : (xorB a b).size = a.size := by
  unfold xorB
  rw [if_pos h]
  show (xorL a b a.size).toArray.size = a.size
  simp [xorL_length]
theorem hb_xor (key a b c : ByteArray) : ∀ n, (∀ i, i < n → bitAt c i = (bitAt a i + bitAt b i) % 2) → hb key c n = hb key a n ^^^ hb key b n
  | 0, _ => by simp [hb]
  | n + 1, h => by
    have ih := hb_xor key a b c n fun i hi => h i (by omega)
    have hn := h n (by omega)
    have ha := bitAt_lt a n
    have hb' := bitAt_lt b n
    unfold hb
    rw [hn, ih]
    rcases (show bitAt a n = 0 ∨ bitAt a n = 1 by omega) with e1 | e1 <;> rcases (show bitAt b n = 0 ∨ bitAt b n = 1 by omega) with e2 | e2 <;> rw [e1, e2] <;> simp
    · rw [Nat.xor_assoc]
    · rw [Nat.xor_assoc, Nat.xor_assoc, Nat.xor_comm (kw key n 32)]
    · rw [Nat.xor_assoc, Nat.xor_comm (kw key n 32), Nat.xor_assoc, Nat.xor_self, Nat.xor_zero]

/-! ### both directions of a flow -/
def hbo (key s : ByteArray) (off : Nat) : Nat → Nat
  | 0 => 0
  | k + 1 => if bitAt s k = 1 then hbo key s off k ^^^ kw key (off + k) 32 else hbo key s off k
theorem hb_hbo (key s : ByteArray) : ∀ n, hb key s n = hbo key s 0 n
  | 0 => rfl
  | n + 1 => by unfold hb hbo; rw [hb_hbo key s n, Nat.zero_add]
theorem hbo_congr {key s t : ByteArray} {off : Nat} : ∀ n, (∀ i, i < n → bitAt s i = bitAt t i) → hbo key s off n = hbo key t off n
  | 0, _ => rfl
  | n + 1, h => by
    unfold hbo
    rw [h n (by omega), hbo_congr n fun i hi => h i (by omega)]
theorem app_getD (a b : ByteArray) (k : Nat) : (a ++ b).data.toList.getD k 0 = if k < a.size then a.data.toList.getD k 0 else b.data.toList.getD (k - a.size) 0 := by
  have e : (a ++ b).data.toList = a.data.toList ++ b.data.toList := by simp
  have hl : a.data.toList.length = a.size := by simp
  rw [e, List.getD_eq_getElem?_getD]
  split
  · rename_i h
    rw [List.getElem?_append_left (by omega), ← List.getD_eq_getElem?_getD]
  · rename_i h
    rw [List.getElem?_append_right (by omega), hl, ← List.getD_eq_getElem?_getD]
theorem bitAt_left (a b : ByteArray) {i : Nat} (h : i < 8 * a.size) : bitAt (a ++ b) i = bitAt a i := by
  unfold bitAt; rw [app_getD, if_pos (by omega)]
theorem bitAt_right (a b : ByteArray) (i : Nat) : bitAt (a ++ b) (8 * a.size + i) = bitAt b i := by
  unfold bitAt; rw [app_getD, if_neg (by omega)]
  rw [show (8 * a.size + i) / 8 - a.size = i / 8 by omega, show (8 * a.size + i) % 8 = i % 8 by omega]
theorem hbo_app (key a b : ByteArray) (off : Nat) : ∀ m, hbo key (a ++ b) off (8 * a.size + m) = hbo key a off (8 * a.size) ^^^ hbo key b (off + 8 * a.size) m
  | 0 => by
    rw [Nat.add_zero, hbo_congr (8 * a.size) (fun i hi => bitAt_left a b hi)]
    simp [hbo]
  | m + 1 => by
    have u1 : ∀ (t : ByteArray) (o n : Nat), hbo key t o (n + 1) = if bitAt t n = 1 then hbo key t o n ^^^ kw key (o + n) 32 else hbo key t o n := fun t o n => rfl
    rw [← Nat.add_assoc, u1, u1, bitAt_right, hbo_app key a b off m, ← Nat.add_assoc]
    split
    · rw [Nat.xor_assoc]
    · rfl
theorem hbo_shift {key s : ByteArray} {off d : Nat} : ∀ n, (∀ i, i < n → kw key (off + d + i) 32 = kw key (off + i) 32) → hbo key s (off + d) n = hbo key s off n
  | 0, _ => rfl
  | n + 1, h => by
    unfold hbo
    rw [hbo_shift n fun i hi => h i (by omega), h n (by omega)]
theorem kw_shift {key : ByteArray} {b d : Nat} : ∀ n, (∀ i, i < n → bitAt key (b + d + i) = bitAt key (b + i)) → kw key (b + d) n = kw key b n
  | 0, _ => rfl
  | n + 1, h => by
    unfold kw
    rw [kw_shift n fun i hi => h i (by omega), h n (by omega)]
/-- A key whose bytes repeat every two. -/
def Per (key : ByteArray) : Prop := ∀ i, i < 112 → bitAt key (i + 16) = bitAt key i
theorem kw_per {key : ByteArray} (h : Per key) {b : Nat} (hb : b ≤ 80) : kw key (b + 16) 32 = kw key b 32 :=
  kw_shift 32 fun i hi => by
    have := h (b + i) (by omega)
    rwa [show b + i + 16 = b + 16 + i by omega] at this
theorem kw_per2 {key : ByteArray} (h : Per key) {b : Nat} (hb : b ≤ 64) : kw key (b + 32) 32 = kw key b 32 := by
  rw [show b + 32 = b + 16 + 16 by omega, kw_per h (by omega), kw_per h (by omega)]
theorem hb_four {key s d p q : ByteArray} (h1 : s.size = 4) (h2 : d.size = 4) (h3 : p.size = 2) : hb key (s ++ d ++ p ++ q) 96 = ((hbo key s 0 32 ^^^ hbo key d 32 32) ^^^ hbo key p 64 16) ^^^ hbo key q 80 16 := by
  have e1 := hbo_app key (s ++ d ++ p) q 0 16
  have e2 := hbo_app key (s ++ d) p 0 16
  have e3 := hbo_app key s d 0 32
  simp only [ByteArray.size_append, h1, h2, h3] at e1 e2 e3
  rw [hb_hbo, e1, e2, e3]
theorem hb_sym {key s d p q : ByteArray} (hk : Per key) (h1 : s.size = 4) (h2 : d.size = 4) (h3 : p.size = 2) (h4 : q.size = 2) : hb key (s ++ d ++ p ++ q) 96 = hb key (d ++ s ++ q ++ p) 96 := by
  rw [hb_four h1 h2 h3, hb_four h2 h1 h4]
  have a1 : hbo key d 32 32 = hbo key d 0 32 := by
    have := hbo_shift (key := key) (s := d) (off := 0) (d := 32) 32 fun i hi => by rw [show 0 + 32 + i = i + 32 by omega, kw_per2 hk (by omega), Nat.zero_add]
    simpa using this
  have a2 : hbo key s 32 32 = hbo key s 0 32 := by
    have := hbo_shift (key := key) (s := s) (off := 0) (d := 32) 32 fun i hi => by rw [show 0 + 32 + i = i + 32 by omega, kw_per2 hk (by omega), Nat.zero_add]
    simpa using this
  have a3 : hbo key q 80 16 = hbo key q 64 16 := hbo_shift (off := 64) (d := 16) 16 fun i hi => by rw [show 64 + 16 + i = (64 + i) + 16 by omega, kw_per hk (by omega)]
  have a4 : hbo key p 80 16 = hbo key p 64 16 := hbo_shift (off := 64) (d := 16) 16 fun i hi => by rw [show 64 + 16 + i = (64 + i) + 16 by omega, kw_per hk (by omega)]
  rw [a1, a2, a3, a4, Nat.xor_comm (hbo key s 0 32), Nat.xor_assoc _ (hbo key p 64 16), Nat.xor_comm (hbo key p 64 16), ← Nat.xor_assoc]

/-! ### the key that repeats, the words of a flow -/
theorem repL_getD (a b : Int) : ∀ n k, k < 2 * n → (repL a b n).getD k 0 = if k % 2 = 0 then UInt8.ofNat a.toNat else UInt8.ofNat b.toNat
  | 0, k, h => by omega
  | n + 1, k, h => by
    unfold repL
    rw [List.getD_eq_getElem?_getD]
    rcases Nat.lt_or_ge k (2 * n) with h1 | h1
    · rw [List.getElem?_append_left (by rw [repL_length]; exact h1), ← List.getD_eq_getElem?_getD]
      exact repL_getD a b n k h1
    · rw [List.getElem?_append_right (by rw [repL_length]; exact h1), repL_length]
      rcases (show k = 2 * n ∨ k = 2 * n + 1 by omega) with e | e
      · subst e
        rw [if_pos (by omega), Nat.sub_self]; rfl
      · subst e
        rw [if_neg (by omega), show 2 * n + 1 - 2 * n = 1 by omega]; rfl
theorem per_rep {a b : Int} (ha : 0 ≤ a ∧ a ≤ 255) (hb : 0 ≤ b ∧ b ≤ 255) : Per (repKey a b) ∧ (repKey a b).size = 16 := by
  unfold repKey
  rw [if_pos ⟨ha, hb⟩]
  have e : (ByteArray.mk (repL a b 8).toArray).data.toList = repL a b 8 := by simp
  refine ⟨fun i hi => ?_, ?_⟩
  · unfold bitAt
    rw [e, repL_getD a b 8 _ (by omega), repL_getD a b 8 _ (by omega), show (i + 16) / 8 % 2 = i / 8 % 2 by omega, show (i + 16) % 8 = i % 8 by omega]
  · show (repL a b 8).toArray.size = 16
    simp [repL_length]
theorem word32_4 {v : Int} (h : 0 ≤ v ∧ v ≤ 4294967295) : (word32 v).size = 4 := by unfold word32; rw [if_pos h]; rfl
theorem word16_2 {v : Int} (h : 0 ≤ v ∧ v ≤ 65535) : (word16 v).size = 2 := by unfold word16; rw [if_pos h]; rfl
/-- The fields are in their ranges. -/
def Fl.rng (f : Fl) : Prop := (0 ≤ f.s ∧ f.s ≤ 4294967295) ∧ (0 ≤ f.d ∧ f.d ≤ 4294967295) ∧ (0 ≤ f.p ∧ f.p ≤ 65535) ∧ (0 ≤ f.q ∧ f.q ≤ 65535)
theorem hashIn_12 {f : Fl} (h : f.rng) : (hashIn f).size = 12 := by
  obtain ⟨h1, h2, h3, h4⟩ := h
  unfold hashIn
  simp only [ByteArray.size_append, word32_4 h1, word32_4 h2, word16_2 h3, word16_2 h4]
theorem hashB_eq {key s : ByteArray} (hk : key.size = 16) (hs : s.size = 12) : hashB key s = (hb key s 96 : Int) := by
  unfold hashB
  rw [if_pos ⟨hk, by omega⟩, hs]
def Fl.rev (f : Fl) : Fl := ⟨f.k, f.d, f.s, f.q, f.p⟩
theorem hash_sym {key : ByteArray} {f : Fl} (hk : Per key) (hk16 : key.size = 16) (h : f.rng) : hashF key f.rev = hashF key f := by
  have hr : f.rev.rng := ⟨h.2.1, h.1, h.2.2.2, h.2.2.1⟩
  unfold hashF
  rw [hashB_eq hk16 (hashIn_12 hr), hashB_eq hk16 (hashIn_12 h)]
  obtain ⟨h1, h2, h3, h4⟩ := h
  unfold hashIn Fl.rev
  rw [hb_sym hk (word32_4 h2) (word32_4 h1) (word16_2 h4) (word16_2 h3)]
theorem hash_lin {key a b : ByteArray} (hk : key.size = 16) (ha : a.size = 12) (hb' : b.size = 12) : hashB key (xorB a b) = ((hb key a 96 ^^^ hb key b 96 : Nat) : Int) := by
  have hs := xorB_size a b (by omega)
  rw [hashB_eq hk (by omega), hb_xor key a b (xorB a b) 96 fun i hi => bitAt_xor a b (by omega) i (by omega)]
end Go.Proofs.Ytlhngkkablhpdaa

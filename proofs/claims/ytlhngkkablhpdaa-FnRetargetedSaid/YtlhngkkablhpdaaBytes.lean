/-
  Strings built byte by byte: XorBytes and RepeatedKey of both programs.
  Conditions: the strings are at most 2^20 bytes long.
-/
import Derived.Test.YtlhngkkablhpdaaMem
import Derived.Deep.RegionLaw
import Derived.Test.YtlhngkkablhpdaaWords
set_option linter.unusedSimpArgs false
set_option linter.unusedVariables false
namespace Go.Proofs.Ytlhngkkablhpdaa
open Go.RowKit

theorem el_byte : El Try.prog 55 5 1 1 := by
  obtain ⟨i, hi, hz0, hz1, hz2⟩ := info_parts (P := Try.prog) (e := 5) (z := .int .u8 0) (size := 1) (bytes := 1) (by kernel_rfl)
  exact ⟨Try.underlying55, ⟨i, _, hi, hz0, hz1, hz2, rfl⟩, by decide⟩

theorem u8_xor (a b : UInt8) : bits .xor .u8 (a.toNat : Int) (b.toNat : Int) = ((a ^^^ b).toNat : Int) := by
  have ha := a.toNat_lt
  have hb := b.toNat_lt
  have hx : a.toNat ^^^ b.toNat < 2 ^ 8 := Nat.xor_lt_two_pow (by omega) (by omega)
  have e1 : (BitVec.ofInt 8 (a.toNat : Int)).toNat = a.toNat := by rw [BitVec.ofInt_natCast, BitVec.toNat_ofNat]; exact Nat.mod_eq_of_lt (by omega)
  have e2 : (BitVec.ofInt 8 (b.toNat : Int)).toNat = b.toNat := by rw [BitVec.ofInt_natCast, BitVec.toNat_ofNat]; exact Nat.mod_eq_of_lt (by omega)
  show IntKind.u8.wrap ((BitVec.ofInt 8 (a.toNat : Int) ^^^ BitVec.ofInt 8 (b.toNat : Int)).toNat : Int) = _
  rw [BitVec.toNat_xor, e1, e2, IntKind.wrap_u8, UInt8.toNat_xor]
  omega

/-- The first k bytes of two strings, joined by exclusive or. -/
def xorL (a b : ByteArray) : Nat → List UInt8
  | 0 => []
  | k + 1 => xorL a b k ++ [(a.data.toList.getD k 0) ^^^ (b.data.toList.getD k 0)]

theorem xorL_length (a b : ByteArray) : ∀ k, (xorL a b k).length = k
  | 0 => rfl
  | k + 1 => by simp [xorL, xorL_length a b k]

theorem byte_getD (a : ByteArray) (k : Nat) (h : k < a.size) : a.data.toList.getD k 0 = a[k] := by
  have h' : k < a.data.toList.length := by simpa using h
  rw [List.getD_eq_getElem?_getD, List.getElem?_eq_getElem h']
  rfl

/-- Halfway: the bytes that are done, then the old ones. -/
def xorMid (a b : ByteArray) (k : Nat) : List UInt8 := xorL a b k ++ a.data.toList.drop k

theorem xorMid_length (a b : ByteArray) (k : Nat) (h : k ≤ a.size) : (xorMid a b k).length = a.size := by
  simp [xorMid, xorL_length]; omega

theorem xorMid_at (a b : ByteArray) (k : Nat) (h : k < a.size) : (xorMid a b k)[k]'(by rw [xorMid_length a b k (by omega)]; exact h) = a[k] := by
  simp only [xorMid]
  rw [List.getElem_append_right (by rw [xorL_length]; exact Nat.le_refl _)]
  simp [xorL_length]
  rfl

theorem xorMid_set (a b : ByteArray) (k : Nat) (h : k < a.size) (h2 : k < b.size) : (xorMid a b k).set k (a[k] ^^^ b[k]) = xorMid a b (k + 1) := by
  simp only [xorMid]
  have hd : a.data.toList.drop k = a[k] :: a.data.toList.drop (k + 1) := by
    have h' : k < a.data.toList.length := by simpa using h
    rw [List.drop_eq_getElem_cons h']
    rfl
  rw [hd]
  simp only [xorL, byte_getD a k h, byte_getD b k h2]
  rw [List.set_append_right _ _ (by rw [xorL_length]; exact Nat.le_refl _), xorL_length, Nat.sub_self]
  simp

theorem xorMid_done (a b : ByteArray) : xorMid a b a.size = xorL a b a.size := by
  simp [xorMid]

/-- XorBytes. -/
def xorB (a b : ByteArray) : ByteArray := if a.size = b.size then ⟨(xorL a b a.size).toArray⟩ else ⟨#[]⟩

theorem bv_set (l : List UInt8) (k : Nat) (x : UInt8) : (bv l).set k (.int .u8 (x.toNat : Int)) = bv (l.set k x) := by
  simp [bv, List.map_set]

set_option maxRecDepth 100000 in
set_option maxHeartbeats 400000 in
theorem xorB_impl (a b : ByteArray) (ha : a.size ≤ 1048576) (hb : b.size ≤ 1048576) (w : World) :
    Calls Try.prog 20 #[.string a, .string b] w fun e w' => e = .returned (.string (xorB a b)) ∧ Below w.heap.size w w' := by
  by_cases h : a.size = b.size
  · have hne : ((a.size : Int) != b.size) = false := by simp [h]
    have hc := run_bytes_of_string (P := Try.prog)
    have HX : Hid (xorB a b = ⟨(xorL a b a.size).toArray⟩) := by unfold Hid xorB; rw [if_pos h]
    have hle : a.size ≤ b.size := by omega
    clear h
    go_enter Try.func20, Try.ntmps20
    go_wp2
    go_loopg [16] a.size (fun g i wr => ∃ k : Nat, k ≤ a.size ∧ g = a.size - k ∧ i = .int .i64 (k : Int) ∧ Below w.heap.size w wr ∧ Row wr w.heap.size (bv (xorMid a b k)))
    case atStart =>
      refine ⟨0, by omega, rfl, rfl, Below.dr (Below.al (Below.refl _ _) _), ?_⟩
      have := Row.of_string w a (grownCap w a.size 0 5) 5
      simpa [xorMid, xorL] using this
    case round =>
      obtain ⟨k, hk, rfl, rfl, hbel, hrow⟩ := hrel
      by_cases hk2 : k < a.size
      · have hk3 : k < b.size := by omega
        have hlen := xorMid_length a b k hk
        have hc1 : wr.cell? ⟨w.heap.size, k, none⟩ = some (.int .u8 (a[k].toNat)) := by
          rw [hrow.byte k (by omega), xorMid_at a b k hk2]
        have hf1 : wr.frozen? ⟨w.heap.size, k, none⟩ = false := hrow.free k (by rw [bv_length]; omega)
        have hs := Lib.hid (hrow.set k (by rw [bv_length]; omega) (.int .u8 ((a[k] ^^^ b[k]).toNat : Int)))
        have hx := u8_xor a[k] b[k]
        have hset := Lib.hid (xorMid_set a b k hk2 hk3)
        clear hlen
        go_wp2
        go_region
        go_wp2
        go_roundg (a.size - (k + 1))
        case measure => omega
        case rel =>
          refine ⟨k + 1, by omega, rfl, by go_num, ?_, ?_⟩
          · exact Below.dr (Below.st hbel (by simp) _)
          · have := hs.out
            rw [bv_set, hset.out] at this
            exact this
      · have hke : k = a.size := by omega
        subst hke
        have hstr : ∀ c, (convert 55 9 (.slice (some ⟨w.heap.size, 0, none⟩) a.size c)).run Try.prog wr = .ok (.string ⟨(xorL a b a.size).toArray⟩) wr := fun c =>
          run_str wr _ _ 5 Try.underlying55 Try.underlying5 Try.underlying9 w.heap.size c a.size _ (by simp [xorL_length]) (by have := hrow.bts; rwa [xorMid_done] at this)
        go_wp2
        go_ret
        exact ⟨by rw [HX.out]; rfl, hbel⟩
  · have hne : ((a.size : Int) != b.size) = true := by simp; omega
    have HX : Hid (xorB a b = ⟨#[]⟩) := by unfold Hid xorB; rw [if_neg h]
    clear h
    go_enter Try.func20, Try.ntmps20
    go_wp2
    go_ret
    exact ⟨by rw [HX.out]; rfl, by ((repeat (with_reducible first | exact Below.refl _ _ | apply Below.al | apply Below.dr | (refine Below.tr ?_ (by assumption)) | (refine Below.marked (by assumption) ?_ ?_) | (refine Below.st ?_ ?_ _))); all_goals (first | omega | (simp; done) | (simp; omega)))⟩

set_option maxRecDepth 100000 in
set_option maxHeartbeats 400000 in
theorem xorB_spec (a b : ByteArray) (ha : a.size ≤ 1048576) (hb : b.size ≤ 1048576) (w : World) :
    Calls Try.prog 19 #[.string a, .string b] w fun e w' => e = .returned (.string (xorB a b)) ∧ Below w.heap.size w w' := by
  by_cases h : a.size = b.size
  · have hne : ((a.size : Int) != b.size) = false := by simp [h]
    have HX : Hid (xorB a b = ⟨(xorL a b a.size).toArray⟩) := by unfold Hid xorB; rw [if_pos h]
    have hle : a.size ≤ b.size := by omega
    clear h
    go_enter Try.func19, Try.ntmps19
    go_wp2
    go_loopg [5, 6] a.size (fun gh v i wr => ∃ k g cap : Nat, k ≤ a.size ∧ gh = a.size - k ∧ i = .int .i64 (k : Int) ∧ v = .slice (some ⟨g, 0, none⟩) k cap ∧ Below w.heap.size w wr ∧ Own wr w.heap.size 5 1 g k cap (bv (xorL a b k)))
    case atStart =>
      exact ⟨0, w.heap.size, 0, by omega, rfl, rfl, rfl, Below.al (Below.refl _ _) _, Own.empty w _ _⟩
    case round =>
      obtain ⟨k, g, cap, hk, rfl, rfl, rfl, hbel, hown⟩ := hrel
      by_cases hk2 : k < a.size
      · have hk3 : k < b.size := by omega
        have hx := u8_xor a[k] b[k]
        have hL : Hid (bv (xorL a b k) ++ [.int .u8 ((a[k] ^^^ b[k]).toNat : Int)] = bv (xorL a b (k + 1))) := by unfold Hid; rw [xorL, byte_getD a k hk2, byte_getD b k hk3]; simp [bv]
        have hsz := hbel.size
        have hg := hown.lt
        have hi1 : (0 : Int) ≤ k := by omega
        have hi2 : (k : Int) < a.size := by omega
        have hi3 : (k : Int) < b.size := by omega
        go_wp2
        go_region_held3 (fun _ => True) (trivial) ((refine step_app el_byte rfl _ _ rfl w.heap.size g k cap _ rfl (Own.alloc (Own.drew hown) _) _ 0 _ _ [.int .u8 ((a[k] ^^^ b[k]).toNat : Int)] rfl rfl (news_new _ _ _) (by simp [Value.oneCell']) (by decide) (by omega) (by simp; omega) ?_; intro g' cap' w1 hgr))
        all_goals go_wp2
        all_goals
          go_roundg (a.size - (k + 1))
          case measure => omega
          case rel =>
            exact ⟨k + 1, g', cap', by omega, rfl, by go_num, rfl, hgr.below (Below.al (Below.dr hbel) _) hg.1, by rw [← hL.out]; exact hgr.own⟩
      · have hke : k = a.size := by omega
        subst hke
        have hstr : ∀ c, (convert 55 9 (.slice (some ⟨g, 0, none⟩) a.size c)).run Try.prog wr = .ok (.string ⟨(xorL a b a.size).toArray⟩) wr := fun c =>
          run_str wr _ _ 5 Try.underlying55 Try.underlying5 Try.underlying9 g c a.size _ (by simp [xorL_length]) hown.row.bts
        go_wp2
        go_ret
        exact ⟨by rw [HX.out]; rfl, hbel⟩
  · have hne : ((a.size : Int) != b.size) = true := by simp; omega
    have HX : Hid (xorB a b = ⟨#[]⟩) := by unfold Hid xorB; rw [if_neg h]
    clear h
    go_enter Try.func19, Try.ntmps19
    go_wp2
    go_ret
    exact ⟨by rw [HX.out]; rfl, by ((repeat (with_reducible first | exact Below.refl _ _ | apply Below.al | apply Below.dr | (refine Below.tr ?_ (by assumption)) | (refine Below.marked (by assumption) ?_ ?_) | (refine Below.st ?_ ?_ _))); all_goals (first | omega | (simp; done) | (simp; omega)))⟩

/-- The two bytes, k times. -/
def repL (a b : Int) : Nat → List UInt8
  | 0 => []
  | k + 1 => repL a b k ++ [UInt8.ofNat a.toNat, UInt8.ofNat b.toNat]

theorem repL_length (a b : Int) : ∀ k, (repL a b k).length = 2 * k
  | 0 => rfl
  | k + 1 => by simp [repL, repL_length a b k]; omega

/-- RepeatedKey. -/
def repKey (a b : Int) : ByteArray := if (0 ≤ a ∧ a ≤ 255) ∧ 0 ≤ b ∧ b ≤ 255 then ⟨(repL a b 8).toArray⟩ else ⟨#[]⟩

set_option maxRecDepth 100000 in
set_option maxHeartbeats 400000 in
theorem repKey_impl (a b : Int) (w : World) :
    Calls Try.prog 22 #[.int .i64 a, .int .i64 b] w fun e w' => e = .returned (.string (repKey a b)) ∧ Below w.heap.size w w' := by
  by_cases h : (0 ≤ a ∧ a ≤ 255) ∧ 0 ≤ b ∧ b ≤ 255
  · have HX : Hid (repKey a b = ⟨(repL a b 8).toArray⟩) := by unfold Hid repKey; rw [if_pos h]
    have h1 : inB a 0 255 = true := by simp [inB]; omega
    have h2 : inB b 0 255 = true := by simp [inB]; omega
    obtain ⟨⟨ha0, ha1⟩, hb0, hb1⟩ := h
    go_enter Try.func22, Try.ntmps22
    go_wp2_with (go_at_call 66; refine (between_any _ _ _ _).mono ?_; rintro e w' ⟨rfl, rfl⟩)
    go_loopg [5, 6] 8 (fun gh v i wr => ∃ k g cap : Nat, k ≤ 8 ∧ gh = 8 - k ∧ i = .int .i64 (k : Int) ∧ v = .slice (some ⟨g, 0, none⟩) (2 * k) cap ∧ Below w.heap.size w wr ∧ Own wr w.heap.size 5 1 g (2 * k) cap (bv (repL a b k)))
    case atStart => exact ⟨0, w.heap.size, 0, by omega, rfl, rfl, rfl, Below.al (Below.refl _ _) _, Own.empty w _ _⟩
    case round =>
      obtain ⟨k, g, cap, hk, rfl, rfl, rfl, hbel, hown⟩ := hrel
      by_cases hk2 : k < 8
      · have hL : Hid (bv (repL a b k) ++ [.int .u8 a, .int .u8 b] = bv (repL a b (k + 1))) := by
          unfold Hid; rw [repL]; simp [bv]; omega
        have hsz := hbel.size
        have hg := hown.lt
        go_wp2_with (at_builtin; refine wpList_app el_byte rfl _ _ rfl w.heap.size g (2 * k) cap _ rfl (Own.alloc hown _) _ 0 2 _ [.int .u8 a, .int .u8 b] rfl rfl (news_new _ _ _) (by simp [Value.oneCell']) (by decide) (by omega) (by simp; omega) ?_; intro g' cap' w1 hgr)
        go_roundg (8 - (k + 1))
        case measure => omega
        case rel => exact ⟨k + 1, g', cap', by omega, rfl, by go_num, rfl, hgr.below (Below.al hbel _) hg.1, by rw [← hL.out]; exact hgr.own⟩
      · have hke : k = 8 := by omega
        subst hke
        have hstr : ∀ c, (convert 55 9 (.slice (some ⟨g, 0, none⟩) 16 c)).run Try.prog wr = .ok (.string ⟨(repL a b 8).toArray⟩) wr := fun c =>
          run_str wr _ _ 5 Try.underlying55 Try.underlying5 Try.underlying9 g c 16 _ (by rw [repL_length]) hown.row.bts
        go_wp2
        go_ret
        exact ⟨by rw [HX.out]; rfl, hbel⟩
  · have HX : Hid (repKey a b = ⟨#[]⟩) := by unfold Hid repKey; rw [if_neg h]
    by_cases ha : 0 ≤ a ∧ a ≤ 255
    · have h1 : inB a 0 255 = true := by simp [inB]; omega
      have h2 : inB b 0 255 = false := by simp [inB]; omega
      clear h ha
      go_enter Try.func22, Try.ntmps22
      go_wp2_with (go_at_call 66; refine (between_any _ _ _ _).mono ?_; rintro e w' ⟨rfl, rfl⟩)
      go_ret
      exact ⟨by rw [HX.out]; rfl, by ((repeat (with_reducible first | exact Below.refl _ _ | apply Below.al | apply Below.dr | (refine Below.tr ?_ (by assumption)) | (refine Below.marked (by assumption) ?_ ?_) | (refine Below.st ?_ ?_ _))); all_goals (first | omega | (simp; done) | (simp; omega)))⟩
    · have h1 : inB a 0 255 = false := by simp [inB]; omega
      clear h ha
      go_enter Try.func22, Try.ntmps22
      go_wp2_with (go_at_call 66; refine (between_any _ _ _ _).mono ?_; rintro e w' ⟨rfl, rfl⟩)
      go_ret
      exact ⟨by rw [HX.out]; rfl, by ((repeat (with_reducible first | exact Below.refl _ _ | apply Below.al | apply Below.dr | (refine Below.tr ?_ (by assumption)) | (refine Below.marked (by assumption) ?_ ?_) | (refine Below.st ?_ ?_ _))); all_goals (first | omega | (simp; done) | (simp; omega)))⟩

set_option maxRecDepth 100000 in
set_option maxHeartbeats 400000 in
theorem repKey_spec (a b : Int) (w : World) :
    Calls Try.prog 21 #[.int .i64 a, .int .i64 b] w fun e w' => e = .returned (.string (repKey a b)) ∧ Below w.heap.size w w' := by
  by_cases h : (0 ≤ a ∧ a ≤ 255) ∧ 0 ≤ b ∧ b ≤ 255
  · have HX : Hid (repKey a b = ⟨(repL a b 8).toArray⟩) := by unfold Hid repKey; rw [if_pos h]
    have h1 : inB a 0 255 = true := by simp [inB]; omega
    have h2 : inB b 0 255 = true := by simp [inB]; omega
    obtain ⟨⟨ha0, ha1⟩, hb0, hb1⟩ := h
    go_enter Try.func21, Try.ntmps21
    go_wp2_with (go_at_call 65; refine (l01In_any _ _ _ _).mono ?_; rintro e w' ⟨rfl, rfl⟩)
    go_loopg [5, 6] 8 (fun gh v i wr => ∃ k g cap : Nat, k ≤ 8 ∧ gh = 8 - k ∧ i = .int .i64 (k : Int) ∧ v = .slice (some ⟨g, 0, none⟩) (2 * k) cap ∧ Below w.heap.size w wr ∧ Own wr w.heap.size 5 1 g (2 * k) cap (bv (repL a b k)))
    case atStart => exact ⟨0, w.heap.size, 0, by omega, rfl, rfl, rfl, Below.al (Below.refl _ _) _, Own.empty w _ _⟩
    case round =>
      obtain ⟨k, g, cap, hk, rfl, rfl, rfl, hbel, hown⟩ := hrel
      by_cases hk2 : k < 8
      · have hL : Hid (bv (repL a b k) ++ [.int .u8 a, .int .u8 b] = bv (repL a b (k + 1))) := by
          unfold Hid; rw [repL]; simp [bv]; omega
        have hsz := hbel.size
        have hg := hown.lt
        go_wp2_with (at_builtin; refine wpList_app el_byte rfl _ _ rfl w.heap.size g (2 * k) cap _ rfl (Own.alloc hown _) _ 0 2 _ [.int .u8 a, .int .u8 b] rfl rfl (news_new _ _ _) (by simp [Value.oneCell']) (by decide) (by omega) (by simp; omega) ?_; intro g' cap' w1 hgr)
        go_roundg (8 - (k + 1))
        case measure => omega
        case rel => exact ⟨k + 1, g', cap', by omega, rfl, by go_num, rfl, hgr.below (Below.al hbel _) hg.1, by rw [← hL.out]; exact hgr.own⟩
      · have hke : k = 8 := by omega
        subst hke
        have hstr : ∀ c, (convert 55 9 (.slice (some ⟨g, 0, none⟩) 16 c)).run Try.prog wr = .ok (.string ⟨(repL a b 8).toArray⟩) wr := fun c =>
          run_str wr _ _ 5 Try.underlying55 Try.underlying5 Try.underlying9 g c 16 _ (by rw [repL_length]) hown.row.bts
        go_wp2
        go_ret
        exact ⟨by rw [HX.out]; rfl, hbel⟩
  · have HX : Hid (repKey a b = ⟨#[]⟩) := by unfold Hid repKey; rw [if_neg h]
    by_cases ha : 0 ≤ a ∧ a ≤ 255
    · have h1 : inB a 0 255 = true := by simp [inB]; omega
      have h2 : inB b 0 255 = false := by simp [inB]; omega
      clear h ha
      go_enter Try.func21, Try.ntmps21
      go_wp2_with (go_at_call 65; refine (l01In_any _ _ _ _).mono ?_; rintro e w' ⟨rfl, rfl⟩)
      go_ret
      exact ⟨by rw [HX.out]; rfl, by ((repeat (with_reducible first | exact Below.refl _ _ | apply Below.al | apply Below.dr | (refine Below.tr ?_ (by assumption)) | (refine Below.marked (by assumption) ?_ ?_) | (refine Below.st ?_ ?_ _))); all_goals (first | omega | (simp; done) | (simp; omega)))⟩
    · have h1 : inB a 0 255 = false := by simp [inB]; omega
      clear h ha
      go_enter Try.func21, Try.ntmps21
      go_wp2_with (go_at_call 65; refine (l01In_any _ _ _ _).mono ?_; rintro e w' ⟨rfl, rfl⟩)
      go_ret
      exact ⟨by rw [HX.out]; rfl, by ((repeat (with_reducible first | exact Below.refl _ _ | apply Below.al | apply Below.dr | (refine Below.tr ?_ (by assumption)) | (refine Below.marked (by assumption) ?_ ?_) | (refine Below.st ?_ ?_ _))); all_goals (first | omega | (simp; done) | (simp; omega)))⟩

end Go.Proofs.Ytlhngkkablhpdaa

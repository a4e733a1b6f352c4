/-
  Tables of queues: whether a size is allowed, the even table.
  Conditions: the sizes fit 64 bits.
-/
import Derived.Test.YtlhngkkablhpdaaInts
import Derived.Test.YtlhngkkablhpdaaWords
set_option linter.unusedSimpArgs false
set_option linter.unusedVariables false
namespace Go.Proofs.Ytlhngkkablhpdaa
open Go.RowKit

def okSize (n : Int) : Bool := n == 1 || n == 2 || n == 4 || n == 8 || n == 16

theorem okSize_le {n : Int} (h : okSize n = true) : 1 ≤ n ∧ n ≤ 16 := by
  simp [okSize] at h; omega

set_option maxRecDepth 100000 in
set_option maxHeartbeats 400000 in
theorem okSize_impl (n : Int) (w : World) : Calls Try.prog 73 #[.int .i64 n] w fun e w' => e = .returned (.bool (okSize n)) ∧ w = w' := by
  by_cases h1 : n = 1
  · subst h1
    go_enter Try.func73, Try.ntmps73
    go_wp2
    go_ret
    exact ⟨rfl, rfl⟩
  by_cases h2 : n = 2
  · subst h2
    go_enter Try.func73, Try.ntmps73
    go_wp2
    go_ret
    exact ⟨rfl, rfl⟩
  by_cases h4 : n = 4
  · subst h4
    go_enter Try.func73, Try.ntmps73
    go_wp2
    go_ret
    exact ⟨rfl, rfl⟩
  by_cases h8 : n = 8
  · subst h8
    go_enter Try.func73, Try.ntmps73
    go_wp2
    go_ret
    exact ⟨rfl, rfl⟩
  by_cases h16 : n = 16
  · subst h16
    go_enter Try.func73, Try.ntmps73
    go_wp2
    go_ret
    exact ⟨rfl, rfl⟩
  have e1 : (n == 1) = false := by simpa using h1
  have e2 : (n == 2) = false := by simpa using h2
  have e4 : (n == 4) = false := by simpa using h4
  have e8 : (n == 8) = false := by simpa using h8
  have e16 : (n == 16) = false := by simpa using h16
  have HX : Hid (okSize n = false) := by simp [Hid, okSize, e1, e2, e4, e8, e16]
  clear h1 h2 h4 h8 h16
  go_enter Try.func73, Try.ntmps73
  go_wp2
  go_ret
  exact ⟨by rw [HX.out]; rfl, rfl⟩

set_option maxRecDepth 100000 in
set_option maxHeartbeats 400000 in
theorem okSize_spec (n : Int) (w : World) : Calls Try.prog 72 #[.int .i64 n] w fun e w' => e = .returned (.bool (okSize n)) ∧ w = w' := by
  by_cases h1 : n = 1
  · subst h1
    go_enter Try.func72, Try.ntmps72
    go_wp2
    go_ret
    exact ⟨rfl, rfl⟩
  by_cases h2 : n = 2
  · subst h2
    go_enter Try.func72, Try.ntmps72
    go_wp2
    go_ret
    exact ⟨rfl, rfl⟩
  by_cases h4 : n = 4
  · subst h4
    go_enter Try.func72, Try.ntmps72
    go_wp2
    go_ret
    exact ⟨rfl, rfl⟩
  by_cases h8 : n = 8
  · subst h8
    go_enter Try.func72, Try.ntmps72
    go_wp2
    go_ret
    exact ⟨rfl, rfl⟩
  by_cases h16 : n = 16
  · subst h16
    go_enter Try.func72, Try.ntmps72
    go_wp2
    go_ret
    exact ⟨rfl, rfl⟩
  have e1 : (n == 1) = false := by simpa using h1
  have e2 : (n == 2) = false := by simpa using h2
  have e4 : (n == 4) = false := by simpa using h4
  have e8 : (n == 8) = false := by simpa using h8
  have e16 : (n == 16) = false := by simpa using h16
  have HX : Hid (okSize n = false) := by simp [Hid, okSize, e1, e2, e4, e8, e16]
  clear h1 h2 h4 h8 h16
  go_enter Try.func72, Try.ntmps72
  go_wp2
  go_ret
  exact ⟨by rw [HX.out]; rfl, rfl⟩

/-- The queues 0, 1, .., 0, 1, ..: k of them. -/
def evL (q : Int) : Nat → List Int
  | 0 => []
  | k + 1 => evL q k ++ [(k : Int) % q]

theorem evL_length (q : Int) : ∀ k, (evL q k).length = k
  | 0 => rfl
  | k + 1 => by simp [evL, evL_length q k]

/-- EvenTable. -/
def evenT (size q : Int) : List Int := if okSize size = true ∧ inB q 1 4 = true then evL q size.toNat else []

set_option maxRecDepth 100000 in
set_option maxHeartbeats 400000 in
theorem evenT_impl (size q : Int) (w : World) :
    Calls Try.prog 34 #[.int .i64 size, .int .i64 q] w (RetSv w (evenT size q).length (iv (evenT size q))) := by
  by_cases h1 : okSize size = true
  · by_cases h2 : inB q 1 4 = true
    · have hs := okSize_le h1
      have hq : 1 ≤ q ∧ q ≤ 4 := by simpa [inB] using h2
      have HX : Hid (evenT size q = evL q size.toNat) := by unfold Hid evenT; rw [if_pos ⟨h1, h2⟩]
      obtain ⟨n, rfl⟩ := Int.eq_ofNat_of_zero_le (show 0 ≤ size by omega)
      obtain ⟨hs1, hs2⟩ := hs
      obtain ⟨hq1, hq2⟩ := hq
      go_enter Try.func34, Try.ntmps34
      go_wp2_with (first | (go_at_call 73; refine (okSize_impl _ _).mono ?_; rintro e w' ⟨rfl, rfl⟩) | (go_at_call 66; refine (between_any _ _ _ _).mono ?_; rintro e w' ⟨rfl, rfl⟩))
      go_loopg [5, 6] n (fun gh v i wr => ∃ k g cap : Nat, k ≤ n ∧ gh = n - k ∧ i = .int .i64 (k : Int) ∧ v = .slice (some ⟨g, 0, none⟩) k cap ∧ Below w.heap.size w wr ∧ Own wr w.heap.size 3 1 g k cap (iv (evL q k)))
      case atStart => exact ⟨0, w.heap.size, 0, by omega, rfl, rfl, rfl, Below.al (Below.refl _ _) _, Own.empty w _ _⟩
      case round =>
        obtain ⟨k, g, cap, hk, rfl, rfl, rfl, hbel, hown⟩ := hrel
        by_cases hk2 : k < n
        · have hL : Hid (iv (evL q k) ++ [.int .i64 ((k : Int) % q)] = iv (evL q (k + 1))) := by
            unfold Hid; rw [evL]; simp [iv]
          have hsz := hbel.size
          have hg := hown.lt
          go_wp2_with (first | (at_builtin; refine wpList_app el_int rfl _ _ rfl w.heap.size g k cap _ rfl (Own.alloc hown _) _ 0 1 _ [.int .i64 ((k : Int) % q)] rfl rfl (news_new _ _ _) (by simp [Value.oneCell']) (by decide) (by omega) (by simp; omega) ?_; intro g' cap' w1 hgr) | (first | (go_at_call 73; refine (okSize_impl _ _).mono ?_; rintro e w' ⟨rfl, rfl⟩) | (go_at_call 66; refine (between_any _ _ _ _).mono ?_; rintro e w' ⟨rfl, rfl⟩)))
          go_roundg (n - (k + 1))
          case measure => omega
          case rel => exact ⟨k + 1, g', cap', by omega, rfl, by go_num, rfl, hgr.below (Below.al hbel _) hg.1, by rw [← hL.out]; exact hgr.own⟩
        · have hke : k = n := by omega
          subst hke
          have HY : Hid (evenT (k : Int) q = evL q k) := HX
          clear HX
          go_wp2_with (first | (go_at_call 73; refine (okSize_impl _ _).mono ?_; rintro e w' ⟨rfl, rfl⟩) | (go_at_call 66; refine (between_any _ _ _ _).mono ?_; rintro e w' ⟨rfl, rfl⟩))
          go_ret
          exact ⟨some ⟨g, 0, none⟩, cap, by rw [HY.out, evL_length]; rfl, by rw [HY.out]; exact hown.sv, hbel⟩
    · have HX : Hid (evenT size q = []) := by unfold Hid evenT; rw [if_neg (by simp [h2])]
      have h2 : inB q 1 4 = false := by simpa using h2
      go_enter Try.func34, Try.ntmps34
      go_wp2_with (first | (go_at_call 73; refine (okSize_impl _ _).mono ?_; rintro e w' ⟨rfl, rfl⟩) | (go_at_call 66; refine (between_any _ _ _ _).mono ?_; rintro e w' ⟨rfl, rfl⟩))
      go_ret
      exact ⟨none, 0, by rw [HX.out]; rfl, by rw [HX.out]; exact Sv.nil, by ((repeat (with_reducible first | exact Below.refl _ _ | apply Below.al | apply Below.dr | (refine Below.tr ?_ (by assumption)) | (refine Below.marked (by assumption) ?_ ?_) | (refine Below.st ?_ ?_ _))); all_goals (first | omega | (simp; done) | (simp; omega)))⟩
  · have HX : Hid (evenT size q = []) := by unfold Hid evenT; rw [if_neg (by simp [h1])]
    have h1 : okSize size = false := by simpa using h1
    go_enter Try.func34, Try.ntmps34
    go_wp2_with (first | (go_at_call 73; refine (okSize_impl _ _).mono ?_; rintro e w' ⟨rfl, rfl⟩) | (go_at_call 66; refine (between_any _ _ _ _).mono ?_; rintro e w' ⟨rfl, rfl⟩))
    go_ret
    exact ⟨none, 0, by rw [HX.out]; rfl, by rw [HX.out]; exact Sv.nil, by ((repeat (with_reducible first | exact Below.refl _ _ | apply Below.al | apply Below.dr | (refine Below.tr ?_ (by assumption)) | (refine Below.marked (by assumption) ?_ ?_) | (refine Below.st ?_ ?_ _))); all_goals (first | omega | (simp; done) | (simp; omega)))⟩

set_option maxRecDepth 100000 in
set_option maxHeartbeats 400000 in
theorem evenT_spec (size q : Int) (w : World) :
    Calls Try.prog 33 #[.int .i64 size, .int .i64 q] w (RetSv w (evenT size q).length (iv (evenT size q))) := by
  by_cases h1 : okSize size = true
  · by_cases h2 : inB q 1 4 = true
    · have hs := okSize_le h1
      have hq : 1 ≤ q ∧ q ≤ 4 := by simpa [inB] using h2
      have HX : Hid (evenT size q = evL q size.toNat) := by unfold Hid evenT; rw [if_pos ⟨h1, h2⟩]
      obtain ⟨n, rfl⟩ := Int.eq_ofNat_of_zero_le (show 0 ≤ size by omega)
      obtain ⟨hs1, hs2⟩ := hs
      obtain ⟨hq1, hq2⟩ := hq
      go_enter Try.func33, Try.ntmps33
      go_wp2_with (first | (go_at_call 72; refine (okSize_spec _ _).mono ?_; rintro e w' ⟨rfl, rfl⟩) | (go_at_call 65; refine (l01In_any _ _ _ _).mono ?_; rintro e w' ⟨rfl, rfl⟩))
      go_loopg [5, 6] n (fun gh v i wr => ∃ k g cap : Nat, k ≤ n ∧ gh = n - k ∧ i = .int .i64 (k : Int) ∧ v = .slice (some ⟨g, 0, none⟩) k cap ∧ Below w.heap.size w wr ∧ Own wr w.heap.size 3 1 g k cap (iv (evL q k)))
      case atStart => exact ⟨0, w.heap.size, 0, by omega, rfl, rfl, rfl, Below.al (Below.refl _ _) _, Own.empty w _ _⟩
      case round =>
        obtain ⟨k, g, cap, hk, rfl, rfl, rfl, hbel, hown⟩ := hrel
        by_cases hk2 : k < n
        · have hL : Hid (iv (evL q k) ++ [.int .i64 ((k : Int) % q)] = iv (evL q (k + 1))) := by
            unfold Hid; rw [evL]; simp [iv]
          have hsz := hbel.size
          have hg := hown.lt
          go_wp2_with (first | (at_builtin; refine wpList_app el_int rfl _ _ rfl w.heap.size g k cap _ rfl (Own.alloc hown _) _ 0 1 _ [.int .i64 ((k : Int) % q)] rfl rfl (news_new _ _ _) (by simp [Value.oneCell']) (by decide) (by omega) (by simp; omega) ?_; intro g' cap' w1 hgr) | (first | (go_at_call 72; refine (okSize_spec _ _).mono ?_; rintro e w' ⟨rfl, rfl⟩) | (go_at_call 65; refine (l01In_any _ _ _ _).mono ?_; rintro e w' ⟨rfl, rfl⟩)))
          go_roundg (n - (k + 1))
          case measure => omega
          case rel => exact ⟨k + 1, g', cap', by omega, rfl, by go_num, rfl, hgr.below (Below.al hbel _) hg.1, by rw [← hL.out]; exact hgr.own⟩
        · have hke : k = n := by omega
          subst hke
          have HY : Hid (evenT (k : Int) q = evL q k) := HX
          clear HX
          go_wp2_with (first | (go_at_call 72; refine (okSize_spec _ _).mono ?_; rintro e w' ⟨rfl, rfl⟩) | (go_at_call 65; refine (l01In_any _ _ _ _).mono ?_; rintro e w' ⟨rfl, rfl⟩))
          go_ret
          exact ⟨some ⟨g, 0, none⟩, cap, by rw [HY.out, evL_length]; rfl, by rw [HY.out]; exact hown.sv, hbel⟩
    · have HX : Hid (evenT size q = []) := by unfold Hid evenT; rw [if_neg (by simp [h2])]
      have h2 : inB q 1 4 = false := by simpa using h2
      have hs := okSize_le h1
      go_enter Try.func33, Try.ntmps33
      go_wp2_with (first | (go_at_call 72; refine (okSize_spec _ _).mono ?_; rintro e w' ⟨rfl, rfl⟩) | (go_at_call 65; refine (l01In_any _ _ _ _).mono ?_; rintro e w' ⟨rfl, rfl⟩))
      go_loopg [5, 6] 0 (fun gh v i wr => i = .int .i64 0 ∧ v = .slice (some ⟨w.heap.size, 0, none⟩) 0 0 ∧ Below w.heap.size w wr)
      case atStart => exact ⟨rfl, rfl, Below.al (Below.refl _ _) _⟩
      case round =>
        obtain ⟨rfl, rfl, hbel⟩ := hrel
        have h0 : 0 < size := by omega
        go_wp2_with (first | (go_at_call 72; refine (okSize_spec _ _).mono ?_; rintro e w' ⟨rfl, rfl⟩) | (go_at_call 65; refine (l01In_any _ _ _ _).mono ?_; rintro e w' ⟨rfl, rfl⟩))
        go_ret
        exact ⟨_, 0, by rw [HX.out]; rfl, by rw [HX.out]; exact Sv.nil, hbel⟩
  · have HX : Hid (evenT size q = []) := by unfold Hid evenT; rw [if_neg (by simp [h1])]
    have h1 : okSize size = false := by simpa using h1
    go_enter Try.func33, Try.ntmps33
    go_wp2_with (first | (go_at_call 72; refine (okSize_spec _ _).mono ?_; rintro e w' ⟨rfl, rfl⟩) | (go_at_call 65; refine (l01In_any _ _ _ _).mono ?_; rintro e w' ⟨rfl, rfl⟩))
    go_loopg [5, 6] 0 (fun gh v i wr => i = .int .i64 0 ∧ v = .slice (some ⟨w.heap.size, 0, none⟩) 0 0 ∧ Below w.heap.size w wr)
    case atStart => exact ⟨rfl, rfl, Below.al (Below.refl _ _) _⟩
    case round =>
      obtain ⟨rfl, rfl, hbel⟩ := hrel
      by_cases h0 : 0 < size
      all_goals
        go_wp2_with (first | (go_at_call 72; refine (okSize_spec _ _).mono ?_; rintro e w' ⟨rfl, rfl⟩) | (go_at_call 65; refine (l01In_any _ _ _ _).mono ?_; rintro e w' ⟨rfl, rfl⟩))
        go_ret
        exact ⟨_, 0, by rw [HX.out]; rfl, by rw [HX.out]; exact Sv.nil, hbel⟩

end Go.Proofs.Ytlhngkkablhpdaa

/-
  SpreadOk of both programs.
  Conditions: at most 2^20 entries.
-/
import Derived.Test.YtlhngkkablhpdaaSpread
set_option linter.unusedSimpArgs false
set_option linter.unusedVariables false
namespace Go.Proofs.Ytlhngkkablhpdaa
open Go.RowKit

/-- SpreadOk. -/
def spOk (key : ByteArray) (l : List Int) (q : Int) : Bool := inB q 1 4 && (key.size == 16) && okSize l.length && l.all (fun x => inB x 0 (q - 1))

set_option maxRecDepth 100000 in
set_option maxHeartbeats 1000000 in
theorem spOk_impl (key : ByteArray) (a : Option Addr) (c : Nat) (l : List Int) (q : Int) (hq : I64 q) (w : World) (h1 : Rd w a (iv l)) (hl : l.length ≤ 1048576) :
    Calls Try.prog 41 #[.agg #[.string key, .slice a l.length c], .int .i64 q] w fun e w' => e = .returned (.bool (spOk key l q)) ∧ Below w.heap.size w w' := by
  obtain ⟨hq0, hq1⟩ := hq
  by_cases h2 : inB q 1 4 = true
  · by_cases h3 : key.size = 16
    · have hn : ((key.size : Int) != 16) = false := by rw [h3]; rfl
      by_cases h4 : okSize (l.length : Int) = true
      · have hqq : 1 ≤ q ∧ q ≤ 4 := by simpa [inB] using h2
        obtain ⟨hq2, hq3⟩ := hqq
        have hsp : Hid (spOk key l q = l.all fun x => inB x 0 (q - 1)) := by unfold Hid spOk; rw [h2, h4, h3]; rfl
        clear h3
        go_enter Try.func41, Try.ntmps41
        go_wp2_with (first | (go_at_call 73; refine (okSize_impl _ _).mono ?_; rintro e w' ⟨rfl, rfl⟩) | (go_at_call 66; refine (between_any _ _ _ _).mono ?_; rintro e w' ⟨rfl, rfl⟩))
        go_loopg [26] l.length (fun g i wr => ∃ k : Nat, k ≤ l.length ∧ g = l.length - k ∧ i = .int .i64 (k : Int) ∧ wr = w.alloc (.cells #[.string key, .slice a l.length c] 45) ∧ (l.take k).all (fun x => inB x 0 (q - 1)) = true)
        case atStart => exact ⟨0, by omega, rfl, rfl, rfl, by simp⟩
        case round =>
          obtain ⟨k, hk, rfl, rfl, rfl, hall⟩ := hrel
          have HA := Lib.hid hall
          clear hall
          by_cases hk2 : k < l.length
          · obtain ⟨b1, o1, rfl, hlt, hc1⟩ := Rd.int h1 k hk2
            have hc2 : (w.alloc (.cells #[.string key, .slice (some ⟨b1, o1, none⟩) l.length c] 45)).cell? ⟨b1, o1 + k, none⟩ = some (.int .i64 l[k]) := by
              rw [World.cell?_alloc_lt _ _ _ hlt]; exact hc1
            clear h1 hc1
            have hi1 : (0 : Int) ≤ k := by omega
            have hi2 : (k : Int) < l.length := by omega
            by_cases hb : inB l[k] 0 (q - 1) = true
            · have hA2 : Hid ((l.take (k + 1)).all (fun x => inB x 0 (q - 1)) = true) := by
                unfold Hid; rw [List.take_succ_eq_append_getElem hk2, List.all_append, HA.out]; simp [hb]
              go_wp2_with (first | (go_at_call 73; refine (okSize_impl _ _).mono ?_; rintro e w' ⟨rfl, rfl⟩) | (go_at_call 66; refine (between_any _ _ _ _).mono ?_; rintro e w' ⟨rfl, rfl⟩))
              go_roundg (l.length - (k + 1))
              case measure => omega
              case rel => exact ⟨k + 1, by omega, rfl, by go_num, rfl, hA2.out⟩
            · have hb : inB l[k] 0 (q - 1) = false := by simpa using hb
              have HX : Hid (spOk key l q = false) := by
                unfold Hid; rw [hsp.out]; simp only [List.all_eq_false]; exact ⟨l[k], List.getElem_mem hk2, by rw [hb]; decide⟩
              go_wp2_with (first | (go_at_call 73; refine (okSize_impl _ _).mono ?_; rintro e w' ⟨rfl, rfl⟩) | (go_at_call 66; refine (between_any _ _ _ _).mono ?_; rintro e w' ⟨rfl, rfl⟩))
              go_ret
              exact ⟨by rw [HX.out]; rfl, by ((repeat (with_reducible first | exact Below.refl _ _ | apply Below.al | apply Below.dr | (refine Below.tr ?_ (by assumption)) | (refine Below.marked (by assumption) ?_ ?_) | (refine Below.st ?_ ?_ _))); all_goals (first | omega | (simp; done) | (simp; omega)))⟩
          · have hke : k = l.length := by omega
            have HX : Hid (spOk key l q = true) := by unfold Hid; rw [hsp.out]; have := HA.out; rw [hke, List.take_length] at this; exact this
            clear hke
            go_wp2_with (first | (go_at_call 73; refine (okSize_impl _ _).mono ?_; rintro e w' ⟨rfl, rfl⟩) | (go_at_call 66; refine (between_any _ _ _ _).mono ?_; rintro e w' ⟨rfl, rfl⟩))
            go_ret
            exact ⟨by rw [HX.out]; rfl, by ((repeat (with_reducible first | exact Below.refl _ _ | apply Below.al | apply Below.dr | (refine Below.tr ?_ (by assumption)) | (refine Below.marked (by assumption) ?_ ?_) | (refine Below.st ?_ ?_ _))); all_goals (first | omega | (simp; done) | (simp; omega)))⟩
      · have h4 : okSize (l.length : Int) = false := by simpa using h4
        have HX : Hid (spOk key l q = false) := by unfold Hid spOk; simp [h4]
        clear h3
        go_enter Try.func41, Try.ntmps41
        go_wp2_with (first | (go_at_call 73; refine (okSize_impl _ _).mono ?_; rintro e w' ⟨rfl, rfl⟩) | (go_at_call 66; refine (between_any _ _ _ _).mono ?_; rintro e w' ⟨rfl, rfl⟩))
        go_ret
        exact ⟨by rw [HX.out]; rfl, by ((repeat (with_reducible first | exact Below.refl _ _ | apply Below.al | apply Below.dr | (refine Below.tr ?_ (by assumption)) | (refine Below.marked (by assumption) ?_ ?_) | (refine Below.st ?_ ?_ _))); all_goals (first | omega | (simp; done) | (simp; omega)))⟩
    · have hn : ((key.size : Int) != 16) = true := by rw [bne_iff_ne]; omega
      have HX : Hid (spOk key l q = false) := by unfold Hid spOk; simp [h3]
      clear h3
      go_enter Try.func41, Try.ntmps41
      go_wp2_with (first | (go_at_call 73; refine (okSize_impl _ _).mono ?_; rintro e w' ⟨rfl, rfl⟩) | (go_at_call 66; refine (between_any _ _ _ _).mono ?_; rintro e w' ⟨rfl, rfl⟩))
      go_ret
      exact ⟨by rw [HX.out]; rfl, by ((repeat (with_reducible first | exact Below.refl _ _ | apply Below.al | apply Below.dr | (refine Below.tr ?_ (by assumption)) | (refine Below.marked (by assumption) ?_ ?_) | (refine Below.st ?_ ?_ _))); all_goals (first | omega | (simp; done) | (simp; omega)))⟩
  · have h2 : inB q 1 4 = false := by simpa using h2
    have HX : Hid (spOk key l q = false) := by unfold Hid spOk; simp [h2]
    go_enter Try.func41, Try.ntmps41
    go_wp2_with (first | (go_at_call 73; refine (okSize_impl _ _).mono ?_; rintro e w' ⟨rfl, rfl⟩) | (go_at_call 66; refine (between_any _ _ _ _).mono ?_; rintro e w' ⟨rfl, rfl⟩))
    go_ret
    exact ⟨by rw [HX.out]; rfl, by ((repeat (with_reducible first | exact Below.refl _ _ | apply Below.al | apply Below.dr | (refine Below.tr ?_ (by assumption)) | (refine Below.marked (by assumption) ?_ ?_) | (refine Below.st ?_ ?_ _))); all_goals (first | omega | (simp; done) | (simp; omega)))⟩

set_option maxRecDepth 100000 in
set_option maxHeartbeats 1000000 in
theorem spOk_spec (key : ByteArray) (a : Option Addr) (c : Nat) (l : List Int) (q : Int) (hq : I64 q) (w : World) (h1 : Rd w a (iv l)) (hl : l.length ≤ 1048576) :
    Calls Try.prog 39 #[.agg #[.string key, .slice a l.length c], .int .i64 q] w fun e w' => e = .returned (.bool (spOk key l q)) ∧ Below w.heap.size w w' := by
  obtain ⟨hq0, hq1⟩ := hq
  by_cases h2 : inB q 1 4 = true
  · by_cases h3 : key.size = 16
    · have hn : ((key.size : Int) != 16) = false := by rw [h3]; rfl
      by_cases h4 : okSize (l.length : Int) = true
      · have hqq : 1 ≤ q ∧ q ≤ 4 := by simpa [inB] using h2
        obtain ⟨hq2, hq3⟩ := hqq
        have hsp : Hid (spOk key l q = l.all fun x => inB x 0 (q - 1)) := by unfold Hid spOk; rw [h2, h4, h3]; rfl
        clear h3
        go_enter Try.func39, Try.ntmps39
        go_wp2_with (first | (go_at_call 72; refine (okSize_spec _ _).mono ?_; rintro e w' ⟨rfl, rfl⟩) | (go_at_call 65; refine (l01In_any _ _ _ _).mono ?_; rintro e w' ⟨rfl, rfl⟩))
        go_loopg [5] l.length (fun g i wr => ∃ k : Nat, k ≤ l.length ∧ g = l.length - k ∧ i = .int .i64 (k : Int) ∧ wr = w.alloc (.cells #[.string key, .slice a l.length c] 45) ∧ (l.take k).all (fun x => inB x 0 (q - 1)) = true)
        case atStart => exact ⟨0, by omega, rfl, rfl, rfl, by simp⟩
        case round =>
          obtain ⟨k, hk, rfl, rfl, rfl, hall⟩ := hrel
          have HA := Lib.hid hall
          clear hall
          by_cases hk2 : k < l.length
          · obtain ⟨b1, o1, rfl, hlt, hc1⟩ := Rd.int h1 k hk2
            have hc2 : (w.alloc (.cells #[.string key, .slice (some ⟨b1, o1, none⟩) l.length c] 45)).cell? ⟨b1, o1 + k, none⟩ = some (.int .i64 l[k]) := by
              rw [World.cell?_alloc_lt _ _ _ hlt]; exact hc1
            clear h1 hc1
            have hi1 : (0 : Int) ≤ k := by omega
            have hi2 : (k : Int) < l.length := by omega
            by_cases hb : inB l[k] 0 (q - 1) = true
            · have hA2 : Hid ((l.take (k + 1)).all (fun x => inB x 0 (q - 1)) = true) := by
                unfold Hid; rw [List.take_succ_eq_append_getElem hk2, List.all_append, HA.out]; simp [hb]
              go_wp2_with (first | (go_at_call 72; refine (okSize_spec _ _).mono ?_; rintro e w' ⟨rfl, rfl⟩) | (go_at_call 65; refine (l01In_any _ _ _ _).mono ?_; rintro e w' ⟨rfl, rfl⟩))
              go_roundg (l.length - (k + 1))
              case measure => omega
              case rel => exact ⟨k + 1, by omega, rfl, by go_num, rfl, hA2.out⟩
            · have hb : inB l[k] 0 (q - 1) = false := by simpa using hb
              have HX : Hid (spOk key l q = false) := by
                unfold Hid; rw [hsp.out]; simp only [List.all_eq_false]; exact ⟨l[k], List.getElem_mem hk2, by rw [hb]; decide⟩
              go_wp2_with (first | (go_at_call 72; refine (okSize_spec _ _).mono ?_; rintro e w' ⟨rfl, rfl⟩) | (go_at_call 65; refine (l01In_any _ _ _ _).mono ?_; rintro e w' ⟨rfl, rfl⟩))
              go_ret
              exact ⟨by rw [HX.out]; rfl, by ((repeat (with_reducible first | exact Below.refl _ _ | apply Below.al | apply Below.dr | (refine Below.tr ?_ (by assumption)) | (refine Below.marked (by assumption) ?_ ?_) | (refine Below.st ?_ ?_ _))); all_goals (first | omega | (simp; done) | (simp; omega)))⟩
          · have hke : k = l.length := by omega
            have HX : Hid (spOk key l q = true) := by unfold Hid; rw [hsp.out]; have := HA.out; rw [hke, List.take_length] at this; exact this
            clear hke
            go_wp2_with (first | (go_at_call 72; refine (okSize_spec _ _).mono ?_; rintro e w' ⟨rfl, rfl⟩) | (go_at_call 65; refine (l01In_any _ _ _ _).mono ?_; rintro e w' ⟨rfl, rfl⟩))
            go_ret
            exact ⟨by rw [HX.out]; rfl, by ((repeat (with_reducible first | exact Below.refl _ _ | apply Below.al | apply Below.dr | (refine Below.tr ?_ (by assumption)) | (refine Below.marked (by assumption) ?_ ?_) | (refine Below.st ?_ ?_ _))); all_goals (first | omega | (simp; done) | (simp; omega)))⟩
      · have h4 : okSize (l.length : Int) = false := by simpa using h4
        have HX : Hid (spOk key l q = false) := by unfold Hid spOk; simp [h4]
        clear h3
        go_enter Try.func39, Try.ntmps39
        go_wp2_with (first | (go_at_call 72; refine (okSize_spec _ _).mono ?_; rintro e w' ⟨rfl, rfl⟩) | (go_at_call 65; refine (l01In_any _ _ _ _).mono ?_; rintro e w' ⟨rfl, rfl⟩))
        go_ret
        exact ⟨by rw [HX.out]; rfl, by ((repeat (with_reducible first | exact Below.refl _ _ | apply Below.al | apply Below.dr | (refine Below.tr ?_ (by assumption)) | (refine Below.marked (by assumption) ?_ ?_) | (refine Below.st ?_ ?_ _))); all_goals (first | omega | (simp; done) | (simp; omega)))⟩
    · have hn : ((key.size : Int) != 16) = true := by rw [bne_iff_ne]; omega
      have HX : Hid (spOk key l q = false) := by unfold Hid spOk; simp [h3]
      clear h3
      go_enter Try.func39, Try.ntmps39
      go_wp2_with (first | (go_at_call 72; refine (okSize_spec _ _).mono ?_; rintro e w' ⟨rfl, rfl⟩) | (go_at_call 65; refine (l01In_any _ _ _ _).mono ?_; rintro e w' ⟨rfl, rfl⟩))
      go_ret
      exact ⟨by rw [HX.out]; rfl, by ((repeat (with_reducible first | exact Below.refl _ _ | apply Below.al | apply Below.dr | (refine Below.tr ?_ (by assumption)) | (refine Below.marked (by assumption) ?_ ?_) | (refine Below.st ?_ ?_ _))); all_goals (first | omega | (simp; done) | (simp; omega)))⟩
  · have h2 : inB q 1 4 = false := by simpa using h2
    have HX : Hid (spOk key l q = false) := by unfold Hid spOk; simp [h2]
    go_enter Try.func39, Try.ntmps39
    go_wp2_with (first | (go_at_call 72; refine (okSize_spec _ _).mono ?_; rintro e w' ⟨rfl, rfl⟩) | (go_at_call 65; refine (l01In_any _ _ _ _).mono ?_; rintro e w' ⟨rfl, rfl⟩))
    go_ret
    exact ⟨by rw [HX.out]; rfl, by ((repeat (with_reducible first | exact Below.refl _ _ | apply Below.al | apply Below.dr | (refine Below.tr ?_ (by assumption)) | (refine Below.marked (by assumption) ?_ ?_) | (refine Below.st ?_ ?_ _))); all_goals (first | omega | (simp; done) | (simp; omega)))⟩

end Go.Proofs.Ytlhngkkablhpdaa

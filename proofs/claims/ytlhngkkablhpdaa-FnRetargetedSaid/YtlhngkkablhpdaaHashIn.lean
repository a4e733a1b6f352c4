/-
  The bytes that a flow is hashed from; a flow reversed; flows compared and copied.
  Conditions: none.
-/
import Derived.Test.YtlhngkkablhpdaaWords
set_option linter.unusedSimpArgs false
set_option linter.unusedVariables false
namespace Go.Proofs.Ytlhngkkablhpdaa
open Go.RowKit

def hashIn (f : Fl) : ByteArray := word32 f.s ++ word32 f.d ++ word16 f.p ++ word16 f.q

theorem hashIn_size (f : Fl) : (hashIn f).size ≤ 12 := by
  have := word32_size f.s; have := word32_size f.d; have := word16_size f.p; have := word16_size f.q
  simp only [hashIn, ByteArray.size_append]; omega

set_option maxRecDepth 100000 in
set_option maxHeartbeats 400000 in
theorem hashInput_impl (f : Fl) (w : World) :
    Calls Try.prog 30 #[.agg #[.int .i64 f.k, .int .i64 f.s, .int .i64 f.d, .int .i64 f.p, .int .i64 f.q]] w fun e w' => e = .returned (.string (hashIn f)) ∧ Below w.heap.size w w' := by
  have s1 := word32_size f.s
  have s2 := word32_size f.d
  have s3 := word16_size f.p
  have s4 := word16_size f.q
  go_enter Try.func30, Try.ntmps30
  go_wp2
  refine wp_region_later (w.heap.size + 1) (by kernel_rfl) (by kernel_rfl) ?_
  repeat (go_big_quiet_step (first
    | (go_at_call 51; exact later_call (by simp) (word32_impl _ _))
    | (go_at_call 71; exact later_call (by simp) (word16_impl _ _))))
  refine wpQuiet_nil ?_
  rintro _ ⟨⟨w1, hb⟩, rfl⟩
  go_wp2
  go_ret
  exact ⟨rfl, ((Below.refl _ _).alloc (Nat.le_refl _) _).trans (hb.mono (by simp))⟩

set_option maxRecDepth 100000 in
set_option maxHeartbeats 400000 in
theorem hashInput_spec (f : Fl) (w : World) :
    Calls Try.prog 29 #[.agg #[.int .i64 f.k, .int .i64 f.s, .int .i64 f.d, .int .i64 f.p, .int .i64 f.q]] w fun e w' => e = .returned (.string (hashIn f)) ∧ Below w.heap.size w w' := by
  have s1 := word32_size f.s
  have s2 := word32_size f.d
  have s3 := word16_size f.p
  have s4 := word16_size f.q
  go_enter Try.func29, Try.ntmps29
  go_wp2
  refine wp_region_later (w.heap.size + 1) (by kernel_rfl) (by kernel_rfl) ?_
  repeat (go_big_quiet_step (first
    | (go_at_call 69; exact later_call (by simp) (word32_spec _ _))
    | (go_at_call 70; exact later_call (by simp) (word16_spec _ _))))
  refine wpQuiet_nil ?_
  rintro _ ⟨⟨w1, hb⟩, rfl⟩
  go_wp2
  go_ret
  exact ⟨rfl, ((Below.refl _ _).alloc (Nat.le_refl _) _).trans (hb.mono (by simp))⟩

set_option maxRecDepth 100000 in
set_option maxHeartbeats 400000 in
theorem toFlow_any (f : Fl) (w : World) :
    Calls Try.prog 26 #[.agg #[.int .i64 f.k, .int .i64 f.s, .int .i64 f.d, .int .i64 f.p, .int .i64 f.q]] w fun e w' => e = .returned (.agg #[.int .i64 f.k, .int .i64 f.s, .int .i64 f.d, .int .i64 f.p, .int .i64 f.q]) ∧ Below w.heap.size w w' := by
  go_enter Try.func26, Try.ntmps26
  go_wp2
  exact bodyPost_ret (v := .agg #[.int .i64 f.k, .int .i64 f.s, .int .i64 f.d, .int .i64 f.p, .int .i64 f.q]) (by simp [results, Try.results26, go_sem]) rfl ⟨rfl, by ((repeat (with_reducible first | exact Below.refl _ _ | apply Below.al | apply Below.dr | (refine Below.tr ?_ (by assumption)) | (refine Below.marked (by assumption) ?_ ?_) | (refine Below.st ?_ ?_ _))); all_goals (first | omega | (simp; done) | (simp; omega)))⟩

set_option maxRecDepth 100000 in
set_option maxHeartbeats 400000 in
theorem eqFlow_any (f : Fl) (w : World) :
    Calls Try.prog 28 #[.agg #[.int .i64 f.k, .int .i64 f.s, .int .i64 f.d, .int .i64 f.p, .int .i64 f.q], .agg #[.int .i64 f.k, .int .i64 f.s, .int .i64 f.d, .int .i64 f.p, .int .i64 f.q]] w fun e w' => e = .returned (.bool true) ∧ Below w.heap.size w w' := by
  go_enter Try.func28, Try.ntmps28
  go_wp2
  go_ret
  exact ⟨rfl, by ((repeat (with_reducible first | exact Below.refl _ _ | apply Below.al | apply Below.dr | (refine Below.tr ?_ (by assumption)) | (refine Below.marked (by assumption) ?_ ?_) | (refine Below.st ?_ ?_ _))); all_goals (first | omega | (simp; done) | (simp; omega)))⟩

set_option maxRecDepth 100000 in
set_option maxHeartbeats 400000 in
theorem reversed_impl (f : Fl) (w : World) :
    Calls Try.prog 27 #[.agg #[.int .i64 f.k, .int .i64 f.s, .int .i64 f.d, .int .i64 f.p, .int .i64 f.q]] w fun e w' => e = .returned (.agg #[.int .i64 f.k, .int .i64 f.d, .int .i64 f.s, .int .i64 f.q, .int .i64 f.p]) ∧ Below w.heap.size w w' := by
  go_enter Try.func27, Try.ntmps27
  go_wp2
  exact bodyPost_ret (v := .agg #[.int .i64 f.k, .int .i64 f.d, .int .i64 f.s, .int .i64 f.q, .int .i64 f.p]) (by simp [results, Try.results27, go_sem]) rfl ⟨rfl, by ((repeat (with_reducible first | exact Below.refl _ _ | apply Below.al | apply Below.dr | (refine Below.tr ?_ (by assumption)) | (refine Below.marked (by assumption) ?_ ?_) | (refine Below.st ?_ ?_ _))); all_goals (first | omega | (simp; done) | (simp; omega)))⟩

set_option maxRecDepth 100000 in
set_option maxHeartbeats 400000 in
theorem reversed_spec (f : Fl) (w : World) :
    Calls Try.prog 25 #[.agg #[.int .i64 f.k, .int .i64 f.s, .int .i64 f.d, .int .i64 f.p, .int .i64 f.q]] w fun e w' => e = .returned (.agg #[.int .i64 f.k, .int .i64 f.d, .int .i64 f.s, .int .i64 f.q, .int .i64 f.p]) ∧ Below w.heap.size w w' := by
  go_enter Try.func25, Try.ntmps25
  go_wp2
  exact bodyPost_ret (v := .agg #[.int .i64 f.k, .int .i64 f.d, .int .i64 f.s, .int .i64 f.q, .int .i64 f.p]) (by simp [results, Try.results25, go_sem]) rfl ⟨rfl, by ((repeat (with_reducible first | exact Below.refl _ _ | apply Below.al | apply Below.dr | (refine Below.tr ?_ (by assumption)) | (refine Below.marked (by assumption) ?_ ?_) | (refine Below.st ?_ ?_ _))); all_goals (first | omega | (simp; done) | (simp; omega)))⟩

end Go.Proofs.Ytlhngkkablhpdaa

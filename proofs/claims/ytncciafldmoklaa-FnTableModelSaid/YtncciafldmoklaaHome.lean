/-
  HomeSlot of both programs: a flow's place in the table.
  Conditions: the flow's fields fit 64 bits.
-/
import Derived.Test.YtncciafldmoklaaWords
import Derived.Test.YtncciafldmoklaaBits
import Derived.Handy
set_option linter.unusedSimpArgs false
set_option linter.unusedVariables false
namespace Go.Proofs.Ytncciafldmoklaa
open Go.RowKit

/-- HomeSlot. -/
def home (f : Fl) : Int := (f.k % 8 + f.s % 8 + f.d % 8 + f.p % 8 + f.q % 8) % 8

theorem home_lt (f : Fl) : 0 ≤ home f ∧ home f < 8 := by unfold home; omega

theorem tmod8 (x : Int) : (x.tmod 8 < 0 → x.tmod 8 + 8 = x % 8) ∧ (0 ≤ x.tmod 8 → x.tmod 8 = x % 8) ∧ -8 < x.tmod 8 ∧ x.tmod 8 < 8 := by
  rw [Int.tmod_eq_emod]
  split <;> simp <;> omega

set_option maxRecDepth 100000 in
set_option maxHeartbeats 1000000 in
theorem modulo8 (x : Int) (hx : I64 x) (w : World) :
    Calls Try.prog 78 #[.int .i64 x, .int .i64 8] w fun e w' => e = .returned (.int .i64 (x % 8)) ∧ w = w' := by
  obtain ⟨h0, h1⟩ := hx
  obtain ⟨h2, h3, h4, h5⟩ := tmod8 x
  by_cases h : x.tmod 8 < 0
  · have h6 := h2 h
    go_enter Try.func78, Try.ntmps78
    go_wp2
    go_ret
    exact ⟨by rw [← h6]; rfl, rfl⟩
  · have h6 := h3 (by omega)
    go_enter Try.func78, Try.ntmps78
    go_wp2
    go_ret
    exact ⟨by rw [← h6]; rfl, rfl⟩

set_option maxRecDepth 100000 in
set_option maxHeartbeats 1000000 in
theorem home_impl (f : Fl) (hf : I64 f.k ∧ I64 f.s ∧ I64 f.d ∧ I64 f.p ∧ I64 f.q) (w : World) :
    Calls Try.prog 24 #[.agg #[.int .i64 f.k, .int .i64 f.s, .int .i64 f.d, .int .i64 f.p, .int .i64 f.q]] w fun e w' => e = .returned (.int .i64 (home f)) ∧ Below w.heap.size w w' := by
  obtain ⟨b1, b2, b3, b4, b5⟩ := hf
  have HX : Hid (home f = (f.k % 8 + f.s % 8 + f.d % 8 + f.p % 8 + f.q % 8) % 8) := by rfl
  go_enter Try.func24, Try.ntmps24
  go_wp2_with fail
  refine wp_loop_rounds 6 ?_
  repeat any_goals (rw [rounds_succ]; go_wp2_with (go_at_call 78; refine (modulo8 _ (by assumption) _).mono ?_; rintro e w' ⟨rfl, rfl⟩))
  go_ret
  exact ⟨by rw [HX.out]; rfl, by ((repeat (with_reducible first | exact Below.refl _ _ | apply Below.al | apply Below.dr | (refine Below.tr ?_ (by assumption)) | (refine Below.marked (by assumption) ?_ ?_) | (refine Below.st ?_ ?_ _))); all_goals (first | omega | (simp; done) | (simp; omega)))⟩

set_option maxRecDepth 100000 in
set_option maxHeartbeats 1000000 in
theorem home_spec (f : Fl) (w : World) :
    Calls Try.prog 22 #[.agg #[.int .i64 f.k, .int .i64 f.s, .int .i64 f.d, .int .i64 f.p, .int .i64 f.q]] w fun e w' => e = .returned (.int .i64 (home f)) ∧ Below w.heap.size w w' := by
  have HX : Hid (home f = (f.k % 8 + f.s % 8 + f.d % 8 + f.p % 8 + f.q % 8) % 8) := by rfl
  have e1 := and_7 f.k
  have e2 := and_7 f.s
  have e3 := and_7 f.d
  have e4 := and_7 f.p
  have e5 := and_7 f.q
  go_enter Try.func22, Try.ntmps22
  go_wp2_with fail
  refine wp_loop_rounds 6 ?_
  repeat any_goals (rw [rounds_succ]; go_wp2_with fail)
  go_ret
  exact ⟨by rw [HX.out]; rfl, by ((repeat (with_reducible first | exact Below.refl _ _ | apply Below.al | apply Below.dr | (refine Below.tr ?_ (by assumption)) | (refine Below.marked (by assumption) ?_ ?_) | (refine Below.st ?_ ?_ _))); all_goals (first | omega | (simp; done) | (simp; omega)))⟩

end Go.Proofs.Ytncciafldmoklaa

/-
  FnExactSteeringOk: the program's SteeringOk returns what the reference's returns, for all arguments
  Conditions: none.
-/
import Derived.Test.YtncciafldmoklaaW2Stl
import Derived.Test.YtncciafldmoklaaOpen
import Derived.Test.YtncciafldmoklaaFacts
set_option linter.unusedSimpArgs false
set_option linter.unusedVariables false
namespace Go.Proofs.Ytncciafldmoklaa
open Go.ChangeShapes Go.WideShapes Go.ChangeAt Go.RowKit
open Go.ChangeMaps (open_string shut_string)

set_option maxRecDepth 100000 in
theorem fnExactSteeringOk_lifted (os : Os) (started : os.Started) (H : Type) (enc : TypeId × Value → H) :
    ReturnsInHanded {} Try.checked os 21 .any (Rows.fnExactSteeringOkSpec.pre6 enc Try.prog Try.f21 Rows.fnExactSteeringOkRow.domain false) (Rows.fnExactSteeringOkSpec.post enc Try.prog Try.f21 false true false false) := by
  refine returnsInHanded_of_change (C := Try.checked) own started (by kernel_rfl) Try.func21
    (ChangeSpec.witness6 (enc := enc) (C := Try.checked) false ⟨#[], #[.agg #[.slice none 0 0, .slice none 0 0, .string ⟨#[]⟩, .slice none 0 0], .int .i64 0], []⟩ 8 (by kernel_rfl) (by kernel_rfl) (by kernel_rfl) (by kernel_rfl)) ?_
  intro W base args ds gs before hval0 hW hcnd _
  have hval : ∀ (j : Nat) t v, Try.f21.params[j]? = some t → args[j]? = some v → Value.okWide Try.prog W .any base t v := hval0
  have hW' := hW
  obtain ⟨p, q, hA0, hV, rfl, hfz, hnd⟩ := hW
  have hA : DataW.TrodAll enc Try.prog W 0 (fun _ => true) true Try.f21.params.toList args.toList ds p := hA0
  rw [Try.params21] at hA hval
  obtain ⟨v0, vs0, d0, ds0, p0, q0, hargs, rfl, rfl, h0, r0⟩ := trodAll_cons hA
  obtain ⟨v1, vs1, d1, ds1, p1, q1, rfl, rfl, rfl, h1, r1⟩ := trodAll_cons r0
  obtain ⟨rfl, rfl, rfl⟩ := trodAll_nil r1
  obtain rfl : args = #[v0, v1] := by cases args; simp_all
  obtain ⟨rfl, rfl⟩ := trodVars_none hV
  have k0 := h0
  have lt0 : ∀ x ∈ p0, x.block < W.heap.size := by obtain ⟨m, hm⟩ := k0; exact DataW.trod_lt m _ _ _ hm
  have sh0 := fun (W' : World) (bel : Below W.heap.size W W') => Below.trod laidOut (by kernel_rfl) (of_decide_eq_true (by kernel_rfl)) k0 bel lt0
  clear k0 lt0
  have k1 := h1
  have lt1 : ∀ x ∈ p1, x.block < W.heap.size := by obtain ⟨m, hm⟩ := k1; exact DataW.trod_lt m _ _ _ hm
  have sh1 := fun (W' : World) (bel : Below W.heap.size W W') => Below.trod laidOut (by kernel_rfl) (of_decide_eq_true (by kernel_rfl)) k1 bel lt1
  clear k1 lt1
  obtain ⟨a0_0, c0_0, l0_0, a20_0, c20_0, l20_0, key0_0, a30_0, c30_0, l30_0, rfl, hl0_0, hrd0_0, hok0_0, hl20_0, hrd20_0, hok20_0, hk0_0, hl30_0, hrd30_0⟩ := open_Steering (hval 0 97 v0 rfl rfl) h0
  obtain ⟨a1, rfl, rfl, rfl, b1⟩ := open_int Try.underlying3 (hval 1 3 v1 rfl rfl) h1
  have b1 := i64_of_wf b1
  clear hA0 hval0
  refine (fnExactSteeringOk_law a0_0 c0_0 l0_0 a20_0 c20_0 l20_0 key0_0 a30_0 c30_0 l30_0 a1 W hl0_0 hrd0_0 hok0_0 hl20_0 hrd20_0 hok20_0 hk0_0 hl30_0 hrd30_0 b1).mono fun e W' ⟨he, bel⟩ => ?_
  subst he
  exact ⟨_, rfl, _, _, _, [], _, [], hW', trodAll_mk1 (shut_bool Try.underlying4 _), (trodAll_cons_mk (sh0 _ bel) (trodAll_cons_mk (sh1 _ bel) trodAll_mk0)), rfl, bel.frame _, fun h => by cases h⟩

theorem fnExactSteeringOk_facts : joinedFacts Try.pinned.checked.prog 21 Try.f21 Rows.fnExactSteeringOkSpec Rows.fnExactSteeringOkRow = true :=
  joined_of fact_enter fact_finals fact_make fact_laid fact_maps fact_stops fact_knobs fact_keys fact_heard rfl rfl rfl rfl rfl
    (by kernel_rfl) (by kernel_rfl) (by kernel_rfl) (by kernel_rfl) (by kernel_rfl) (by kernel_rfl) (by kernel_rfl) (by kernel_rfl) (by kernel_rfl) (by kernel_rfl) (by kernel_rfl) (by kernel_rfl) (by kernel_rfl)

theorem fnExactSteeringOk_over : Rows.fnExactSteeringOkRow.holds Try.pinned (OpenSpec.ofChange Rows.fnExactSteeringOkSpec) :=
  OpenClaim.holds_of_wide 21 Try.f21 rfl rfl rfl rfl rfl rfl rfl ⟨rfl, rfl, rfl, rfl, rfl⟩ rfl rfl rfl rfl rfl (by kernel_rfl) Try.func21 fnExactSteeringOk_facts
    (of_decide_eq_true (by kernel_rfl)) (by unfold Func.isWrapper; first | (rw [if_pos (by decide +kernel)]; kernel_rfl) | (rw [if_neg (by decide +kernel)]; exact ⟨rfl, rfl⟩))
    (fun os started H enc _ => fnExactSteeringOk_lifted os started H enc)

/-- The statement. -/
theorem fnExactSteeringOk_holds : Rows.FnExactSteeringOkSaid := fnExactSteeringOk_over


#print axioms fnExactSteeringOk_holds
end Go.Proofs.Ytncciafldmoklaa

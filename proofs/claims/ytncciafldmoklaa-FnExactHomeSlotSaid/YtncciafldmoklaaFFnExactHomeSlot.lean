/-
  FnExactHomeSlot: the program's HomeSlot returns what the reference's returns.
  Conditions: none.
-/
import Derived.Test.YtncciafldmoklaaWHome
import Derived.Test.YtncciafldmoklaaOpen
import Derived.Test.YtncciafldmoklaaFacts
set_option linter.unusedSimpArgs false
set_option linter.unusedVariables false
namespace Go.Proofs.Ytncciafldmoklaa
open Go.ChangeShapes Go.WideShapes Go.ChangeAt Go.RowKit
open Go.ChangeMaps (open_string shut_string)

set_option maxRecDepth 100000 in
theorem fnExactHomeSlot_lifted (os : Os) (started : os.Started) (H : Type) (enc : TypeId × Value → H) :
    ReturnsInHanded {} Try.checked os 3 .any (Rows.fnExactHomeSlotSpec.pre6 enc Try.prog Try.f3 Rows.fnExactHomeSlotRow.domain false) (Rows.fnExactHomeSlotSpec.post enc Try.prog Try.f3 false true false false) := by
  refine returnsInHanded_of_change (C := Try.checked) own started (by kernel_rfl) Try.func3
    (ChangeSpec.witness6 (enc := enc) (C := Try.checked) false ⟨#[], #[.agg #[.int .i64 0, .int .i64 0, .int .i64 0, .int .i64 0, .int .i64 0]], []⟩ 8 (by kernel_rfl) (by kernel_rfl) (by kernel_rfl) (by kernel_rfl)) ?_
  intro W base args ds gs before hval0 hW hcnd _
  have hval : ∀ (j : Nat) t v, Try.f3.params[j]? = some t → args[j]? = some v → Value.okWide Try.prog W .any base t v := hval0
  have hW' := hW
  obtain ⟨p, q, hA0, hV, rfl, hfz, hnd⟩ := hW
  have hA : DataW.TrodAll enc Try.prog W 0 (fun _ => true) true Try.f3.params.toList args.toList ds p := hA0
  rw [Try.params3] at hA hval
  obtain ⟨v0, vs0, d0, ds0, p0, q0, hargs, rfl, rfl, h0, r0⟩ := trodAll_cons hA
  obtain ⟨rfl, rfl, rfl⟩ := trodAll_nil r0
  obtain rfl : args = #[v0] := by cases args; simp_all
  obtain ⟨rfl, rfl⟩ := trodVars_none hV
  have k0 := h0
  have lt0 : ∀ x ∈ p0, x.block < W.heap.size := by obtain ⟨m, hm⟩ := k0; exact DataW.trod_lt m _ _ _ hm
  have sh0 := fun (W' : World) (bel : Below W.heap.size W W') => Below.trod laidOut (by kernel_rfl) (of_decide_eq_true (by kernel_rfl)) k0 bel lt0
  clear k0 lt0
  obtain ⟨a0, rfl, b0⟩ := open_Flow (hval 0 23 v0 rfl rfl) h0
  clear hA0 hval0
  refine (fnExactHomeSlot_walk a0 b0 W).mono fun e W' ⟨he, bel⟩ => ?_
  subst he
  exact ⟨_, rfl, _, _, _, [], _, [], hW', trodAll_mk1 (shut_bool Try.underlying4 _), (trodAll_cons_mk (sh0 _ bel) trodAll_mk0), rfl, bel.frame _, fun h => by cases h⟩

theorem fnExactHomeSlot_facts : joinedFacts Try.pinned.checked.prog 3 Try.f3 Rows.fnExactHomeSlotSpec Rows.fnExactHomeSlotRow = true :=
  joined_of fact_enter fact_finals fact_make fact_laid fact_maps fact_stops fact_knobs fact_keys fact_heard rfl rfl rfl rfl rfl
    (by kernel_rfl) (by kernel_rfl) (by kernel_rfl) (by kernel_rfl) (by kernel_rfl) (by kernel_rfl) (by kernel_rfl) (by kernel_rfl) (by kernel_rfl) (by kernel_rfl) (by kernel_rfl) (by kernel_rfl) (by kernel_rfl)

theorem fnExactHomeSlot_over : Rows.fnExactHomeSlotRow.holds Try.pinned (OpenSpec.ofChange Rows.fnExactHomeSlotSpec) :=
  OpenClaim.holds_of_wide 3 Try.f3 rfl rfl rfl rfl rfl rfl rfl ⟨rfl, rfl, rfl, rfl, rfl⟩ rfl rfl rfl rfl rfl (by kernel_rfl) Try.func3 fnExactHomeSlot_facts
    (of_decide_eq_true (by kernel_rfl)) (by unfold Func.isWrapper; first | (rw [if_pos (by decide +kernel)]; kernel_rfl) | (rw [if_neg (by decide +kernel)]; exact ⟨rfl, rfl⟩))
    (fun os started H enc _ => fnExactHomeSlot_lifted os started H enc)

/-- The statement. -/
theorem fnExactHomeSlot_holds : Rows.FnExactHomeSlotSaid := fnExactHomeSlot_over


#print axioms fnExactHomeSlot_holds
end Go.Proofs.Ytncciafldmoklaa

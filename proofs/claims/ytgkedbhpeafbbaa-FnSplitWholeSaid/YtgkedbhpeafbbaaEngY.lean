/-
  The walk with a region's operations told by the function's name and the region's number, so that the goals stay small.
  Conditions: each states its own.
-/
import Derived.Test.YtgkedbhpeafbbaaEngX
set_option linter.unusedSimpArgs false
set_option linter.unusedVariables false
namespace Go.Proofs.Ytgkedbhpeafbbaa
open Go.RowKit

def regIn : Code → Nat → Option (Array Oper)
  | .region id ops _, i => match Nat.beq id i with | true => some ops | false => none
  | .seq a b, i => match regIn a i with | some r => some r | none => regIn b i
  | .cond _ a b, i => match regIn a i with | some r => some r | none => regIn b i
  | .block _ c, i => regIn c i
  | .loop c, i => regIn c i
  | _, _ => none
def regOf (f : Func) (i : Nat) : Array Oper := match f.body with
  | some c => match regIn c i with | some r => r | none => #[]
  | none => #[]

@[irreducible] def dropO (R : Array Oper) (j : Nat) : List Oper := R.toList.drop j

section
variable {P : Program} {nt k : Nat} {T : Tabs} {Q : Exit → Env → List Blk → Prop} {env : Env} {s : SH} {n : Nat} {R : Array Oper} {j j1 : Nat} {o : Oper}

theorem dropO_cons (h : R[j]? = some o) : dropO R j = o :: dropO R (j + 1) := by
  unfold dropO
  obtain ⟨h1, h2⟩ := Array.getElem?_eq_some_iff.1 h
  rw [← h2, ← Array.getElem_toList (h := h1)]
  exact List.drop_eq_getElem_cons (by simpa using h1)
theorem dropO_nil (h : R.size = j) : dropO R j = [] := by
  unfold dropO; exact List.drop_eq_nil_of_le (by simp [h])
theorem dropO_zero : dropO R 0 = R.toList := by unfold dropO; rfl

theorem so_open {K : Env → SH → Nat → Prop} (h : R[j]? = some o) (hj : j + 1 = j1) (g : SL P R nt (o :: dropO R j1) env s n K) : SL P R nt (dropO R j) env s n K := by
  subst hj; rw [dropO_cons h]; exact g
theorem so_nil {K : Env → SH → Nat → Prop} (h : R.size = j) (g : K env s n) : SL P R nt (dropO R j) env s n K := by
  rw [dropO_nil h]; exact s_nil g
theorem do_open {fs : List FP} {K : Env → SH → Nat → List FP → Prop} (h : R[j]? = some o) (hj : j + 1 = j1) (g : DL P R nt (o :: dropO R j1) env s n fs K) : DL P R nt (dropO R j) env s n fs K := by
  subst hj; rw [dropO_cons h]; exact g
theorem do_nil {fs : List FP} {K : Env → SH → Nat → List FP → Prop} (h : R.size = j) (g : K env s n fs) : DL P R nt (dropO R j) env s n fs K := by
  rw [dropO_nil h]; exact d_nil g

theorem aw_seqSR {ops : Array Oper} {id : Nat} {y : Code} (f : Func) (hR : regOf f id = ops) (h : ∀ K : Env → SH → Nat → Prop, (∀ env' s' n', AW P nt k y Q env' (tb n' s') → K env' s' n') → SL P (regOf f id) nt (dropO (regOf f id) 0) env s n K) : AW P nt k (.seq (.region id ops false) y) Q env (tb n s) := by
  subst hR; refine aw_seqS fun K hK => ?_; have := h K hK; rwa [dropO_zero] at this
theorem aw_endSR {ops : Array Oper} {id : Nat} (f : Func) (hR : regOf f id = ops) (h : ∀ K : Env → SH → Nat → Prop, (∀ env' s' n', Q .normal env' (tb n' s') → K env' s' n') → SL P (regOf f id) nt (dropO (regOf f id) 0) env s n K) : AW P nt k (.region id ops false) Q env (tb n s) := by
  subst hR; refine aw_endS fun K hK => ?_; have := h K hK; rwa [dropO_zero] at this
theorem aw_seqDR {ops : Array Oper} {id : Nat} {y : Code} (f : Func) (hR : regOf f id = ops) (hm : P.follows .mixedOrders = true) (h : ∀ K : Env → SH → Nat → List FP → Prop, (∀ env' s' n' fs, safeB (regOf f id) (regOf f id).toList fs (mkBefs (regOf f id).toList []) = true → AW P nt k y Q env' (tb n' s') → K env' s' n' fs) → DL P (regOf f id) nt (dropO (regOf f id) 0) env s n [] K) : AW P nt k (.seq (.region id ops true) y) Q env (tb n s) := by
  subst hR; refine aw_seqD hm fun K hK => ?_; have := h K hK; rwa [dropO_zero] at this
theorem aw_endDR {ops : Array Oper} {id : Nat} (f : Func) (hR : regOf f id = ops) (hm : P.follows .mixedOrders = true) (h : ∀ K : Env → SH → Nat → List FP → Prop, (∀ env' s' n' fs, safeB (regOf f id) (regOf f id).toList fs (mkBefs (regOf f id).toList []) = true → Q .normal env' (tb n' s') → K env' s' n' fs) → DL P (regOf f id) nt (dropO (regOf f id) 0) env s n [] K) : AW P nt k (.region id ops true) Q env (tb n s) := by
  subst hR; refine aw_endD hm fun K hK => ?_; have := h K hK; rwa [dropO_zero] at this
end
end Go.Proofs.Ytgkedbhpeafbbaa

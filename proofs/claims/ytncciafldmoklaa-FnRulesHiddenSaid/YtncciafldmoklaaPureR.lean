/-
  Lists of rules in plain Lean: valid lists, the rule that is found, the rules that decide.
  Conditions: each states its own.
-/
import Derived.Test.YtncciafldmoklaaW2Rm
set_option linter.unusedSimpArgs false
set_option linter.unusedVariables false
namespace Go.Proofs.Ytncciafldmoklaa
open Go.RowKit

def Ru.zero : Ru := ⟨0, 0, 0, 0, 0, 0, 0, 0, 0⟩
def rAt (l : List Ru) (j : Nat) : Ru := l.getD j Ru.zero
theorem rAt_get {l : List Ru} {j : Nat} (h : j < l.length) : rAt l j = l[j] := by simp [rAt, List.getD_eq_getElem?_getD, h]
theorem rrows_at {l : List Ru} {j : Nat} (h : j < l.length) : (l.map cRule)[j]? = some (cRule (rAt l j)) := by rw [rAt_get h]; exact rows_get h
def rOk (l : List Ru) : Bool := l.all (·.good) && decide (l.length ≤ 12)
/-- FindRule. -/
def frStep (l : List Ru) (p : Pk) (k : Nat) (b : Int) : Int := if (rAt l k).hits p ∧ (b < 0 ∨ (rAt l k).pr < (rAt l b.toNat).pr) then (k : Int) else b
def frGo (l : List Ru) (p : Pk) : Nat → Nat → Int → Int
  | _, 0, b => b
  | k, n + 1, b => frGo l p (k + 1) n (frStep l p k b)
def findR (l : List Ru) (p : Pk) : Int := if rOk l = true then frGo l p 0 l.length (-1) else -1
/-- Effective. -/
def ahead (l : List Ru) (k i : Nat) : Prop := (rAt l i).pr < (rAt l k).pr ∨ ((rAt l i).pr = (rAt l k).pr ∧ i < k)
instance {l : List Ru} {k i : Nat} : Decidable (ahead l k i) := by unfold ahead; infer_instance
def hid (l : List Ru) (k i : Nat) : Bool := decide (ahead l k i) && covers (rAt l i) (rAt l k)
def hidGo (l : List Ru) (k : Nat) : Nat → Nat → Bool → Bool
  | _, 0, h => h
  | i, n + 1, h => hidGo l k (i + 1) n (h || hid l k i)
def hiddenR (l : List Ru) (k : Nat) : Bool := hidGo l k 0 l.length false
def effGo (l : List Ru) : Nat → Nat → List Int → List Int
  | _, 0, acc => acc
  | k, n + 1, acc => effGo l (k + 1) n (if hiddenR l k = true then acc else acc ++ [(k : Int)])
def effL (l : List Ru) : List Int := if rOk l = true then effGo l 0 l.length [] else []
theorem effGo_len {l : List Ru} : ∀ (n k : Nat) (acc : List Int), (effGo l k n acc).length ≤ acc.length + n
  | 0, k, acc => Nat.le_refl _
  | n + 1, k, acc => by
    have h := effGo_len (l := l) n (k + 1) (if hiddenR l k = true then acc else acc ++ [(k : Int)])
    unfold effGo
    split at h
    · rename_i h1; rw [if_pos h1]; omega
    · rename_i h1; rw [if_neg h1]; simp only [List.length_append, List.length_cons, List.length_nil] at h; omega
theorem effL_len (l : List Ru) : (effL l).length ≤ l.length := by
  unfold effL
  split
  · have := effGo_len (l := l) l.length 0 []; simpa using this
  · simp
end Go.Proofs.Ytncciafldmoklaa

/-
  More about pieces and streams in plain Lean: what the property laws on splitting and on streams apart need.
  Conditions: each states its own.
-/
import Derived.Test.YtgkedbhpeafbbaaPure4b
set_option linter.unusedSimpArgs false
set_option linter.unusedVariables false
namespace Go.Proofs.Ytgkedbhpeafbbaa
open Go.RowKit

theorem split_one {q : Pk} {z : Int} (hs : q.sup) (hz : 1 ≤ z ∧ z ≤ 128) (hb : ¬ (q.g.kd = 6 ∧ z < q.g.bd.size)) : splitL q z = [q] := by
  unfold splitL; rw [if_pos ⟨hs, hz⟩, if_neg hb]
theorem split_many {p : Pk} {z : Nat} (hs : p.sup) (hz : 1 ≤ z ∧ z ≤ 128) (hb : p.g.kd = 6 ∧ z < p.g.bd.size) : splitL p (z : Int) = (List.range (pieces p.g.bd.size z)).map (piece p z) := by
  unfold splitL; rw [if_pos ⟨hs, by omega⟩, if_pos ⟨hb.1, by omega⟩, Int.toNat_natCast]
theorem piece_size {p : Pk} {z k : Nat} : (piece p z k).g.bd.size ≤ z := by
  have : (k + 1) * z = k * z + z := Nat.succ_mul _ _
  simp only [piece, ByteArray.size_extract]; omega
theorem split_facts {p : Pk} {z : Nat} (hs : p.sup) (hz : 1 ≤ z ∧ z ≤ 128) : (∀ q ∈ splitL p (z : Int), q.sup ∧ splitL q (z : Int) = [q]) ∧ 0 < (splitL p (z : Int)).length := by
  by_cases hb : p.g.kd = 6 ∧ z < p.g.bd.size
  · rw [split_many hs hz hb]
    refine ⟨fun q hq => ?_, ?_⟩
    · obtain ⟨k, _, rfl⟩ := List.mem_map.1 hq
      have h1 := (piece_sup (k := k) hs hb.1 hz).1
      have h2 := piece_size (p := p) (z := z) (k := k)
      exact ⟨h1, split_one h1 (by omega) (by omega)⟩
    · have := (pieces_lt (n := p.g.bd.size) (k := 0) hz.1).2 (by omega)
      simpa using this
  · have h1 := split_one hs (z := z) (by omega) (by omega)
    rw [h1]
    refine ⟨fun q hq => ?_, by simp⟩
    simp at hq
    subst hq
    exact ⟨hs, h1⟩
theorem split_all_one {p : Pk} {z : Nat} (hs : p.sup) (hz : 1 ≤ z ∧ z ≤ 128) (hb : p.g.kd = 6 ∧ z < p.g.bd.size) : ∀ q ∈ splitL p (z : Int), q.one := by
  rw [split_many hs hz hb]
  intro q hq
  obtain ⟨k, _, rfl⟩ := List.mem_map.1 hq
  exact piece_sup (k := k) hs hb.1 hz
end Go.Proofs.Ytgkedbhpeafbbaa

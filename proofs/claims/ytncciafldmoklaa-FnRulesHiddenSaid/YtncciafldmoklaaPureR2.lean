/-
  Rules: the rule that is found, the rules that are hidden, and that the hidden ones change nothing.
  Conditions: the list of rules is valid.
-/
import Derived.Test.YtncciafldmoklaaPureR
set_option linter.unusedSimpArgs false
set_option linter.unusedVariables false
namespace Go.Proofs.Ytncciafldmoklaa
open Go.RowKit

/-- The best rule among the first k. -/
def Best (l : List Ru) (p : Pk) (k : Nat) (b : Int) : Prop := (b = -1 ∧ ∀ i, i < k → ¬ (rAt l i).hits p) ∨ ∃ c : Nat, c < k ∧ b = (c : Int) ∧ (rAt l c).hits p ∧ ∀ i, i < k → (rAt l i).hits p → (rAt l c).pr < (rAt l i).pr ∨ ((rAt l c).pr = (rAt l i).pr ∧ c ≤ i)
theorem best_step {l : List Ru} {p : Pk} {k : Nat} {b : Int} (h : Best l p k b) : Best l p (k + 1) (frStep l p k b) := by
  unfold frStep
  rcases h with ⟨rfl, h⟩ | ⟨c, hc, rfl, h1, h2⟩
  · by_cases hh : (rAt l k).hits p
    · rw [if_pos ⟨hh, .inl (by omega)⟩]
      refine .inr ⟨k, by omega, rfl, hh, fun i hi hi2 => ?_⟩
      rcases Nat.lt_or_ge i k with h3 | h3
      · exact absurd hi2 (h i h3)
      · obtain rfl : i = k := by omega
        exact .inr ⟨rfl, Nat.le_refl _⟩
    · rw [if_neg (fun h3 => hh h3.1)]
      refine .inl ⟨rfl, fun i hi => ?_⟩
      rcases Nat.lt_or_ge i k with h3 | h3
      · exact h i h3
      · obtain rfl : i = k := by omega
        exact hh
  · by_cases hh : (rAt l k).hits p ∧ (rAt l k).pr < (rAt l c).pr
    · rw [if_pos ⟨hh.1, .inr (by rw [Int.toNat_natCast]; exact hh.2)⟩]
      refine .inr ⟨k, by omega, rfl, hh.1, fun i hi hi2 => ?_⟩
      rcases Nat.lt_or_ge i k with h3 | h3
      · have := h2 i h3 hi2
        have := hh.2
        omega
      · obtain rfl : i = k := by omega
        exact .inr ⟨rfl, Nat.le_refl _⟩
    · rw [if_neg (fun h3 => hh ⟨h3.1, by have := h3.2; rw [Int.toNat_natCast] at this; omega⟩)]
      refine .inr ⟨c, by omega, rfl, h1, fun i hi hi2 => ?_⟩
      rcases Nat.lt_or_ge i k with h3 | h3
      · exact h2 i h3 hi2
      · obtain rfl : i = k := by omega
        have : ¬ (rAt l i).pr < (rAt l c).pr := fun h4 => hh ⟨hi2, h4⟩
        omega
theorem best_go {l : List Ru} {p : Pk} : ∀ (n k : Nat) (b : Int), Best l p k b → Best l p (k + n) (frGo l p k n b)
  | 0, k, b, h => h
  | n + 1, k, b, h => by
    have := best_go n (k + 1) _ (best_step h)
    rw [show k + (n + 1) = k + 1 + n by omega]
    exact this
theorem findR_best {l : List Ru} (h : rOk l = true) (p : Pk) : Best l p l.length (findR l p) := by
  unfold findR
  rw [if_pos h]
  have := best_go (l := l) (p := p) l.length 0 (-1) (.inl ⟨rfl, fun i hi => by omega⟩)
  rwa [Nat.zero_add] at this

theorem hidGo_iff {l : List Ru} {k : Nat} : ∀ (n i : Nat) (h : Bool), hidGo l k i n h = true ↔ h = true ∨ ∃ j, i ≤ j ∧ j < i + n ∧ hid l k j = true
  | 0, i, h => ⟨fun e => .inl e, fun e => by
      rcases e with e | ⟨j, h1, h2, _⟩
      · exact e
      · omega⟩
  | n + 1, i, h => by
    unfold hidGo
    rw [hidGo_iff n (i + 1)]
    constructor
    · rintro (e | ⟨j, h1, h2, h3⟩)
      · rcases Bool.or_eq_true_iff.1 e with e | e
        · exact .inl e
        · exact .inr ⟨i, Nat.le_refl _, by omega, e⟩
      · exact .inr ⟨j, by omega, by omega, h3⟩
    · rintro (e | ⟨j, h1, h2, h3⟩)
      · exact .inl (by rw [e]; rfl)
      · rcases Nat.lt_or_ge i j with h4 | h4
        · exact .inr ⟨j, h4, by omega, h3⟩
        · obtain rfl : j = i := by omega
          exact .inl (by rw [h3]; simp)
theorem hiddenR_iff {l : List Ru} {k : Nat} : hiddenR l k = true ↔ ∃ i, i < l.length ∧ ahead l k i ∧ covers (rAt l i) (rAt l k) = true := by
  unfold hiddenR
  rw [hidGo_iff]
  unfold hid
  simp only [Bool.and_eq_true, decide_eq_true_eq, Nat.zero_add, Nat.zero_le, true_and, Bool.false_eq_true, false_or]

theorem covers_hits {a b : Ru} (h : covers a b = true) {p : Pk} (hb : b.hits p) : a.hits p := by
  unfold covers covT preEq at h
  simp only [Bool.and_eq_true, Bool.or_eq_true, decide_eq_true_eq, beq_iff_eq] at h
  obtain ⟨⟨ga, gb⟩, ⟨⟨⟨⟨h1, h2⟩, h3⟩, h4⟩, h5⟩, h6⟩ := h
  obtain ⟨_, hs, f1, f2, f3, f4⟩ := hb
  have ba := good_bits ga
  have bb := good_bits gb
  have ea : (2 : Int) ^ (32 - a.bt).toNat = 2 ^ (32 - b.bt).toNat * 2 ^ (b.bt - a.bt).toNat := by
    rw [← Int.pow_add]; congr 1; omega
  refine ⟨ga, hs, ?_, ?_, by omega, ?_⟩
  · rcases h1 with h1 | h1
    · exact .inl h1
    · rcases f1 with f1 | f1
      · exact .inl (by omega)
      · exact .inr (by omega)
  · rw [h3, ea, ← Int.ediv_ediv_of_nonneg (Int.pow_nonneg (by decide)), f2, Int.ediv_ediv_of_nonneg (Int.pow_nonneg (by decide))]
  · rcases h6 with h6 | h6
    · exact .inl h6
    · rcases f4 with f4 | f4
      · exact .inl (by omega)
      · exact .inr (by omega)

/-- The rules that decide. -/
def keepL (l : List Ru) : List Nat := (List.range l.length).filter fun k => !hiddenR l k
theorem effGo_eq {l : List Ru} : ∀ (n k : Nat) (acc : List Int), effGo l k n acc = acc ++ ((List.range' k n).filter fun k => !hiddenR l k).map fun k : Nat => (k : Int)
  | 0, k, acc => by simp [effGo]
  | n + 1, k, acc => by
    unfold effGo
    rw [effGo_eq n (k + 1), List.range'_succ, List.filter_cons]
    cases hiddenR l k <;> simp
theorem effL_keep {l : List Ru} (h : rOk l = true) : effL l = (keepL l).map fun k : Nat => (k : Int) := by
  unfold effL keepL
  rw [if_pos h, effGo_eq, List.nil_append, List.range_eq_range']
theorem keep_lt {l : List Ru} {k : Nat} (h : k ∈ keepL l) : k < l.length := by
  unfold keepL at h
  exact List.mem_range.1 (List.mem_filter.1 h).1
theorem keep_mem {l : List Ru} {k : Nat} (hk : k < l.length) (h : ¬ hiddenR l k = true) : k ∈ keepL l := by
  unfold keepL
  exact List.mem_filter.2 ⟨List.mem_range.2 hk, by simpa using h⟩
theorem keep_sorted (l : List Ru) : (keepL l).Pairwise (· < ·) := by
  unfold keepL
  exact List.Pairwise.filter _ List.pairwise_lt_range
theorem keep_len (l : List Ru) : (keepL l).length ≤ l.length := by
  unfold keepL
  have := List.length_filter_le (fun k => !hiddenR l k) (List.range l.length)
  simpa using this
theorem first_free {l : List Ru} : ∀ n, 0 < n → ∃ k, k < n ∧ ∀ i, i < n → ¬ ahead l k i
  | 0, h => by omega
  | 1, _ => ⟨0, by omega, fun i hi => by
      obtain rfl : i = 0 := by omega
      unfold ahead; omega⟩
  | n + 2, _ => by
    obtain ⟨k, hk, h⟩ := first_free (l := l) (n + 1) (by omega)
    by_cases hh : ahead l k (n + 1)
    · refine ⟨n + 1, by omega, fun i hi => ?_⟩
      rcases Nat.lt_or_ge i (n + 1) with h1 | h1
      · have h2 := h i h1
        unfold ahead at hh h2 ⊢
        omega
      · obtain rfl : i = n + 1 := by omega
        unfold ahead; omega
    · refine ⟨k, by omega, fun i hi => ?_⟩
      rcases Nat.lt_or_ge i (n + 1) with h1 | h1
      · exact h i h1
      · obtain rfl : i = n + 1 := by omega
        exact hh
theorem keep_pos {l : List Ru} (h : 0 < l.length) : 0 < (keepL l).length := by
  obtain ⟨k, hk, hf⟩ := first_free (l := l) l.length h
  refine List.length_pos_of_mem (keep_mem hk fun hh => ?_)
  obtain ⟨i, hi, ha, _⟩ := hiddenR_iff.1 hh
  exact hf i hi ha
theorem rAt_map {K : List Nat} {l : List Ru} {d : Nat} (h : d < K.length) : rAt (K.map (rAt l)) d = rAt l K[d] := by
  rw [rAt_get (by simpa using h)]; simp
theorem keep_rOk {l : List Ru} (h : rOk l = true) : rOk ((keepL l).map (rAt l)) = true := by
  unfold rOk at h ⊢
  simp only [Bool.and_eq_true, List.all_eq_true, decide_eq_true_eq, List.length_map] at h ⊢
  refine ⟨fun r hr => ?_, Nat.le_trans (keep_len l) h.2⟩
  obtain ⟨k, hk, rfl⟩ := List.mem_map.1 hr
  have := keep_lt hk
  rw [rAt_get this]
  exact h.1 _ (List.getElem_mem this)
theorem hidden_law {l : List Ru} (h : rOk l = true) (p : Pk) : (findR l p = -1 ∧ findR ((keepL l).map (rAt l)) p = -1) ∨ ∃ c d : Nat, ∃ hd : d < (keepL l).length, c < l.length ∧ findR l p = (c : Int) ∧ findR ((keepL l).map (rAt l)) p = (d : Int) ∧ (keepL l)[d] = c := by
  have h1 := findR_best h p
  have h2 := findR_best (keep_rOk h) p
  rw [List.length_map] at h2
  rcases h1 with ⟨e1, n1⟩ | ⟨c, hc, e1, c1, c2⟩
  · rcases h2 with ⟨e2, _⟩ | ⟨d, hd, e2, d1, _⟩
    · exact .inl ⟨e1, e2⟩
    · rw [rAt_map hd] at d1
      exact absurd d1 (n1 _ (keep_lt (List.getElem_mem hd)))
  · have hmem : c ∈ keepL l := keep_mem hc fun hh => by
      obtain ⟨i, hi, ha, hcv⟩ := hiddenR_iff.1 hh
      have := c2 i hi (covers_hits hcv c1)
      unfold ahead at ha
      omega
    obtain ⟨j, hj, ej⟩ := List.mem_iff_getElem.1 hmem
    rcases h2 with ⟨_, n2⟩ | ⟨d, hd, e2, d1, d2⟩
    · refine absurd ?_ (n2 j hj)
      rw [rAt_map hj, ej]; exact c1
    · right
      refine ⟨c, d, hd, hc, e1, e2, ?_⟩
      have k1 := d2 j hj (by rw [rAt_map hj, ej]; exact c1)
      rw [rAt_map hd, rAt_map hj, ej] at k1
      rw [rAt_map hd] at d1
      have k2 := c2 _ (keep_lt (List.getElem_mem hd)) d1
      rcases Nat.lt_or_ge d j with hdj | hdj
      · have := List.pairwise_iff_getElem.1 (keep_sorted l) d j hd hj hdj
        rw [ej] at this
        omega
      · have hjd : d = j := by omega
        subst hjd
        exact ej
end Go.Proofs.Ytncciafldmoklaa

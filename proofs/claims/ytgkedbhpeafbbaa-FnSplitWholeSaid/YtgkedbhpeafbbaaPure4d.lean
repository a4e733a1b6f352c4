/-
  What the pieces of a packet are, one after the other, in plain Lean: their bodies follow each other, their numbers count on, only the last one carries the marks.
  Conditions: each states its own.
-/
import Derived.Test.YtgkedbhpeafbbaaPure4c
set_option linter.unusedSimpArgs false
set_option linter.unusedVariables false
namespace Go.Proofs.Ytgkedbhpeafbbaa
open Go.RowKit

theorem split_one_all {p : Pk} {z : Nat} (hs : p.sup) (hz : 1 ≤ z ∧ z ≤ 128) : ∀ q ∈ splitL p (z : Int), q.one := by
  by_cases hb : p.g.kd = 6 ∧ z < p.g.bd.size
  · exact split_all_one hs hz hb
  · rw [split_one hs (by omega) (by omega)]
    intro q hq
    simp at hq
    subst hq
    refine ⟨hs, ?_⟩
    have h1 := hs.kd
    have h2 := hs.2
    unfold PkB at h2
    omega

/-- What a piece is, where the bodies of those ahead of it are `a` and its own one ends at `b`. -/
structure Follows (p x : Pk) (z : Nat) (k : Nat) (last : Prop) (a b : ByteArray) : Prop where
  sup : x.sup
  sq : x.g.sq = (p.g.sq + (a.size : Int)) % 4294967296
  id : x.id = (p.id + k) % 65536
  pth : path x p
  flow : x.flow = p.flow
  body : a ++ x.g.bd = b
  small : a.size + x.g.bd.size ≤ 320
  full : ¬ last → x.g.bd.size = z ∧ bitsOf .i64 .and x.g.fl 9 = 0

theorem whole_facts {p : Pk} {z : Nat} (hs : p.sup) (hz : 1 ≤ z ∧ z ≤ 128) : ∃ B : Nat → ByteArray, B 0 = ⟨#[]⟩ ∧ B (splitL p (z : Int)).length = p.g.bd ∧
    (∀ k (hk : k < (splitL p (z : Int)).length), Follows p (splitL p (z : Int))[k] z k (k + 1 = (splitL p (z : Int)).length) (B k) (B (k + 1))) ∧
    (∀ k (hk : k < (splitL p (z : Int)).length), k + 1 = (splitL p (z : Int)).length → (splitL p (z : Int))[k].g.fl = p.g.fl) := by
  have hbd := hs.bd
  have hidr := hs.idr
  have hsq := hs.sq
  by_cases hb : p.g.kd = 6 ∧ z < p.g.bd.size
  · have e := split_many hs hz hb
    have hlen : (splitL p (z : Int)).length = pieces p.g.bd.size z := by rw [e]; simp
    have hget : ∀ k (hk : k < (splitL p (z : Int)).length), (splitL p (z : Int))[k] = piece p z k := fun k hk => by simp [e]
    have hlt : ∀ k, k < (splitL p (z : Int)).length ↔ k * z < p.g.bd.size := fun k => by rw [hlen]; exact pieces_lt hz.1
    have hL : ¬ (splitL p (z : Int)).length * z < p.g.bd.size := fun h => Nat.lt_irrefl _ ((hlt _).2 h)
    have hlast : ∀ k, k < (splitL p (z : Int)).length → (k + 1 = (splitL p (z : Int)).length ↔ ¬ (k + 1) * z < p.g.bd.size) := fun k hk => by
      have := hlt (k + 1)
      constructor
      · intro h h2; have := this.2 h2; omega
      · intro h; have : ¬ k + 1 < (splitL p (z : Int)).length := fun h2 => h (this.1 h2); omega
    refine ⟨fun k => p.g.bd.extract 0 (min (k * z) p.g.bd.size), ?_, ?_, ?_, ?_⟩
    · simp only [Nat.zero_mul, Nat.zero_min]
      apply ByteArray.ext; simp
    · show p.g.bd.extract 0 (min ((splitL p (z : Int)).length * z) p.g.bd.size) = p.g.bd
      rw [Nat.min_eq_right (by omega)]
      exact ByteArray.extract_zero_size
    · intro k hk
      have hkz := (hlt k).1 hk
      have h1 : (k + 1) * z = k * z + z := Nat.succ_mul _ _
      have hmin : min (k * z) p.g.bd.size = k * z := Nat.min_eq_left (by omega)
      have hsz : (p.g.bd.extract 0 (min (k * z) p.g.bd.size)).size = k * z := by rw [ByteArray.size_extract]; omega
      rw [hget k hk]
      refine ⟨(piece_sup (k := k) hs hb.1 hz).1, ?_, rfl, ?_, rfl, ?_, ?_, ?_⟩
      · dsimp only; rw [hsz]; rfl
      · unfold path; simp [piece]
      · dsimp only [piece]; rw [hmin]; exact ext_app (Nat.zero_le _) (by omega)
      · dsimp only; rw [hsz]; simp only [piece, ByteArray.size_extract]; omega
      · intro hl
        have hn : (k + 1) * z < p.g.bd.size := Decidable.not_not.1 fun h => hl ((hlast k hk).2 h)
        refine ⟨?_, ?_⟩
        · simp only [piece, ByteArray.size_extract]; omega
        · simp only [piece]; rw [if_pos hn]; exact (an9_syn (sup_flags hs)).2.2.2.1
    · intro k hk hl
      rw [hget k hk]
      simp only [piece]
      rw [if_neg ((hlast k hk).1 hl)]
  · have e := split_one hs (z := z) (by omega) (by omega)
    have hlen : (splitL p (z : Int)).length = 1 := by rw [e]; rfl
    have hget : ∀ k (hk : k < (splitL p (z : Int)).length), (splitL p (z : Int))[k] = p := fun k hk => by simp [e]
    refine ⟨fun k => if k = 0 then ⟨#[]⟩ else p.g.bd, by simp, by simp [hlen], ?_, fun k hk _ => by rw [hget k hk]⟩
    intro k hk
    have hk0 : k = 0 := by omega
    rw [hget k hk]
    subst hk0
    refine ⟨hs, ?_, by simp; omega, by unfold path; simp, rfl, ?_, ?_, fun h => absurd (by omega) h⟩
    · show p.g.sq = (p.g.sq + ((0 : Nat) : Int)) % 4294967296
      omega
    · simp only [if_true, Nat.zero_add, Nat.one_ne_zero, if_false]
      exact ByteArray.empty_append
    · show 0 + p.g.bd.size ≤ 320
      omega
end Go.Proofs.Ytgkedbhpeafbbaa

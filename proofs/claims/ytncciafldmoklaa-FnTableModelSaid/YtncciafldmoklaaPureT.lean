/-
  Flow tables in plain Lean: the slots on a flow's way, the first used slot of a flow, valid tables told in two ways.
  Conditions: each states its own.
-/
import Derived.Test.YtncciafldmoklaaBase
import Derived.Test.YtncciafldmoklaaHome
set_option linter.unusedSimpArgs false
set_option linter.unusedVariables false
namespace Go.Proofs.Ytncciafldmoklaa
open Go.RowKit

def hm (f : Fl) : Nat := (home f).toNat
theorem hm_lt (f : Fl) : hm f < 8 := by have := home_lt f; unfold hm; omega
theorem home_hm (f : Fl) : home f = (hm f : Int) := by have := home_lt f; unfold hm; omega
/-- The k-th slot on the way of a flow. -/
def way (f : Fl) (k : Nat) : Nat := (hm f + k) % 8
theorem way_lt (f : Fl) (k : Nat) : way f k < 8 := by unfold way; omega
/-- The place of a slot on the way of a flow. -/
def ps (f : Fl) (j : Nat) : Nat := (j + 8 - hm f) % 8
theorem ps_lt (f : Fl) (j : Nat) : ps f j < 8 := by unfold ps; omega
theorem way_ps {f : Fl} {j : Nat} (h : j < 8) : way f (ps f j) = j := by have := hm_lt f; unfold way ps; omega
theorem ps_way {f : Fl} {k : Nat} (h : k < 8) : ps f (way f k) = k := by have := hm_lt f; unfold way ps; omega
theorem way_int (f : Fl) (k : Nat) : ((hm f : Int) + (k : Int)) % 8 = (way f k : Int) := by unfold way; omega

def Fl.zero : Fl := ⟨0, 0, 0, 0, 0⟩
def Sl.zero : Sl := ⟨0, Fl.zero, 0⟩
def sAt (l : List Sl) (j : Nat) : Sl := l.getD j Sl.zero
theorem sAt_get {l : List Sl} {j : Nat} (h : j < l.length) : sAt l j = l[j] := by simp [sAt, List.getD_eq_getElem?_getD, h]
theorem sAt_zero {x : Sl} {l : List Sl} : sAt (x :: l) 0 = x := rfl
theorem sAt_succ {x : Sl} {l : List Sl} {j : Nat} : sAt (x :: l) (j + 1) = sAt l j := rfl
theorem sAt_set {l : List Sl} {i : Nat} {x : Sl} (h : i < l.length) (j : Nat) : sAt (l.set i x) j = if i = j then x else sAt l j := by
  unfold sAt
  rw [List.getD_eq_getElem?_getD, List.getD_eq_getElem?_getD, List.getElem?_set]
  by_cases e : i = j
  · subst e; simp [h]
  · rw [if_neg e, if_neg e]

/-- The slot is used for the flow. -/
def Sl.has (s : Sl) (f : Fl) : Prop := s.st = 1 ∧ s.f = f
instance {s : Sl} {f : Fl} : Decidable (s.has f) := by unfold Sl.has; infer_instance
theorem has_iff {s : Sl} {f : Fl} : s.has f ↔ s.st = 1 ∧ (s.f.k = f.k ∧ s.f.s = f.s ∧ s.f.d = f.d ∧ s.f.p = f.p ∧ s.f.q = f.q) := by
  unfold Sl.has
  refine and_congr_right fun _ => ⟨fun h => by rw [h]; simp, fun ⟨h1, h2, h3, h4, h5⟩ => ?_⟩
  rcases s with ⟨st, ⟨a, b, c, d, e⟩, qu⟩; rcases f with ⟨a', b', c', d', e'⟩
  simp_all

/-- The reference's search: along the way, up to an empty slot. -/
def wFind (l : List Sl) (f : Fl) : Nat → Nat → Int
  | _, 0 => -1
  | k, n + 1 => if (sAt l (way f k)).st = 0 then -1 else if (sAt l (way f k)).has f then (way f k : Int) else wFind l f (k + 1) n
def find (l : List Sl) (f : Fl) : Int := wFind l f 0 8

theorem wFind_eq {l : List Sl} {f : Fl} {j : Nat} (hj : j < 8) : ∀ (n k : Nat), k + n = 8 →
    (wFind l f k n = (j : Int) ↔ k ≤ ps f j ∧ (sAt l j).has f ∧ ∀ m, k ≤ m → m < ps f j → (sAt l (way f m)).st ≠ 0 ∧ ¬ (sAt l (way f m)).has f)
  | 0, k, h => by
    have := ps_lt f j
    unfold wFind
    constructor
    · intro e; omega
    · intro e; omega
  | n + 1, k, h => by
    have hp := ps_lt f j
    have hwj := way_ps (f := f) hj
    have hpk := ps_way (f := f) (k := k) (by omega)
    have ih := wFind_eq (l := l) (f := f) hj n (k + 1) (by omega)
    unfold wFind
    by_cases h0 : (sAt l (way f k)).st = 0
    · rw [if_pos h0]
      refine ⟨fun e => by omega, fun ⟨h1, h2, h3⟩ => ?_⟩
      rcases Nat.lt_or_ge k (ps f j) with h4 | h4
      · exact absurd h0 (h3 k (Nat.le_refl _) h4).1
      · have e : k = ps f j := by omega
        rw [e, hwj] at h0
        have := h2.1
        omega
    · rw [if_neg h0]
      by_cases h1 : (sAt l (way f k)).has f
      · rw [if_pos h1]
        constructor
        · intro e
          have e2 : way f k = j := by omega
          subst e2
          rw [hpk]
          exact ⟨Nat.le_refl _, h1, fun m g1 g2 => by omega⟩
        · rintro ⟨g1, g2, g3⟩
          rcases Nat.lt_or_ge k (ps f j) with h4 | h4
          · exact absurd h1 (g3 k (Nat.le_refl _) h4).2
          · have e : k = ps f j := by omega
            rw [e, hwj]
      · rw [if_neg h1, ih]
        constructor
        · rintro ⟨g1, g2, g3⟩
          refine ⟨by omega, g2, fun m g4 g5 => ?_⟩
          rcases Nat.lt_or_ge k m with h4 | h4
          · exact g3 m h4 g5
          · have e : m = k := by omega
            rw [e]; exact ⟨h0, h1⟩
        · rintro ⟨g1, g2, g3⟩
          refine ⟨?_, g2, fun m g4 g5 => g3 m (by omega) g5⟩
          rcases Nat.lt_or_ge k (ps f j) with h4 | h4
          · exact h4
          · have e : k = ps f j := by omega
            rw [e, hwj] at h1
            exact absurd g2 h1
theorem wFind_cases {l : List Sl} {f : Fl} : ∀ (n k : Nat), wFind l f k n = -1 ∨ ∃ j, j < 8 ∧ wFind l f k n = ((j : Nat) : Int)
  | 0, k => .inl rfl
  | n + 1, k => by
    unfold wFind
    split
    · exact .inl rfl
    · split
      · exact .inr ⟨_, way_lt f k, rfl⟩
      · exact wFind_cases n (k + 1)
theorem find_eq {l : List Sl} {f : Fl} {j : Nat} (hj : j < 8) : find l f = (j : Int) ↔ (sAt l j).has f ∧ ∀ m, m < ps f j → (sAt l (way f m)).st ≠ 0 ∧ ¬ (sAt l (way f m)).has f := by
  rw [find, wFind_eq hj 8 0 rfl]
  exact ⟨fun ⟨_, h2, h3⟩ => ⟨h2, fun m hm => h3 m (Nat.zero_le _) hm⟩, fun ⟨h2, h3⟩ => ⟨Nat.zero_le _, h2, fun m _ hm => h3 m hm⟩⟩
theorem find_cases {l : List Sl} {f : Fl} : find l f = -1 ∨ ∃ j, j < 8 ∧ find l f = ((j : Nat) : Int) := wFind_cases 8 0

/-- The program's search: the first used slot of a flow. -/
def uIdx (f : Fl) : Nat → List Sl → Int
  | _, [] => -1
  | k, x :: l => if x.has f then (k : Int) else uIdx f (k + 1) l
theorem uIdx_lt (f : Fl) : ∀ (l : List Sl) (k : Nat), uIdx f k l = -1 ∨ ∃ j : Nat, j < l.length ∧ uIdx f k l = ((k + j : Nat) : Int)
  | [], k => .inl rfl
  | x :: l, k => by
    unfold uIdx
    split
    · exact .inr ⟨0, by simp, rfl⟩
    · rcases uIdx_lt f l (k + 1) with h | ⟨j, h1, h2⟩
      · exact .inl h
      · exact .inr ⟨j + 1, by simpa using h1, by rw [h2]; congr 1; omega⟩
theorem uIdx_eqk {f : Fl} : ∀ (l : List Sl) (k j : Nat), uIdx f k l = ((k + j : Nat) : Int) ↔ j < l.length ∧ (sAt l j).has f ∧ ∀ i, i < j → ¬ (sAt l i).has f
  | [], k, j => by
    unfold uIdx
    constructor
    · intro h; omega
    · rintro ⟨h, _⟩; simp at h
  | x :: l, k, j => by
    unfold uIdx
    by_cases hx : x.has f
    · rw [if_pos hx]
      constructor
      · intro e
        have e0 : j = 0 := by omega
        subst e0
        exact ⟨by simp, hx, fun i hi => by omega⟩
      · rintro ⟨h1, h2, h3⟩
        rcases Nat.eq_zero_or_pos j with e | e
        · subst e; rfl
        · exact absurd hx (h3 0 e)
    · rw [if_neg hx]
      cases j with
      | zero =>
        constructor
        · intro e
          rcases uIdx_lt f l (k + 1) with h | ⟨j, h1, h2⟩ <;> omega
        · rintro ⟨_, h2, _⟩; exact absurd h2 hx
      | succ j =>
        have ih := uIdx_eqk (f := f) l (k + 1) j
        rw [show k + (j + 1) = k + 1 + j by omega, ih, List.length_cons]
        constructor
        · rintro ⟨h1, h2, h3⟩
          refine ⟨by omega, h2, fun i hi => ?_⟩
          cases i with
          | zero => exact hx
          | succ i => exact h3 i (by omega)
        · rintro ⟨h1, h2, h3⟩
          exact ⟨by omega, h2, fun i hi => h3 (i + 1) (by omega)⟩
theorem uIdx_eq {f : Fl} {l : List Sl} {j : Nat} : uIdx f 0 l = (j : Int) ↔ j < l.length ∧ (sAt l j).has f ∧ ∀ i, i < j → ¬ (sAt l i).has f := by
  have := uIdx_eqk (f := f) l 0 j
  rwa [Nat.zero_add] at this
theorem uIdx_cases (f : Fl) (l : List Sl) : uIdx f 0 l = -1 ∨ ∃ j : Nat, j < l.length ∧ uIdx f 0 l = (j : Int) := by
  rcases uIdx_lt f l 0 with h | ⟨j, h1, h2⟩
  · exact .inl h
  · exact .inr ⟨j, h1, by rw [h2, Nat.zero_add]⟩
theorem uIdx_has {f : Fl} : ∀ {l : List Sl} {k j : Nat}, j < l.length → (sAt l j).has f → uIdx f k l ≠ -1
  | [], _, _, h, _ => by simp at h
  | x :: l, k, 0, _, h => by unfold uIdx; rw [if_pos (show x.has f from h)]; omega
  | x :: l, k, j + 1, h, h2 => by
    unfold uIdx
    split
    · omega
    · exact uIdx_has (j := j) (by simpa using h) h2
theorem uIdx_neg {f : Fl} {l : List Sl} : uIdx f 0 l = -1 ↔ ∀ i, i < l.length → ¬ (sAt l i).has f := by
  constructor
  · intro h i hi hh
    exact uIdx_has hi hh h
  · intro h
    rcases uIdx_cases f l with h1 | ⟨j, h1, h2⟩
    · exact h1
    · exact absurd (uIdx_eq.1 h2).2.1 (h j h1)

/-! ### valid tables -/
def SlotB (s : Sl) : Prop := (0 ≤ s.st ∧ s.st ≤ 2) ∧ (0 ≤ s.qu ∧ s.qu ≤ 3) ∧ (s.st = 1 ∨ (s.qu = 0 ∧ (s.f.k = 0 ∧ s.f.s = 0 ∧ s.f.d = 0 ∧ s.f.p = 0 ∧ s.f.q = 0)))
def wayOk (l : List Sl) (f : Fl) (i : Nat) : Prop := ∀ m, m < ps f i → (sAt l (way f m)).st ≠ 0
def Tok (l : List Sl) : Prop := l.length = 8 ∧ ∀ j, j < 8 → SlotB (sAt l j) ∧ ((sAt l j).st = 1 → find l (sAt l j).f = (j : Int))
def TokI (l : List Sl) : Prop := l.length = 8 ∧ ∀ j, j < 8 → SlotB (sAt l j) ∧ ((sAt l j).st = 1 → uIdx (sAt l j).f 0 l = (j : Int) ∧ wayOk l (sAt l j).f j)
theorem tok_iff {l : List Sl} : Tok l ↔ TokI l := by
  unfold Tok TokI
  refine and_congr_right fun hl => ⟨fun h j hj => ?_, fun h j hj => ?_⟩
  · refine ⟨(h j hj).1, fun h1 => ?_⟩
    have hf := (h j hj).2 h1
    obtain ⟨g1, g2⟩ := (find_eq hj).1 hf
    refine ⟨uIdx_eq.2 ⟨by omega, g1, fun i hi hh => ?_⟩, fun m hm => (g2 m hm).1⟩
    have h2 := (h i (by omega)).2 hh.1
    rw [hh.2, hf] at h2
    omega
  · refine ⟨(h j hj).1, fun h1 => ?_⟩
    obtain ⟨g1, g2⟩ := (h j hj).2 h1
    refine (find_eq hj).2 ⟨(uIdx_eq.1 g1).2.1, fun m hm => ⟨g2 m hm, fun hh => ?_⟩⟩
    have h2 := ((h (way (sAt l j).f m) (way_lt _ _)).2 hh.1).1
    rw [hh.2, g1] at h2
    have h3 : way (sAt l j).f m = j := by omega
    have h4 := ps_way (f := (sAt l j).f) (k := m) (by have := ps_lt (sAt l j).f j; omega)
    rw [h3] at h4
    omega
open Classical in
noncomputable def tok (l : List Sl) : Bool := decide (Tok l)
theorem tok_true {l : List Sl} : tok l = true ↔ Tok l := by unfold tok; simp
theorem tok_false {l : List Sl} : tok l = false ↔ ¬ Tok l := by unfold tok; simp
theorem find_uIdx {l : List Sl} (h : Tok l) (f : Fl) : find l f = uIdx f 0 l := by
  rcases uIdx_cases f l with h1 | ⟨j, h1, h2⟩
  · rw [h1]
    rcases find_cases (l := l) (f := f) with h3 | ⟨j, h3, h4⟩
    · exact h3
    · exact absurd ((find_eq h3).1 h4).1 (uIdx_neg.1 h1 j (by rw [h.1]; exact h3))
  · rw [h2]
    have hh := (uIdx_eq.1 h2).2.1
    have := (h.2 j (by have := h.1; omega)).2 hh.1
    rwa [hh.2] at this

/-- The first slot on the way that is not used. -/
def freeW (l : List Sl) (f : Fl) : Nat → Nat → Int
  | _, 0 => -1
  | k, n + 1 => if (sAt l (way f k)).st = 1 then freeW l f (k + 1) n else (way f k : Int)
theorem freeW_cases {l : List Sl} {f : Fl} : ∀ (n k : Nat), freeW l f k n = -1 ∨ ∃ j, j < 8 ∧ freeW l f k n = ((j : Nat) : Int)
  | 0, k => .inl rfl
  | n + 1, k => by
    unfold freeW
    split
    · exact freeW_cases n (k + 1)
    · exact .inr ⟨_, way_lt f k, rfl⟩
/-- The slot for a flow. -/
def putI (l : List Sl) (f : Fl) : Int := if 0 ≤ uIdx f 0 l then uIdx f 0 l else freeW l f 0 8
theorem putI_cases {l : List Sl} (h : l.length = 8) (f : Fl) : putI l f = -1 ∨ ∃ j, j < 8 ∧ putI l f = ((j : Nat) : Int) := by
  unfold putI
  split
  · rename_i h1
    rcases uIdx_cases f l with h2 | ⟨j, h2, h3⟩
    · omega
    · exact .inr ⟨j, by omega, h3⟩
  · exact freeW_cases 8 0
/-- PutFlow. -/
noncomputable def putL (l : List Sl) (f : Fl) (q : Int) : List Sl := if tok l = true ∧ 0 ≤ q ∧ q ≤ 3 then (match putI l f with | .ofNat i => l.set i ⟨1, f, q⟩ | .negSucc _ => l) else l
noncomputable def putB (l : List Sl) (f : Fl) (q : Int) : Bool := if tok l = true ∧ 0 ≤ q ∧ q ≤ 3 then decide (0 ≤ putI l f) else false
theorem putL_len {l : List Sl} {f : Fl} {q : Int} : (putL l f q).length = l.length := by
  unfold putL
  split
  · split <;> simp
  · rfl
/-- FindFlow. -/
noncomputable def findF (l : List Sl) (f : Fl) : Int := if tok l = true then uIdx f 0 l else -1
/-- DropFlow. -/
noncomputable def dropL (l : List Sl) (f : Fl) : List Sl := match findF l f with | .ofNat i => l.set i ⟨2, Fl.zero, 0⟩ | .negSucc _ => l
theorem dropL_len {l : List Sl} {f : Fl} : (dropL l f).length = l.length := by unfold dropL; split <;> simp
/-- TableFlows. -/
def flowsL : List Sl → List Fl
  | [] => []
  | x :: l => if x.st = 1 then x.f :: flowsL l else flowsL l
theorem flowsL_len : ∀ l : List Sl, (flowsL l).length ≤ l.length
  | [] => Nat.le_refl _
  | x :: l => by have := flowsL_len l; unfold flowsL; split <;> simp <;> omega
noncomputable def tflows (l : List Sl) : List Fl := if tok l = true then flowsL l else []
/-- Compacted. -/
noncomputable def compGo : List Sl → List Sl → List Sl
  | acc, [] => acc
  | acc, x :: l => compGo (if x.st = 1 then putL acc x.f x.qu else acc) l
noncomputable def compL (l : List Sl) : List Sl := if tok l = true then compGo (List.replicate 8 Sl.zero) l else []
theorem compGo_len : ∀ (l acc : List Sl), (compGo acc l).length = acc.length
  | [], acc => rfl
  | x :: l, acc => by
    unfold compGo
    rw [compGo_len l]
    split
    · exact putL_len
    · rfl
end Go.Proofs.Ytncciafldmoklaa

/-
  Flow tables as lists of pairs: what PutFlow, DropFlow, FindFlow and Compacted do to the flows and queues that a valid table holds.
  Conditions: each states its own.
-/
import Derived.Test.YtncciafldmoklaaPureT
set_option linter.unusedSimpArgs false
set_option linter.unusedVariables false
namespace Go.Proofs.Ytncciafldmoklaa
open Go.RowKit

/-- The table holds the flow with the queue. -/
def holds (l : List Sl) (g : Fl) (p : Int) : Prop := ∃ j, j < 8 ∧ (sAt l j).st = 1 ∧ (sAt l j).f = g ∧ (sAt l j).qu = p
def cntU : List Sl → Nat
  | [] => 0
  | x :: l => (if x.st = 1 then 1 else 0) + cntU l
theorem flowsL_cnt : ∀ l : List Sl, (flowsL l).length = cntU l
  | [] => rfl
  | x :: l => by
    have := flowsL_cnt l
    unfold flowsL cntU
    split <;> simp <;> omega
theorem cntU_set : ∀ (l : List Sl) (i : Nat) (x : Sl), i < l.length → cntU (l.set i x) + (if (sAt l i).st = 1 then 1 else 0) = cntU l + (if x.st = 1 then 1 else 0)
  | [], i, x, h => by simp at h
  | y :: l, 0, x, h => by
    rw [List.set_cons_zero, sAt_zero, cntU, cntU]; omega
  | y :: l, i + 1, x, h => by
    have := cntU_set l i x (by simpa using h)
    rw [List.set_cons_succ, sAt_succ, cntU, cntU]; omega
theorem cntU_le : ∀ l : List Sl, cntU l ≤ l.length
  | [] => Nat.le_refl _
  | x :: l => by have := cntU_le l; unfold cntU; simp only [List.length_cons]; split <;> omega
theorem cntU_all : ∀ l : List Sl, (∀ j, j < l.length → (sAt l j).st = 1) → cntU l = l.length
  | [], _ => rfl
  | x :: l, h => by
    have h0 := h 0 (by simp)
    rw [sAt_zero] at h0
    have := cntU_all l fun j hj => h (j + 1) (by simpa using hj)
    unfold cntU; rw [if_pos h0, this]; simp; omega
theorem cntU_some : ∀ (l : List Sl) (j : Nat), j < l.length → (sAt l j).st ≠ 1 → cntU l < l.length
  | [], j, h, _ => by simp at h
  | x :: l, 0, _, h => by
    have := cntU_le l
    rw [sAt_zero] at h
    unfold cntU; rw [if_neg h]; simp; omega
  | x :: l, j + 1, h, h2 => by
    have := cntU_some l j (by simpa using h) h2
    unfold cntU; simp; split <;> omega

theorem tok_way {l : List Sl} : Tok l ↔ l.length = 8 ∧ ∀ j, j < 8 → SlotB (sAt l j) ∧ ((sAt l j).st = 1 → ∀ m, m < ps (sAt l j).f j → (sAt l (way (sAt l j).f m)).st ≠ 0 ∧ ¬ (sAt l (way (sAt l j).f m)).has (sAt l j).f) := by
  unfold Tok
  refine and_congr_right fun _ => forall_congr' fun j => forall_congr' fun hj => and_congr_right fun _ => ?_
  refine forall_congr' fun h1 => ?_
  rw [find_eq hj]
  exact ⟨fun h => h.2, fun h => ⟨⟨h1, rfl⟩, h⟩⟩
theorem tok_uniq {l : List Sl} (h : Tok l) {i j : Nat} {f : Fl} (hi : i < 8) (hj : j < 8) (h1 : (sAt l i).has f) (h2 : (sAt l j).has f) : i = j := by
  have e1 := (h.2 i hi).2 h1.1
  have e2 := (h.2 j hj).2 h2.1
  rw [h1.2] at e1
  rw [h2.2, e1] at e2
  omega
theorem holds_uniq {l : List Sl} (h : Tok l) {f : Fl} {p q : Int} (h1 : holds l f p) (h2 : holds l f q) : p = q := by
  obtain ⟨i, hi, a1, a2, a3⟩ := h1
  obtain ⟨j, hj, b1, b2, b3⟩ := h2
  have := tok_uniq h hi hj ⟨a1, a2⟩ ⟨b1, b2⟩
  subst this
  rw [← a3, ← b3]

/-! ### a slot is written -/
theorem tok_over {l : List Sl} {f : Fl} {q : Int} {i : Nat} (h : Tok l) (hi : i < 8) (hh : (sAt l i).has f) (hq : 0 ≤ q ∧ q ≤ 3) : Tok (l.set i ⟨1, f, q⟩) := by
  rw [tok_way] at h ⊢
  obtain ⟨hl, h⟩ := h
  have hs := sAt_set (l := l) (i := i) (x := ⟨1, f, q⟩) (by omega)
  have hst : ∀ j, (sAt (l.set i ⟨1, f, q⟩) j).st = (sAt l j).st := fun j => by
    rw [hs]; split
    · rename_i e; subst e; exact hh.1.symm
    · rfl
  have hf : ∀ j, (sAt (l.set i ⟨1, f, q⟩) j).f = (sAt l j).f := fun j => by
    rw [hs]; split
    · rename_i e; subst e; exact hh.2.symm
    · rfl
  refine ⟨by simpa using hl, fun j hj => ⟨?_, fun h1 m hm => ?_⟩⟩
  · rw [hs]; split
    · exact ⟨⟨show (0 : Int) ≤ 1 by decide, show (1 : Int) ≤ 2 by decide⟩, hq, .inl rfl⟩
    · exact (h j hj).1
  · unfold Sl.has
    rw [hf, hst, hf]
    rw [hf] at hm
    rw [hst] at h1
    exact (h j hj).2 h1 m hm
theorem tok_new {l : List Sl} {f : Fl} {q : Int} {m0 : Nat} (h : Tok l) (hm0 : m0 < 8) (hno : ∀ j, j < 8 → ¬ (sAt l j).has f) (hst : (sAt l (way f m0)).st ≠ 1) (hb : ∀ m, m < m0 → (sAt l (way f m)).st = 1) (hq : 0 ≤ q ∧ q ≤ 3) : Tok (l.set (way f m0) ⟨1, f, q⟩) := by
  rw [tok_way] at h ⊢
  obtain ⟨hl, h⟩ := h
  have hw := way_lt f m0
  have hs := sAt_set (l := l) (i := way f m0) (x := ⟨1, f, q⟩) (by omega)
  refine ⟨by simpa using hl, fun j hj => ⟨?_, fun h1 m hm => ?_⟩⟩
  · rw [hs]; split
    · exact ⟨⟨show (0 : Int) ≤ 1 by decide, show (1 : Int) ≤ 2 by decide⟩, hq, .inl rfl⟩
    · exact (h j hj).1
  · rw [hs j] at h1 hm ⊢
    by_cases e : way f m0 = j
    · simp only [if_pos e] at hm ⊢
      rw [← e, ps_way hm0] at hm
      have hne : ¬ way f m0 = way f m := fun e2 => by
        have := congrArg (ps f) e2
        rw [ps_way hm0, ps_way (by omega)] at this
        omega
      rw [hs, if_neg hne]
      exact ⟨by rw [hb m hm]; decide, hno _ (way_lt _ _)⟩
    · simp only [if_neg e] at h1 hm ⊢
      rw [hs]
      split
      · exact ⟨show (1 : Int) ≠ 0 by decide, fun h2 => hno j hj ⟨h1, h2.2.symm⟩⟩
      · exact (h j hj).2 h1 m hm
theorem tok_drop {l : List Sl} {i : Nat} (h : Tok l) (hi : i < 8) : Tok (l.set i ⟨2, Fl.zero, 0⟩) := by
  rw [tok_way] at h ⊢
  obtain ⟨hl, h⟩ := h
  have hs := sAt_set (l := l) (i := i) (x := ⟨2, Fl.zero, 0⟩) (by omega)
  refine ⟨by simpa using hl, fun j hj => ⟨?_, fun h1 m hm => ?_⟩⟩
  · rw [hs]; split
    · exact ⟨⟨by decide, by decide⟩, ⟨by decide, by decide⟩, .inr ⟨rfl, rfl, rfl, rfl, rfl, rfl⟩⟩
    · exact (h j hj).1
  · rw [hs j] at h1 hm ⊢
    by_cases e : i = j
    · simp only [if_pos e] at h1
      exact absurd h1 (by decide)
    · simp only [if_neg e] at h1 hm ⊢
      rw [hs]
      split
      · exact ⟨by decide, fun h2 => absurd h2.1 (by decide)⟩
      · exact (h j hj).2 h1 m hm
theorem holds_set {l : List Sl} {i : Nat} {x : Sl} (hl : l.length = 8) (hi : i < 8) {g : Fl} {p : Int} : holds (l.set i x) g p ↔ (x.st = 1 ∧ x.f = g ∧ x.qu = p) ∨ ∃ j, j < 8 ∧ j ≠ i ∧ (sAt l j).st = 1 ∧ (sAt l j).f = g ∧ (sAt l j).qu = p := by
  have hs := sAt_set (l := l) (i := i) (x := x) (by omega)
  constructor
  · rintro ⟨j, hj, h1, h2, h3⟩
    rw [hs] at h1 h2 h3
    by_cases e : i = j
    · simp only [if_pos e] at h1 h2 h3; exact .inl ⟨h1, h2, h3⟩
    · simp only [if_neg e] at h1 h2 h3; exact .inr ⟨j, hj, fun e2 => e e2.symm, h1, h2, h3⟩
  · rintro (⟨h1, h2, h3⟩ | ⟨j, hj, hne, h1, h2, h3⟩)
    · exact ⟨i, hi, by rw [hs, if_pos rfl]; exact h1, by rw [hs, if_pos rfl]; exact h2, by rw [hs, if_pos rfl]; exact h3⟩
    · exact ⟨j, hj, by rw [hs, if_neg (fun e => hne e.symm)]; exact h1, by rw [hs, if_neg (fun e => hne e.symm)]; exact h2, by rw [hs, if_neg (fun e => hne e.symm)]; exact h3⟩

/-! ### the free slot -/
theorem freeW_neg {l : List Sl} {f : Fl} : ∀ (n k : Nat), freeW l f k n = -1 → ∀ m, k ≤ m → m < k + n → (sAt l (way f m)).st = 1
  | 0, k, _, m, h1, h2 => by omega
  | n + 1, k, h, m, h1, h2 => by
    unfold freeW at h
    split at h
    · rename_i h3
      rcases Nat.lt_or_ge k m with h4 | h4
      · exact freeW_neg n (k + 1) h m h4 (by omega)
      · obtain rfl : m = k := by omega
        exact h3
    · omega
theorem freeW_pos {l : List Sl} {f : Fl} : ∀ (n k j : Nat), freeW l f k n = (j : Int) → ∃ m, k ≤ m ∧ m < k + n ∧ way f m = j ∧ (sAt l (way f m)).st ≠ 1 ∧ ∀ m', k ≤ m' → m' < m → (sAt l (way f m')).st = 1
  | 0, k, j, h => by unfold freeW at h; omega
  | n + 1, k, j, h => by
    unfold freeW at h
    split at h
    · rename_i h3
      obtain ⟨m, a1, a2, a3, a4, a5⟩ := freeW_pos n (k + 1) j h
      refine ⟨m, by omega, by omega, a3, a4, fun m' b1 b2 => ?_⟩
      rcases Nat.lt_or_ge k m' with h4 | h4
      · exact a5 m' h4 b2
      · obtain rfl : m' = k := by omega
        exact h3
    · rename_i h3
      exact ⟨k, Nat.le_refl _, by omega, by omega, h3, fun m' b1 b2 => by omega⟩

/-! ### PutFlow, DropFlow, FindFlow -/
theorem findF_neg {l : List Sl} (h : Tok l) {f : Fl} (hf : findF l f = -1) (p : Int) : ¬ holds l f p := by
  unfold findF at hf
  rw [if_pos (tok_true.2 h)] at hf
  rintro ⟨j, hj, h1, h2, _⟩
  exact uIdx_neg.1 hf j (by rw [h.1]; exact hj) ⟨h1, h2⟩
theorem findF_pos {l : List Sl} (h : Tok l) {f : Fl} {j : Nat} (hf : findF l f = (j : Int)) : j < 8 ∧ (sAt l j).has f ∧ holds l f (sAt l j).qu := by
  unfold findF at hf
  rw [if_pos (tok_true.2 h)] at hf
  obtain ⟨h1, h2, _⟩ := uIdx_eq.1 hf
  rw [h.1] at h1
  exact ⟨h1, h2, j, h1, h2.1, h2.2, rfl⟩
theorem findF_two (l : List Sl) (f : Fl) : findF l f = -1 ∨ ∃ j : Nat, findF l f = (j : Int) := by
  unfold findF
  split
  · rcases uIdx_cases f l with h | ⟨j, _, h⟩
    · exact .inl h
    · exact .inr ⟨j, h⟩
  · exact .inl rfl
theorem put_effect {l : List Sl} (h : Tok l) (f : Fl) {q : Int} (hq : 0 ≤ q ∧ q ≤ 3) :
    (putB l f q = true ∧ Tok (putL l f q) ∧ (∀ g p, holds (putL l f q) g p ↔ (g = f ∧ p = q) ∨ (g ≠ f ∧ holds l g p)) ∧ (((∃ p, holds l f p) ∧ cntU (putL l f q) = cntU l) ∨ ((∀ p, ¬ holds l f p) ∧ cntU (putL l f q) = cntU l + 1 ∧ cntU l < 8)) ∧ ∃ i, putL l f q = l.set i ⟨1, f, q⟩) ∨
    (putB l f q = false ∧ putL l f q = l ∧ (∀ p, ¬ holds l f p) ∧ cntU l = 8) := by
  have hl := h.1
  have ht : tok l = true ∧ 0 ≤ q ∧ q ≤ 3 := ⟨tok_true.2 h, hq⟩
  have key : ∀ i : Nat, i < 8 → putI l f = (i : Int) → putL l f q = l.set i ⟨1, f, q⟩ ∧ putB l f q = true := fun i _ e => by
    unfold putL putB; rw [if_pos ht, if_pos ht, e]; exact ⟨rfl, by simp⟩
  rcases uIdx_cases f l with hu | ⟨i, hi, hu⟩
  · have hno : ∀ j, j < 8 → ¬ (sAt l j).has f := fun j hj => uIdx_neg.1 hu j (by omega)
    have hnh : ∀ p, ¬ holds l f p := fun p ⟨j, hj, h1, h2, _⟩ => hno j hj ⟨h1, h2⟩
    have hpi : putI l f = freeW l f 0 8 := by unfold putI; rw [hu]; simp
    rcases freeW_cases (l := l) (f := f) 8 0 with hw | ⟨j, hj, hw⟩
    · right
      refine ⟨?_, ?_, hnh, ?_⟩
      · unfold putB; rw [if_pos ht, hpi, hw]; rfl
      · unfold putL; rw [if_pos ht, hpi, hw]; rfl
      · have hall := freeW_neg 8 0 hw
        rw [← hl]
        refine cntU_all l fun j hj => ?_
        have e := hall (ps f j) (Nat.zero_le _) (by have := ps_lt f j; omega)
        rwa [way_ps (by omega)] at e
    · left
      obtain ⟨m, _, m2, m3, m4, m5⟩ := freeW_pos 8 0 j hw
      obtain ⟨e1, e2⟩ := key j hj (by rw [hpi, hw])
      subst m3
      have hc := cntU_set l (way f m) ⟨1, f, q⟩ (by omega)
      rw [if_neg m4, if_pos rfl] at hc
      refine ⟨e2, ?_, fun g p => ?_, .inr ⟨hnh, by rw [e1]; omega, by have := cntU_some l (way f m) (by omega) m4; omega⟩, _, e1⟩
      · rw [e1]; exact tok_new h (by omega) hno m4 (fun m' hm' => m5 m' (Nat.zero_le _) hm') hq
      · rw [e1, holds_set hl hj]
        constructor
        · rintro (⟨_, a2, a3⟩ | ⟨j, b1, b2, b3, b4, b5⟩)
          · exact .inl ⟨a2.symm, a3.symm⟩
          · exact .inr ⟨fun e => hno j b1 ⟨b3, b4.trans e⟩, j, b1, b3, b4, b5⟩
        · rintro (⟨rfl, rfl⟩ | ⟨_, j, b1, b3, b4, b5⟩)
          · exact .inl ⟨rfl, rfl, rfl⟩
          · exact .inr ⟨j, b1, fun e => m4 (by rw [← e]; exact b3), b3, b4, b5⟩
  · left
    have hi8 : i < 8 := by omega
    have hh := (uIdx_eq.1 hu).2.1
    obtain ⟨e1, e2⟩ := key i hi8 (by unfold putI; rw [hu]; simp)
    have hc := cntU_set l i ⟨1, f, q⟩ hi
    rw [if_pos hh.1, if_pos rfl] at hc
    refine ⟨e2, by rw [e1]; exact tok_over h hi8 hh hq, fun g p => ?_, .inl ⟨⟨_, i, hi8, hh.1, hh.2, rfl⟩, by rw [e1]; omega⟩, _, e1⟩
    rw [e1, holds_set hl hi8]
    constructor
    · rintro (⟨_, a2, a3⟩ | ⟨j, b1, b2, b3, b4, b5⟩)
      · exact .inl ⟨a2.symm, a3.symm⟩
      · exact .inr ⟨fun e => b2 (tok_uniq h b1 hi8 ⟨b3, b4.trans e⟩ hh), j, b1, b3, b4, b5⟩
    · rintro (⟨rfl, rfl⟩ | ⟨hne, j, b1, b3, b4, b5⟩)
      · exact .inl ⟨rfl, rfl, rfl⟩
      · exact .inr ⟨j, b1, fun e => hne (by rw [← b4, e]; exact hh.2), b3, b4, b5⟩
theorem drop_effect {l : List Sl} (h : Tok l) (f : Fl) :
    (0 ≤ findF l f ∧ (∃ p, holds l f p) ∧ Tok (dropL l f) ∧ (∀ g p, holds (dropL l f) g p ↔ g ≠ f ∧ holds l g p) ∧ cntU (dropL l f) + 1 = cntU l) ∨
    (findF l f = -1 ∧ (∀ p, ¬ holds l f p) ∧ dropL l f = l) := by
  rcases findF_two l f with hf | ⟨j, hf⟩
  · exact .inr ⟨hf, findF_neg h hf, by unfold dropL; rw [hf]; rfl⟩
  · left
    obtain ⟨hj, hh, hhold⟩ := findF_pos h hf
    have e1 : dropL l f = l.set j ⟨2, Fl.zero, 0⟩ := by unfold dropL; rw [hf]
    have hc := cntU_set l j ⟨2, Fl.zero, 0⟩ (by have := h.1; omega)
    rw [if_pos hh.1, if_neg (by decide)] at hc
    refine ⟨by omega, ⟨_, hhold⟩, by rw [e1]; exact tok_drop h hj, fun g p => ?_, by rw [e1]; omega⟩
    rw [e1, holds_set h.1 hj]
    constructor
    · rintro (⟨a1, _⟩ | ⟨i, b1, b2, b3, b4, b5⟩)
      · exact absurd a1 (by decide)
      · exact ⟨fun e => b2 (tok_uniq h b1 hj ⟨b3, b4.trans e⟩ hh), i, b1, b3, b4, b5⟩
    · rintro ⟨hne, i, b1, b3, b4, b5⟩
      exact .inr ⟨i, b1, fun e => hne (by rw [← b4, e]; exact hh.2), b3, b4, b5⟩
theorem tok_zero : Tok (List.replicate 8 Sl.zero) ∧ (∀ g p, ¬ holds (List.replicate 8 Sl.zero) g p) ∧ cntU (List.replicate 8 Sl.zero) = 0 := by
  have hs : ∀ j, sAt (List.replicate 8 Sl.zero) j = Sl.zero := fun j => by
    unfold sAt
    rw [List.getD_eq_getElem?_getD, List.getElem?_replicate]
    split <;> rfl
  refine ⟨tok_way.2 ⟨rfl, fun j hj => ?_⟩, fun g p ⟨j, _, h, _⟩ => ?_, rfl⟩
  · rw [hs]
    exact ⟨⟨⟨by decide, by decide⟩, ⟨by decide, by decide⟩, .inr ⟨rfl, rfl, rfl, rfl, rfl, rfl⟩⟩, fun h => absurd h (by decide)⟩
  · rw [hs] at h; exact absurd h (by decide)

/-! ### Compacted -/
def clean (l : List Sl) : Prop := ∀ j, j < 8 → (sAt l j).st = 0 ∨ (sAt l j).st = 1
theorem compGo_ok {l : List Sl} (h : Tok l) : ∀ (n k : Nat) (acc : List Sl), k + n = 8 → Tok acc → clean acc → (∀ g p, holds acc g p ↔ ∃ j, j < k ∧ (sAt l j).st = 1 ∧ (sAt l j).f = g ∧ (sAt l j).qu = p) → cntU acc ≤ k → cntU acc + cntU (l.drop k) = cntU l →
    Tok (compGo acc (l.drop k)) ∧ clean (compGo acc (l.drop k)) ∧ (∀ g p, holds (compGo acc (l.drop k)) g p ↔ holds l g p) ∧ cntU (compGo acc (l.drop k)) = cntU l
  | 0, k, acc, hk, h1, h2, h3, h4, h5 => by
    have hk8 : k = 8 := by omega
    have e : l.drop k = [] := List.drop_of_length_le (by rw [h.1]; omega)
    rw [e] at h5 ⊢
    refine ⟨h1, h2, fun g p => ?_, by have : cntU acc + 0 = cntU l := h5; exact this⟩
    subst hk8
    exact h3 g p
  | n + 1, k, acc, hk, h1, h2, h3, h4, h5 => by
    have hlt : k < l.length := by rw [h.1]; omega
    have e : l.drop k = sAt l k :: l.drop (k + 1) := by rw [sAt_get hlt]; exact List.drop_eq_getElem_cons hlt
    rw [e] at h5 ⊢
    rw [cntU] at h5
    unfold compGo
    by_cases hst : (sAt l k).st = 1
    · rw [if_pos hst] at h5 ⊢
      have hB := (h.2 k (by omega)).1
      have hno : ∀ p, ¬ holds acc (sAt l k).f p := fun p hp => by
        obtain ⟨j, a1, a2, a3, _⟩ := (h3 _ _).1 hp
        have := tok_uniq h (show j < 8 by omega) (show k < 8 by omega) ⟨a2, a3⟩ ⟨hst, rfl⟩
        omega
      rcases put_effect h1 (sAt l k).f hB.2.1 with ⟨_, b2, b3, b4, i, b5⟩ | ⟨_, _, _, b4⟩
      · rcases b4 with ⟨⟨p, hp⟩, _⟩ | ⟨_, c2, _⟩
        · exact absurd hp (hno p)
        · refine compGo_ok h n (k + 1) _ (by omega) b2 (fun j hj => ?_) (fun g p => ?_) (by omega) (by omega)
          · rw [b5]
            rcases Nat.lt_or_ge i acc.length with hi | hi
            · rw [sAt_set hi]
              split
              · exact .inr rfl
              · exact h2 j hj
            · rw [List.set_eq_of_length_le hi]; exact h2 j hj
          · rw [b3, h3]
            constructor
            · rintro (⟨rfl, rfl⟩ | ⟨_, j, a1, a2⟩)
              · exact ⟨k, by omega, hst, rfl, rfl⟩
              · exact ⟨j, by omega, a2⟩
            · rintro ⟨j, a1, a2, a3, a4⟩
              rcases Nat.lt_or_ge j k with hj | hj
              · refine .inr ⟨fun e => ?_, j, hj, a2, a3, a4⟩
                have := tok_uniq h (show j < 8 by omega) (show k < 8 by omega) ⟨a2, a3.trans e⟩ ⟨hst, rfl⟩
                omega
              · obtain rfl : j = k := by omega
                exact .inl ⟨a3.symm, a4.symm⟩
      · omega
    · rw [if_neg hst] at h5 ⊢
      refine compGo_ok h n (k + 1) acc (by omega) h1 h2 (fun g p => ?_) (by omega) (by omega)
      rw [h3]
      constructor
      · rintro ⟨j, a1, a2⟩; exact ⟨j, by omega, a2⟩
      · rintro ⟨j, a1, a2, a3⟩
        rcases Nat.lt_or_ge j k with hj | hj
        · exact ⟨j, hj, a2, a3⟩
        · obtain rfl : j = k := by omega
          exact absurd a2 hst
theorem compL_ok {l : List Sl} (h : Tok l) : Tok (compL l) ∧ clean (compL l) ∧ (∀ g p, holds (compL l) g p ↔ holds l g p) ∧ cntU (compL l) = cntU l := by
  unfold compL
  rw [if_pos (tok_true.2 h)]
  obtain ⟨z1, z2, z3⟩ := tok_zero
  have hs : ∀ j, (sAt (List.replicate 8 Sl.zero) j).st = 0 := fun j => by
    unfold sAt
    rw [List.getD_eq_getElem?_getD, List.getElem?_replicate]
    split <;> rfl
  exact compGo_ok h 8 0 _ rfl z1 (fun j _ => .inl (hs j)) (fun g p => ⟨fun h => absurd h (z2 g p), fun ⟨j, hj, _⟩ => by omega⟩) (by omega) (by rw [z3, List.drop_zero]; omega)
/-- The states of a clean table add up to the number of its flows. -/
def sumSt : List Sl → Int
  | [] => 0
  | x :: l => x.st + sumSt l
theorem sumSt_cnt : ∀ l : List Sl, (∀ x ∈ l, x.st = 0 ∨ x.st = 1) → sumSt l = (cntU l : Int)
  | [], _ => rfl
  | x :: l, h => by
    have := sumSt_cnt l fun y hy => h y (by simp [hy])
    have hx := h x (by simp)
    unfold sumSt cntU
    split <;> push_cast <;> omega
end Go.Proofs.Ytncciafldmoklaa

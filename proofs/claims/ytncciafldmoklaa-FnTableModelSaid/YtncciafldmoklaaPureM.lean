/-
  The flow table as a list of pairs: what each operation does to the list.
  Conditions: each states its own.
-/
import Derived.Test.YtncciafldmoklaaPureT2
set_option linter.unusedSimpArgs false
set_option linter.unusedVariables false
namespace Go.Proofs.Ytncciafldmoklaa
open Go.RowKit

theorem fl_iff {a b : Fl} : a = b ↔ (a.k = b.k ∧ a.s = b.s ∧ a.d = b.d ∧ a.p = b.p ∧ a.q = b.q) := by
  constructor
  · rintro rfl; simp
  · rcases a with ⟨a1, a2, a3, a4, a5⟩; rcases b with ⟨b1, b2, b3, b4, b5⟩
    rintro ⟨h1, h2, h3, h4, h5⟩; simp_all
/-- The last place of a flow. -/
def placeGo (f : Fl) : Nat → List (Fl × Int) → Int → Int
  | _, [], b => b
  | i, x :: l, b => placeGo f (i + 1) l (if x.1 = f then (i : Int) else b)
theorem placeGo_cases (f : Fl) : ∀ (l : List (Fl × Int)) (i : Nat) (b : Int), ((∀ x ∈ l, x.1 ≠ f) ∧ placeGo f i l b = b) ∨ ∃ p, ∃ hp : p < l.length, l[p].1 = f ∧ placeGo f i l b = ((i + p : Nat) : Int)
  | [], i, b => .inl ⟨by simp, rfl⟩
  | x :: l, i, b => by
    unfold placeGo
    by_cases hx : x.1 = f
    · rw [if_pos hx]
      rcases placeGo_cases f l (i + 1) i with ⟨h1, h2⟩ | ⟨p, hp, h1, h2⟩
      · exact .inr ⟨0, by simp, hx, by rw [h2]; omega⟩
      · exact .inr ⟨p + 1, by simpa using hp, by simpa using h1, by rw [h2]; omega⟩
    · rw [if_neg hx]
      rcases placeGo_cases f l (i + 1) b with ⟨h1, h2⟩ | ⟨p, hp, h1, h2⟩
      · refine .inl ⟨fun y hy => ?_, h2⟩
        rcases List.mem_cons.1 hy with rfl | hy
        · exact hx
        · exact h1 y hy
      · exact .inr ⟨p + 1, by simpa using hp, by simpa using h1, by rw [h2]; omega⟩

/-- The table holds what the list holds. -/
structure Mdl (t : List Sl) (kv : List (Fl × Int)) : Prop where
  ok : Tok t
  mem : ∀ g p, holds t g p ↔ (g, p) ∈ kv
  nd : (kv.map (·.1)).Nodup
  cnt : cntU t = kv.length
theorem Mdl.le {t : List Sl} {kv : List (Fl × Int)} (h : Mdl t kv) : kv.length ≤ 8 := by
  have h1 := cntU_le t
  have h2 := h.ok.1
  have h3 := h.cnt
  omega
theorem Mdl.start : Mdl (List.replicate 8 Sl.zero) [] := ⟨tok_zero.1, fun g p => ⟨fun h => absurd h (tok_zero.2.1 g p), fun h => by simp at h⟩, by simp, tok_zero.2.2⟩
theorem nd_key {kv : List (Fl × Int)} (hn : (kv.map (·.1)).Nodup) {i j : Nat} (hi : i < kv.length) (hj : j < kv.length) (h : kv[i].1 = kv[j].1) : i = j := by
  have key : ∀ (a b : Nat) (ha : a < kv.length) (hb : b < kv.length), a < b → kv[a].1 ≠ kv[b].1 := fun a b ha hb hab => by
    have := List.pairwise_iff_getElem.1 hn a b (by simpa using ha) (by simpa using hb) hab
    simpa using this
  rcases Nat.lt_trichotomy i j with h1 | h1 | h1
  · exact absurd h (key i j hi hj h1)
  · exact h1
  · exact absurd h.symm (key j i hj hi h1)
theorem Mdl.no {t : List Sl} {kv : List (Fl × Int)} (h : Mdl t kv) {f : Fl} (hno : ∀ x ∈ kv, x.1 ≠ f) (p : Int) : ¬ holds t f p := fun hh => hno _ ((h.mem f p).1 hh) rfl
theorem Mdl.drop_no {t : List Sl} {kv : List (Fl × Int)} (h : Mdl t kv) {f : Fl} (hno : ∀ x ∈ kv, x.1 ≠ f) : findF t f = -1 ∧ dropL t f = t := by
  rcases drop_effect h.ok f with ⟨_, ⟨p, hp⟩, _⟩ | ⟨h1, _, h2⟩
  · exact absurd hp (h.no hno p)
  · exact ⟨h1, h2⟩
theorem Mdl.drop_yes {t : List Sl} {kv : List (Fl × Int)} (h : Mdl t kv) {f : Fl} {p : Nat} (hp : p < kv.length) (hk : kv[p].1 = f) : 0 ≤ findF t f ∧ Mdl (dropL t f) (kv.eraseIdx p) := by
  rcases drop_effect h.ok f with ⟨h1, _, h2, h3, h4⟩ | ⟨_, h1, _⟩
  · refine ⟨h1, h2, fun g q => ?_, ?_, ?_⟩
    · rw [h3, h.mem, List.mem_eraseIdx_iff_getElem]
      constructor
      · rintro ⟨hne, hm⟩
        obtain ⟨i, hi, e⟩ := List.mem_iff_getElem.1 hm
        exact ⟨i, hi, fun e2 => hne (by subst e2; rw [← hk, e]), e⟩
      · rintro ⟨i, hi, hne, e⟩
        exact ⟨fun e2 => hne (nd_key h.nd hi hp (by rw [e, hk, e2])), List.mem_iff_getElem.2 ⟨i, hi, e⟩⟩
    · have e : (kv.eraseIdx p).map (·.1) = (kv.map (·.1)).eraseIdx p := by
        simp [List.eraseIdx_eq_take_drop_succ, List.map_take, List.map_drop]
      rw [e]
      exact h.nd.eraseIdx p
    · have := h.cnt
      rw [List.length_eraseIdx, if_pos hp]; omega
  · exact absurd ((h.mem f kv[p].2).2 (by rw [← hk]; exact List.getElem_mem hp)) (h1 _)
theorem Mdl.put_over {t : List Sl} {kv : List (Fl × Int)} (h : Mdl t kv) {f : Fl} {q : Int} {p : Nat} (hp : p < kv.length) (hk : kv[p].1 = f) (hq : 0 ≤ q ∧ q ≤ 3) : putB t f q = true ∧ Mdl (putL t f q) (kv.set p (f, q)) := by
  have hh : holds t f kv[p].2 := (h.mem _ _).2 (by rw [← hk]; exact List.getElem_mem hp)
  rcases put_effect h.ok f hq with ⟨h1, h2, h3, h4, _⟩ | ⟨_, _, h1, _⟩
  · rcases h4 with ⟨_, h4⟩ | ⟨h4, _⟩
    · refine ⟨h1, h2, fun g r => ?_, ?_, ?_⟩
      · rw [h3, h.mem, List.mem_iff_getElem (l := kv.set p (f, q))]
        constructor
        · rintro (⟨rfl, rfl⟩ | ⟨hne, hm⟩)
          · exact ⟨p, by simpa using hp, by simp⟩
          · obtain ⟨i, hi, e⟩ := List.mem_iff_getElem.1 hm
            refine ⟨i, by simpa using hi, ?_⟩
            rw [List.getElem_set, if_neg (fun e2 => hne (by subst e2; rw [← hk, e]))]
            exact e
        · rintro ⟨i, hi, e⟩
          rw [List.getElem_set] at e
          split at e
          · simp only [Prod.mk.injEq] at e; exact .inl ⟨e.1.symm, e.2.symm⟩
          · rename_i hne
            have hi' : i < kv.length := by simpa using hi
            refine .inr ⟨fun e2 => hne (nd_key h.nd hp hi' (by rw [e, hk, e2])), List.mem_iff_getElem.2 ⟨i, hi', e⟩⟩
      · have e : (kv.set p (f, q)).map (·.1) = kv.map (·.1) := by
          rw [List.map_set]
          have e2 : (kv.map (·.1))[p]'(by simpa using hp) = f := by simpa using hk
          dsimp only
          rw [← e2, List.set_getElem_self]
        rw [e]; exact h.nd
      · rw [h4, h.cnt]; simp
    · exact absurd hh (h4 _)
  · exact absurd hh (h1 _)
theorem Mdl.put_new {t : List Sl} {kv : List (Fl × Int)} (h : Mdl t kv) {f : Fl} {q : Int} (hno : ∀ x ∈ kv, x.1 ≠ f) (hq : 0 ≤ q ∧ q ≤ 3) (hn : kv.length < 8) : putB t f q = true ∧ Mdl (putL t f q) (kv ++ [(f, q)]) := by
  rcases put_effect h.ok f hq with ⟨h1, h2, h3, h4, _⟩ | ⟨_, _, _, h1⟩
  · rcases h4 with ⟨⟨p, hp⟩, _⟩ | ⟨_, h4, _⟩
    · exact absurd hp (h.no hno p)
    · refine ⟨h1, h2, fun g r => ?_, ?_, ?_⟩
      · rw [h3, h.mem]
        simp only [List.mem_append, List.mem_singleton, Prod.mk.injEq]
        constructor
        · rintro (⟨rfl, rfl⟩ | ⟨_, hm⟩)
          · exact .inr ⟨rfl, rfl⟩
          · exact .inl hm
        · rintro (hm | ⟨rfl, rfl⟩)
          · exact .inr ⟨hno _ hm, hm⟩
          · exact .inl ⟨rfl, rfl⟩
      · rw [List.map_append, List.nodup_append]
        refine ⟨h.nd, by simp, fun a ha b hb => ?_⟩
        simp at hb
        subst hb
        obtain ⟨x, hx, rfl⟩ := List.mem_map.1 ha
        exact hno x hx
      · rw [h4, h.cnt]; simp
  · have := h.cnt; omega
theorem Mdl.put_full {t : List Sl} {kv : List (Fl × Int)} (h : Mdl t kv) {f : Fl} {q : Int} (hno : ∀ x ∈ kv, x.1 ≠ f) (hq : 0 ≤ q ∧ q ≤ 3) (hn : ¬ kv.length < 8) : putB t f q = false ∧ putL t f q = t := by
  rcases put_effect h.ok f hq with ⟨_, _, _, h4, _⟩ | ⟨h1, h2, _⟩
  · rcases h4 with ⟨⟨p, hp⟩, _⟩ | ⟨_, _, h4⟩
    · exact absurd hp (h.no hno p)
    · have := h.cnt; omega
  · exact ⟨h1, h2⟩
theorem Mdl.find {t : List Sl} {kv : List (Fl × Int)} (h : Mdl t kv) {i : Nat} (hi : i < kv.length) : ∃ j, j < 8 ∧ findF t kv[i].1 = ((j : Nat) : Int) ∧ (sAt t j).qu = kv[i].2 := by
  have hh : holds t kv[i].1 kv[i].2 := (h.mem _ _).2 (List.getElem_mem hi)
  rcases findF_two t kv[i].1 with h1 | ⟨j, h1⟩
  · exact absurd hh (findF_neg h.ok h1 _)
  · have e := findF_pos h.ok h1
    exact ⟨j, e.1, h1, holds_uniq h.ok e.2.2 hh⟩
end Go.Proofs.Ytncciafldmoklaa

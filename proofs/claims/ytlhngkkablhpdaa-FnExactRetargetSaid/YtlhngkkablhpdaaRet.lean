/-
  Copies of slices of ints and of spreads, and Retarget of both programs.
  Conditions: at most 2^20 entries.
-/
import Derived.Test.YtlhngkkablhpdaaSpread
set_option linter.unusedSimpArgs false
set_option linter.unusedVariables false
namespace Go.Proofs.Ytlhngkkablhpdaa
open Go.RowKit

set_option maxRecDepth 100000 in
set_option maxHeartbeats 1000000 in
theorem copyInts_any (a : Option Addr) (c : Nat) (l : List Int) (w : World) (h1 : Rd w a (iv l)) (hl : l.length ≤ 1048576) :
    Calls Try.prog 82 #[.slice a l.length c] w (RetOwn w 3 1 l.length (iv l)) := by
  go_enter Try.func82, Try.ntmps82
  go_wp2_with (first | (at_builtin; refine wpList_appR el_int rfl _ _ rfl w.heap.size w.heap.size 0 0 [] rfl (Own.empty w _ _) a l.length c (iv l) rfl (by simp [iv_length]) (Rd.al h1 _) (iv_one l) (by omega) (by simp) ?_; intro g' cap' w1 hgr))
  go_ret
  exact ⟨g', cap', by simp, by simpa using hgr.own, hgr.below (by ((repeat (with_reducible first | exact Below.refl _ _ | apply Below.al | apply Below.dr | (refine Below.tr ?_ (by assumption)) | (refine Below.marked (by assumption) ?_ ?_) | (refine Below.st ?_ ?_ _))); all_goals (first | omega | (simp; done) | (simp; omega)))) (Nat.le_refl _)⟩

/-- A call hands back a spread whose table it owns. -/
def RetSpreadOwn (w : World) (key : ByteArray) (l : List Int) (e : Ending) (w' : World) : Prop :=
  ∃ g c, e = .returned (.agg #[.string key, .slice (some ⟨g, 0, none⟩) l.length c]) ∧ Own w' w.heap.size 3 1 g l.length c (iv l) ∧ Below w.heap.size w w'

set_option maxRecDepth 100000 in
set_option maxHeartbeats 1000000 in
theorem copySpread_any (key : ByteArray) (a : Option Addr) (c : Nat) (l : List Int) (w : World) (h1 : Rd w a (iv l)) (hl : l.length ≤ 1048576) :
    Calls Try.prog 76 #[.agg #[.string key, .slice a l.length c]] w (RetSpreadOwn w key l) := by
  go_enter Try.func76, Try.ntmps76
  go_wp2_with fail
  have x0 : ∀ i, ((w.alloc (.cells #[.string key, .slice a l.length c] 45)).alloc (.cells #[.string ⟨#[]⟩, .slice none 0 0] 45)).cell? ⟨w.heap.size, i, none⟩ = (#[.string key, .slice a l.length c] : Array Value)[i]? := by intro i; simp [go_sem, ↓IntWalk.iteOmega]
  have HM : Hid (∀ w', Below ((w.alloc (.cells #[.string key, .slice a l.length c] 45)).alloc (.cells #[.string ⟨#[]⟩, .slice none 0 0] 45)).heap.size ((w.alloc (.cells #[.string key, .slice a l.length c] 45)).alloc (.cells #[.string ⟨#[]⟩, .slice none 0 0] 45)) w' → (∀ i, w'.cell? ⟨w.heap.size, i, none⟩ = (#[.string key, .slice a l.length c] : Array Value)[i]?) ∧ Below w.heap.size w w') :=
    fun w' hb => ⟨fun i => (hb.cell (show w.heap.size < ((w.alloc (.cells #[.string key, .slice a l.length c] 45)).alloc (.cells #[.string ⟨#[]⟩, .slice none 0 0] 45)).heap.size by simp; omega)).trans (x0 i), (Below.al (Below.al (Below.refl _ _) _) _).trans (hb.mono (by simp; omega))⟩
  go_region_held3 (fun w' => (∀ i, w'.cell? ⟨w.heap.size, i, none⟩ = (#[.string key, .slice a l.length c] : Array Value)[i]?) ∧ Below w.heap.size w w') (first | (refine HM.out _ ?_; ((repeat (with_reducible first | exact Below.refl _ _ | apply Below.al | apply Below.dr | (refine Below.tr ?_ (by assumption)) | (refine Below.marked (by assumption) ?_ ?_) | (refine Below.st ?_ ?_ _))); all_goals (first | omega | (simp; done) | (simp; omega))); done) | (refine ⟨?_, ?_⟩; (intro i; rw [World.cell?_setCell_other _ _ _ _ (by simp), World.cell?_setCell_other _ _ _ _ (by simp)]; exact (hb.cell (show w.heap.size < ((w.alloc (.cells #[.string key, .slice a l.length c] 45)).alloc (.cells #[.string ⟨#[]⟩, .slice none 0 0] 45)).heap.size by simp; omega)).trans (x0 i)); (((repeat (with_reducible first | exact Below.refl _ _ | apply Below.al | apply Below.dr | (refine Below.tr ?_ (by assumption)) | (refine Below.marked (by assumption) ?_ ?_) | (refine Below.st ?_ ?_ _))); all_goals (first | omega | (simp; done) | (simp; omega)))))) (first | (go_at_call 82; refine (copyInts_any a c l _ (Rd.later h1 (by ((repeat (with_reducible first | exact Below.refl _ _ | apply Below.al | apply Below.dr | (refine Below.tr ?_ (by assumption)) | (refine Below.marked (by assumption) ?_ ?_) | (refine Below.st ?_ ?_ _))); all_goals (first | omega | (simp; done) | (simp; omega))))) hl).mono ?_; rintro e w1 ⟨g, c1, rfl, s1, hb⟩; obtain ⟨hc, hf, hz⟩ := old hb; try simp at hz))
  go_wp2_with fail
  refine bodyPost_ret (v := .agg #[.string key, .slice (some ⟨g, 0, none⟩) l.length c1]) (by simp [results, Try.results76, go_sem, ↓IntWalk.iteOmega, hc]) rfl ⟨g, c1, rfl, ?_, by ((repeat (with_reducible first | exact Below.refl _ _ | apply Below.al | apply Below.dr | (refine Below.tr ?_ (by assumption)) | (refine Below.marked (by assumption) ?_ ?_) | (refine Below.st ?_ ?_ _))); all_goals (first | omega | (simp; done) | (simp; omega)))⟩
  exact Own.other (Own.other (Own.mono s1 (by simp; omega)) _ (by have := s1.lt.1; simp at this ⊢; omega) _) _ (by have := s1.lt.1; simp at this ⊢; omega) _

/-- Whether the entry and the queue may be set. -/
def retB (l : List Int) (e q : Int) : Bool := inB e 0 (l.length - 1) && inB q 0 3
/-- Retarget. -/
def retL (l : List Int) (e q : Int) : List Int := if retB l e q then l.set e.toNat q else l

theorem retL_length (l : List Int) (e q : Int) : (retL l e q).length = l.length := by unfold retL; split <;> simp

/-- A call hands back a spread whose table is new, and a truth. -/
def RetSpreadB (w : World) (key : ByteArray) (l : List Int) (n : Nat) (b : Bool) (e : Ending) (w' : World) : Prop :=
  ∃ a c, e = .returned (.tuple #[.agg #[.string key, .slice a n c], .bool b]) ∧ Sv w' w.heap.size w'.heap.size a (iv l) ∧ Below w.heap.size w w'

theorem iv_set (l : List Int) (k : Nat) (q : Int) : (iv l).set k (.int .i64 q) = iv (l.set k q) := by simp [iv, List.map_set]

theorem Own.nil {V : World} {b B e size : Nat} (hB : B ≤ b) (h : V.heap[b]? = some (.cells #[] e (0, 0))) : Own V B e size b 0 0 [] :=
  Own.mk' (C := #[]) hB (Nat.le_refl _) (Nat.zero_le _) (by simp) h (by simp) (by simp)

/-- Behind a step that has grown block g alone: every other block reads as before. -/
theorem old_grown {V w' : World} {g : Nat} (h : V.grownBy w' (some g)) : (∀ b o, w'.cell? ⟨b, o, none⟩ = if b < V.heap.size ∧ b ≠ g then V.cell? ⟨b, o, none⟩ else far w' ⟨b, o, none⟩) ∧
    (∀ b o, w'.frozen? ⟨b, o, none⟩ = if b < V.heap.size ∧ b ≠ g then V.frozen? ⟨b, o, none⟩ else farF w' ⟨b, o, none⟩) ∧ V.heap.size ≤ w'.heap.size := by
  refine ⟨fun b o => ?_, fun b o => ?_, h.size⟩
  · split
    · rename_i hb
      have he := h.block b hb.1 (by simp; omega)
      unfold World.cell?; simp only [he]
    · rfl
  · split
    · rename_i hb
      have he := h.block b hb.1 (by simp; omega)
      unfold World.frozen?; simp only [he]
    · rfl

set_option maxRecDepth 100000 in
set_option maxHeartbeats 1000000 in
theorem retarget_impl (key : ByteArray) (a : Option Addr) (c : Nat) (l : List Int) (e q : Int) (w : World) (h1 : Rd w a (iv l)) (hl : l.length ≤ 1048576) :
    Calls Try.prog 46 #[.agg #[.string key, .slice a l.length c], .int .i64 e, .int .i64 q] w (RetSpreadB w key (retL l e q) l.length (retB l e q)) := by
  cases t0 : inB e 0 (l.length - 1) with
  | false =>
    have HX : Hid (retB l e q = false) := by unfold Hid retB; simp [t0]
    have HL : Hid (retL l e q = l) := by unfold Hid retL; rw [HX.out]; rfl
    go_enter Try.func46, Try.ntmps46
    go_wp2_with fail
    refine (copySpread_any key a c l _ (Rd.later h1 (by ((repeat (with_reducible first | exact Below.refl _ _ | apply Below.al | apply Below.dr | (refine Below.tr ?_ (by assumption)) | (refine Below.marked (by assumption) ?_ ?_) | (refine Below.st ?_ ?_ _))); all_goals (first | omega | (simp; done) | (simp; omega))))) hl).mono ?_
    rintro e1 w1 ⟨g, c1, rfl, s1, hb⟩
    obtain ⟨hc, hf, hz⟩ := old hb; try simp at hz
    obtain ⟨hg1, hg2⟩ := s1.lt
    simp at hg1
    go_wp2_with (first | (go_at_call 66; refine (between_any _ _ _ _).mono ?_; rintro e w' ⟨rfl, rfl⟩))
    refine bodyPost_ret (v := .tuple #[.agg #[.string key, .slice (some ⟨g, 0, none⟩) l.length c1], .bool false]) (by simp [results, Try.results46, go_sem, ↓IntWalk.iteOmega, hc]) rfl ⟨some ⟨g, 0, none⟩, c1, by rw [HX.out], ?_, by ((repeat (with_reducible first | exact Below.refl _ _ | apply Below.al | apply Below.dr | (refine Below.tr ?_ (by assumption)) | (refine Below.marked (by assumption) ?_ ?_) | (refine Below.st ?_ ?_ _))); all_goals (first | omega | (simp; done) | (simp; omega)))⟩
    rw [HL.out]
    exact Sv.wide (Own.other (Own.other (Own.alloc s1 _) _ (by simp; omega) _) _ (by simp; omega) _).sv (by simp; omega) (by simp)
  | true =>
    cases t1 : inB q 0 3 with
    | false =>
      have HX : Hid (retB l e q = false) := by unfold Hid retB; simp [t0, t1]
      have HL : Hid (retL l e q = l) := by unfold Hid retL; rw [HX.out]; rfl
      go_enter Try.func46, Try.ntmps46
      go_wp2_with fail
      refine (copySpread_any key a c l _ (Rd.later h1 (by ((repeat (with_reducible first | exact Below.refl _ _ | apply Below.al | apply Below.dr | (refine Below.tr ?_ (by assumption)) | (refine Below.marked (by assumption) ?_ ?_) | (refine Below.st ?_ ?_ _))); all_goals (first | omega | (simp; done) | (simp; omega))))) hl).mono ?_
      rintro e1 w1 ⟨g, c1, rfl, s1, hb⟩
      obtain ⟨hc, hf, hz⟩ := old hb; try simp at hz
      obtain ⟨hg1, hg2⟩ := s1.lt
      simp at hg1
      go_wp2_with (first | (go_at_call 66; refine (between_any _ _ _ _).mono ?_; rintro e w' ⟨rfl, rfl⟩))
      refine bodyPost_ret (v := .tuple #[.agg #[.string key, .slice (some ⟨g, 0, none⟩) l.length c1], .bool false]) (by simp [results, Try.results46, go_sem, ↓IntWalk.iteOmega, hc]) rfl ⟨some ⟨g, 0, none⟩, c1, by rw [HX.out], ?_, by ((repeat (with_reducible first | exact Below.refl _ _ | apply Below.al | apply Below.dr | (refine Below.tr ?_ (by assumption)) | (refine Below.marked (by assumption) ?_ ?_) | (refine Below.st ?_ ?_ _))); all_goals (first | omega | (simp; done) | (simp; omega)))⟩
      rw [HL.out]
      exact Sv.wide (Own.other (Own.other (Own.alloc s1 _) _ (by simp; omega) _) _ (by simp; omega) _).sv (by simp; omega) (by simp)
    | true =>
      have he : 0 ≤ e ∧ e ≤ l.length - 1 := by simpa [inB] using t0
      have HX : Hid (retB l e q = true) := by unfold Hid retB; simp [t0, t1]
      obtain ⟨k, rfl⟩ := Int.eq_ofNat_of_zero_le he.1
      have hk : k < l.length := by omega
      have HL : Hid (retL l (k : Int) q = l.set k q) := by unfold Hid retL; rw [HX.out]; rfl
      clear he
      go_enter Try.func46, Try.ntmps46
      go_wp2_with fail
      refine (copySpread_any key a c l _ (Rd.later h1 (by ((repeat (with_reducible first | exact Below.refl _ _ | apply Below.al | apply Below.dr | (refine Below.tr ?_ (by assumption)) | (refine Below.marked (by assumption) ?_ ?_) | (refine Below.st ?_ ?_ _))); all_goals (first | omega | (simp; done) | (simp; omega))))) hl).mono ?_
      rintro e1 w1 ⟨g, c1, rfl, s1, hb⟩
      obtain ⟨hc, hf, hz⟩ := old hb; try simp at hz
      obtain ⟨hg1, hg2⟩ := s1.lt
      simp at hg1
      obtain ⟨v0, hv0⟩ : ∃ v, far w1 ⟨g, k, none⟩ = some v := ⟨_, s1.row.cell k (by rw [iv_length]; exact hk)⟩
      have hf0 : farF w1 ⟨g, k, none⟩ = false := s1.row.free k (by rw [iv_length]; exact hk)
      go_wp2_with (first | (go_at_call 66; refine (between_any _ _ _ _).mono ?_; rintro e w' ⟨rfl, rfl⟩))
      refine bodyPost_ret (v := .tuple #[.agg #[.string key, .slice (some ⟨g, 0, none⟩) l.length c1], .bool true]) (by simp [results, Try.results46, go_sem, ↓IntWalk.iteOmega, hc]) rfl ⟨some ⟨g, 0, none⟩, c1, by rw [HX.out], ?_, by ((repeat (with_reducible first | exact Below.refl _ _ | apply Below.al | apply Below.dr | (refine Below.tr ?_ (by assumption)) | (refine Below.marked (by assumption) ?_ ?_) | (refine Below.st ?_ ?_ _))); all_goals (first | omega | (simp; done) | (simp; omega)))⟩
      rw [HL.out, ← iv_set]
      exact Sv.wide (Own.other (Own.other (Own.alloc (Own.set s1 k _) _) _ (by simp; omega) _) _ (by simp; omega) _).sv (by simp; omega) (by simp)

set_option maxRecDepth 100000 in
set_option maxHeartbeats 1000000 in
theorem retarget_spec (key : ByteArray) (a : Option Addr) (c : Nat) (l : List Int) (e q : Int) (w : World) (h1 : Rd w a (iv l)) (hl : l.length ≤ 1048576) :
    Calls Try.prog 45 #[.agg #[.string key, .slice a l.length c], .int .i64 e, .int .i64 q] w (RetSpreadB w key (retL l e q) l.length (retB l e q)) := by
  by_cases t0 : e < 0
  · have HX : Hid (retB l e q = false) := by
      unfold Hid retB inB
      rw [decide_eq_false (show ¬ 0 ≤ e by omega)]; rfl
    have HL : Hid (retL l e q = l) := by unfold Hid retL; rw [HX.out]; rfl
    go_enter Try.func45, Try.ntmps45
    go_wp2_with fail
    have x0 : ∀ i, ((w.alloc (.cells #[.string key, .slice a l.length c] 45)).alloc (.cells #[.string ⟨#[]⟩, .slice none 0 0] 45)).cell? ⟨w.heap.size, i, none⟩ = (#[.string key, .slice a l.length c] : Array Value)[i]? := by intro i; simp [go_sem, ↓IntWalk.iteOmega]
    have HM : Hid (∀ w', Below ((w.alloc (.cells #[.string key, .slice a l.length c] 45)).alloc (.cells #[.string ⟨#[]⟩, .slice none 0 0] 45)).heap.size ((w.alloc (.cells #[.string key, .slice a l.length c] 45)).alloc (.cells #[.string ⟨#[]⟩, .slice none 0 0] 45)) w' → (∀ i, w'.cell? ⟨w.heap.size, i, none⟩ = (#[.string key, .slice a l.length c] : Array Value)[i]?) ∧ Below w.heap.size w w') :=
      fun w' hb => ⟨fun i => (hb.cell (show w.heap.size < ((w.alloc (.cells #[.string key, .slice a l.length c] 45)).alloc (.cells #[.string ⟨#[]⟩, .slice none 0 0] 45)).heap.size by simp; omega)).trans (x0 i), (Below.al (Below.al (Below.refl _ _) _) _).trans (hb.mono (by simp; omega))⟩
    have ho1 : Own ((((w.alloc (.cells #[.string key, .slice a l.length c] 45)).alloc (.cells #[.string ⟨#[]⟩, .slice none 0 0] 45)).alloc (.cells #[.string ⟨#[]⟩, .slice none 0 0] 45)).alloc (.cells #[] 3)).drew (w.heap.size + 1 + 1) 3 1 (w.heap.size + 1 + 1 + 1) 0 0 [] := Own.drew (Own.mono (by simpa using Own.empty (((w.alloc (.cells #[.string key, .slice a l.length c] 45)).alloc (.cells #[.string ⟨#[]⟩, .slice none 0 0] 45)).alloc (.cells #[.string ⟨#[]⟩, .slice none 0 0] 45)) 3 1) (by omega))
    have ho2 : Own ((((w.alloc (.cells #[.string key, .slice a l.length c] 45)).alloc (.cells #[.string ⟨#[]⟩, .slice none 0 0] 45)).alloc (.cells #[] 3)).alloc (.cells #[.string ⟨#[]⟩, .slice none 0 0] 45)).drew (w.heap.size + 1 + 1) 3 1 (w.heap.size + 1 + 1) 0 0 [] := Own.drew (Own.alloc (by simpa using Own.empty ((w.alloc (.cells #[.string key, .slice a l.length c] 45)).alloc (.cells #[.string ⟨#[]⟩, .slice none 0 0] 45)) 3 1) _)
    have ho3 : Own (((w.alloc (.cells #[.string key, .slice a l.length c] 45)).alloc (.cells #[.string ⟨#[]⟩, .slice none 0 0] 45)).alloc (.cells #[] 3)).drew (w.heap.size + 1 + 1) 3 1 (w.heap.size + 1 + 1) 0 0 [] := Own.drew (by simpa using Own.empty ((w.alloc (.cells #[.string key, .slice a l.length c] 45)).alloc (.cells #[.string ⟨#[]⟩, .slice none 0 0] 45)) 3 1)
    go_region_held3 (fun w' => (∀ i, w'.cell? ⟨w.heap.size, i, none⟩ = (#[.string key, .slice a l.length c] : Array Value)[i]?) ∧ Below w.heap.size w w') (first | (refine HM.out _ ?_; ((repeat (with_reducible first | exact Below.refl _ _ | apply Below.al | apply Below.dr | (refine Below.tr ?_ (by assumption)) | (refine Below.marked (by assumption) ?_ ?_) | (refine Below.st ?_ ?_ _))); all_goals (first | omega | (simp; done) | (simp; omega))); done) | (refine HK.out _ ?_; ((repeat (with_reducible first | exact Below.refl _ _ | apply Below.al | apply Below.dr | (refine Below.tr ?_ (by assumption)) | (refine Below.marked (by assumption) ?_ ?_) | (refine Below.st ?_ ?_ _))); all_goals (first | omega | (simp; done) | (simp; omega))); done) | (refine ⟨?_, ?_⟩; (intro i; rw [World.cell?_setCell_other _ _ _ _ (by first | (simp; done) | (simp; omega)), World.cell?_setCell_other _ _ _ _ (by first | (simp; done) | (simp; omega))]; refine (HK.out _ ?_).1 i; ((repeat (with_reducible first | exact Below.refl _ _ | apply Below.al | apply Below.dr | (refine Below.tr ?_ (by assumption)) | (refine Below.marked (by assumption) ?_ ?_) | (refine Below.st ?_ ?_ _))); all_goals (first | omega | (simp; done) | (simp; omega))); done); (((repeat (with_reducible first | exact Below.refl _ _ | apply Below.al | apply Below.dr | (refine Below.tr ?_ (by assumption)) | (refine Below.marked (by assumption) ?_ ?_) | (refine Below.st ?_ ?_ _))); all_goals (first | omega | (simp; done) | (simp; omega)))))) ((refine step_appR el_int rfl _ _ rfl (w.heap.size + 1 + 1) _ 0 0 [] rfl (by assumption) a l.length c (iv l) rfl (by simp [iv_length]) (Rd.later h1 (by ((repeat (with_reducible first | exact Below.refl _ _ | apply Below.al | apply Below.dr | (refine Below.tr ?_ (by assumption)) | (refine Below.marked (by assumption) ?_ ?_) | (refine Below.st ?_ ?_ _))); all_goals (first | omega | (simp; done) | (simp; omega))))) (iv_one l) (by omega) (by simp) ?_; intro g c1 w1 hgr; have hb : Below w.heap.size w w1 := hgr.below (by ((repeat (with_reducible first | exact Below.refl _ _ | apply Below.al | apply Below.dr | (refine Below.tr ?_ (by assumption)) | (refine Below.marked (by assumption) ?_ ?_) | (refine Below.st ?_ ?_ _))); all_goals (first | omega | (simp; done) | (simp; omega)))) (by omega); obtain ⟨hc, hf, hz⟩ := old_grown hgr.by_; simp only [World.size_alloc, World.size_drew] at hz; have HK : Hid (∀ w', Below w1.heap.size w1 w' → (∀ i, w'.cell? ⟨w.heap.size, i, none⟩ = (#[.string key, .slice a l.length c] : Array Value)[i]?) ∧ Below w.heap.size w w') := fun w' hb' => ⟨fun i => (hb'.cell (show w.heap.size < w1.heap.size by omega)).trans (by rw [hc, if_pos (by refine ⟨?_, ?_⟩ <;> first | omega | (simp only [World.size_alloc, World.size_drew]; omega))]; simp [go_sem, ↓IntWalk.iteOmega]), Below.tr hb hb'⟩))
    all_goals (
      have s1 : Own w1 (w.heap.size + 1 + 1) 3 1 g l.length c1 (iv l) := by simpa using hgr.own
      obtain ⟨hg1, hg2⟩ := s1.lt
      have hat := hgr.at_
      simp only [World.size_alloc, World.size_drew] at hat
      go_wp2_with (first | (go_at_call 65; refine (l01In_any _ _ _ _).mono ?_; rintro e w' ⟨rfl, rfl⟩))
      refine bodyPost_ret (v := .tuple #[.agg #[.string key, .slice (some ⟨g, 0, none⟩) l.length c1], .bool false]) (by simp [results, Try.results45, go_sem, ↓IntWalk.iteOmega, hc]) rfl ⟨some ⟨g, 0, none⟩, c1, by rw [HX.out], ?_, by ((repeat (with_reducible first | exact Below.refl _ _ | apply Below.al | apply Below.dr | (refine Below.tr ?_ (by assumption)) | (refine Below.marked (by assumption) ?_ ?_) | (refine Below.st ?_ ?_ _))); all_goals (first | omega | (simp; done) | (simp; omega)))⟩
      rw [HL.out]
      refine Sv.wide (Own.sv (B := w.heap.size + 1 + 1) (e := 3) (size := 1) (n := l.length) (cap := c1) ?_) (by omega) (by simp)
      ((repeat (with_reducible first | exact s1 | apply Own.alloc | apply Own.drew | (refine Own.set ?_ _ _) | (refine Own.other ?_ _ ?_ _))); all_goals (first | omega | (simp; done) | (simp; omega))))
  · have t0' : 0 ≤ e := by omega
    by_cases t2 : (l.length : Int) ≤ e
    · have HX : Hid (retB l e q = false) := by
        unfold Hid retB inB
        rw [decide_eq_false (show ¬ e ≤ l.length - 1 by omega), Bool.and_false]; rfl
      have HL : Hid (retL l e q = l) := by unfold Hid retL; rw [HX.out]; rfl
      go_enter Try.func45, Try.ntmps45
      go_wp2_with fail
      have x0 : ∀ i, ((w.alloc (.cells #[.string key, .slice a l.length c] 45)).alloc (.cells #[.string ⟨#[]⟩, .slice none 0 0] 45)).cell? ⟨w.heap.size, i, none⟩ = (#[.string key, .slice a l.length c] : Array Value)[i]? := by intro i; simp [go_sem, ↓IntWalk.iteOmega]
      have HM : Hid (∀ w', Below ((w.alloc (.cells #[.string key, .slice a l.length c] 45)).alloc (.cells #[.string ⟨#[]⟩, .slice none 0 0] 45)).heap.size ((w.alloc (.cells #[.string key, .slice a l.length c] 45)).alloc (.cells #[.string ⟨#[]⟩, .slice none 0 0] 45)) w' → (∀ i, w'.cell? ⟨w.heap.size, i, none⟩ = (#[.string key, .slice a l.length c] : Array Value)[i]?) ∧ Below w.heap.size w w') :=
        fun w' hb => ⟨fun i => (hb.cell (show w.heap.size < ((w.alloc (.cells #[.string key, .slice a l.length c] 45)).alloc (.cells #[.string ⟨#[]⟩, .slice none 0 0] 45)).heap.size by simp; omega)).trans (x0 i), (Below.al (Below.al (Below.refl _ _) _) _).trans (hb.mono (by simp; omega))⟩
      have ho1 : Own ((((w.alloc (.cells #[.string key, .slice a l.length c] 45)).alloc (.cells #[.string ⟨#[]⟩, .slice none 0 0] 45)).alloc (.cells #[.string ⟨#[]⟩, .slice none 0 0] 45)).alloc (.cells #[] 3)).drew (w.heap.size + 1 + 1) 3 1 (w.heap.size + 1 + 1 + 1) 0 0 [] := Own.drew (Own.mono (by simpa using Own.empty (((w.alloc (.cells #[.string key, .slice a l.length c] 45)).alloc (.cells #[.string ⟨#[]⟩, .slice none 0 0] 45)).alloc (.cells #[.string ⟨#[]⟩, .slice none 0 0] 45)) 3 1) (by omega))
      have ho2 : Own ((((w.alloc (.cells #[.string key, .slice a l.length c] 45)).alloc (.cells #[.string ⟨#[]⟩, .slice none 0 0] 45)).alloc (.cells #[] 3)).alloc (.cells #[.string ⟨#[]⟩, .slice none 0 0] 45)).drew (w.heap.size + 1 + 1) 3 1 (w.heap.size + 1 + 1) 0 0 [] := Own.drew (Own.alloc (by simpa using Own.empty ((w.alloc (.cells #[.string key, .slice a l.length c] 45)).alloc (.cells #[.string ⟨#[]⟩, .slice none 0 0] 45)) 3 1) _)
      have ho3 : Own (((w.alloc (.cells #[.string key, .slice a l.length c] 45)).alloc (.cells #[.string ⟨#[]⟩, .slice none 0 0] 45)).alloc (.cells #[] 3)).drew (w.heap.size + 1 + 1) 3 1 (w.heap.size + 1 + 1) 0 0 [] := Own.drew (by simpa using Own.empty ((w.alloc (.cells #[.string key, .slice a l.length c] 45)).alloc (.cells #[.string ⟨#[]⟩, .slice none 0 0] 45)) 3 1)
      go_region_held3 (fun w' => (∀ i, w'.cell? ⟨w.heap.size, i, none⟩ = (#[.string key, .slice a l.length c] : Array Value)[i]?) ∧ Below w.heap.size w w') (first | (refine HM.out _ ?_; ((repeat (with_reducible first | exact Below.refl _ _ | apply Below.al | apply Below.dr | (refine Below.tr ?_ (by assumption)) | (refine Below.marked (by assumption) ?_ ?_) | (refine Below.st ?_ ?_ _))); all_goals (first | omega | (simp; done) | (simp; omega))); done) | (refine HK.out _ ?_; ((repeat (with_reducible first | exact Below.refl _ _ | apply Below.al | apply Below.dr | (refine Below.tr ?_ (by assumption)) | (refine Below.marked (by assumption) ?_ ?_) | (refine Below.st ?_ ?_ _))); all_goals (first | omega | (simp; done) | (simp; omega))); done) | (refine ⟨?_, ?_⟩; (intro i; rw [World.cell?_setCell_other _ _ _ _ (by first | (simp; done) | (simp; omega)), World.cell?_setCell_other _ _ _ _ (by first | (simp; done) | (simp; omega))]; refine (HK.out _ ?_).1 i; ((repeat (with_reducible first | exact Below.refl _ _ | apply Below.al | apply Below.dr | (refine Below.tr ?_ (by assumption)) | (refine Below.marked (by assumption) ?_ ?_) | (refine Below.st ?_ ?_ _))); all_goals (first | omega | (simp; done) | (simp; omega))); done); (((repeat (with_reducible first | exact Below.refl _ _ | apply Below.al | apply Below.dr | (refine Below.tr ?_ (by assumption)) | (refine Below.marked (by assumption) ?_ ?_) | (refine Below.st ?_ ?_ _))); all_goals (first | omega | (simp; done) | (simp; omega)))))) ((refine step_appR el_int rfl _ _ rfl (w.heap.size + 1 + 1) _ 0 0 [] rfl (by assumption) a l.length c (iv l) rfl (by simp [iv_length]) (Rd.later h1 (by ((repeat (with_reducible first | exact Below.refl _ _ | apply Below.al | apply Below.dr | (refine Below.tr ?_ (by assumption)) | (refine Below.marked (by assumption) ?_ ?_) | (refine Below.st ?_ ?_ _))); all_goals (first | omega | (simp; done) | (simp; omega))))) (iv_one l) (by omega) (by simp) ?_; intro g c1 w1 hgr; have hb : Below w.heap.size w w1 := hgr.below (by ((repeat (with_reducible first | exact Below.refl _ _ | apply Below.al | apply Below.dr | (refine Below.tr ?_ (by assumption)) | (refine Below.marked (by assumption) ?_ ?_) | (refine Below.st ?_ ?_ _))); all_goals (first | omega | (simp; done) | (simp; omega)))) (by omega); obtain ⟨hc, hf, hz⟩ := old_grown hgr.by_; simp only [World.size_alloc, World.size_drew] at hz; have HK : Hid (∀ w', Below w1.heap.size w1 w' → (∀ i, w'.cell? ⟨w.heap.size, i, none⟩ = (#[.string key, .slice a l.length c] : Array Value)[i]?) ∧ Below w.heap.size w w') := fun w' hb' => ⟨fun i => (hb'.cell (show w.heap.size < w1.heap.size by omega)).trans (by rw [hc, if_pos (by refine ⟨?_, ?_⟩ <;> first | omega | (simp only [World.size_alloc, World.size_drew]; omega))]; simp [go_sem, ↓IntWalk.iteOmega]), Below.tr hb hb'⟩))
      all_goals (
        have s1 : Own w1 (w.heap.size + 1 + 1) 3 1 g l.length c1 (iv l) := by simpa using hgr.own
        obtain ⟨hg1, hg2⟩ := s1.lt
        have hat := hgr.at_
        simp only [World.size_alloc, World.size_drew] at hat
        go_wp2_with (first | (go_at_call 65; refine (l01In_any _ _ _ _).mono ?_; rintro e w' ⟨rfl, rfl⟩))
        refine bodyPost_ret (v := .tuple #[.agg #[.string key, .slice (some ⟨g, 0, none⟩) l.length c1], .bool false]) (by simp [results, Try.results45, go_sem, ↓IntWalk.iteOmega, hc]) rfl ⟨some ⟨g, 0, none⟩, c1, by rw [HX.out], ?_, by ((repeat (with_reducible first | exact Below.refl _ _ | apply Below.al | apply Below.dr | (refine Below.tr ?_ (by assumption)) | (refine Below.marked (by assumption) ?_ ?_) | (refine Below.st ?_ ?_ _))); all_goals (first | omega | (simp; done) | (simp; omega)))⟩
        rw [HL.out]
        refine Sv.wide (Own.sv (B := w.heap.size + 1 + 1) (e := 3) (size := 1) (n := l.length) (cap := c1) ?_) (by omega) (by simp)
        ((repeat (with_reducible first | exact s1 | apply Own.alloc | apply Own.drew | (refine Own.set ?_ _ _) | (refine Own.other ?_ _ ?_ _))); all_goals (first | omega | (simp; done) | (simp; omega))))
    · have t0 : inB e 0 (l.length - 1) = true := by unfold inB; simp; omega
      cases t1 : inB q 0 3 with
      | false =>
        have HX : Hid (retB l e q = false) := by unfold Hid retB; simp [t0, t1]
        have HL : Hid (retL l e q = l) := by unfold Hid retL; rw [HX.out]; rfl
        go_enter Try.func45, Try.ntmps45
        go_wp2_with fail
        have x0 : ∀ i, ((w.alloc (.cells #[.string key, .slice a l.length c] 45)).alloc (.cells #[.string ⟨#[]⟩, .slice none 0 0] 45)).cell? ⟨w.heap.size, i, none⟩ = (#[.string key, .slice a l.length c] : Array Value)[i]? := by intro i; simp [go_sem, ↓IntWalk.iteOmega]
        have HM : Hid (∀ w', Below ((w.alloc (.cells #[.string key, .slice a l.length c] 45)).alloc (.cells #[.string ⟨#[]⟩, .slice none 0 0] 45)).heap.size ((w.alloc (.cells #[.string key, .slice a l.length c] 45)).alloc (.cells #[.string ⟨#[]⟩, .slice none 0 0] 45)) w' → (∀ i, w'.cell? ⟨w.heap.size, i, none⟩ = (#[.string key, .slice a l.length c] : Array Value)[i]?) ∧ Below w.heap.size w w') :=
          fun w' hb => ⟨fun i => (hb.cell (show w.heap.size < ((w.alloc (.cells #[.string key, .slice a l.length c] 45)).alloc (.cells #[.string ⟨#[]⟩, .slice none 0 0] 45)).heap.size by simp; omega)).trans (x0 i), (Below.al (Below.al (Below.refl _ _) _) _).trans (hb.mono (by simp; omega))⟩
        have ho1 : Own ((((w.alloc (.cells #[.string key, .slice a l.length c] 45)).alloc (.cells #[.string ⟨#[]⟩, .slice none 0 0] 45)).alloc (.cells #[.string ⟨#[]⟩, .slice none 0 0] 45)).alloc (.cells #[] 3)).drew (w.heap.size + 1 + 1) 3 1 (w.heap.size + 1 + 1 + 1) 0 0 [] := Own.drew (Own.mono (by simpa using Own.empty (((w.alloc (.cells #[.string key, .slice a l.length c] 45)).alloc (.cells #[.string ⟨#[]⟩, .slice none 0 0] 45)).alloc (.cells #[.string ⟨#[]⟩, .slice none 0 0] 45)) 3 1) (by omega))
        have ho2 : Own ((((w.alloc (.cells #[.string key, .slice a l.length c] 45)).alloc (.cells #[.string ⟨#[]⟩, .slice none 0 0] 45)).alloc (.cells #[] 3)).alloc (.cells #[.string ⟨#[]⟩, .slice none 0 0] 45)).drew (w.heap.size + 1 + 1) 3 1 (w.heap.size + 1 + 1) 0 0 [] := Own.drew (Own.alloc (by simpa using Own.empty ((w.alloc (.cells #[.string key, .slice a l.length c] 45)).alloc (.cells #[.string ⟨#[]⟩, .slice none 0 0] 45)) 3 1) _)
        have ho3 : Own (((w.alloc (.cells #[.string key, .slice a l.length c] 45)).alloc (.cells #[.string ⟨#[]⟩, .slice none 0 0] 45)).alloc (.cells #[] 3)).drew (w.heap.size + 1 + 1) 3 1 (w.heap.size + 1 + 1) 0 0 [] := Own.drew (by simpa using Own.empty ((w.alloc (.cells #[.string key, .slice a l.length c] 45)).alloc (.cells #[.string ⟨#[]⟩, .slice none 0 0] 45)) 3 1)
        go_region_held3 (fun w' => (∀ i, w'.cell? ⟨w.heap.size, i, none⟩ = (#[.string key, .slice a l.length c] : Array Value)[i]?) ∧ Below w.heap.size w w') (first | (refine HM.out _ ?_; ((repeat (with_reducible first | exact Below.refl _ _ | apply Below.al | apply Below.dr | (refine Below.tr ?_ (by assumption)) | (refine Below.marked (by assumption) ?_ ?_) | (refine Below.st ?_ ?_ _))); all_goals (first | omega | (simp; done) | (simp; omega))); done) | (refine HK.out _ ?_; ((repeat (with_reducible first | exact Below.refl _ _ | apply Below.al | apply Below.dr | (refine Below.tr ?_ (by assumption)) | (refine Below.marked (by assumption) ?_ ?_) | (refine Below.st ?_ ?_ _))); all_goals (first | omega | (simp; done) | (simp; omega))); done) | (refine ⟨?_, ?_⟩; (intro i; rw [World.cell?_setCell_other _ _ _ _ (by first | (simp; done) | (simp; omega)), World.cell?_setCell_other _ _ _ _ (by first | (simp; done) | (simp; omega))]; refine (HK.out _ ?_).1 i; ((repeat (with_reducible first | exact Below.refl _ _ | apply Below.al | apply Below.dr | (refine Below.tr ?_ (by assumption)) | (refine Below.marked (by assumption) ?_ ?_) | (refine Below.st ?_ ?_ _))); all_goals (first | omega | (simp; done) | (simp; omega))); done); (((repeat (with_reducible first | exact Below.refl _ _ | apply Below.al | apply Below.dr | (refine Below.tr ?_ (by assumption)) | (refine Below.marked (by assumption) ?_ ?_) | (refine Below.st ?_ ?_ _))); all_goals (first | omega | (simp; done) | (simp; omega)))))) ((refine step_appR el_int rfl _ _ rfl (w.heap.size + 1 + 1) _ 0 0 [] rfl (by assumption) a l.length c (iv l) rfl (by simp [iv_length]) (Rd.later h1 (by ((repeat (with_reducible first | exact Below.refl _ _ | apply Below.al | apply Below.dr | (refine Below.tr ?_ (by assumption)) | (refine Below.marked (by assumption) ?_ ?_) | (refine Below.st ?_ ?_ _))); all_goals (first | omega | (simp; done) | (simp; omega))))) (iv_one l) (by omega) (by simp) ?_; intro g c1 w1 hgr; have hb : Below w.heap.size w w1 := hgr.below (by ((repeat (with_reducible first | exact Below.refl _ _ | apply Below.al | apply Below.dr | (refine Below.tr ?_ (by assumption)) | (refine Below.marked (by assumption) ?_ ?_) | (refine Below.st ?_ ?_ _))); all_goals (first | omega | (simp; done) | (simp; omega)))) (by omega); obtain ⟨hc, hf, hz⟩ := old_grown hgr.by_; simp only [World.size_alloc, World.size_drew] at hz; have HK : Hid (∀ w', Below w1.heap.size w1 w' → (∀ i, w'.cell? ⟨w.heap.size, i, none⟩ = (#[.string key, .slice a l.length c] : Array Value)[i]?) ∧ Below w.heap.size w w') := fun w' hb' => ⟨fun i => (hb'.cell (show w.heap.size < w1.heap.size by omega)).trans (by rw [hc, if_pos (by refine ⟨?_, ?_⟩ <;> first | omega | (simp only [World.size_alloc, World.size_drew]; omega))]; simp [go_sem, ↓IntWalk.iteOmega]), Below.tr hb hb'⟩))
        all_goals (
          have s1 : Own w1 (w.heap.size + 1 + 1) 3 1 g l.length c1 (iv l) := by simpa using hgr.own
          obtain ⟨hg1, hg2⟩ := s1.lt
          have hat := hgr.at_
          simp only [World.size_alloc, World.size_drew] at hat
          go_wp2_with (first | (go_at_call 65; refine (l01In_any _ _ _ _).mono ?_; rintro e w' ⟨rfl, rfl⟩))
          refine bodyPost_ret (v := .tuple #[.agg #[.string key, .slice (some ⟨g, 0, none⟩) l.length c1], .bool false]) (by simp [results, Try.results45, go_sem, ↓IntWalk.iteOmega, hc]) rfl ⟨some ⟨g, 0, none⟩, c1, by rw [HX.out], ?_, by ((repeat (with_reducible first | exact Below.refl _ _ | apply Below.al | apply Below.dr | (refine Below.tr ?_ (by assumption)) | (refine Below.marked (by assumption) ?_ ?_) | (refine Below.st ?_ ?_ _))); all_goals (first | omega | (simp; done) | (simp; omega)))⟩
          rw [HL.out]
          refine Sv.wide (Own.sv (B := w.heap.size + 1 + 1) (e := 3) (size := 1) (n := l.length) (cap := c1) ?_) (by omega) (by simp)
          ((repeat (with_reducible first | exact s1 | apply Own.alloc | apply Own.drew | (refine Own.set ?_ _ _) | (refine Own.other ?_ _ ?_ _))); all_goals (first | omega | (simp; done) | (simp; omega))))
      | true =>
        have HX : Hid (retB l e q = true) := by unfold Hid retB; simp [t0, t1]
        obtain ⟨k, rfl⟩ := Int.eq_ofNat_of_zero_le t0'
        have hk : k < l.length := by omega
        have HL : Hid (retL l (k : Int) q = l.set k q) := by unfold Hid retL; rw [HX.out]; rfl
        go_enter Try.func45, Try.ntmps45
        go_wp2_with fail
        have x0 : ∀ i, ((w.alloc (.cells #[.string key, .slice a l.length c] 45)).alloc (.cells #[.string ⟨#[]⟩, .slice none 0 0] 45)).cell? ⟨w.heap.size, i, none⟩ = (#[.string key, .slice a l.length c] : Array Value)[i]? := by intro i; simp [go_sem, ↓IntWalk.iteOmega]
        have HM : Hid (∀ w', Below ((w.alloc (.cells #[.string key, .slice a l.length c] 45)).alloc (.cells #[.string ⟨#[]⟩, .slice none 0 0] 45)).heap.size ((w.alloc (.cells #[.string key, .slice a l.length c] 45)).alloc (.cells #[.string ⟨#[]⟩, .slice none 0 0] 45)) w' → (∀ i, w'.cell? ⟨w.heap.size, i, none⟩ = (#[.string key, .slice a l.length c] : Array Value)[i]?) ∧ Below w.heap.size w w') :=
          fun w' hb => ⟨fun i => (hb.cell (show w.heap.size < ((w.alloc (.cells #[.string key, .slice a l.length c] 45)).alloc (.cells #[.string ⟨#[]⟩, .slice none 0 0] 45)).heap.size by simp; omega)).trans (x0 i), (Below.al (Below.al (Below.refl _ _) _) _).trans (hb.mono (by simp; omega))⟩
        have ho1 : Own ((((w.alloc (.cells #[.string key, .slice a l.length c] 45)).alloc (.cells #[.string ⟨#[]⟩, .slice none 0 0] 45)).alloc (.cells #[.string ⟨#[]⟩, .slice none 0 0] 45)).alloc (.cells #[] 3)).drew (w.heap.size + 1 + 1) 3 1 (w.heap.size + 1 + 1 + 1) 0 0 [] := Own.drew (Own.mono (by simpa using Own.empty (((w.alloc (.cells #[.string key, .slice a l.length c] 45)).alloc (.cells #[.string ⟨#[]⟩, .slice none 0 0] 45)).alloc (.cells #[.string ⟨#[]⟩, .slice none 0 0] 45)) 3 1) (by omega))
        have ho2 : Own ((((w.alloc (.cells #[.string key, .slice a l.length c] 45)).alloc (.cells #[.string ⟨#[]⟩, .slice none 0 0] 45)).alloc (.cells #[] 3)).alloc (.cells #[.string ⟨#[]⟩, .slice none 0 0] 45)).drew (w.heap.size + 1 + 1) 3 1 (w.heap.size + 1 + 1) 0 0 [] := Own.drew (Own.alloc (by simpa using Own.empty ((w.alloc (.cells #[.string key, .slice a l.length c] 45)).alloc (.cells #[.string ⟨#[]⟩, .slice none 0 0] 45)) 3 1) _)
        have ho3 : Own (((w.alloc (.cells #[.string key, .slice a l.length c] 45)).alloc (.cells #[.string ⟨#[]⟩, .slice none 0 0] 45)).alloc (.cells #[] 3)).drew (w.heap.size + 1 + 1) 3 1 (w.heap.size + 1 + 1) 0 0 [] := Own.drew (by simpa using Own.empty ((w.alloc (.cells #[.string key, .slice a l.length c] 45)).alloc (.cells #[.string ⟨#[]⟩, .slice none 0 0] 45)) 3 1)
        go_region_held3 (fun w' => (∀ i, w'.cell? ⟨w.heap.size, i, none⟩ = (#[.string key, .slice a l.length c] : Array Value)[i]?) ∧ Below w.heap.size w w') (first | (refine HM.out _ ?_; ((repeat (with_reducible first | exact Below.refl _ _ | apply Below.al | apply Below.dr | (refine Below.tr ?_ (by assumption)) | (refine Below.marked (by assumption) ?_ ?_) | (refine Below.st ?_ ?_ _))); all_goals (first | omega | (simp; done) | (simp; omega))); done) | (refine HK.out _ ?_; ((repeat (with_reducible first | exact Below.refl _ _ | apply Below.al | apply Below.dr | (refine Below.tr ?_ (by assumption)) | (refine Below.marked (by assumption) ?_ ?_) | (refine Below.st ?_ ?_ _))); all_goals (first | omega | (simp; done) | (simp; omega))); done) | (refine ⟨?_, ?_⟩; (intro i; rw [World.cell?_setCell_other _ _ _ _ (by first | (simp; done) | (simp; omega)), World.cell?_setCell_other _ _ _ _ (by first | (simp; done) | (simp; omega))]; refine (HK.out _ ?_).1 i; ((repeat (with_reducible first | exact Below.refl _ _ | apply Below.al | apply Below.dr | (refine Below.tr ?_ (by assumption)) | (refine Below.marked (by assumption) ?_ ?_) | (refine Below.st ?_ ?_ _))); all_goals (first | omega | (simp; done) | (simp; omega))); done); (((repeat (with_reducible first | exact Below.refl _ _ | apply Below.al | apply Below.dr | (refine Below.tr ?_ (by assumption)) | (refine Below.marked (by assumption) ?_ ?_) | (refine Below.st ?_ ?_ _))); all_goals (first | omega | (simp; done) | (simp; omega)))))) ((refine step_appR el_int rfl _ _ rfl (w.heap.size + 1 + 1) _ 0 0 [] rfl (by assumption) a l.length c (iv l) rfl (by simp [iv_length]) (Rd.later h1 (by ((repeat (with_reducible first | exact Below.refl _ _ | apply Below.al | apply Below.dr | (refine Below.tr ?_ (by assumption)) | (refine Below.marked (by assumption) ?_ ?_) | (refine Below.st ?_ ?_ _))); all_goals (first | omega | (simp; done) | (simp; omega))))) (iv_one l) (by omega) (by simp) ?_; intro g c1 w1 hgr; have hb : Below w.heap.size w w1 := hgr.below (by ((repeat (with_reducible first | exact Below.refl _ _ | apply Below.al | apply Below.dr | (refine Below.tr ?_ (by assumption)) | (refine Below.marked (by assumption) ?_ ?_) | (refine Below.st ?_ ?_ _))); all_goals (first | omega | (simp; done) | (simp; omega)))) (by omega); obtain ⟨hc, hf, hz⟩ := old_grown hgr.by_; simp only [World.size_alloc, World.size_drew] at hz; have HK : Hid (∀ w', Below w1.heap.size w1 w' → (∀ i, w'.cell? ⟨w.heap.size, i, none⟩ = (#[.string key, .slice a l.length c] : Array Value)[i]?) ∧ Below w.heap.size w w') := fun w' hb' => ⟨fun i => (hb'.cell (show w.heap.size < w1.heap.size by omega)).trans (by rw [hc, if_pos (by refine ⟨?_, ?_⟩ <;> first | omega | (simp only [World.size_alloc, World.size_drew]; omega))]; simp [go_sem, ↓IntWalk.iteOmega]), Below.tr hb hb'⟩))
        all_goals (
          have s1 : Own w1 (w.heap.size + 1 + 1) 3 1 g l.length c1 (iv l) := by simpa using hgr.own
          obtain ⟨hg1, hg2⟩ := s1.lt
          have hat := hgr.at_
          simp only [World.size_alloc, World.size_drew] at hat
          obtain ⟨v0, hv0⟩ : ∃ v, far w1 ⟨g, k, none⟩ = some v := ⟨_, s1.row.cell k (by rw [iv_length]; exact hk)⟩
          have hf0 : farF w1 ⟨g, k, none⟩ = false := s1.row.free k (by rw [iv_length]; exact hk)
          go_wp2_with (first | (go_at_call 65; refine (l01In_any _ _ _ _).mono ?_; rintro e w' ⟨rfl, rfl⟩))
          refine bodyPost_ret (v := .tuple #[.agg #[.string key, .slice (some ⟨g, 0, none⟩) l.length c1], .bool true]) (by simp [results, Try.results45, go_sem, ↓IntWalk.iteOmega, hc]) rfl ⟨some ⟨g, 0, none⟩, c1, by rw [HX.out], ?_, by ((repeat (with_reducible first | exact Below.refl _ _ | apply Below.al | apply Below.dr | (refine Below.tr ?_ (by assumption)) | (refine Below.marked (by assumption) ?_ ?_) | (refine Below.st ?_ ?_ _))); all_goals (first | omega | (simp; done) | (simp; omega)))⟩
          rw [HL.out, ← iv_set]
          refine Sv.wide (Own.sv (B := w.heap.size + 1 + 1) (e := 3) (size := 1) (n := l.length) (cap := c1) ?_) (by omega) (by simp)
          ((repeat (with_reducible first | exact s1 | apply Own.alloc | apply Own.drew | (refine Own.set ?_ _ _) | (refine Own.other ?_ _ ?_ _))); all_goals (first | omega | (simp; done) | (simp; omega))))

end Go.Proofs.Ytlhngkkablhpdaa

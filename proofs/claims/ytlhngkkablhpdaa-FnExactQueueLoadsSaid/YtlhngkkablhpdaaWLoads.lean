/-
  The exact laws over a spread, walked: each returns true, whatever the spread.
  Conditions: the arguments are well formed.
-/
import Derived.Test.YtlhngkkablhpdaaLoads
import Derived.Test.YtlhngkkablhpdaaOpen
set_option linter.unusedSimpArgs false
set_option linter.unusedVariables false
namespace Go.Proofs.Ytlhngkkablhpdaa
open Go.RowKit

theorem loads_le (key : ByteArray) (l : List Int) (q : Int) (fs : List Fl) : (loads key l q fs).length ≤ 4 := by
  unfold loads
  split
  · rename_i h
    have := spOk_q h
    rw [ld_length]; omega
  · simp

set_option maxRecDepth 100000 in
set_option maxHeartbeats 1000000 in
theorem fnExactQueueLoads_law (key : ByteArray) (a : Option Addr) (c : Nat) (l : List Int) (q : Int) (af : Option Addr) (cf : Nat) (fs : List Fl) (w : World) (hk : key.size ≤ maxLen) (hl : l.length ≤ maxLen) (hrd : Rd w a (iv l)) (hq : I64 q) (hl2 : fs.length ≤ maxLen) (hrd2 : Rd w af (fls fs)) (_ : ∀ v ∈ fs, v.ok) :
    Calls Try.prog 18 #[.agg #[.string key, .slice a l.length c], .int .i64 q, .slice af fs.length cf] w fun e w' => e = .returned (.bool true) ∧ Below w.heap.size w w' := by
  have hl' : l.length ≤ 9223372036854775807 := hl
  have hl2' : fs.length ≤ 9223372036854775807 := hl2
  have hln := loads_le key l q fs
  by_cases hs : key.size + l.length ≤ 1048576
  · have hz := szR_pos (left := 1048576) (n := key.size + l.length) (by omega)
    simp only [Int.natCast_add] at hz
    by_cases hs2 : key.size + l.length + fs.length ≤ 1048576
    · have hzf := szR_pos (left := 1048576 - (key.size + l.length : Int)) (n := fs.length) (by omega)
      go_enter Try.func18, Try.ntmps18
      go_wp2_with fail
      refine (szSpread_any key a l.length c _ (by omega) hk hl' _).mono ?_
      rintro e w1 ⟨rfl, hb1⟩
      obtain ⟨hc1, hf1, hz1⟩ := old hb1
      try simp only [World.size_alloc, World.size_drew, World.size_setCell] at hz1
      go_wp2_with fail
      refine (szFlowS_any af fs.length cf _ (by omega) hl2' _).mono ?_
      rintro e w' ⟨rfl, rfl⟩
      go_wp2_with fail
      refine (toSpread_any key a c l _ (Rd.later hrd (by ((repeat (with_reducible first | exact Below.refl _ _ | apply Below.al | apply Below.dr | (refine Below.tr ?_ (by assumption)) | (refine Below.marked (by assumption) ?_ ?_) | (refine Below.st ?_ ?_ _))); all_goals (first | omega | (simp; done) | (simp; omega))))) (by omega)).mono ?_
      rintro e w2 ⟨a2, c2, rfl, s2, hb2⟩
      obtain ⟨hc2, hf2, hz2⟩ := old hb2
      try simp only [World.size_alloc, World.size_drew, World.size_setCell] at hz2
      try simp only [World.size_alloc, World.size_drew, World.size_setCell] at s2
      go_wp2_with fail
      refine (toFlowS_any af cf fs _ (Rd.later hrd2 (by ((repeat (with_reducible first | exact Below.refl _ _ | apply Below.al | apply Below.dr | (refine Below.tr ?_ (by assumption)) | (refine Below.marked (by assumption) ?_ ?_) | (refine Below.st ?_ ?_ _))); all_goals (first | omega | (simp; done) | (simp; omega))))) (by omega)).mono ?_
      rintro e w3 ⟨a3, c3, rfl, s3, hb3⟩
      obtain ⟨hc3, hf3, hz3⟩ := old hb3
      try simp only [World.size_alloc, World.size_drew, World.size_setCell] at hz3
      try simp only [World.size_alloc, World.size_drew, World.size_setCell] at s3
      go_wp2_with fail
      refine (loads_spec key a2 a3 c2 c3 l fs q hq (by omega) (by omega) (by omega) _ (Sv.rd (B := w1.heap.size) (U := w2.heap.size) (by ((repeat (with_reducible first | assumption | apply Sv.al | apply Sv.dr | (refine Sv.later ?_ (by assumption)) | (exact Sv.self (by assumption)) | (refine Sv.other (by assumption) ?_ ?_) | (refine Sv.st ?_ ?_ _))); all_goals (first | omega | (simp only []; omega) | (simp; omega))))) (Sv.rd (B := w2.heap.size) (U := w3.heap.size) (by ((repeat (with_reducible first | assumption | apply Sv.al | apply Sv.dr | (refine Sv.later ?_ (by assumption)) | (exact Sv.self (by assumption)) | (refine Sv.other (by assumption) ?_ ?_) | (refine Sv.st ?_ ?_ _))); all_goals (first | omega | (simp only []; omega) | (simp; omega)))))).mono ?_
      rintro e w4 ⟨a4, c4, rfl, s4, hb4⟩
      obtain ⟨hc4, hf4, hz4⟩ := old hb4
      try simp only [World.size_alloc, World.size_drew, World.size_setCell] at hz4
      try simp only [World.size_alloc, World.size_drew, World.size_setCell] at s4
      go_wp2_with fail
      refine (toSpread_any key a c l _ (Rd.later hrd (by ((repeat (with_reducible first | exact Below.refl _ _ | apply Below.al | apply Below.dr | (refine Below.tr ?_ (by assumption)) | (refine Below.marked (by assumption) ?_ ?_) | (refine Below.st ?_ ?_ _))); all_goals (first | omega | (simp; done) | (simp; omega))))) (by omega)).mono ?_
      rintro e w5 ⟨a5, c5, rfl, s5, hb5⟩
      obtain ⟨hc5, hf5, hz5⟩ := old hb5
      try simp only [World.size_alloc, World.size_drew, World.size_setCell] at hz5
      try simp only [World.size_alloc, World.size_drew, World.size_setCell] at s5
      go_wp2_with fail
      refine (toFlowS_any af cf fs _ (Rd.later hrd2 (by ((repeat (with_reducible first | exact Below.refl _ _ | apply Below.al | apply Below.dr | (refine Below.tr ?_ (by assumption)) | (refine Below.marked (by assumption) ?_ ?_) | (refine Below.st ?_ ?_ _))); all_goals (first | omega | (simp; done) | (simp; omega))))) (by omega)).mono ?_
      rintro e w6 ⟨a6, c6, rfl, s6, hb6⟩
      obtain ⟨hc6, hf6, hz6⟩ := old hb6
      try simp only [World.size_alloc, World.size_drew, World.size_setCell] at hz6
      try simp only [World.size_alloc, World.size_drew, World.size_setCell] at s6
      go_wp2_with fail
      refine (loads_impl key a5 a6 c5 c6 l fs q hq (by omega) (by omega) (by omega) _ (Sv.rd (B := w4.heap.size) (U := w5.heap.size) (by ((repeat (with_reducible first | assumption | apply Sv.al | apply Sv.dr | (refine Sv.later ?_ (by assumption)) | (exact Sv.self (by assumption)) | (refine Sv.other (by assumption) ?_ ?_) | (refine Sv.st ?_ ?_ _))); all_goals (first | omega | (simp only []; omega) | (simp; omega))))) (Sv.rd (B := w5.heap.size + 1) (U := w6.heap.size) (by ((repeat (with_reducible first | assumption | apply Sv.al | apply Sv.dr | (refine Sv.later ?_ (by assumption)) | (exact Sv.self (by assumption)) | (refine Sv.other (by assumption) ?_ ?_) | (refine Sv.st ?_ ?_ _))); all_goals (first | omega | (simp only []; omega) | (simp; omega)))))).mono ?_
      rintro e w7 ⟨a7, c7, rfl, s7, hb7⟩
      obtain ⟨hc7, hf7, hz7⟩ := old hb7
      try simp only [World.size_alloc, World.size_drew, World.size_setCell] at hz7
      try simp only [World.size_alloc, World.size_drew, World.size_setCell] at s7
      go_wp2_with fail
      refine (eqIntS_any a7 a4 c7 c4 (loads key l q fs) _ (Sv.rd (B := w6.heap.size) (U := w7.heap.size) (by ((repeat (with_reducible first | assumption | apply Sv.al | apply Sv.dr | (refine Sv.later ?_ (by assumption)) | (exact Sv.self (by assumption)) | (refine Sv.other (by assumption) ?_ ?_) | (refine Sv.st ?_ ?_ _))); all_goals (first | omega | (simp only []; omega) | (simp; omega))))) (Sv.rd (B := w3.heap.size) (U := w4.heap.size) (by ((repeat (with_reducible first | assumption | apply Sv.al | apply Sv.dr | (refine Sv.later ?_ (by assumption)) | (exact Sv.self (by assumption)) | (refine Sv.other (by assumption) ?_ ?_) | (refine Sv.st ?_ ?_ _))); all_goals (first | omega | (simp only []; omega) | (simp; omega))))) (by omega)).mono ?_
      rintro e w8 ⟨rfl, hb8⟩
      obtain ⟨hc8, hf8, hz8⟩ := old hb8
      try simp only [World.size_alloc, World.size_drew, World.size_setCell] at hz8
      go_wp2_with fail
      have x1 : ∀ i, w8.cell? ⟨w5.heap.size, i, none⟩ = (#[.string key, .slice a5 l.length c5] : Array Value)[i]? := by intro i; simp [go_sem, hc1, hc2, hc3, hc4, hc5, hc6, hc7, hc8, ↓IntWalk.iteOmega]
      have x0 : ∀ i, w8.cell? ⟨w.heap.size, i, none⟩ = (#[.string key, .slice a l.length c] : Array Value)[i]? := by intro i; simp [go_sem, hc1, hc2, hc3, hc4, hc5, hc6, hc7, hc8, ↓IntWalk.iteOmega]
      have HM8 : Hid (∀ w', Below w8.heap.size w8 w' → (∀ i, w'.cell? ⟨w5.heap.size, i, none⟩ = (#[.string key, .slice a5 l.length c5] : Array Value)[i]?) ∧ (∀ i, w'.cell? ⟨w.heap.size, i, none⟩ = (#[.string key, .slice a l.length c] : Array Value)[i]?) ∧ Below w8.heap.size w8 w') := fun w' hb => ⟨fun i => (hb.cell (show w5.heap.size < w8.heap.size by first | omega | (simp; done) | (simp; omega))).trans (x1 i), fun i => (hb.cell (show w.heap.size < w8.heap.size by first | omega | (simp; done) | (simp; omega))).trans (x0 i), hb⟩
      go_region_held3 (fun w' => (∀ i, w'.cell? ⟨w5.heap.size, i, none⟩ = (#[.string key, .slice a5 l.length c5] : Array Value)[i]?) ∧ (∀ i, w'.cell? ⟨w.heap.size, i, none⟩ = (#[.string key, .slice a l.length c] : Array Value)[i]?) ∧ Below w8.heap.size w8 w') (exact HM8.out _ (by ((repeat (with_reducible first | exact Below.refl _ _ | apply Below.al | apply Below.dr | (refine Below.tr ?_ (by assumption)) | (refine Below.marked (by assumption) ?_ ?_) | (refine Below.st ?_ ?_ _))); all_goals (first | omega | (simp; done) | (simp; omega))))) (first | (go_at_call 40; refine (toSpread_any key a c l _ (Rd.later hrd (by ((repeat (with_reducible first | exact Below.refl _ _ | apply Below.al | apply Below.dr | (refine Below.tr ?_ (by assumption)) | (refine Below.marked (by assumption) ?_ ?_) | (refine Below.st ?_ ?_ _))); all_goals (first | omega | (simp; done) | (simp; omega))))) (by omega)).mono ?_; rintro e w9 ⟨a9, c9, rfl, s9, hb9⟩) | (go_at_call 42; refine (eqSpread_any key a5 _ c5 _ l _ ?_ ?_ (by omega)).mono ?_; exact Sv.rd (Sv.later s5 (by ((repeat (with_reducible first | exact Below.refl _ _ | apply Below.al | apply Below.dr | (refine Below.tr ?_ (by assumption)) | (refine Below.marked (by assumption) ?_ ?_) | (refine Below.st ?_ ?_ _))); all_goals (first | omega | (simp; done) | (simp; omega))))); exact Sv.rd (Sv.later s9 (by ((repeat (with_reducible first | exact Below.refl _ _ | apply Below.al | apply Below.dr | (refine Below.tr ?_ (by assumption)) | (refine Below.marked (by assumption) ?_ ?_) | (refine Below.st ?_ ?_ _))); all_goals (first | omega | (simp; done) | (simp; omega))))); rintro e w10 ⟨rfl, hb10⟩))
      obtain ⟨hc9, hf9, hz9⟩ := old hb9
      try simp only [World.size_alloc, World.size_drew, World.size_setCell] at hz9
      try simp only [World.size_alloc, World.size_drew, World.size_setCell] at s9
      obtain ⟨hc10, hf10, hz10⟩ := old hb10
      try simp only [World.size_alloc, World.size_drew, World.size_setCell] at hz10
      clear x1
      clear x0
      go_wp2_with fail
      refine (toFlowS_any af cf fs _ (Rd.later hrd2 (by ((repeat (with_reducible first | exact Below.refl _ _ | apply Below.al | apply Below.dr | (refine Below.tr ?_ (by assumption)) | (refine Below.marked (by assumption) ?_ ?_) | (refine Below.st ?_ ?_ _))); all_goals (first | omega | (simp; done) | (simp; omega))))) (by omega)).mono ?_
      rintro e w11 ⟨a11, c11, rfl, s11, hb11⟩
      obtain ⟨hc11, hf11, hz11⟩ := old hb11
      try simp only [World.size_alloc, World.size_drew, World.size_setCell] at hz11
      try simp only [World.size_alloc, World.size_drew, World.size_setCell] at s11
      go_wp2_with fail
      refine (eqFlowS_any a6 a11 c6 c11 fs _ (Sv.rd (B := w5.heap.size + 1) (U := w6.heap.size) (by ((repeat (with_reducible first | assumption | apply Sv.al | apply Sv.dr | (refine Sv.later ?_ (by assumption)) | (exact Sv.self (by assumption)) | (refine Sv.other (by assumption) ?_ ?_) | (refine Sv.st ?_ ?_ _))); all_goals (first | omega | (simp only []; omega) | (simp; omega))))) (Sv.rd (B := w10.heap.size) (U := w11.heap.size) (by ((repeat (with_reducible first | assumption | apply Sv.al | apply Sv.dr | (refine Sv.later ?_ (by assumption)) | (exact Sv.self (by assumption)) | (refine Sv.other (by assumption) ?_ ?_) | (refine Sv.st ?_ ?_ _))); all_goals (first | omega | (simp only []; omega) | (simp; omega))))) (by omega)).mono ?_
      rintro e w12 ⟨rfl, hb12⟩
      obtain ⟨hc12, hf12, hz12⟩ := old hb12
      try simp only [World.size_alloc, World.size_drew, World.size_setCell] at hz12
      go_wp2_with fail
      refine (markSpread_any key a5 l.length c5 (w4.heap.size) (w5.heap.size) 1 (iv l) _ (by ((repeat (with_reducible first | assumption | apply Sv.al | apply Sv.dr | (refine Sv.later ?_ (by assumption)) | (exact Sv.self (by assumption)) | (refine Sv.other (by assumption) ?_ ?_) | (refine Sv.st ?_ ?_ _))); all_goals (first | omega | (simp only []; omega) | (simp; omega)))) (by simp [iv_length]) (by first | omega | (simp; omega)) (by omega)).mono ?_
      rintro e w13 ⟨rfl, o13, m13⟩
      obtain ⟨hc13, hf13, hz13⟩ := m13.old
      try simp only [World.size_alloc, World.size_drew, World.size_setCell] at hz13
      go_wp2_with fail
      refine (markFlowS_any a6 fs.length c6 (w5.heap.size + 1) (w6.heap.size) _ (fls fs) _ (by ((repeat (with_reducible first | assumption | apply Sv.al | apply Sv.dr | (refine Sv.later ?_ (by assumption)) | (exact Sv.self (by assumption)) | (refine Sv.other (by assumption) ?_ ?_) | (refine Sv.st ?_ ?_ _))); all_goals (first | omega | (simp only []; omega) | (simp; omega)))) (fls_length fs) (by omega)).mono ?_
      rintro e w14 ⟨rfl, m14⟩
      obtain ⟨hc14, hf14, hz14⟩ := m14.old
      try simp only [World.size_alloc, World.size_drew, World.size_setCell] at hz14
      go_wp2_with fail
      refine (eqIntS_any a7 a4 c7 c4 (loads key l q fs) _ (Sv.rd (B := w6.heap.size) (U := w7.heap.size) (by ((repeat (with_reducible first | assumption | apply Sv.al | apply Sv.dr | (refine Sv.later ?_ (by assumption)) | (exact Sv.self (by assumption)) | (refine Sv.other (by assumption) ?_ ?_) | (refine Sv.st ?_ ?_ _))); all_goals (first | omega | (simp only []; omega) | (simp; omega))))) (Sv.rd (B := w3.heap.size) (U := w4.heap.size) (by ((repeat (with_reducible first | assumption | apply Sv.al | apply Sv.dr | (refine Sv.later ?_ (by assumption)) | (exact Sv.self (by assumption)) | (refine Sv.other (by assumption) ?_ ?_) | (refine Sv.st ?_ ?_ _))); all_goals (first | omega | (simp only []; omega) | (simp; omega))))) (by omega)).mono ?_
      rintro e w15 ⟨rfl, hb15⟩
      obtain ⟨hc15, hf15, hz15⟩ := old hb15
      try simp only [World.size_alloc, World.size_drew, World.size_setCell] at hz15
      go_wp2_with fail
      refine (markIntS_any a7 (loads key l q fs).length c7 (w6.heap.size) (w7.heap.size) 1 (iv (loads key l q fs)) _ (by ((repeat (with_reducible first | assumption | apply Sv.al | apply Sv.dr | (refine Sv.later ?_ (by assumption)) | (exact Sv.self (by assumption)) | (refine Sv.other (by assumption) ?_ ?_) | (refine Sv.st ?_ ?_ _))); all_goals (first | omega | (simp only []; omega) | (simp; omega)))) (iv_length _) (by omega)).mono ?_
      rintro e w16 ⟨rfl, m16⟩
      obtain ⟨hc16, hf16, hz16⟩ := m16.old
      try simp only [World.size_alloc, World.size_drew, World.size_setCell] at hz16
      go_wp2_with fail
      refine (heldIntS_any a7 (loads key l q fs).length c7 1 _ (Sv.rd (B := w6.heap.size) (U := w7.heap.size) (by ((repeat (with_reducible first | assumption | apply Sv.al | apply Sv.dr | (refine Sv.later ?_ (by assumption)) | (exact Sv.self (by assumption)) | (refine Sv.other (by assumption) ?_ ?_) | (refine Sv.st ?_ ?_ _))); all_goals (first | omega | (simp only []; omega) | (simp; omega))))) (by omega)).mono ?_
      rintro e w17 ⟨rfl, hb17⟩
      obtain ⟨hc17, hf17, hz17⟩ := old hb17
      try simp only [World.size_alloc, World.size_drew, World.size_setCell] at hz17
      go_wp2_with fail
      refine (toSpread_any key a c l _ (Rd.later hrd (by ((repeat (with_reducible first | exact Below.refl _ _ | apply Below.al | apply Below.dr | (refine Below.tr ?_ (by assumption)) | (refine Below.marked (by assumption) ?_ ?_) | (refine Below.st ?_ ?_ _))); all_goals (first | omega | (simp; done) | (simp; omega))))) (by omega)).mono ?_
      rintro e w18 ⟨a18, c18, rfl, s18, hb18⟩
      obtain ⟨hc18, hf18, hz18⟩ := old hb18
      try simp only [World.size_alloc, World.size_drew, World.size_setCell] at hz18
      try simp only [World.size_alloc, World.size_drew, World.size_setCell] at s18
      go_wp2_with fail
      refine (toFlowS_any af cf fs _ (Rd.later hrd2 (by ((repeat (with_reducible first | exact Below.refl _ _ | apply Below.al | apply Below.dr | (refine Below.tr ?_ (by assumption)) | (refine Below.marked (by assumption) ?_ ?_) | (refine Below.st ?_ ?_ _))); all_goals (first | omega | (simp; done) | (simp; omega))))) (by omega)).mono ?_
      rintro e w19 ⟨a19, c19, rfl, s19, hb19⟩
      obtain ⟨hc19, hf19, hz19⟩ := old hb19
      try simp only [World.size_alloc, World.size_drew, World.size_setCell] at hz19
      try simp only [World.size_alloc, World.size_drew, World.size_setCell] at s19
      go_wp2_with fail
      refine (loads_impl key a18 a19 c18 c19 l fs q hq (by omega) (by omega) (by omega) _ (Sv.rd (B := w17.heap.size) (U := w18.heap.size) (by ((repeat (with_reducible first | assumption | apply Sv.al | apply Sv.dr | (refine Sv.later ?_ (by assumption)) | (exact Sv.self (by assumption)) | (refine Sv.other (by assumption) ?_ ?_) | (refine Sv.st ?_ ?_ _))); all_goals (first | omega | (simp only []; omega) | (simp; omega))))) (Sv.rd (B := w18.heap.size) (U := w19.heap.size) (by ((repeat (with_reducible first | assumption | apply Sv.al | apply Sv.dr | (refine Sv.later ?_ (by assumption)) | (exact Sv.self (by assumption)) | (refine Sv.other (by assumption) ?_ ?_) | (refine Sv.st ?_ ?_ _))); all_goals (first | omega | (simp only []; omega) | (simp; omega)))))).mono ?_
      rintro e w20 ⟨a20, c20, rfl, s20, hb20⟩
      obtain ⟨hc20, hf20, hz20⟩ := old hb20
      try simp only [World.size_alloc, World.size_drew, World.size_setCell] at hz20
      try simp only [World.size_alloc, World.size_drew, World.size_setCell] at s20
      go_wp2_with fail
      refine (eqIntS_any a20 a4 c20 c4 (loads key l q fs) _ (Sv.rd (B := w19.heap.size) (U := w20.heap.size) (by ((repeat (with_reducible first | assumption | apply Sv.al | apply Sv.dr | (refine Sv.later ?_ (by assumption)) | (exact Sv.self (by assumption)) | (refine Sv.other (by assumption) ?_ ?_) | (refine Sv.st ?_ ?_ _))); all_goals (first | omega | (simp only []; omega) | (simp; omega))))) (Sv.rd (B := w3.heap.size) (U := w4.heap.size) (by ((repeat (with_reducible first | assumption | apply Sv.al | apply Sv.dr | (refine Sv.later ?_ (by assumption)) | (exact Sv.self (by assumption)) | (refine Sv.other (by assumption) ?_ ?_) | (refine Sv.st ?_ ?_ _))); all_goals (first | omega | (simp only []; omega) | (simp; omega))))) (by omega)).mono ?_
      rintro e w21 ⟨rfl, hb21⟩
      obtain ⟨hc21, hf21, hz21⟩ := old hb21
      try simp only [World.size_alloc, World.size_drew, World.size_setCell] at hz21
      go_wp2_with fail
      refine (heldIntS_any a7 (loads key l q fs).length c7 1 _ (Sv.rd (B := w6.heap.size) (U := w7.heap.size) (by ((repeat (with_reducible first | assumption | apply Sv.al | apply Sv.dr | (refine Sv.later ?_ (by assumption)) | (exact Sv.self (by assumption)) | (refine Sv.other (by assumption) ?_ ?_) | (refine Sv.st ?_ ?_ _))); all_goals (first | omega | (simp only []; omega) | (simp; omega))))) (by omega)).mono ?_
      rintro e w22 ⟨rfl, hb22⟩
      obtain ⟨hc22, hf22, hz22⟩ := old hb22
      try simp only [World.size_alloc, World.size_drew, World.size_setCell] at hz22
      go_wp2_with fail
      go_ret
      exact ⟨rfl, by ((repeat (with_reducible first | exact Below.refl _ _ | apply Below.al | apply Below.dr | (refine Below.tr ?_ (by assumption)) | (refine Below.marked (by assumption) ?_ ?_) | (refine Below.st ?_ ?_ _))); all_goals (first | omega | (simp; done) | (simp; omega)))⟩
    · have hzf := szR_neg (left := 1048576 - (key.size + l.length : Int)) (n := fs.length) (by omega)
      go_enter Try.func18, Try.ntmps18
      go_wp2_with fail
      refine (szSpread_any key a l.length c _ (by omega) hk hl' _).mono ?_
      rintro e w1 ⟨rfl, hb1⟩
      obtain ⟨hc1, hf1, hz1⟩ := old hb1
      try simp only [World.size_alloc, World.size_drew, World.size_setCell] at hz1
      go_wp2_with fail
      refine (szFlowS_any af fs.length cf _ (by omega) hl2' _).mono ?_
      rintro e w' ⟨rfl, rfl⟩
      go_wp2_with fail
      go_ret
      exact ⟨rfl, by ((repeat (with_reducible first | exact Below.refl _ _ | apply Below.al | apply Below.dr | (refine Below.tr ?_ (by assumption)) | (refine Below.marked (by assumption) ?_ ?_) | (refine Below.st ?_ ?_ _))); all_goals (first | omega | (simp; done) | (simp; omega)))⟩
  · have hz := szR_neg (left := 1048576) (n := key.size + l.length) (by omega)
    simp only [Int.natCast_add] at hz
    go_enter Try.func18, Try.ntmps18
    go_wp2_with fail
    refine (szSpread_any key a l.length c _ (by omega) hk hl' _).mono ?_
    rintro e w1 ⟨rfl, hb1⟩
    obtain ⟨hc1, hf1, hz1⟩ := old hb1
    try simp only [World.size_alloc, World.size_drew, World.size_setCell] at hz1
    go_wp2_with fail
    go_ret
    exact ⟨rfl, by ((repeat (with_reducible first | exact Below.refl _ _ | apply Below.al | apply Below.dr | (refine Below.tr ?_ (by assumption)) | (refine Below.marked (by assumption) ?_ ?_) | (refine Below.st ?_ ?_ _))); all_goals (first | omega | (simp; done) | (simp; omega)))⟩

end Go.Proofs.Ytlhngkkablhpdaa

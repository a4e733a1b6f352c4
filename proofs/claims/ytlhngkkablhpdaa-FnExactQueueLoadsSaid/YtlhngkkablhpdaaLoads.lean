/-
  QueueLoads of both programs: how many flows go to each queue.
  Conditions: at most 2^20 bytes, entries and flows.
-/
import Derived.Test.YtlhngkkablhpdaaEntry
import Derived.Test.YtlhngkkablhpdaaSFlow
set_option linter.unusedSimpArgs false
set_option linter.unusedVariables false
namespace Go.Proofs.Ytlhngkkablhpdaa
open Go.RowKit

/-- The counts after the first k flows. -/
def ld (key : ByteArray) (l : List Int) (q : Int) (fs : List Fl) : Nat → List Int
  | 0 => List.replicate q.toNat 0
  | k + 1 =>
    let x := sprQ key l q (fs.getD k ⟨0, 0, 0, 0, 0⟩)
    if 0 ≤ x then (ld key l q fs k).set x.toNat ((ld key l q fs k).getD x.toNat 0 + 1) else ld key l q fs k

theorem ld_length (key : ByteArray) (l : List Int) (q : Int) (fs : List Fl) : ∀ k, (ld key l q fs k).length = q.toNat
  | 0 => by simp [ld]
  | k + 1 => by
    unfold ld; dsimp only
    split <;> simp [ld_length key l q fs k]

/-- QueueLoads. -/
def loads (key : ByteArray) (l : List Int) (q : Int) (fs : List Fl) : List Int := if spOk key l q then ld key l q fs fs.length else []

theorem spOk_q {key : ByteArray} {l : List Int} {q : Int} (h : spOk key l q = true) : 1 ≤ q ∧ q ≤ 4 := by
  simp [spOk, inB] at h; omega

theorem sprQ_lt {key : ByteArray} {l : List Int} {q : Int} (h : spOk key l q = true) (f : Fl) : -1 ≤ sprQ key l q f ∧ sprQ key l q f < q := by
  have hq := spOk_q h
  unfold sprQ
  split
  · rename_i he
    have h2 := entry_lt key l f
    have hk : (entry key l f).toNat < l.length := by omega
    have : l.all (fun x => inB x 0 (q - 1)) = true := by simp [spOk] at h ⊢; exact h.2
    rw [List.all_eq_true] at this
    have h3 := this l[(entry key l f).toNat] (List.getElem_mem hk)
    simp [inB] at h3
    rw [List.getD_eq_getElem?_getD, List.getElem?_eq_getElem hk]
    simp only [Option.getD_some]; omega
  · omega

/-- The counts stay small. -/
theorem ld_small (key : ByteArray) (l : List Int) (q : Int) (fs : List Fl) : ∀ k, ∀ x ∈ ld key l q fs k, 0 ≤ x ∧ x ≤ k
  | 0 => by intro x hx; simp [ld] at hx; omega
  | k + 1 => by
    intro x hx
    have ih := ld_small key l q fs k
    unfold ld at hx; dsimp only at hx
    split at hx
    · rcases List.mem_or_eq_of_mem_set hx with h | h
      · have := ih x h; omega
      · subst h
        rw [List.getD_eq_getElem?_getD]
        cases hg : (ld key l q fs k)[(sprQ key l q (fs.getD k ⟨0, 0, 0, 0, 0⟩)).toNat]? with
        | none => simp; omega
        | some v =>
          have := ih v (List.mem_of_getElem? hg)
          simp; omega
    · have := ih x hx; omega

/-- A slice of n zeros is made. -/
theorem run_mkI (n : Nat) (hn : n ≤ 2097152) : ∃ C : Array Value, C.toList = iv (List.replicate n 0) ∧ ∀ w : World, (Instr.makeSlice 37 (.int .i64 (n : Int)) (.int .i64 (n : Int))).run Try.prog w = .ok (.slice (some ⟨w.heap.size, 0, none⟩) n n) (w.alloc (.cells C 3)) := by
  obtain ⟨i, hi, hz0, hz1, hz2⟩ := info_parts (P := Try.prog) (e := 3) (z := .int .i64 0) (size := 1) (bytes := 8) (by kernel_rfl)
  refine ⟨madeCells #[.int .i64 0] n, ?_, fun w => ?_⟩
  · apply List.ext_getElem
    · simp [iv, size_madeCells]
    · intro j h1 h2; simp [iv, madeCells, Nat.mod_one]
  · have h := run_make (P := Try.prog) w 37 3 i (.int .i64 0) Try.underlying37 hi hz0 .i64 .i64 n n (by omega) (by omega) (by rw [hz2]; omega) (by omega)
    rw [hz1] at h
    simpa [Value.cells] using h

theorem getD_eq {α : Type} (l : List α) (k : Nat) (d : α) (h : k < l.length) : l.getD k d = l[k] := by
  rw [List.getD_eq_getElem?_getD, List.getElem?_eq_getElem h]; rfl

set_option maxRecDepth 100000 in
set_option maxHeartbeats 2000000 in
theorem loads_impl (key : ByteArray) (a a2 : Option Addr) (c c2 : Nat) (l : List Int) (fs : List Fl) (q : Int) (hq : I64 q) (hk : key.size ≤ 1048576) (hl : l.length ≤ 1048576) (hfl : fs.length ≤ 1048576) (w : World) (h1 : Rd w a (iv l)) (h2 : Rd w a2 (fls fs)) :
    Calls Try.prog 59 #[.agg #[.string key, .slice a l.length c], .int .i64 q, .slice a2 fs.length c2] w (RetSv w (loads key l q fs).length (iv (loads key l q fs))) := by
  cases hok : spOk key l q with
  | false =>
    have HX : Hid (loads key l q fs = []) := by unfold Hid loads; rw [hok]; rfl
    have hr : ∀ w, Rd w a (iv l) → Calls Try.prog 41 #[.agg #[.string key, .slice a l.length c], .int .i64 q] w fun e w' => e = .returned (.bool false) ∧ Below w.heap.size w w' := fun w h => by
      have := spOk_impl key a c l q hq w h (by omega); rwa [hok] at this
    go_enter Try.func59, Try.ntmps59
    go_wp2_with fail
    refine (hr _ (Rd.later h1 (by ((repeat (with_reducible first | exact Below.refl _ _ | apply Below.al | apply Below.dr | (refine Below.tr ?_ (by assumption)) | (refine Below.marked (by assumption) ?_ ?_) | (refine Below.st ?_ ?_ _))); all_goals (first | omega | (simp; done) | (simp; omega)))))).mono ?_
    rintro e w1 ⟨rfl, hb1⟩
    obtain ⟨hc1, hf1, hz1⟩ := old hb1
    go_wp2_with fail
    go_ret
    refine ⟨_, _, by rw [HX.out]; rfl, by rw [HX.out]; exact Sv.nil, by ((repeat (with_reducible first | exact Below.refl _ _ | apply Below.al | apply Below.dr | (refine Below.tr ?_ (by assumption)) | (refine Below.marked (by assumption) ?_ ?_) | (refine Below.st ?_ ?_ _))); all_goals (first | omega | (simp; done) | (simp; omega)))⟩
  | true =>
    obtain ⟨hq1, hq2⟩ := spOk_q hok
    obtain ⟨n, rfl⟩ := Int.eq_ofNat_of_zero_le (show 0 ≤ q by omega)
    have HX : Hid (loads key l n fs = ld key l n fs fs.length) := by unfold Hid loads; rw [hok]; rfl
    have hr : ∀ w, Rd w a (iv l) → Calls Try.prog 41 #[.agg #[.string key, .slice a l.length c], .int .i64 n] w fun e w' => e = .returned (.bool true) ∧ Below w.heap.size w w' := fun w h => by
      have := spOk_impl key a c l n hq w h (by omega); rwa [hok] at this
    obtain ⟨C, hC, hmk⟩ := run_mkI n (by omega)
    go_enter Try.func59, Try.ntmps59
    go_wp2_with fail
    refine (hr _ (Rd.later h1 (by ((repeat (with_reducible first | exact Below.refl _ _ | apply Below.al | apply Below.dr | (refine Below.tr ?_ (by assumption)) | (refine Below.marked (by assumption) ?_ ?_) | (refine Below.st ?_ ?_ _))); all_goals (first | omega | (simp; done) | (simp; omega)))))).mono ?_
    rintro e w1 ⟨rfl, hb1⟩
    obtain ⟨hc1, hf1, hz1⟩ := old hb1
    try simp only [World.size_alloc, World.size_drew, World.size_setCell] at hz1
    have hb1' : Below w.heap.size w w1 := by ((repeat (with_reducible first | exact Below.refl _ _ | apply Below.al | apply Below.dr | (refine Below.tr ?_ (by assumption)) | (refine Below.marked (by assumption) ?_ ?_) | (refine Below.st ?_ ?_ _))); all_goals (first | omega | (simp; done) | (simp; omega)))
    have x0 : ∀ i, w1.cell? ⟨w.heap.size, i, none⟩ = (#[.string key, .slice a l.length c] : Array Value)[i]? := by intro i; simp [go_sem, hc1, ↓IntWalk.iteOmega]
    have hrow0 : Row (w1.alloc (.cells C 3)) w1.heap.size (iv (ld key l n fs 0)) := by
      have h := Row.of_block (heap_alloc_new w1 (.cells C 3)) (.inl (Nat.le_refl _)) C.size (Nat.le_refl _)
      rw [List.take_of_length_le (by simp)] at h
      have e : ld key l n fs 0 = List.replicate n 0 := by simp [ld]
      rw [e, ← hC]; exact h
    go_wp2_with fail
    go_loopg [19] fs.length (fun g i wr => ∃ k : Nat, k ≤ fs.length ∧ g = fs.length - k ∧ i = .int .i64 (k : Int) ∧ Below w1.heap.size w1 wr ∧ Row wr w1.heap.size (iv (ld key l n fs k)))
    case atStart => exact ⟨0, by omega, rfl, rfl, Below.al (Below.refl _ _) _, hrow0⟩
    case round =>
      obtain ⟨k, hk3, rfl, rfl, hbel, hrow⟩ := hrel
      have hlt := hrow.lt
      have x1 : ∀ i, wr.cell? ⟨w.heap.size, i, none⟩ = (#[.string key, .slice a l.length c] : Array Value)[i]? := fun i => (hbel.cell (show w.heap.size < w1.heap.size by omega)).trans (x0 i)
      have hi0 : wr.cell? ⟨w.heap.size, 0, none⟩ = some (.string key) := x1 0
      have hi1 : wr.cell? ⟨w.heap.size, 1, none⟩ = some (.slice a l.length c) := x1 1
      by_cases hk2 : k < fs.length
      · obtain ⟨bp, op, rfl, ltp, ccp⟩ := Rd.at_ Fl.cs_length (Rd.later h2 (Below.tr hb1' hbel)) k hk2 (by decide)
        have p0 : wr.cell? ⟨bp, op + k * 5, none⟩ = some (.int .i64 fs[k].k) := ccp 0 (by decide)
        have p1 : wr.cell? ⟨bp, op + k * 5 + 1, none⟩ = some (.int .i64 fs[k].s) := by rw [Nat.add_assoc]; exact ccp 1 (by decide)
        have p2 : wr.cell? ⟨bp, op + k * 5 + 2, none⟩ = some (.int .i64 fs[k].d) := by rw [Nat.add_assoc]; exact ccp 2 (by decide)
        have p3 : wr.cell? ⟨bp, op + k * 5 + 3, none⟩ = some (.int .i64 fs[k].p) := by rw [Nat.add_assoc]; exact ccp 3 (by decide)
        have p4 : wr.cell? ⟨bp, op + k * 5 + 4, none⟩ = some (.int .i64 fs[k].q) := by rw [Nat.add_assoc]; exact ccp 4 (by decide)
        clear ccp
        have hx := sprQ_lt hok fs[k]
        have hge : fs.getD k ⟨0, 0, 0, 0, 0⟩ = fs[k] := getD_eq _ _ _ hk2
        have hk4 : (0 : Int) ≤ k := by omega
        have hk5 : (k : Int) < fs.length := by omega
        have hlen := ld_length key l n fs k
        simp only [Int.toNat_natCast] at hlen
        by_cases h0 : 0 ≤ sprQ key l n fs[k]
        · obtain ⟨m, hm⟩ := Int.eq_ofNat_of_zero_le h0
          have hmn : m < n := by omega
          have hml : m < (ld key l n fs k).length := by omega
          have hv := ld_small key l n fs k _ (List.getElem_mem hml)
          have hce : wr.cell? ⟨w1.heap.size, m, none⟩ = some (.int .i64 (ld key l n fs k)[m]) := by
            have := hrow.cell m (by rw [iv_length]; exact hml); simpa [iv] using this
          have hfe : wr.frozen? ⟨w1.heap.size, m, none⟩ = false := hrow.free m (by rw [iv_length]; exact hml)
          have hnext : Hid (iv (ld key l n fs (k + 1)) = (iv (ld key l n fs k)).set m (.int .i64 ((ld key l n fs k)[m] + 1))) := by
            unfold Hid; rw [ld]; simp only [hge, hm]; rw [if_pos (by omega), Int.toNat_natCast, getD_eq _ _ _ hml]; simp [iv, List.map_set]
          have hs : ∀ w, Rd w a (iv l) → Calls Try.prog 56 #[.agg #[.string key, .slice a l.length c], .int .i64 n, .agg #[.int .i64 fs[k].k, .int .i64 fs[k].s, .int .i64 fs[k].d, .int .i64 fs[k].p, .int .i64 fs[k].q]] w fun e w' => e = .returned (.int .i64 m) ∧ Below w.heap.size w w' := fun w h => by
            have := sprQ_impl key a c l n hq fs[k] (by omega) (by omega) w h; rwa [hm] at this
          clear h0 hx hm
          generalize (ld key l n fs k)[m] = v at hv hce hnext
          obtain ⟨hv1, hv2⟩ := hv
          go_wp2_with fail
          refine (hs _ (Rd.later h1 (by exact Below.tr hb1' (Below.tr hbel (by ((repeat (with_reducible first | exact Below.refl _ _ | apply Below.al | apply Below.dr | (refine Below.tr ?_ (by assumption)) | (refine Below.marked (by assumption) ?_ ?_) | (refine Below.st ?_ ?_ _))); all_goals (first | omega | (simp; done) | (simp; omega)))))))).mono ?_
          rintro e w2 ⟨rfl, hb2⟩
          obtain ⟨hc2, hf2, hz2⟩ := old hb2
          try simp only [World.size_alloc, World.size_drew, World.size_setCell] at hz2
          go_wp2_with fail
          go_roundg (fs.length - (k + 1))
          case measure => omega
          case rel => exact ⟨k + 1, by omega, rfl, by go_num, Below.st (Below.tr hbel (by ((repeat (with_reducible first | exact Below.refl _ _ | apply Below.al | apply Below.dr | (refine Below.tr ?_ (by assumption)) | (refine Below.marked (by assumption) ?_ ?_) | (refine Below.st ?_ ?_ _))); all_goals (first | omega | (simp; done) | (simp; omega))))) (by simp) _, by rw [hnext.out]; exact Row.set (Row.later (Row.alloc hrow _) hb2) m (by rw [iv_length]; exact hml) _⟩
        · have hnext : Hid (ld key l n fs (k + 1) = ld key l n fs k) := by
            unfold Hid; rw [ld]; simp only [hge]; rw [if_neg h0]
          have hm : sprQ key l n fs[k] = -1 := by omega
          have hs : ∀ w, Rd w a (iv l) → Calls Try.prog 56 #[.agg #[.string key, .slice a l.length c], .int .i64 n, .agg #[.int .i64 fs[k].k, .int .i64 fs[k].s, .int .i64 fs[k].d, .int .i64 fs[k].p, .int .i64 fs[k].q]] w fun e w' => e = .returned (.int .i64 (-1)) ∧ Below w.heap.size w w' := fun w h => by
            have := sprQ_impl key a c l n hq fs[k] (by omega) (by omega) w h; rwa [hm] at this
          clear h0 hx hm
          go_wp2_with fail
          refine (hs _ (Rd.later h1 (by exact Below.tr hb1' (Below.tr hbel (by ((repeat (with_reducible first | exact Below.refl _ _ | apply Below.al | apply Below.dr | (refine Below.tr ?_ (by assumption)) | (refine Below.marked (by assumption) ?_ ?_) | (refine Below.st ?_ ?_ _))); all_goals (first | omega | (simp; done) | (simp; omega)))))))).mono ?_
          rintro e w2 ⟨rfl, hb2⟩
          obtain ⟨hc2, hf2, hz2⟩ := old hb2
          try simp only [World.size_alloc, World.size_drew, World.size_setCell] at hz2
          go_wp2_with fail
          go_roundg (fs.length - (k + 1))
          case measure => omega
          case rel => exact ⟨k + 1, by omega, rfl, by go_num, Below.tr hbel (by ((repeat (with_reducible first | exact Below.refl _ _ | apply Below.al | apply Below.dr | (refine Below.tr ?_ (by assumption)) | (refine Below.marked (by assumption) ?_ ?_) | (refine Below.st ?_ ?_ _))); all_goals (first | omega | (simp; done) | (simp; omega)))), by rw [hnext.out]; exact Row.later (Row.alloc hrow _) hb2⟩
      · have hke : k = fs.length := by omega
        have hlen := ld_length key l n fs k
        simp only [Int.toNat_natCast] at hlen
        subst hke
        go_wp2_with fail
        go_ret
        exact ⟨some ⟨w1.heap.size, 0, none⟩, n, by rw [HX.out, hlen]; rfl, by rw [HX.out]; exact .inr ⟨w1.heap.size, rfl, by omega, hlt, hrow⟩, Below.tr hb1' hbel⟩

set_option maxRecDepth 100000 in
set_option maxHeartbeats 2000000 in
theorem loads_spec (key : ByteArray) (a a2 : Option Addr) (c c2 : Nat) (l : List Int) (fs : List Fl) (q : Int) (hq : I64 q) (hk : key.size ≤ 1048576) (hl : l.length ≤ 1048576) (hfl : fs.length ≤ 1048576) (w : World) (h1 : Rd w a (iv l)) (h2 : Rd w a2 (fls fs)) :
    Calls Try.prog 61 #[.agg #[.string key, .slice a l.length c], .int .i64 q, .slice a2 fs.length c2] w (RetSv w (loads key l q fs).length (iv (loads key l q fs))) := by
  cases hok : spOk key l q with
  | false =>
    have HX : Hid (loads key l q fs = []) := by unfold Hid loads; rw [hok]; rfl
    have hr : ∀ w, Rd w a (iv l) → Calls Try.prog 39 #[.agg #[.string key, .slice a l.length c], .int .i64 q] w fun e w' => e = .returned (.bool false) ∧ Below w.heap.size w w' := fun w h => by
      have := spOk_spec key a c l q hq w h (by omega); rwa [hok] at this
    go_enter Try.func61, Try.ntmps61
    go_wp2_with fail
    refine (hr _ (Rd.later h1 (by ((repeat (with_reducible first | exact Below.refl _ _ | apply Below.al | apply Below.dr | (refine Below.tr ?_ (by assumption)) | (refine Below.marked (by assumption) ?_ ?_) | (refine Below.st ?_ ?_ _))); all_goals (first | omega | (simp; done) | (simp; omega)))))).mono ?_
    rintro e w1 ⟨rfl, hb1⟩
    obtain ⟨hc1, hf1, hz1⟩ := old hb1
    go_wp2_with fail
    go_ret
    refine ⟨_, _, by rw [HX.out]; rfl, by rw [HX.out]; exact Sv.nil, by ((repeat (with_reducible first | exact Below.refl _ _ | apply Below.al | apply Below.dr | (refine Below.tr ?_ (by assumption)) | (refine Below.marked (by assumption) ?_ ?_) | (refine Below.st ?_ ?_ _))); all_goals (first | omega | (simp; done) | (simp; omega)))⟩
  | true =>
    obtain ⟨hq1, hq2⟩ := spOk_q hok
    obtain ⟨n, rfl⟩ := Int.eq_ofNat_of_zero_le (show 0 ≤ q by omega)
    have HX : Hid (loads key l n fs = ld key l n fs fs.length) := by unfold Hid loads; rw [hok]; rfl
    have hr : ∀ w, Rd w a (iv l) → Calls Try.prog 39 #[.agg #[.string key, .slice a l.length c], .int .i64 n] w fun e w' => e = .returned (.bool true) ∧ Below w.heap.size w w' := fun w h => by
      have := spOk_spec key a c l n hq w h (by omega); rwa [hok] at this
    obtain ⟨C, hC, hmk⟩ := run_mkI n (by omega)
    go_enter Try.func61, Try.ntmps61
    go_wp2_with fail
    refine (hr _ (Rd.later h1 (by ((repeat (with_reducible first | exact Below.refl _ _ | apply Below.al | apply Below.dr | (refine Below.tr ?_ (by assumption)) | (refine Below.marked (by assumption) ?_ ?_) | (refine Below.st ?_ ?_ _))); all_goals (first | omega | (simp; done) | (simp; omega)))))).mono ?_
    rintro e w1 ⟨rfl, hb1⟩
    obtain ⟨hc1, hf1, hz1⟩ := old hb1
    try simp only [World.size_alloc, World.size_drew, World.size_setCell] at hz1
    have hb1' : Below w.heap.size w w1 := by ((repeat (with_reducible first | exact Below.refl _ _ | apply Below.al | apply Below.dr | (refine Below.tr ?_ (by assumption)) | (refine Below.marked (by assumption) ?_ ?_) | (refine Below.st ?_ ?_ _))); all_goals (first | omega | (simp; done) | (simp; omega)))
    have x0 : ∀ i, w1.cell? ⟨w.heap.size, i, none⟩ = (#[.string key, .slice a l.length c] : Array Value)[i]? := by intro i; simp [go_sem, hc1, ↓IntWalk.iteOmega]
    have hrow0 : Row (w1.alloc (.cells C 3)) w1.heap.size (iv (ld key l n fs 0)) := by
      have h := Row.of_block (heap_alloc_new w1 (.cells C 3)) (.inl (Nat.le_refl _)) C.size (Nat.le_refl _)
      rw [List.take_of_length_le (by simp)] at h
      have e : ld key l n fs 0 = List.replicate n 0 := by simp [ld]
      rw [e, ← hC]; exact h
    go_wp2_with fail
    go_loopg [8] fs.length (fun g i wr => ∃ k : Nat, k ≤ fs.length ∧ g = fs.length - k ∧ i = .int .i64 (k : Int) ∧ Below w1.heap.size w1 wr ∧ Row wr w1.heap.size (iv (ld key l n fs k)))
    case atStart => exact ⟨0, by omega, rfl, rfl, Below.al (Below.refl _ _) _, hrow0⟩
    case round =>
      obtain ⟨k, hk3, rfl, rfl, hbel, hrow⟩ := hrel
      have hlt := hrow.lt
      have x1 : ∀ i, wr.cell? ⟨w.heap.size, i, none⟩ = (#[.string key, .slice a l.length c] : Array Value)[i]? := fun i => (hbel.cell (show w.heap.size < w1.heap.size by omega)).trans (x0 i)
      have hi0 : wr.cell? ⟨w.heap.size, 0, none⟩ = some (.string key) := x1 0
      have hi1 : wr.cell? ⟨w.heap.size, 1, none⟩ = some (.slice a l.length c) := x1 1
      by_cases hk2 : k < fs.length
      · obtain ⟨bp, op, rfl, ltp, ccp⟩ := Rd.at_ Fl.cs_length (Rd.later h2 (Below.tr hb1' hbel)) k hk2 (by decide)
        have p0 : wr.cell? ⟨bp, op + k * 5, none⟩ = some (.int .i64 fs[k].k) := ccp 0 (by decide)
        have p1 : wr.cell? ⟨bp, op + k * 5 + 1, none⟩ = some (.int .i64 fs[k].s) := by rw [Nat.add_assoc]; exact ccp 1 (by decide)
        have p2 : wr.cell? ⟨bp, op + k * 5 + 2, none⟩ = some (.int .i64 fs[k].d) := by rw [Nat.add_assoc]; exact ccp 2 (by decide)
        have p3 : wr.cell? ⟨bp, op + k * 5 + 3, none⟩ = some (.int .i64 fs[k].p) := by rw [Nat.add_assoc]; exact ccp 3 (by decide)
        have p4 : wr.cell? ⟨bp, op + k * 5 + 4, none⟩ = some (.int .i64 fs[k].q) := by rw [Nat.add_assoc]; exact ccp 4 (by decide)
        clear ccp
        have hx := sprQ_lt hok fs[k]
        have hge : fs.getD k ⟨0, 0, 0, 0, 0⟩ = fs[k] := getD_eq _ _ _ hk2
        have hk4 : (0 : Int) ≤ k := by omega
        have hk5 : (k : Int) < fs.length := by omega
        have hlen := ld_length key l n fs k
        simp only [Int.toNat_natCast] at hlen
        by_cases h0 : 0 ≤ sprQ key l n fs[k]
        · obtain ⟨m, hm⟩ := Int.eq_ofNat_of_zero_le h0
          have hmn : m < n := by omega
          have hml : m < (ld key l n fs k).length := by omega
          have hv := ld_small key l n fs k _ (List.getElem_mem hml)
          have hce : wr.cell? ⟨w1.heap.size, m, none⟩ = some (.int .i64 (ld key l n fs k)[m]) := by
            have := hrow.cell m (by rw [iv_length]; exact hml); simpa [iv] using this
          have hfe : wr.frozen? ⟨w1.heap.size, m, none⟩ = false := hrow.free m (by rw [iv_length]; exact hml)
          have hnext : Hid (iv (ld key l n fs (k + 1)) = (iv (ld key l n fs k)).set m (.int .i64 ((ld key l n fs k)[m] + 1))) := by
            unfold Hid; rw [ld]; simp only [hge, hm]; rw [if_pos (by omega), Int.toNat_natCast, getD_eq _ _ _ hml]; simp [iv, List.map_set]
          have hs : ∀ w, Rd w a (iv l) → Calls Try.prog 55 #[.agg #[.string key, .slice a l.length c], .int .i64 n, .agg #[.int .i64 fs[k].k, .int .i64 fs[k].s, .int .i64 fs[k].d, .int .i64 fs[k].p, .int .i64 fs[k].q]] w fun e w' => e = .returned (.int .i64 m) ∧ Below w.heap.size w w' := fun w h => by
            have := sprQ_spec key a c l n hq fs[k] (by omega) (by omega) w h; rwa [hm] at this
          clear h0 hx hm
          generalize (ld key l n fs k)[m] = v at hv hce hnext
          obtain ⟨hv1, hv2⟩ := hv
          have hw0 : w.heap.size < wr.heap.size := by omega
          go_wp2_with fail
          refine wp_region_later wr.heap.size (by kernel_rfl) (by kernel_rfl) ?_
          repeat (go_big_quiet_step ((go_at_call 55; exact later_call (Nat.le_refl _) (hs _ (Rd.later h1 (Below.tr hb1' (Below.tr hbel (Later.ok _))))))))
          refine wpQuiet_nil ?_
          rintro w2 ⟨⟨_, hb2⟩, rfl⟩
          obtain ⟨hc2, hf2, hz2⟩ := old hb2
          try simp only [World.size_alloc, World.size_drew, World.size_setCell] at hz2
          go_wp2_with fail
          go_roundg (fs.length - (k + 1))
          case measure => omega
          case rel => exact ⟨k + 1, by omega, rfl, by go_num, Below.st (Below.tr hbel (by ((repeat (with_reducible first | exact Below.refl _ _ | apply Below.al | apply Below.dr | (refine Below.tr ?_ (by assumption)) | (refine Below.marked (by assumption) ?_ ?_) | (refine Below.st ?_ ?_ _))); all_goals (first | omega | (simp; done) | (simp; omega))))) (by simp) _, by rw [hnext.out]; exact Row.set (Row.later hrow hb2) m (by rw [iv_length]; exact hml) _⟩
        · have hnext : Hid (ld key l n fs (k + 1) = ld key l n fs k) := by
            unfold Hid; rw [ld]; simp only [hge]; rw [if_neg h0]
          have hm : sprQ key l n fs[k] = -1 := by omega
          have hs : ∀ w, Rd w a (iv l) → Calls Try.prog 55 #[.agg #[.string key, .slice a l.length c], .int .i64 n, .agg #[.int .i64 fs[k].k, .int .i64 fs[k].s, .int .i64 fs[k].d, .int .i64 fs[k].p, .int .i64 fs[k].q]] w fun e w' => e = .returned (.int .i64 (-1)) ∧ Below w.heap.size w w' := fun w h => by
            have := sprQ_spec key a c l n hq fs[k] (by omega) (by omega) w h; rwa [hm] at this
          clear h0 hx hm
          have hw0 : w.heap.size < wr.heap.size := by omega
          go_wp2_with fail
          refine wp_region_later wr.heap.size (by kernel_rfl) (by kernel_rfl) ?_
          repeat (go_big_quiet_step ((go_at_call 55; exact later_call (Nat.le_refl _) (hs _ (Rd.later h1 (Below.tr hb1' (Below.tr hbel (Later.ok _))))))))
          refine wpQuiet_nil ?_
          rintro w2 ⟨⟨_, hb2⟩, rfl⟩
          obtain ⟨hc2, hf2, hz2⟩ := old hb2
          try simp only [World.size_alloc, World.size_drew, World.size_setCell] at hz2
          go_wp2_with fail
          go_roundg (fs.length - (k + 1))
          case measure => omega
          case rel => exact ⟨k + 1, by omega, rfl, by go_num, Below.tr hbel (by ((repeat (with_reducible first | exact Below.refl _ _ | apply Below.al | apply Below.dr | (refine Below.tr ?_ (by assumption)) | (refine Below.marked (by assumption) ?_ ?_) | (refine Below.st ?_ ?_ _))); all_goals (first | omega | (simp; done) | (simp; omega)))), by rw [hnext.out]; exact Row.later hrow hb2⟩
      · have hke : k = fs.length := by omega
        have hlen := ld_length key l n fs k
        simp only [Int.toNat_natCast] at hlen
        subst hke
        go_wp2_with fail
        go_ret
        exact ⟨some ⟨w1.heap.size, 0, none⟩, n, by rw [HX.out, hlen]; rfl, by rw [HX.out]; exact .inr ⟨w1.heap.size, rfl, by omega, hlt, hrow⟩, Below.tr hb1' hbel⟩

end Go.Proofs.Ytlhngkkablhpdaa

/-
  The arguments of the laws, opened: what a struct that came in holds, field by field; what a slice that came in holds.
  Conditions: none.
-/
import Derived.Test.YtncciafldmoklaaRows
import Derived.Test.YtncciafldmoklaaMem
import Derived.ProofKit
import Derived.OpenShut
import Derived.ShutString
import Derived.ChangeOld
import Derived.Deep.Slices
set_option linter.unusedSimpArgs false
set_option linter.unusedVariables false
namespace Go.Proofs.Ytncciafldmoklaa
open Go.ChangeShapes Go.WideShapes Go.ChangeAt Go.RowKit
open Go.ChangeMaps (open_string shut_string)

theorem own : ownKnob Try.prog.godebug = none := by kernel_rfl
theorem laidOut : laidOutB Try.prog = true := by kernel_rfl

section
variable {H : Type} {enc : TypeId × Value → H} {P : Program} {w : World} {base : Nat} {spare : Nat → Bool} {held : Bool}

theorem i64_of_wf {n : Int} (h : (Lit.int .i64 n).wf = true) : I64 n := by
  simp [Lit.wf, IntKind.has, IntKind.min, IntKind.max, IntKind.bits, IntKind.signed] at h
  unfold I64
  omega

theorem read_int {t fuel : Nat} {cs : List Value} {x} (ht : P.underlying t = some (.int .i64)) (h : DataW.trod enc P w base spare held fuel t cs = some x) : ∃ n : Int, cs = [.int .i64 n] ∧ I64 n := by
  obtain ⟨n, h1, _, h3⟩ := DataW.trod_int ht h
  exact ⟨n, h1, i64_of_wf h3⟩
theorem read_str {t fuel : Nat} {cs : List Value} {x} (ht : P.underlying t = some .string) (h : DataW.trod enc P w base spare held fuel t cs = some x) : ∃ s : ByteArray, cs = [.string s] ∧ s.size ≤ maxLen := by
  obtain ⟨n, h1, _, h3⟩ := DataW.trod_string ht h
  exact ⟨n, h1, h3⟩
theorem read_bool {t fuel : Nat} {cs : List Value} {x} (ht : P.underlying t = some .bool) (h : DataW.trod enc P w base spare held fuel t cs = some x) : ∃ b : Bool, cs = [.bool b] := by
  obtain ⟨n, h1, _⟩ := DataW.trod_bool ht h
  exact ⟨n, h1⟩

/-- A field of a struct, read. -/
theorem read_field {t fuel : Nat} {fs : Array Field} {cs : List Value} {x} (ht : P.underlying t = some (.struct fs)) (h : DataW.trod enc P w base spare held fuel t cs = some x) :
    cs.length = P.cellsOf t ∧ ∃ n, ∀ (i u off : Nat), (fs[i]?).map (fun f => (f.type, f.offset)) = some (u, off) → ∃ y, DataW.trod enc P w base spare held n u ((cs.drop off).take (P.cellsOf u)) = some y := by
  obtain ⟨xs, n, _, _, hl, hxs, hf⟩ := DataW.trod_struct ht h
  refine ⟨hl, n, fun i u off hi => ?_⟩
  obtain ⟨f, hi2, hu⟩ := Option.map_eq_some_iff.1 hi
  clear hi
  simp only [Prod.mk.injEq] at hu
  obtain ⟨rfl, rfl⟩ := hu
  have hlt : i < fs.size := by
    rcases Nat.lt_or_ge i fs.size with h' | h'
    · exact h'
    · rw [Array.getElem?_eq_none h'] at hi2; cases hi2
  exact ⟨xs[i]'(by omega), by rw [hf i f hi2]; exact List.getElem?_eq_getElem (by omega)⟩

/-- A slice that came in, told by its elements. -/
theorem read_slice {α : Type} [Inhabited α] (c : α → List Value) (z : Nat) (ok : α → Prop) {t e fuel : Nat} {v : Value} {x} (ht : P.underlying t = some (.slice e)) (hz : P.cellsOf e = z) (hc : ∀ v, (c v).length = z)
    (hread : ∀ {fuel : Nat} {cs : List Value} {x}, DataW.trod enc P w base spare held fuel e cs = some x → ∃ v : α, cs = c v ∧ ok v)
    (h : DataW.trod enc P w base spare held fuel t [v] = some x) : ∃ (a : Option Addr) (cap : Nat) (l : List α), v = .slice a l.length cap ∧ l.length ≤ cap ∧ cap ≤ maxLen ∧ Rd w a (l.flatMap c) ∧ ∀ v ∈ l, ok v := by
  rcases Deep.open_slice ht h with ⟨h0, _⟩ | ⟨a, len, cap, m, n, D, Pl, h0, _, hl, hm, hmm, _, hx⟩
  · simp only [List.cons.injEq, and_true] at h0
    exact ⟨none, 0, [], h0, Nat.le_refl _, Nat.zero_le _, .inl rfl, by simp⟩
  · simp only [List.cons.injEq, and_true] at h0
    have hle : len ≤ m := by rw [hmm]; split <;> omega
    obtain ⟨f, hf⟩ := Deep.choose_lt (α := α) (n := len) (p := fun i y => w.cells? base (a.add (i * P.cellsOf e)) (P.cellsOf e) = some (c y) ∧ ok y) (fun i hi => by
      obtain ⟨cs', h1, h2⟩ := hx i (by omega)
      obtain ⟨y, rfl, hy⟩ := hread h2
      exact ⟨y, h1, hy⟩)
    refine ⟨some a, cap, (List.range len).map f, by simpa using h0, by simpa using hl, hm, ?_, ?_⟩
    · by_cases hn : len = 0
      · subst hn; exact .inl (by simp)
      · by_cases hz0 : z = 0
        · left
          have := flat_len c z hc ((List.range len).map f)
          rw [hz0, Nat.mul_zero] at this
          exact List.eq_nil_of_length_eq_zero this
        · obtain ⟨b, off, spot⟩ := a
          have key : ∀ i j, i < len → j < z → w.cell? ((⟨b, off, spot⟩ : Addr).add (i * z + j)) = (c (f i))[j]? := fun i j hi hj => by
            obtain ⟨h1, _⟩ := hf i hi
            rw [hz] at h1
            obtain ⟨_, _, h3⟩ := World.cells?_some h1
            rw [← h3 j hj, Deep.add_add]
          have hs : spot = none := by
            have h1 := key 0 0 (by omega) (by omega)
            rw [List.getElem?_eq_getElem (by rw [hc]; omega)] at h1
            simpa [Addr.add] using World.cell?_spot h1
          subst hs
          have hadd : ∀ k, (⟨b, off, none⟩ : Addr).add k = ⟨b, off + k, none⟩ := fun k => by unfold Addr.add; split <;> simp_all
          have hlt : b < w.heap.size := by
            have h1 := key 0 0 (by omega) (by omega)
            rw [List.getElem?_eq_getElem (by rw [hc]; omega), hadd] at h1
            exact World.block_lt_of_cell? w ⟨b, _, none⟩ h1
          refine .inr ⟨b, off, rfl, hlt, fun i hi => ?_⟩
          have hlen := flat_len c z hc ((List.range len).map f)
          rw [List.length_map, List.length_range] at hlen
          have hzp : 0 < z := by omega
          have hiz : i < len * z := by omega
          have hq : i / z < len := Nat.div_lt_of_lt_mul (by rw [Nat.mul_comm]; exact hiz)
          have hr : i % z < z := Nat.mod_lt _ hzp
          have he : i / z * z + i % z = i := by rw [Nat.mul_comm]; exact Nat.div_add_mod i z
          have h1 := key (i / z) (i % z) hq hr
          rw [he, hadd] at h1
          rw [h1]
          have h2 := flat_at c z hc ((List.range len).map f) (i / z) (i % z) (by simpa using hq) hr
          rw [he] at h2
          rw [List.getElem?_eq_getElem hi, List.getElem?_map, List.getElem?_range hq] at h2
          simpa using h2.symm
    · intro y hy
      obtain ⟨i, hi, rfl⟩ := List.mem_map.1 hy
      exact (hf i (by simpa using hi)).2
end
theorem split1 {l : List Value} (h : l.length = 1) : ∃ c0, l = [c0] :=
  match l, h with
  | [c0], _ => ⟨c0, rfl⟩
theorem split2 {l : List Value} (h : l.length = 2) : ∃ c0 c1, l = [c0, c1] :=
  match l, h with
  | [c0, c1], _ => ⟨c0, c1, rfl⟩
theorem split5 {l : List Value} (h : l.length = 5) : ∃ c0 c1 c2 c3 c4, l = [c0, c1, c2, c3, c4] :=
  match l, h with
  | [c0, c1, c2, c3, c4], _ => ⟨c0, c1, c2, c3, c4, rfl⟩
theorem split7 {l : List Value} (h : l.length = 7) : ∃ c0 c1 c2 c3 c4 c5 c6, l = [c0, c1, c2, c3, c4, c5, c6] :=
  match l, h with
  | [c0, c1, c2, c3, c4, c5, c6], _ => ⟨c0, c1, c2, c3, c4, c5, c6, rfl⟩
theorem split8 {l : List Value} (h : l.length = 8) : ∃ c0 c1 c2 c3 c4 c5 c6 c7, l = [c0, c1, c2, c3, c4, c5, c6, c7] :=
  match l, h with
  | [c0, c1, c2, c3, c4, c5, c6, c7], _ => ⟨c0, c1, c2, c3, c4, c5, c6, c7, rfl⟩
theorem split9 {l : List Value} (h : l.length = 9) : ∃ c0 c1 c2 c3 c4 c5 c6 c7 c8, l = [c0, c1, c2, c3, c4, c5, c6, c7, c8] :=
  match l, h with
  | [c0, c1, c2, c3, c4, c5, c6, c7, c8], _ => ⟨c0, c1, c2, c3, c4, c5, c6, c7, c8, rfl⟩
theorem split16 {l : List Value} (h : l.length = 16) : ∃ c0 c1 c2 c3 c4 c5 c6 c7 c8 c9 c10 c11 c12 c13 c14 c15, l = [c0, c1, c2, c3, c4, c5, c6, c7, c8, c9, c10, c11, c12, c13, c14, c15] :=
  match l, h with
  | [c0, c1, c2, c3, c4, c5, c6, c7, c8, c9, c10, c11, c12, c13, c14, c15], _ => ⟨c0, c1, c2, c3, c4, c5, c6, c7, c8, c9, c10, c11, c12, c13, c14, c15, rfl⟩
theorem split18 {l : List Value} (h : l.length = 18) : ∃ c0 c1 c2 c3 c4 c5 c6 c7 c8 c9 c10 c11 c12 c13 c14 c15 c16 c17, l = [c0, c1, c2, c3, c4, c5, c6, c7, c8, c9, c10, c11, c12, c13, c14, c15, c16, c17] :=
  match l, h with
  | [c0, c1, c2, c3, c4, c5, c6, c7, c8, c9, c10, c11, c12, c13, c14, c15, c16, c17], _ => ⟨c0, c1, c2, c3, c4, c5, c6, c7, c8, c9, c10, c11, c12, c13, c14, c15, c16, c17, rfl⟩

/-- The ranges of the fields. -/
def Fl.ok (v : Fl) : Prop := I64 v.k ∧ I64 v.s ∧ I64 v.d ∧ I64 v.p ∧ I64 v.q

theorem read_Flow {H : Type} {enc : TypeId × Value → H} {w : World} {base : Nat} {spare : Nat → Bool} {held : Bool} {fuel : Nat} {cs : List Value} {x} (h : DataW.trod enc Try.prog w base spare held fuel 23 cs = some x) : ∃ v : Fl, cs = [.int .i64 v.k, .int .i64 v.s, .int .i64 v.d, .int .i64 v.p, .int .i64 v.q] ∧ v.ok := by
  obtain ⟨hl, m, hf⟩ := read_field Try.underlying23 h
  have hl : cs.length = 5 := hl.trans (by kernel_rfl)
  obtain ⟨c0, c1, c2, c3, c4, rfl⟩ := split5 hl
  obtain ⟨_, g0⟩ := hf 0 3 0 rfl
  have q0 : Try.prog.cellsOf 3 = 1 := by kernel_rfl
  rw [q0] at g0
  have e0 : List.take 1 (List.drop 0 [c0, c1, c2, c3, c4]) = [c0] := rfl
  rw [e0] at g0
  obtain ⟨v0, r0, k0⟩ := read_int Try.underlying3 g0
  simp only [List.cons.injEq, and_true] at r0
  obtain ⟨_, g1⟩ := hf 1 3 1 rfl
  have q1 : Try.prog.cellsOf 3 = 1 := by kernel_rfl
  rw [q1] at g1
  have e1 : List.take 1 (List.drop 1 [c0, c1, c2, c3, c4]) = [c1] := rfl
  rw [e1] at g1
  obtain ⟨v1, r1, k1⟩ := read_int Try.underlying3 g1
  simp only [List.cons.injEq, and_true] at r1
  obtain ⟨_, g2⟩ := hf 2 3 2 rfl
  have q2 : Try.prog.cellsOf 3 = 1 := by kernel_rfl
  rw [q2] at g2
  have e2 : List.take 1 (List.drop 2 [c0, c1, c2, c3, c4]) = [c2] := rfl
  rw [e2] at g2
  obtain ⟨v2, r2, k2⟩ := read_int Try.underlying3 g2
  simp only [List.cons.injEq, and_true] at r2
  obtain ⟨_, g3⟩ := hf 3 3 3 rfl
  have q3 : Try.prog.cellsOf 3 = 1 := by kernel_rfl
  rw [q3] at g3
  have e3 : List.take 1 (List.drop 3 [c0, c1, c2, c3, c4]) = [c3] := rfl
  rw [e3] at g3
  obtain ⟨v3, r3, k3⟩ := read_int Try.underlying3 g3
  simp only [List.cons.injEq, and_true] at r3
  obtain ⟨_, g4⟩ := hf 4 3 4 rfl
  have q4 : Try.prog.cellsOf 3 = 1 := by kernel_rfl
  rw [q4] at g4
  have e4 : List.take 1 (List.drop 4 [c0, c1, c2, c3, c4]) = [c4] := rfl
  rw [e4] at g4
  obtain ⟨v4, r4, k4⟩ := read_int Try.underlying3 g4
  simp only [List.cons.injEq, and_true] at r4
  subst r0
  subst r1
  subst r2
  subst r3
  subst r4
  exact ⟨⟨v0, v1, v2, v3, v4⟩, rfl, k0, k1, k2, k3, k4⟩

set_option maxRecDepth 100000 in
theorem open_Flow {H : Type} {enc : TypeId × Value → H} {w : World} {base b0 : Nat} {spare : Nat → Bool} {held : Bool} {r : Reach} {x : Value} {d : DataW H} {p : List MemPlace} (hv : Value.okWide Try.prog w r b0 23 x) (h : DataW.Trod enc Try.prog w base spare held 23 x d p) : ∃ v : Fl, x = .agg #[.int .i64 v.k, .int .i64 v.s, .int .i64 v.d, .int .i64 v.p, .int .i64 v.q] ∧ v.ok := by
  obtain ⟨cs, rfl, _⟩ := okWide_struct Try.underlying23 hv
  obtain ⟨fuel, hf⟩ := h
  obtain ⟨v, h1, h2⟩ := read_Flow (by simpa [Value.cells] using hf)
  exact ⟨v, by rw [← h1], h2⟩

/-- The ranges of the fields. -/
def Sl.ok (v : Sl) : Prop := I64 v.st ∧ I64 v.f.k ∧ I64 v.f.s ∧ I64 v.f.d ∧ I64 v.f.p ∧ I64 v.f.q ∧ I64 v.qu

theorem read_Slot {H : Type} {enc : TypeId × Value → H} {w : World} {base : Nat} {spare : Nat → Bool} {held : Bool} {fuel : Nat} {cs : List Value} {x} (h : DataW.trod enc Try.prog w base spare held fuel 134 cs = some x) : ∃ v : Sl, cs = [.int .i64 v.st, .int .i64 v.f.k, .int .i64 v.f.s, .int .i64 v.f.d, .int .i64 v.f.p, .int .i64 v.f.q, .int .i64 v.qu] ∧ v.ok := by
  obtain ⟨hl, m, hf⟩ := read_field Try.underlying134 h
  have hl : cs.length = 7 := hl.trans (by kernel_rfl)
  obtain ⟨c0, c1, c2, c3, c4, c5, c6, rfl⟩ := split7 hl
  obtain ⟨_, g0⟩ := hf 0 3 0 rfl
  have q0 : Try.prog.cellsOf 3 = 1 := by kernel_rfl
  rw [q0] at g0
  have e0 : List.take 1 (List.drop 0 [c0, c1, c2, c3, c4, c5, c6]) = [c0] := rfl
  rw [e0] at g0
  obtain ⟨v0, r0, k0⟩ := read_int Try.underlying3 g0
  simp only [List.cons.injEq, and_true] at r0
  obtain ⟨_, g1⟩ := hf 1 23 1 rfl
  have q1 : Try.prog.cellsOf 23 = 5 := by kernel_rfl
  rw [q1] at g1
  have e1 : List.take 5 (List.drop 1 [c0, c1, c2, c3, c4, c5, c6]) = [c1, c2, c3, c4, c5] := rfl
  rw [e1] at g1
  obtain ⟨v1, r1, k1⟩ := read_Flow g1
  simp only [List.cons.injEq, and_true] at r1
  obtain ⟨_, g2⟩ := hf 2 3 6 rfl
  have q2 : Try.prog.cellsOf 3 = 1 := by kernel_rfl
  rw [q2] at g2
  have e2 : List.take 1 (List.drop 6 [c0, c1, c2, c3, c4, c5, c6]) = [c6] := rfl
  rw [e2] at g2
  obtain ⟨v2, r2, k2⟩ := read_int Try.underlying3 g2
  simp only [List.cons.injEq, and_true] at r2
  subst r0
  obtain ⟨rfl, rfl, rfl, rfl, rfl⟩ := r1
  subst r2
  exact ⟨⟨v0, v1, v2⟩, rfl, k0, k1.1, k1.2.1, k1.2.2.1, k1.2.2.2.1, k1.2.2.2.2, k2⟩

set_option maxRecDepth 100000 in
theorem open_Slot {H : Type} {enc : TypeId × Value → H} {w : World} {base b0 : Nat} {spare : Nat → Bool} {held : Bool} {r : Reach} {x : Value} {d : DataW H} {p : List MemPlace} (hv : Value.okWide Try.prog w r b0 134 x) (h : DataW.Trod enc Try.prog w base spare held 134 x d p) : ∃ v : Sl, x = .agg #[.int .i64 v.st, .int .i64 v.f.k, .int .i64 v.f.s, .int .i64 v.f.d, .int .i64 v.f.p, .int .i64 v.f.q, .int .i64 v.qu] ∧ v.ok := by
  obtain ⟨cs, rfl, _⟩ := okWide_struct Try.underlying134 hv
  obtain ⟨fuel, hf⟩ := h
  obtain ⟨v, h1, h2⟩ := read_Slot (by simpa [Value.cells] using hf)
  exact ⟨v, by rw [← h1], h2⟩

/-- The ranges of the fields. -/
def Ru.ok (v : Ru) : Prop := I64 v.pr ∧ I64 v.kd ∧ I64 v.ip ∧ I64 v.bt ∧ I64 v.fp ∧ I64 v.lp ∧ I64 v.vl ∧ I64 v.ac ∧ I64 v.qu

theorem read_Rule {H : Type} {enc : TypeId × Value → H} {w : World} {base : Nat} {spare : Nat → Bool} {held : Bool} {fuel : Nat} {cs : List Value} {x} (h : DataW.trod enc Try.prog w base spare held fuel 61 cs = some x) : ∃ v : Ru, cs = [.int .i64 v.pr, .int .i64 v.kd, .int .i64 v.ip, .int .i64 v.bt, .int .i64 v.fp, .int .i64 v.lp, .int .i64 v.vl, .int .i64 v.ac, .int .i64 v.qu] ∧ v.ok := by
  obtain ⟨hl, m, hf⟩ := read_field Try.underlying61 h
  have hl : cs.length = 9 := hl.trans (by kernel_rfl)
  obtain ⟨c0, c1, c2, c3, c4, c5, c6, c7, c8, rfl⟩ := split9 hl
  obtain ⟨_, g0⟩ := hf 0 3 0 rfl
  have q0 : Try.prog.cellsOf 3 = 1 := by kernel_rfl
  rw [q0] at g0
  have e0 : List.take 1 (List.drop 0 [c0, c1, c2, c3, c4, c5, c6, c7, c8]) = [c0] := rfl
  rw [e0] at g0
  obtain ⟨v0, r0, k0⟩ := read_int Try.underlying3 g0
  simp only [List.cons.injEq, and_true] at r0
  obtain ⟨_, g1⟩ := hf 1 3 1 rfl
  have q1 : Try.prog.cellsOf 3 = 1 := by kernel_rfl
  rw [q1] at g1
  have e1 : List.take 1 (List.drop 1 [c0, c1, c2, c3, c4, c5, c6, c7, c8]) = [c1] := rfl
  rw [e1] at g1
  obtain ⟨v1, r1, k1⟩ := read_int Try.underlying3 g1
  simp only [List.cons.injEq, and_true] at r1
  obtain ⟨_, g2⟩ := hf 2 3 2 rfl
  have q2 : Try.prog.cellsOf 3 = 1 := by kernel_rfl
  rw [q2] at g2
  have e2 : List.take 1 (List.drop 2 [c0, c1, c2, c3, c4, c5, c6, c7, c8]) = [c2] := rfl
  rw [e2] at g2
  obtain ⟨v2, r2, k2⟩ := read_int Try.underlying3 g2
  simp only [List.cons.injEq, and_true] at r2
  obtain ⟨_, g3⟩ := hf 3 3 3 rfl
  have q3 : Try.prog.cellsOf 3 = 1 := by kernel_rfl
  rw [q3] at g3
  have e3 : List.take 1 (List.drop 3 [c0, c1, c2, c3, c4, c5, c6, c7, c8]) = [c3] := rfl
  rw [e3] at g3
  obtain ⟨v3, r3, k3⟩ := read_int Try.underlying3 g3
  simp only [List.cons.injEq, and_true] at r3
  obtain ⟨_, g4⟩ := hf 4 3 4 rfl
  have q4 : Try.prog.cellsOf 3 = 1 := by kernel_rfl
  rw [q4] at g4
  have e4 : List.take 1 (List.drop 4 [c0, c1, c2, c3, c4, c5, c6, c7, c8]) = [c4] := rfl
  rw [e4] at g4
  obtain ⟨v4, r4, k4⟩ := read_int Try.underlying3 g4
  simp only [List.cons.injEq, and_true] at r4
  obtain ⟨_, g5⟩ := hf 5 3 5 rfl
  have q5 : Try.prog.cellsOf 3 = 1 := by kernel_rfl
  rw [q5] at g5
  have e5 : List.take 1 (List.drop 5 [c0, c1, c2, c3, c4, c5, c6, c7, c8]) = [c5] := rfl
  rw [e5] at g5
  obtain ⟨v5, r5, k5⟩ := read_int Try.underlying3 g5
  simp only [List.cons.injEq, and_true] at r5
  obtain ⟨_, g6⟩ := hf 6 3 6 rfl
  have q6 : Try.prog.cellsOf 3 = 1 := by kernel_rfl
  rw [q6] at g6
  have e6 : List.take 1 (List.drop 6 [c0, c1, c2, c3, c4, c5, c6, c7, c8]) = [c6] := rfl
  rw [e6] at g6
  obtain ⟨v6, r6, k6⟩ := read_int Try.underlying3 g6
  simp only [List.cons.injEq, and_true] at r6
  obtain ⟨_, g7⟩ := hf 7 3 7 rfl
  have q7 : Try.prog.cellsOf 3 = 1 := by kernel_rfl
  rw [q7] at g7
  have e7 : List.take 1 (List.drop 7 [c0, c1, c2, c3, c4, c5, c6, c7, c8]) = [c7] := rfl
  rw [e7] at g7
  obtain ⟨v7, r7, k7⟩ := read_int Try.underlying3 g7
  simp only [List.cons.injEq, and_true] at r7
  obtain ⟨_, g8⟩ := hf 8 3 8 rfl
  have q8 : Try.prog.cellsOf 3 = 1 := by kernel_rfl
  rw [q8] at g8
  have e8 : List.take 1 (List.drop 8 [c0, c1, c2, c3, c4, c5, c6, c7, c8]) = [c8] := rfl
  rw [e8] at g8
  obtain ⟨v8, r8, k8⟩ := read_int Try.underlying3 g8
  simp only [List.cons.injEq, and_true] at r8
  subst r0
  subst r1
  subst r2
  subst r3
  subst r4
  subst r5
  subst r6
  subst r7
  subst r8
  exact ⟨⟨v0, v1, v2, v3, v4, v5, v6, v7, v8⟩, rfl, k0, k1, k2, k3, k4, k5, k6, k7, k8⟩

set_option maxRecDepth 100000 in
theorem open_Rule {H : Type} {enc : TypeId × Value → H} {w : World} {base b0 : Nat} {spare : Nat → Bool} {held : Bool} {r : Reach} {x : Value} {d : DataW H} {p : List MemPlace} (hv : Value.okWide Try.prog w r b0 61 x) (h : DataW.Trod enc Try.prog w base spare held 61 x d p) : ∃ v : Ru, x = .agg #[.int .i64 v.pr, .int .i64 v.kd, .int .i64 v.ip, .int .i64 v.bt, .int .i64 v.fp, .int .i64 v.lp, .int .i64 v.vl, .int .i64 v.ac, .int .i64 v.qu] ∧ v.ok := by
  obtain ⟨cs, rfl, _⟩ := okWide_struct Try.underlying61 hv
  obtain ⟨fuel, hf⟩ := h
  obtain ⟨v, h1, h2⟩ := read_Rule (by simpa [Value.cells] using hf)
  exact ⟨v, by rw [← h1], h2⟩

/-- The ranges of the fields. -/
def Sg.ok (v : Sg) : Prop := I64 v.kd ∧ I64 v.sp ∧ I64 v.dp ∧ I64 v.sq ∧ I64 v.ak ∧ I64 v.fl ∧ I64 v.wn ∧ v.bd.size ≤ maxLen

theorem read_Segment {H : Type} {enc : TypeId × Value → H} {w : World} {base : Nat} {spare : Nat → Bool} {held : Bool} {fuel : Nat} {cs : List Value} {x} (h : DataW.trod enc Try.prog w base spare held fuel 76 cs = some x) : ∃ v : Sg, cs = [.int .i64 v.kd, .int .i64 v.sp, .int .i64 v.dp, .int .i64 v.sq, .int .i64 v.ak, .int .i64 v.fl, .int .i64 v.wn, .string v.bd] ∧ v.ok := by
  obtain ⟨hl, m, hf⟩ := read_field Try.underlying76 h
  have hl : cs.length = 8 := hl.trans (by kernel_rfl)
  obtain ⟨c0, c1, c2, c3, c4, c5, c6, c7, rfl⟩ := split8 hl
  obtain ⟨_, g0⟩ := hf 0 3 0 rfl
  have q0 : Try.prog.cellsOf 3 = 1 := by kernel_rfl
  rw [q0] at g0
  have e0 : List.take 1 (List.drop 0 [c0, c1, c2, c3, c4, c5, c6, c7]) = [c0] := rfl
  rw [e0] at g0
  obtain ⟨v0, r0, k0⟩ := read_int Try.underlying3 g0
  simp only [List.cons.injEq, and_true] at r0
  obtain ⟨_, g1⟩ := hf 1 3 1 rfl
  have q1 : Try.prog.cellsOf 3 = 1 := by kernel_rfl
  rw [q1] at g1
  have e1 : List.take 1 (List.drop 1 [c0, c1, c2, c3, c4, c5, c6, c7]) = [c1] := rfl
  rw [e1] at g1
  obtain ⟨v1, r1, k1⟩ := read_int Try.underlying3 g1
  simp only [List.cons.injEq, and_true] at r1
  obtain ⟨_, g2⟩ := hf 2 3 2 rfl
  have q2 : Try.prog.cellsOf 3 = 1 := by kernel_rfl
  rw [q2] at g2
  have e2 : List.take 1 (List.drop 2 [c0, c1, c2, c3, c4, c5, c6, c7]) = [c2] := rfl
  rw [e2] at g2
  obtain ⟨v2, r2, k2⟩ := read_int Try.underlying3 g2
  simp only [List.cons.injEq, and_true] at r2
  obtain ⟨_, g3⟩ := hf 3 3 3 rfl
  have q3 : Try.prog.cellsOf 3 = 1 := by kernel_rfl
  rw [q3] at g3
  have e3 : List.take 1 (List.drop 3 [c0, c1, c2, c3, c4, c5, c6, c7]) = [c3] := rfl
  rw [e3] at g3
  obtain ⟨v3, r3, k3⟩ := read_int Try.underlying3 g3
  simp only [List.cons.injEq, and_true] at r3
  obtain ⟨_, g4⟩ := hf 4 3 4 rfl
  have q4 : Try.prog.cellsOf 3 = 1 := by kernel_rfl
  rw [q4] at g4
  have e4 : List.take 1 (List.drop 4 [c0, c1, c2, c3, c4, c5, c6, c7]) = [c4] := rfl
  rw [e4] at g4
  obtain ⟨v4, r4, k4⟩ := read_int Try.underlying3 g4
  simp only [List.cons.injEq, and_true] at r4
  obtain ⟨_, g5⟩ := hf 5 3 5 rfl
  have q5 : Try.prog.cellsOf 3 = 1 := by kernel_rfl
  rw [q5] at g5
  have e5 : List.take 1 (List.drop 5 [c0, c1, c2, c3, c4, c5, c6, c7]) = [c5] := rfl
  rw [e5] at g5
  obtain ⟨v5, r5, k5⟩ := read_int Try.underlying3 g5
  simp only [List.cons.injEq, and_true] at r5
  obtain ⟨_, g6⟩ := hf 6 3 6 rfl
  have q6 : Try.prog.cellsOf 3 = 1 := by kernel_rfl
  rw [q6] at g6
  have e6 : List.take 1 (List.drop 6 [c0, c1, c2, c3, c4, c5, c6, c7]) = [c6] := rfl
  rw [e6] at g6
  obtain ⟨v6, r6, k6⟩ := read_int Try.underlying3 g6
  simp only [List.cons.injEq, and_true] at r6
  obtain ⟨_, g7⟩ := hf 7 9 7 rfl
  have q7 : Try.prog.cellsOf 9 = 1 := by kernel_rfl
  rw [q7] at g7
  have e7 : List.take 1 (List.drop 7 [c0, c1, c2, c3, c4, c5, c6, c7]) = [c7] := rfl
  rw [e7] at g7
  obtain ⟨v7, r7, k7⟩ := read_str Try.underlying9 g7
  simp only [List.cons.injEq, and_true] at r7
  subst r0
  subst r1
  subst r2
  subst r3
  subst r4
  subst r5
  subst r6
  subst r7
  exact ⟨⟨v0, v1, v2, v3, v4, v5, v6, v7⟩, rfl, k0, k1, k2, k3, k4, k5, k6, k7⟩

set_option maxRecDepth 100000 in
theorem open_Segment {H : Type} {enc : TypeId × Value → H} {w : World} {base b0 : Nat} {spare : Nat → Bool} {held : Bool} {r : Reach} {x : Value} {d : DataW H} {p : List MemPlace} (hv : Value.okWide Try.prog w r b0 76 x) (h : DataW.Trod enc Try.prog w base spare held 76 x d p) : ∃ v : Sg, x = .agg #[.int .i64 v.kd, .int .i64 v.sp, .int .i64 v.dp, .int .i64 v.sq, .int .i64 v.ak, .int .i64 v.fl, .int .i64 v.wn, .string v.bd] ∧ v.ok := by
  obtain ⟨cs, rfl, _⟩ := okWide_struct Try.underlying76 hv
  obtain ⟨fuel, hf⟩ := h
  obtain ⟨v, h1, h2⟩ := read_Segment (by simpa [Value.cells] using hf)
  exact ⟨v, by rw [← h1], h2⟩

/-- The ranges of the fields. -/
def Pk.ok (v : Pk) : Prop := I64 v.dm ∧ I64 v.sm ∧ I64 v.vl ∧ I64 v.ts ∧ I64 v.id ∧ I64 v.tt ∧ I64 v.si ∧ I64 v.di ∧ I64 v.g.kd ∧ I64 v.g.sp ∧ I64 v.g.dp ∧ I64 v.g.sq ∧ I64 v.g.ak ∧ I64 v.g.fl ∧ I64 v.g.wn ∧ v.g.bd.size ≤ maxLen

theorem read_Packet {H : Type} {enc : TypeId × Value → H} {w : World} {base : Nat} {spare : Nat → Bool} {held : Bool} {fuel : Nat} {cs : List Value} {x} (h : DataW.trod enc Try.prog w base spare held fuel 78 cs = some x) : ∃ v : Pk, cs = [.int .i64 v.dm, .int .i64 v.sm, .int .i64 v.vl, .int .i64 v.ts, .int .i64 v.id, .int .i64 v.tt, .int .i64 v.si, .int .i64 v.di, .int .i64 v.g.kd, .int .i64 v.g.sp, .int .i64 v.g.dp, .int .i64 v.g.sq, .int .i64 v.g.ak, .int .i64 v.g.fl, .int .i64 v.g.wn, .string v.g.bd] ∧ v.ok := by
  obtain ⟨hl, m, hf⟩ := read_field Try.underlying78 h
  have hl : cs.length = 16 := hl.trans (by kernel_rfl)
  obtain ⟨c0, c1, c2, c3, c4, c5, c6, c7, c8, c9, c10, c11, c12, c13, c14, c15, rfl⟩ := split16 hl
  obtain ⟨_, g0⟩ := hf 0 3 0 rfl
  have q0 : Try.prog.cellsOf 3 = 1 := by kernel_rfl
  rw [q0] at g0
  have e0 : List.take 1 (List.drop 0 [c0, c1, c2, c3, c4, c5, c6, c7, c8, c9, c10, c11, c12, c13, c14, c15]) = [c0] := rfl
  rw [e0] at g0
  obtain ⟨v0, r0, k0⟩ := read_int Try.underlying3 g0
  simp only [List.cons.injEq, and_true] at r0
  obtain ⟨_, g1⟩ := hf 1 3 1 rfl
  have q1 : Try.prog.cellsOf 3 = 1 := by kernel_rfl
  rw [q1] at g1
  have e1 : List.take 1 (List.drop 1 [c0, c1, c2, c3, c4, c5, c6, c7, c8, c9, c10, c11, c12, c13, c14, c15]) = [c1] := rfl
  rw [e1] at g1
  obtain ⟨v1, r1, k1⟩ := read_int Try.underlying3 g1
  simp only [List.cons.injEq, and_true] at r1
  obtain ⟨_, g2⟩ := hf 2 3 2 rfl
  have q2 : Try.prog.cellsOf 3 = 1 := by kernel_rfl
  rw [q2] at g2
  have e2 : List.take 1 (List.drop 2 [c0, c1, c2, c3, c4, c5, c6, c7, c8, c9, c10, c11, c12, c13, c14, c15]) = [c2] := rfl
  rw [e2] at g2
  obtain ⟨v2, r2, k2⟩ := read_int Try.underlying3 g2
  simp only [List.cons.injEq, and_true] at r2
  obtain ⟨_, g3⟩ := hf 3 3 3 rfl
  have q3 : Try.prog.cellsOf 3 = 1 := by kernel_rfl
  rw [q3] at g3
  have e3 : List.take 1 (List.drop 3 [c0, c1, c2, c3, c4, c5, c6, c7, c8, c9, c10, c11, c12, c13, c14, c15]) = [c3] := rfl
  rw [e3] at g3
  obtain ⟨v3, r3, k3⟩ := read_int Try.underlying3 g3
  simp only [List.cons.injEq, and_true] at r3
  obtain ⟨_, g4⟩ := hf 4 3 4 rfl
  have q4 : Try.prog.cellsOf 3 = 1 := by kernel_rfl
  rw [q4] at g4
  have e4 : List.take 1 (List.drop 4 [c0, c1, c2, c3, c4, c5, c6, c7, c8, c9, c10, c11, c12, c13, c14, c15]) = [c4] := rfl
  rw [e4] at g4
  obtain ⟨v4, r4, k4⟩ := read_int Try.underlying3 g4
  simp only [List.cons.injEq, and_true] at r4
  obtain ⟨_, g5⟩ := hf 5 3 5 rfl
  have q5 : Try.prog.cellsOf 3 = 1 := by kernel_rfl
  rw [q5] at g5
  have e5 : List.take 1 (List.drop 5 [c0, c1, c2, c3, c4, c5, c6, c7, c8, c9, c10, c11, c12, c13, c14, c15]) = [c5] := rfl
  rw [e5] at g5
  obtain ⟨v5, r5, k5⟩ := read_int Try.underlying3 g5
  simp only [List.cons.injEq, and_true] at r5
  obtain ⟨_, g6⟩ := hf 6 3 6 rfl
  have q6 : Try.prog.cellsOf 3 = 1 := by kernel_rfl
  rw [q6] at g6
  have e6 : List.take 1 (List.drop 6 [c0, c1, c2, c3, c4, c5, c6, c7, c8, c9, c10, c11, c12, c13, c14, c15]) = [c6] := rfl
  rw [e6] at g6
  obtain ⟨v6, r6, k6⟩ := read_int Try.underlying3 g6
  simp only [List.cons.injEq, and_true] at r6
  obtain ⟨_, g7⟩ := hf 7 3 7 rfl
  have q7 : Try.prog.cellsOf 3 = 1 := by kernel_rfl
  rw [q7] at g7
  have e7 : List.take 1 (List.drop 7 [c0, c1, c2, c3, c4, c5, c6, c7, c8, c9, c10, c11, c12, c13, c14, c15]) = [c7] := rfl
  rw [e7] at g7
  obtain ⟨v7, r7, k7⟩ := read_int Try.underlying3 g7
  simp only [List.cons.injEq, and_true] at r7
  obtain ⟨_, g8⟩ := hf 8 76 8 rfl
  have q8 : Try.prog.cellsOf 76 = 8 := by kernel_rfl
  rw [q8] at g8
  have e8 : List.take 8 (List.drop 8 [c0, c1, c2, c3, c4, c5, c6, c7, c8, c9, c10, c11, c12, c13, c14, c15]) = [c8, c9, c10, c11, c12, c13, c14, c15] := rfl
  rw [e8] at g8
  obtain ⟨v8, r8, k8⟩ := read_Segment g8
  simp only [List.cons.injEq, and_true] at r8
  subst r0
  subst r1
  subst r2
  subst r3
  subst r4
  subst r5
  subst r6
  subst r7
  obtain ⟨rfl, rfl, rfl, rfl, rfl, rfl, rfl, rfl⟩ := r8
  exact ⟨⟨v0, v1, v2, v3, v4, v5, v6, v7, v8⟩, rfl, k0, k1, k2, k3, k4, k5, k6, k7, k8.1, k8.2.1, k8.2.2.1, k8.2.2.2.1, k8.2.2.2.2.1, k8.2.2.2.2.2.1, k8.2.2.2.2.2.2.1, k8.2.2.2.2.2.2.2⟩

set_option maxRecDepth 100000 in
theorem open_Packet {H : Type} {enc : TypeId × Value → H} {w : World} {base b0 : Nat} {spare : Nat → Bool} {held : Bool} {r : Reach} {x : Value} {d : DataW H} {p : List MemPlace} (hv : Value.okWide Try.prog w r b0 78 x) (h : DataW.Trod enc Try.prog w base spare held 78 x d p) : ∃ v : Pk, x = .agg #[.int .i64 v.dm, .int .i64 v.sm, .int .i64 v.vl, .int .i64 v.ts, .int .i64 v.id, .int .i64 v.tt, .int .i64 v.si, .int .i64 v.di, .int .i64 v.g.kd, .int .i64 v.g.sp, .int .i64 v.g.dp, .int .i64 v.g.sq, .int .i64 v.g.ak, .int .i64 v.g.fl, .int .i64 v.g.wn, .string v.g.bd] ∧ v.ok := by
  obtain ⟨cs, rfl, _⟩ := okWide_struct Try.underlying78 hv
  obtain ⟨fuel, hf⟩ := h
  obtain ⟨v, h1, h2⟩ := read_Packet (by simpa [Value.cells] using hf)
  exact ⟨v, by rw [← h1], h2⟩

theorem iv_flat (l : List Int) : (l.flatMap fun v => [Value.int .i64 v]) = iv l := by
  induction l with
  | nil => rfl
  | cons x l ih => rw [List.flatMap_cons, ih]; rfl

instance : Inhabited Fl := ⟨⟨0, 0, 0, 0, 0⟩⟩
instance : Inhabited Sl := ⟨⟨0, default, 0⟩⟩
instance : Inhabited Ru := ⟨⟨0, 0, 0, 0, 0, 0, 0, 0, 0⟩⟩
instance : Inhabited Sg := ⟨⟨0, 0, 0, 0, 0, 0, 0, ⟨#[]⟩⟩⟩
instance : Inhabited Pk := ⟨⟨0, 0, 0, 0, 0, 0, 0, 0, default⟩⟩
instance : Inhabited Su := ⟨⟨default, 0, 0⟩⟩
instance : Inhabited Sm := ⟨⟨default, 0, ⟨#[]⟩, false⟩⟩
theorem read_Sint {H : Type} {enc : TypeId × Value → H} {w : World} {base : Nat} {spare : Nat → Bool} {held : Bool} {fuel : Nat} {x} {v : Value} (h : DataW.trod enc Try.prog w base spare held fuel 38 [v] = some x) : ∃ a c, ∃ l : List Int, v = .slice a l.length c ∧ (l.length ≤ c ∧ l.length ≤ maxLen) ∧ Rd w a (iv l) ∧ ∀ v ∈ l, I64 v := by
  obtain ⟨a, c, l, rfl, h1, h2, h3, h4⟩ := read_slice (fun n : Int => [Value.int .i64 n]) 1 I64 Try.underlying38 (by kernel_rfl) (fun _ => rfl) (fun h => read_int Try.underlying3 h) h
  exact ⟨a, c, l, rfl, ⟨h1, Nat.le_trans h1 h2⟩, by rw [← iv_flat]; exact h3, h4⟩

set_option maxRecDepth 100000 in
theorem read_Spread {H : Type} {enc : TypeId × Value → H} {w : World} {base : Nat} {spare : Nat → Bool} {held : Bool} {fuel : Nat} {x} {cs : List Value} (h : DataW.trod enc Try.prog w base spare held fuel 95 cs = some x) : ∃ key a c, ∃ l : List Int, cs = [.string key, .slice a l.length c] ∧ key.size ≤ maxLen ∧ (l.length ≤ c ∧ l.length ≤ maxLen) ∧ Rd w a (iv l) := by
  obtain ⟨hl, m, hf⟩ := read_field Try.underlying95 h
  have hl : cs.length = 2 := hl.trans (by kernel_rfl)
  obtain ⟨c0, c1, rfl⟩ := split2 hl
  obtain ⟨_, g0⟩ := hf 0 9 0 rfl
  have q0 : Try.prog.cellsOf 9 = 1 := by kernel_rfl
  rw [q0] at g0
  have e0 : List.take 1 (List.drop 0 [c0, c1]) = [c0] := rfl
  rw [e0] at g0
  obtain ⟨v0, r0, k0⟩ := read_str Try.underlying9 g0
  simp only [List.cons.injEq, and_true] at r0
  obtain ⟨_, g1⟩ := hf 1 38 1 rfl
  have q1 : Try.prog.cellsOf 38 = 1 := by kernel_rfl
  rw [q1] at g1
  have e1 : List.take 1 (List.drop 1 [c0, c1]) = [c1] := rfl
  rw [e1] at g1
  obtain ⟨a, c, l, rfl, h1, h2, _⟩ := read_Sint g1
  subst r0
  exact ⟨v0, a, c, l, rfl, k0, h1, h2⟩

set_option maxRecDepth 100000 in
theorem open_Spread {H : Type} {enc : TypeId × Value → H} {w : World} {base b0 : Nat} {spare : Nat → Bool} {held : Bool} {r : Reach} {x : Value} {d : DataW H} {p : List MemPlace} (hv : Value.okWide Try.prog w r b0 95 x) (h : DataW.Trod enc Try.prog w base spare held 95 x d p) : ∃ key a c, ∃ l : List Int, x = .agg #[.string key, .slice a l.length c] ∧ key.size ≤ maxLen ∧ (l.length ≤ c ∧ l.length ≤ maxLen) ∧ Rd w a (iv l) := by
  obtain ⟨cs, rfl, _⟩ := okWide_struct Try.underlying95 hv
  obtain ⟨fuel, hf⟩ := h
  obtain ⟨key, a, c, l, h1, h2⟩ := read_Spread (by simpa [Value.cells] using hf)
  exact ⟨key, a, c, l, by rw [← h1], h2⟩

theorem read_SSlot {H : Type} {enc : TypeId × Value → H} {w : World} {base : Nat} {spare : Nat → Bool} {held : Bool} {fuel : Nat} {x} {v : Value} (h : DataW.trod enc Try.prog w base spare held fuel 49 [v] = some x) : ∃ a c, ∃ l : List Sl, v = .slice a l.length c ∧ (l.length ≤ c ∧ l.length ≤ maxLen) ∧ Rd w a (l.flatMap fun v => [.int .i64 v.st, .int .i64 v.f.k, .int .i64 v.f.s, .int .i64 v.f.d, .int .i64 v.f.p, .int .i64 v.f.q, .int .i64 v.qu]) ∧ ∀ v ∈ l, v.ok := by
  obtain ⟨a, c, l, rfl, h1, h2, h3, h4⟩ := read_slice (fun v : Sl => [.int .i64 v.st, .int .i64 v.f.k, .int .i64 v.f.s, .int .i64 v.f.d, .int .i64 v.f.p, .int .i64 v.f.q, .int .i64 v.qu]) 7 Sl.ok Try.underlying49 (by kernel_rfl) (fun _ => rfl) (fun h => read_Slot h) h
  exact ⟨a, c, l, rfl, ⟨h1, Nat.le_trans h1 h2⟩, h3, h4⟩

set_option maxRecDepth 100000 in
theorem open_SSlot {H : Type} {enc : TypeId × Value → H} {w : World} {base b0 : Nat} {spare : Nat → Bool} {held : Bool} {r : Reach} {x : Value} {d : DataW H} {p : List MemPlace} (hv : Value.okWide Try.prog w r b0 49 x) (h : DataW.Trod enc Try.prog w base spare held 49 x d p) : ∃ a c, ∃ l : List Sl, x = .slice a l.length c ∧ (l.length ≤ c ∧ l.length ≤ maxLen) ∧ Rd w a (l.flatMap fun v => [.int .i64 v.st, .int .i64 v.f.k, .int .i64 v.f.s, .int .i64 v.f.d, .int .i64 v.f.p, .int .i64 v.f.q, .int .i64 v.qu]) ∧ ∀ v ∈ l, v.ok := by
  obtain ⟨a, n, c, rfl⟩ := okWide_slice Try.underlying49 hv
  obtain ⟨fuel, hf⟩ := h
  exact read_SSlot (by simpa [Value.cells] using hf)

theorem read_SRule {H : Type} {enc : TypeId × Value → H} {w : World} {base : Nat} {spare : Nat → Bool} {held : Bool} {fuel : Nat} {x} {v : Value} (h : DataW.trod enc Try.prog w base spare held fuel 68 [v] = some x) : ∃ a c, ∃ l : List Ru, v = .slice a l.length c ∧ (l.length ≤ c ∧ l.length ≤ maxLen) ∧ Rd w a (l.flatMap fun v => [.int .i64 v.pr, .int .i64 v.kd, .int .i64 v.ip, .int .i64 v.bt, .int .i64 v.fp, .int .i64 v.lp, .int .i64 v.vl, .int .i64 v.ac, .int .i64 v.qu]) ∧ ∀ v ∈ l, v.ok := by
  obtain ⟨a, c, l, rfl, h1, h2, h3, h4⟩ := read_slice (fun v : Ru => [.int .i64 v.pr, .int .i64 v.kd, .int .i64 v.ip, .int .i64 v.bt, .int .i64 v.fp, .int .i64 v.lp, .int .i64 v.vl, .int .i64 v.ac, .int .i64 v.qu]) 9 Ru.ok Try.underlying68 (by kernel_rfl) (fun _ => rfl) (fun h => read_Rule h) h
  exact ⟨a, c, l, rfl, ⟨h1, Nat.le_trans h1 h2⟩, h3, h4⟩

set_option maxRecDepth 100000 in
theorem open_SRule {H : Type} {enc : TypeId × Value → H} {w : World} {base b0 : Nat} {spare : Nat → Bool} {held : Bool} {r : Reach} {x : Value} {d : DataW H} {p : List MemPlace} (hv : Value.okWide Try.prog w r b0 68 x) (h : DataW.Trod enc Try.prog w base spare held 68 x d p) : ∃ a c, ∃ l : List Ru, x = .slice a l.length c ∧ (l.length ≤ c ∧ l.length ≤ maxLen) ∧ Rd w a (l.flatMap fun v => [.int .i64 v.pr, .int .i64 v.kd, .int .i64 v.ip, .int .i64 v.bt, .int .i64 v.fp, .int .i64 v.lp, .int .i64 v.vl, .int .i64 v.ac, .int .i64 v.qu]) ∧ ∀ v ∈ l, v.ok := by
  obtain ⟨a, n, c, rfl⟩ := okWide_slice Try.underlying68 hv
  obtain ⟨fuel, hf⟩ := h
  exact read_SRule (by simpa [Value.cells] using hf)

theorem read_FlowTable {H : Type} {enc : TypeId × Value → H} {w : World} {base : Nat} {spare : Nat → Bool} {held : Bool} {fuel : Nat} {x} {cs : List Value} (h : DataW.trod enc Try.prog w base spare held fuel 51 cs = some x) : ∃ a c, ∃ l : List Sl, cs = [.slice a l.length c] ∧ (l.length ≤ c ∧ l.length ≤ maxLen) ∧ Rd w a (l.flatMap fun v => [.int .i64 v.st, .int .i64 v.f.k, .int .i64 v.f.s, .int .i64 v.f.d, .int .i64 v.f.p, .int .i64 v.f.q, .int .i64 v.qu]) ∧ ∀ v ∈ l, v.ok := by
  obtain ⟨hl, m, hf⟩ := read_field Try.underlying51 h
  have hl : cs.length = 1 := hl.trans (by kernel_rfl)
  obtain ⟨c0, rfl⟩ := split1 hl
  obtain ⟨_, g0⟩ := hf 0 49 0 rfl
  have q0 : Try.prog.cellsOf 49 = 1 := by kernel_rfl
  rw [q0] at g0
  have e0 : List.take 1 (List.drop 0 [c0]) = [c0] := rfl
  rw [e0] at g0
  obtain ⟨a, c, l, rfl, h1⟩ := read_SSlot g0
  exact ⟨a, c, l, rfl, h1⟩

set_option maxRecDepth 100000 in
theorem open_FlowTable {H : Type} {enc : TypeId × Value → H} {w : World} {base b0 : Nat} {spare : Nat → Bool} {held : Bool} {r : Reach} {x : Value} {d : DataW H} {p : List MemPlace} (hv : Value.okWide Try.prog w r b0 51 x) (h : DataW.Trod enc Try.prog w base spare held 51 x d p) : ∃ a c, ∃ l : List Sl, x = .agg #[.slice a l.length c] ∧ (l.length ≤ c ∧ l.length ≤ maxLen) ∧ Rd w a (l.flatMap fun v => [.int .i64 v.st, .int .i64 v.f.k, .int .i64 v.f.s, .int .i64 v.f.d, .int .i64 v.f.p, .int .i64 v.f.q, .int .i64 v.qu]) ∧ ∀ v ∈ l, v.ok := by
  obtain ⟨cs, rfl, _⟩ := okWide_struct Try.underlying51 hv
  obtain ⟨fuel, hf⟩ := h
  obtain ⟨a, c, l, h1, h2⟩ := read_FlowTable (by simpa [Value.cells] using hf)
  exact ⟨a, c, l, by rw [← h1], h2⟩

set_option maxRecDepth 100000 in
theorem read_bytes {H : Type} {enc : TypeId × Value → H} {w : World} {base : Nat} {spare : Nat → Bool} {held : Bool} {fuel : Nat} {x} {v : Value} (h : DataW.trod enc Try.prog w base spare held fuel 35 [v] = some x) : ∃ a c, ∃ l : List UInt8, v = .slice a l.length c ∧ (l.length ≤ c ∧ l.length ≤ maxLen) ∧ Rd w a (l.flatMap fun v => [.int .u8 (v.toNat : Int)]) := by
  obtain ⟨a, c, l, rfl, h1, h2, h3, _⟩ := read_slice (fun v : UInt8 => [Value.int .u8 (v.toNat : Int)]) 1 (fun _ => True) Try.underlying35 (by kernel_rfl) (fun _ => rfl) (fun h => by
    obtain ⟨n, h1, _, h3⟩ := DataW.trod_int Try.underlying5 h
    simp [Lit.wf, IntKind.has, IntKind.min, IntKind.max, IntKind.bits, IntKind.signed] at h3
    refine ⟨UInt8.ofNat n.toNat, ?_, trivial⟩
    rw [h1]
    have : ((UInt8.ofNat n.toNat).toNat : Int) = n := by simp; omega
    rw [this]) h
  exact ⟨a, c, l, rfl, ⟨h1, Nat.le_trans h1 h2⟩, h3⟩

set_option maxRecDepth 100000 in
theorem open_bytes {H : Type} {enc : TypeId × Value → H} {w : World} {base b0 : Nat} {spare : Nat → Bool} {held : Bool} {r : Reach} {x : Value} {d : DataW H} {p : List MemPlace} (hv : Value.okWide Try.prog w r b0 35 x) (h : DataW.Trod enc Try.prog w base spare held 35 x d p) : ∃ a c, ∃ l : List UInt8, x = .slice a l.length c ∧ (l.length ≤ c ∧ l.length ≤ maxLen) ∧ Rd w a (l.flatMap fun v => [.int .u8 (v.toNat : Int)]) := by
  obtain ⟨a, n, c, rfl⟩ := okWide_slice Try.underlying35 hv
  obtain ⟨fuel, hf⟩ := h
  exact read_bytes (by simpa [Value.cells] using hf)

end Go.Proofs.Ytncciafldmoklaa


/-
  The arguments of the laws, opened: what a struct that came in holds, field by field; what a slice that came in holds.
  Conditions: none.
-/
import Derived.Test.YtgkedbhpeafbbaaRows
import Derived.Test.YtgkedbhpeafbbaaMem
import Derived.ProofKit
import Derived.OpenShut
import Derived.ShutString
import Derived.ChangeOld
import Derived.Deep.Slices
set_option linter.unusedSimpArgs false
set_option linter.unusedVariables false
namespace Go.Proofs.Ytgkedbhpeafbbaa
open Go.ChangeShapes Go.WideShapes Go.ChangeAt Go.RowKit
open Go.ChangeMaps (open_string shut_string)

theorem own : ownKnob Try.prog.godebug = none := by kernel_rfl
theorem laidOut : laidOutB Try.prog = true := by kernel_rfl

section
variable {H : Type} {enc : TypeId × Value → H} {P : Program} {w : World} {base : Nat} {spare : Nat → Bool} {held : Bool}

theorem i64_of_wf {n : Int} (h : (Lit.int .i64 n).wf = true) : I64 n := by
  simp [Lit.wf, IntKind.has, IntKind.min, IntKind.max, IntKind.bits, IntKind.signed] at h
  unfold I64
  omega

theorem read_int {t fuel : Nat} {cs : List Value} {x} (ht : P.underlying t = some (.int .i64)) (h : DataW.trod enc P w base spare held fuel t cs = some x) : ∃ n : Int, cs = [.int .i64 n] ∧ I64 n := by
  obtain ⟨n, h1, _, h3⟩ := DataW.trod_int ht h
  exact ⟨n, h1, i64_of_wf h3⟩
theorem read_str {t fuel : Nat} {cs : List Value} {x} (ht : P.underlying t = some .string) (h : DataW.trod enc P w base spare held fuel t cs = some x) : ∃ s : ByteArray, cs = [.string s] ∧ s.size ≤ maxLen := by
  obtain ⟨n, h1, _, h3⟩ := DataW.trod_string ht h
  exact ⟨n, h1, h3⟩
theorem read_bool {t fuel : Nat} {cs : List Value} {x} (ht : P.underlying t = some .bool) (h : DataW.trod enc P w base spare held fuel t cs = some x) : ∃ b : Bool, cs = [.bool b] := by
  obtain ⟨n, h1, _⟩ := DataW.trod_bool ht h
  exact ⟨n, h1⟩

/-- A field of a struct, read. -/
theorem read_field {t fuel : Nat} {fs : Array Field} {cs : List Value} {x} (ht : P.underlying t = some (.struct fs)) (h : DataW.trod enc P w base spare held fuel t cs = some x) :
    cs.length = P.cellsOf t ∧ ∃ n, ∀ (i u off : Nat), (fs[i]?).map (fun f => (f.type, f.offset)) = some (u, off) → ∃ y, DataW.trod enc P w base spare held n u ((cs.drop off).take (P.cellsOf u)) = some y := by
  obtain ⟨xs, n, _, _, hl, hxs, hf⟩ := DataW.trod_struct ht h
  refine ⟨hl, n, fun i u off hi => ?_⟩
  obtain ⟨f, hi2, hu⟩ := Option.map_eq_some_iff.1 hi
  clear hi
  simp only [Prod.mk.injEq] at hu
  obtain ⟨rfl, rfl⟩ := hu
  have hlt : i < fs.size := by
    rcases Nat.lt_or_ge i fs.size with h' | h'
    · exact h'
    · rw [Array.getElem?_eq_none h'] at hi2; cases hi2
  exact ⟨xs[i]'(by omega), by rw [hf i f hi2]; exact List.getElem?_eq_getElem (by omega)⟩

/-- A slice that came in, told by its elements. -/
theorem read_slice {α : Type} [Inhabited α] (c : α → List Value) (z : Nat) (ok : α → Prop) {t e fuel : Nat} {v : Value} {x} (ht : P.underlying t = some (.slice e)) (hz : P.cellsOf e = z) (hc : ∀ v, (c v).length = z)
    (hread : ∀ {fuel : Nat} {cs : List Value} {x}, DataW.trod enc P w base spare held fuel e cs = some x → ∃ v : α, cs = c v ∧ ok v)
    (h : DataW.trod enc P w base spare held fuel t [v] = some x) : ∃ (a : Option Addr) (cap : Nat) (l : List α), v = .slice a l.length cap ∧ l.length ≤ cap ∧ cap ≤ maxLen ∧ Rd w a (l.flatMap c) ∧ ∀ v ∈ l, ok v := by
  rcases Deep.open_slice ht h with ⟨h0, _⟩ | ⟨a, len, cap, m, n, D, Pl, h0, _, hl, hm, hmm, _, hx⟩
  · simp only [List.cons.injEq, and_true] at h0
    exact ⟨none, 0, [], h0, Nat.le_refl _, Nat.zero_le _, .inl rfl, by simp⟩
  · simp only [List.cons.injEq, and_true] at h0
    have hle : len ≤ m := by rw [hmm]; split <;> omega
    obtain ⟨f, hf⟩ := Deep.choose_lt (α := α) (n := len) (p := fun i y => w.cells? base (a.add (i * P.cellsOf e)) (P.cellsOf e) = some (c y) ∧ ok y) (fun i hi => by
      obtain ⟨cs', h1, h2⟩ := hx i (by omega)
      obtain ⟨y, rfl, hy⟩ := hread h2
      exact ⟨y, h1, hy⟩)
    refine ⟨some a, cap, (List.range len).map f, by simpa using h0, by simpa using hl, hm, ?_, ?_⟩
    · by_cases hn : len = 0
      · subst hn; exact .inl (by simp)
      · by_cases hz0 : z = 0
        · left
          have := flat_len c z hc ((List.range len).map f)
          rw [hz0, Nat.mul_zero] at this
          exact List.eq_nil_of_length_eq_zero this
        · obtain ⟨b, off, spot⟩ := a
          have key : ∀ i j, i < len → j < z → w.cell? ((⟨b, off, spot⟩ : Addr).add (i * z + j)) = (c (f i))[j]? := fun i j hi hj => by
            obtain ⟨h1, _⟩ := hf i hi
            rw [hz] at h1
            obtain ⟨_, _, h3⟩ := World.cells?_some h1
            rw [← h3 j hj, Deep.add_add]
          have hs : spot = none := by
            have h1 := key 0 0 (by omega) (by omega)
            rw [List.getElem?_eq_getElem (by rw [hc]; omega)] at h1
            simpa [Addr.add] using World.cell?_spot h1
          subst hs
          have hadd : ∀ k, (⟨b, off, none⟩ : Addr).add k = ⟨b, off + k, none⟩ := fun k => by unfold Addr.add; split <;> simp_all
          have hlt : b < w.heap.size := by
            have h1 := key 0 0 (by omega) (by omega)
            rw [List.getElem?_eq_getElem (by rw [hc]; omega), hadd] at h1
            exact World.block_lt_of_cell? w ⟨b, _, none⟩ h1
          refine .inr ⟨b, off, rfl, hlt, fun i hi => ?_⟩
          have hlen := flat_len c z hc ((List.range len).map f)
          rw [List.length_map, List.length_range] at hlen
          have hzp : 0 < z := by omega
          have hiz : i < len * z := by omega
          have hq : i / z < len := Nat.div_lt_of_lt_mul (by rw [Nat.mul_comm]; exact hiz)
          have hr : i % z < z := Nat.mod_lt _ hzp
          have he : i / z * z + i % z = i := by rw [Nat.mul_comm]; exact Nat.div_add_mod i z
          have h1 := key (i / z) (i % z) hq hr
          rw [he, hadd] at h1
          rw [h1]
          have h2 := flat_at c z hc ((List.range len).map f) (i / z) (i % z) (by simpa using hq) hr
          rw [he] at h2
          rw [List.getElem?_eq_getElem hi, List.getElem?_map, List.getElem?_range hq] at h2
          simpa using h2.symm
    · intro y hy
      obtain ⟨i, hi, rfl⟩ := List.mem_map.1 hy
      exact (hf i (by simpa using hi)).2
end
theorem split1 {l : List Value} (h : l.length = 1) : ∃ c0, l = [c0] :=
  match l, h with
  | [c0], _ => ⟨c0, rfl⟩
theorem split2 {l : List Value} (h : l.length = 2) : ∃ c0 c1, l = [c0, c1] :=
  match l, h with
  | [c0, c1], _ => ⟨c0, c1, rfl⟩
theorem split5 {l : List Value} (h : l.length = 5) : ∃ c0 c1 c2 c3 c4, l = [c0, c1, c2, c3, c4] :=
  match l, h with
  | [c0, c1, c2, c3, c4], _ => ⟨c0, c1, c2, c3, c4, rfl⟩
theorem split7 {l : List Value} (h : l.length = 7) : ∃ c0 c1 c2 c3 c4 c5 c6, l = [c0, c1, c2, c3, c4, c5, c6] :=
  match l, h with
  | [c0, c1, c2, c3, c4, c5, c6], _ => ⟨c0, c1, c2, c3, c4, c5, c6, rfl⟩
theorem split8 {l : List Value} (h : l.length = 8) : ∃ c0 c1 c2 c3 c4 c5 c6 c7, l = [c0, c1, c2, c3, c4, c5, c6, c7] :=
  match l, h with
  | [c0, c1, c2, c3, c4, c5, c6, c7], _ => ⟨c0, c1, c2, c3, c4, c5, c6, c7, rfl⟩
theorem split9 {l : List Value} (h : l.length = 9) : ∃ c0 c1 c2 c3 c4 c5 c6 c7 c8, l = [c0, c1, c2, c3, c4, c5, c6, c7, c8] :=
  match l, h with
  | [c0, c1, c2, c3, c4, c5, c6, c7, c8], _ => ⟨c0, c1, c2, c3, c4, c5, c6, c7, c8, rfl⟩
theorem split16 {l : List Value} (h : l.length = 16) : ∃ c0 c1 c2 c3 c4 c5 c6 c7 c8 c9 c10 c11 c12 c13 c14 c15, l = [c0, c1, c2, c3, c4, c5, c6, c7, c8, c9, c10, c11, c12, c13, c14, c15] :=
  match l, h with
  | [c0, c1, c2, c3, c4, c5, c6, c7, c8, c9, c10, c11, c12, c13, c14, c15], _ => ⟨c0, c1, c2, c3, c4, c5, c6, c7, c8, c9, c10, c11, c12, c13, c14, c15, rfl⟩
theorem split18 {l : List Value} (h : l.length = 18) : ∃ c0 c1 c2 c3 c4 c5 c6 c7 c8 c9 c10 c11 c12 c13 c14 c15 c16 c17, l = [c0, c1, c2, c3, c4, c5, c6, c7, c8, c9, c10, c11, c12, c13, c14, c15, c16, c17] :=
  match l, h with
  | [c0, c1, c2, c3, c4, c5, c6, c7, c8, c9, c10, c11, c12, c13, c14, c15, c16, c17], _ => ⟨c0, c1, c2, c3, c4, c5, c6, c7, c8, c9, c10, c11, c12, c13, c14, c15, c16, c17, rfl⟩

/-- The ranges of the fields. -/
def Fl.ok (v : Fl) : Prop := I64 v.k ∧ I64 v.s ∧ I64 v.d ∧ I64 v.p ∧ I64 v.q

theorem read_Flow {H : Type} {enc : TypeId × Value → H} {w : World} {base : Nat} {spare : Nat → Bool} {held : Bool} {fuel : Nat} {cs : List Value} {x} (h : DataW.trod enc Try.prog w base spare held fuel 38 cs = some x) : ∃ v : Fl, cs = [.int .i64 v.k, .int .i64 v.s, .int .i64 v.d, .int .i64 v.p, .int .i64 v.q] ∧ v.ok := by
  obtain ⟨hl, m, hf⟩ := read_field Try.underlying38 h
  have hl : cs.length = 5 := hl.trans (by kernel_rfl)
  obtain ⟨c0, c1, c2, c3, c4, rfl⟩ := split5 hl
  obtain ⟨_, g0⟩ := hf 0 3 0 rfl
  have q0 : Try.prog.cellsOf 3 = 1 := by kernel_rfl
  rw [q0] at g0
  have e0 : List.take 1 (List.drop 0 [c0, c1, c2, c3, c4]) = [c0] := rfl
  rw [e0] at g0
  obtain ⟨v0, r0, k0⟩ := read_int Try.underlying3 g0
  simp only [List.cons.injEq, and_true] at r0
  obtain ⟨_, g1⟩ := hf 1 3 1 rfl
  have q1 : Try.prog.cellsOf 3 = 1 := by kernel_rfl
  rw [q1] at g1
  have e1 : List.take 1 (List.drop 1 [c0, c1, c2, c3, c4]) = [c1] := rfl
  rw [e1] at g1
  obtain ⟨v1, r1, k1⟩ := read_int Try.underlying3 g1
  simp only [List.cons.injEq, and_true] at r1
  obtain ⟨_, g2⟩ := hf 2 3 2 rfl
  have q2 : Try.prog.cellsOf 3 = 1 := by kernel_rfl
  rw [q2] at g2
  have e2 : List.take 1 (List.drop 2 [c0, c1, c2, c3, c4]) = [c2] := rfl
  rw [e2] at g2
  obtain ⟨v2, r2, k2⟩ := read_int Try.underlying3 g2
  simp only [List.cons.injEq, and_true] at r2
  obtain ⟨_, g3⟩ := hf 3 3 3 rfl
  have q3 : Try.prog.cellsOf 3 = 1 := by kernel_rfl
  rw [q3] at g3
  have e3 : List.take 1 (List.drop 3 [c0, c1, c2, c3, c4]) = [c3] := rfl
  rw [e3] at g3
  obtain ⟨v3, r3, k3⟩ := read_int Try.underlying3 g3
  simp only [List.cons.injEq, and_true] at r3
  obtain ⟨_, g4⟩ := hf 4 3 4 rfl
  have q4 : Try.prog.cellsOf 3 = 1 := by kernel_rfl
  rw [q4] at g4
  have e4 : List.take 1 (List.drop 4 [c0, c1, c2, c3, c4]) = [c4] := rfl
  rw [e4] at g4
  obtain ⟨v4, r4, k4⟩ := read_int Try.underlying3 g4
  simp only [List.cons.injEq, and_true] at r4
  subst r0
  subst r1
  subst r2
  subst r3
  subst r4
  exact ⟨⟨v0, v1, v2, v3, v4⟩, rfl, k0, k1, k2, k3, k4⟩

set_option maxRecDepth 100000 in
theorem open_Flow {H : Type} {enc : TypeId × Value → H} {w : World} {base b0 : Nat} {spare : Nat → Bool} {held : Bool} {r : Reach} {x : Value} {d : DataW H} {p : List MemPlace} (hv : Value.okWide Try.prog w r b0 38 x) (h : DataW.Trod enc Try.prog w base spare held 38 x d p) : ∃ v : Fl, x = .agg #[.int .i64 v.k, .int .i64 v.s, .int .i64 v.d, .int .i64 v.p, .int .i64 v.q] ∧ v.ok := by
  obtain ⟨cs, rfl, _⟩ := okWide_struct Try.underlying38 hv
  obtain ⟨fuel, hf⟩ := h
  obtain ⟨v, h1, h2⟩ := read_Flow (by simpa [Value.cells] using hf)
  exact ⟨v, by rw [← h1], h2⟩

/-- The ranges of the fields. -/
def Sg.ok (v : Sg) : Prop := I64 v.kd ∧ I64 v.sp ∧ I64 v.dp ∧ I64 v.sq ∧ I64 v.ak ∧ I64 v.fl ∧ I64 v.wn ∧ v.bd.size ≤ maxLen

theorem read_Segment {H : Type} {enc : TypeId × Value → H} {w : World} {base : Nat} {spare : Nat → Bool} {held : Bool} {fuel : Nat} {cs : List Value} {x} (h : DataW.trod enc Try.prog w base spare held fuel 46 cs = some x) : ∃ v : Sg, cs = [.int .i64 v.kd, .int .i64 v.sp, .int .i64 v.dp, .int .i64 v.sq, .int .i64 v.ak, .int .i64 v.fl, .int .i64 v.wn, .string v.bd] ∧ v.ok := by
  obtain ⟨hl, m, hf⟩ := read_field Try.underlying46 h
  have hl : cs.length = 8 := hl.trans (by kernel_rfl)
  obtain ⟨c0, c1, c2, c3, c4, c5, c6, c7, rfl⟩ := split8 hl
  obtain ⟨_, g0⟩ := hf 0 3 0 rfl
  have q0 : Try.prog.cellsOf 3 = 1 := by kernel_rfl
  rw [q0] at g0
  have e0 : List.take 1 (List.drop 0 [c0, c1, c2, c3, c4, c5, c6, c7]) = [c0] := rfl
  rw [e0] at g0
  obtain ⟨v0, r0, k0⟩ := read_int Try.underlying3 g0
  simp only [List.cons.injEq, and_true] at r0
  obtain ⟨_, g1⟩ := hf 1 3 1 rfl
  have q1 : Try.prog.cellsOf 3 = 1 := by kernel_rfl
  rw [q1] at g1
  have e1 : List.take 1 (List.drop 1 [c0, c1, c2, c3, c4, c5, c6, c7]) = [c1] := rfl
  rw [e1] at g1
  obtain ⟨v1, r1, k1⟩ := read_int Try.underlying3 g1
  simp only [List.cons.injEq, and_true] at r1
  obtain ⟨_, g2⟩ := hf 2 3 2 rfl
  have q2 : Try.prog.cellsOf 3 = 1 := by kernel_rfl
  rw [q2] at g2
  have e2 : List.take 1 (List.drop 2 [c0, c1, c2, c3, c4, c5, c6, c7]) = [c2] := rfl
  rw [e2] at g2
  obtain ⟨v2, r2, k2⟩ := read_int Try.underlying3 g2
  simp only [List.cons.injEq, and_true] at r2
  obtain ⟨_, g3⟩ := hf 3 3 3 rfl
  have q3 : Try.prog.cellsOf 3 = 1 := by kernel_rfl
  rw [q3] at g3
  have e3 : List.take 1 (List.drop 3 [c0, c1, c2, c3, c4, c5, c6, c7]) = [c3] := rfl
  rw [e3] at g3
  obtain ⟨v3, r3, k3⟩ := read_int Try.underlying3 g3
  simp only [List.cons.injEq, and_true] at r3
  obtain ⟨_, g4⟩ := hf 4 3 4 rfl
  have q4 : Try.prog.cellsOf 3 = 1 := by kernel_rfl
  rw [q4] at g4
  have e4 : List.take 1 (List.drop 4 [c0, c1, c2, c3, c4, c5, c6, c7]) = [c4] := rfl
  rw [e4] at g4
  obtain ⟨v4, r4, k4⟩ := read_int Try.underlying3 g4
  simp only [List.cons.injEq, and_true] at r4
  obtain ⟨_, g5⟩ := hf 5 3 5 rfl
  have q5 : Try.prog.cellsOf 3 = 1 := by kernel_rfl
  rw [q5] at g5
  have e5 : List.take 1 (List.drop 5 [c0, c1, c2, c3, c4, c5, c6, c7]) = [c5] := rfl
  rw [e5] at g5
  obtain ⟨v5, r5, k5⟩ := read_int Try.underlying3 g5
  simp only [List.cons.injEq, and_true] at r5
  obtain ⟨_, g6⟩ := hf 6 3 6 rfl
  have q6 : Try.prog.cellsOf 3 = 1 := by kernel_rfl
  rw [q6] at g6
  have e6 : List.take 1 (List.drop 6 [c0, c1, c2, c3, c4, c5, c6, c7]) = [c6] := rfl
  rw [e6] at g6
  obtain ⟨v6, r6, k6⟩ := read_int Try.underlying3 g6
  simp only [List.cons.injEq, and_true] at r6
  obtain ⟨_, g7⟩ := hf 7 9 7 rfl
  have q7 : Try.prog.cellsOf 9 = 1 := by kernel_rfl
  rw [q7] at g7
  have e7 : List.take 1 (List.drop 7 [c0, c1, c2, c3, c4, c5, c6, c7]) = [c7] := rfl
  rw [e7] at g7
  obtain ⟨v7, r7, k7⟩ := read_str Try.underlying9 g7
  simp only [List.cons.injEq, and_true] at r7
  subst r0
  subst r1
  subst r2
  subst r3
  subst r4
  subst r5
  subst r6
  subst r7
  exact ⟨⟨v0, v1, v2, v3, v4, v5, v6, v7⟩, rfl, k0, k1, k2, k3, k4, k5, k6, k7⟩

set_option maxRecDepth 100000 in
theorem open_Segment {H : Type} {enc : TypeId × Value → H} {w : World} {base b0 : Nat} {spare : Nat → Bool} {held : Bool} {r : Reach} {x : Value} {d : DataW H} {p : List MemPlace} (hv : Value.okWide Try.prog w r b0 46 x) (h : DataW.Trod enc Try.prog w base spare held 46 x d p) : ∃ v : Sg, x = .agg #[.int .i64 v.kd, .int .i64 v.sp, .int .i64 v.dp, .int .i64 v.sq, .int .i64 v.ak, .int .i64 v.fl, .int .i64 v.wn, .string v.bd] ∧ v.ok := by
  obtain ⟨cs, rfl, _⟩ := okWide_struct Try.underlying46 hv
  obtain ⟨fuel, hf⟩ := h
  obtain ⟨v, h1, h2⟩ := read_Segment (by simpa [Value.cells] using hf)
  exact ⟨v, by rw [← h1], h2⟩

/-- The ranges of the fields. -/
def Pk.ok (v : Pk) : Prop := I64 v.dm ∧ I64 v.sm ∧ I64 v.vl ∧ I64 v.ts ∧ I64 v.id ∧ I64 v.tt ∧ I64 v.si ∧ I64 v.di ∧ I64 v.g.kd ∧ I64 v.g.sp ∧ I64 v.g.dp ∧ I64 v.g.sq ∧ I64 v.g.ak ∧ I64 v.g.fl ∧ I64 v.g.wn ∧ v.g.bd.size ≤ maxLen

theorem read_Packet {H : Type} {enc : TypeId × Value → H} {w : World} {base : Nat} {spare : Nat → Bool} {held : Bool} {fuel : Nat} {cs : List Value} {x} (h : DataW.trod enc Try.prog w base spare held fuel 48 cs = some x) : ∃ v : Pk, cs = [.int .i64 v.dm, .int .i64 v.sm, .int .i64 v.vl, .int .i64 v.ts, .int .i64 v.id, .int .i64 v.tt, .int .i64 v.si, .int .i64 v.di, .int .i64 v.g.kd, .int .i64 v.g.sp, .int .i64 v.g.dp, .int .i64 v.g.sq, .int .i64 v.g.ak, .int .i64 v.g.fl, .int .i64 v.g.wn, .string v.g.bd] ∧ v.ok := by
  obtain ⟨hl, m, hf⟩ := read_field Try.underlying48 h
  have hl : cs.length = 16 := hl.trans (by kernel_rfl)
  obtain ⟨c0, c1, c2, c3, c4, c5, c6, c7, c8, c9, c10, c11, c12, c13, c14, c15, rfl⟩ := split16 hl
  obtain ⟨_, g0⟩ := hf 0 3 0 rfl
  have q0 : Try.prog.cellsOf 3 = 1 := by kernel_rfl
  rw [q0] at g0
  have e0 : List.take 1 (List.drop 0 [c0, c1, c2, c3, c4, c5, c6, c7, c8, c9, c10, c11, c12, c13, c14, c15]) = [c0] := rfl
  rw [e0] at g0
  obtain ⟨v0, r0, k0⟩ := read_int Try.underlying3 g0
  simp only [List.cons.injEq, and_true] at r0
  obtain ⟨_, g1⟩ := hf 1 3 1 rfl
  have q1 : Try.prog.cellsOf 3 = 1 := by kernel_rfl
  rw [q1] at g1
  have e1 : List.take 1 (List.drop 1 [c0, c1, c2, c3, c4, c5, c6, c7, c8, c9, c10, c11, c12, c13, c14, c15]) = [c1] := rfl
  rw [e1] at g1
  obtain ⟨v1, r1, k1⟩ := read_int Try.underlying3 g1
  simp only [List.cons.injEq, and_true] at r1
  obtain ⟨_, g2⟩ := hf 2 3 2 rfl
  have q2 : Try.prog.cellsOf 3 = 1 := by kernel_rfl
  rw [q2] at g2
  have e2 : List.take 1 (List.drop 2 [c0, c1, c2, c3, c4, c5, c6, c7, c8, c9, c10, c11, c12, c13, c14, c15]) = [c2] := rfl
  rw [e2] at g2
  obtain ⟨v2, r2, k2⟩ := read_int Try.underlying3 g2
  simp only [List.cons.injEq, and_true] at r2
  obtain ⟨_, g3⟩ := hf 3 3 3 rfl
  have q3 : Try.prog.cellsOf 3 = 1 := by kernel_rfl
  rw [q3] at g3
  have e3 : List.take 1 (List.drop 3 [c0, c1, c2, c3, c4, c5, c6, c7, c8, c9, c10, c11, c12, c13, c14, c15]) = [c3] := rfl
  rw [e3] at g3
  obtain ⟨v3, r3, k3⟩ := read_int Try.underlying3 g3
  simp only [List.cons.injEq, and_true] at r3
  obtain ⟨_, g4⟩ := hf 4 3 4 rfl
  have q4 : Try.prog.cellsOf 3 = 1 := by kernel_rfl
  rw [q4] at g4
  have e4 : List.take 1 (List.drop 4 [c0, c1, c2, c3, c4, c5, c6, c7, c8, c9, c10, c11, c12, c13, c14, c15]) = [c4] := rfl
  rw [e4] at g4
  obtain ⟨v4, r4, k4⟩ := read_int Try.underlying3 g4
  simp only [List.cons.injEq, and_true] at r4
  obtain ⟨_, g5⟩ := hf 5 3 5 rfl
  have q5 : Try.prog.cellsOf 3 = 1 := by kernel_rfl
  rw [q5] at g5
  have e5 : List.take 1 (List.drop 5 [c0, c1, c2, c3, c4, c5, c6, c7, c8, c9, c10, c11, c12, c13, c14, c15]) = [c5] := rfl
  rw [e5] at g5
  obtain ⟨v5, r5, k5⟩ := read_int Try.underlying3 g5
  simp only [List.cons.injEq, and_true] at r5
  obtain ⟨_, g6⟩ := hf 6 3 6 rfl
  have q6 : Try.prog.cellsOf 3 = 1 := by kernel_rfl
  rw [q6] at g6
  have e6 : List.take 1 (List.drop 6 [c0, c1, c2, c3, c4, c5, c6, c7, c8, c9, c10, c11, c12, c13, c14, c15]) = [c6] := rfl
  rw [e6] at g6
  obtain ⟨v6, r6, k6⟩ := read_int Try.underlying3 g6
  simp only [List.cons.injEq, and_true] at r6
  obtain ⟨_, g7⟩ := hf 7 3 7 rfl
  have q7 : Try.prog.cellsOf 3 = 1 := by kernel_rfl
  rw [q7] at g7
  have e7 : List.take 1 (List.drop 7 [c0, c1, c2, c3, c4, c5, c6, c7, c8, c9, c10, c11, c12, c13, c14, c15]) = [c7] := rfl
  rw [e7] at g7
  obtain ⟨v7, r7, k7⟩ := read_int Try.underlying3 g7
  simp only [List.cons.injEq, and_true] at r7
  obtain ⟨_, g8⟩ := hf 8 46 8 rfl
  have q8 : Try.prog.cellsOf 46 = 8 := by kernel_rfl
  rw [q8] at g8
  have e8 : List.take 8 (List.drop 8 [c0, c1, c2, c3, c4, c5, c6, c7, c8, c9, c10, c11, c12, c13, c14, c15]) = [c8, c9, c10, c11, c12, c13, c14, c15] := rfl
  rw [e8] at g8
  obtain ⟨v8, r8, k8⟩ := read_Segment g8
  simp only [List.cons.injEq, and_true] at r8
  subst r0
  subst r1
  subst r2
  subst r3
  subst r4
  subst r5
  subst r6
  subst r7
  obtain ⟨rfl, rfl, rfl, rfl, rfl, rfl, rfl, rfl⟩ := r8
  exact ⟨⟨v0, v1, v2, v3, v4, v5, v6, v7, v8⟩, rfl, k0, k1, k2, k3, k4, k5, k6, k7, k8.1, k8.2.1, k8.2.2.1, k8.2.2.2.1, k8.2.2.2.2.1, k8.2.2.2.2.2.1, k8.2.2.2.2.2.2.1, k8.2.2.2.2.2.2.2⟩

set_option maxRecDepth 100000 in
theorem open_Packet {H : Type} {enc : TypeId × Value → H} {w : World} {base b0 : Nat} {spare : Nat → Bool} {held : Bool} {r : Reach} {x : Value} {d : DataW H} {p : List MemPlace} (hv : Value.okWide Try.prog w r b0 48 x) (h : DataW.Trod enc Try.prog w base spare held 48 x d p) : ∃ v : Pk, x = .agg #[.int .i64 v.dm, .int .i64 v.sm, .int .i64 v.vl, .int .i64 v.ts, .int .i64 v.id, .int .i64 v.tt, .int .i64 v.si, .int .i64 v.di, .int .i64 v.g.kd, .int .i64 v.g.sp, .int .i64 v.g.dp, .int .i64 v.g.sq, .int .i64 v.g.ak, .int .i64 v.g.fl, .int .i64 v.g.wn, .string v.g.bd] ∧ v.ok := by
  obtain ⟨cs, rfl, _⟩ := okWide_struct Try.underlying48 hv
  obtain ⟨fuel, hf⟩ := h
  obtain ⟨v, h1, h2⟩ := read_Packet (by simpa [Value.cells] using hf)
  exact ⟨v, by rw [← h1], h2⟩

/-- The ranges of the fields. -/
def Su.ok (v : Su) : Prop := I64 v.p.dm ∧ I64 v.p.sm ∧ I64 v.p.vl ∧ I64 v.p.ts ∧ I64 v.p.id ∧ I64 v.p.tt ∧ I64 v.p.si ∧ I64 v.p.di ∧ I64 v.p.g.kd ∧ I64 v.p.g.sp ∧ I64 v.p.g.dp ∧ I64 v.p.g.sq ∧ I64 v.p.g.ak ∧ I64 v.p.g.fl ∧ I64 v.p.g.wn ∧ v.p.g.bd.size ≤ maxLen ∧ I64 v.sz ∧ I64 v.ct

theorem read_Super {H : Type} {enc : TypeId × Value → H} {w : World} {base : Nat} {spare : Nat → Bool} {held : Bool} {fuel : Nat} {cs : List Value} {x} (h : DataW.trod enc Try.prog w base spare held fuel 63 cs = some x) : ∃ v : Su, cs = [.int .i64 v.p.dm, .int .i64 v.p.sm, .int .i64 v.p.vl, .int .i64 v.p.ts, .int .i64 v.p.id, .int .i64 v.p.tt, .int .i64 v.p.si, .int .i64 v.p.di, .int .i64 v.p.g.kd, .int .i64 v.p.g.sp, .int .i64 v.p.g.dp, .int .i64 v.p.g.sq, .int .i64 v.p.g.ak, .int .i64 v.p.g.fl, .int .i64 v.p.g.wn, .string v.p.g.bd, .int .i64 v.sz, .int .i64 v.ct] ∧ v.ok := by
  obtain ⟨hl, m, hf⟩ := read_field Try.underlying63 h
  have hl : cs.length = 18 := hl.trans (by kernel_rfl)
  obtain ⟨c0, c1, c2, c3, c4, c5, c6, c7, c8, c9, c10, c11, c12, c13, c14, c15, c16, c17, rfl⟩ := split18 hl
  obtain ⟨_, g0⟩ := hf 0 48 0 rfl
  have q0 : Try.prog.cellsOf 48 = 16 := by kernel_rfl
  rw [q0] at g0
  have e0 : List.take 16 (List.drop 0 [c0, c1, c2, c3, c4, c5, c6, c7, c8, c9, c10, c11, c12, c13, c14, c15, c16, c17]) = [c0, c1, c2, c3, c4, c5, c6, c7, c8, c9, c10, c11, c12, c13, c14, c15] := rfl
  rw [e0] at g0
  obtain ⟨v0, r0, k0⟩ := read_Packet g0
  simp only [List.cons.injEq, and_true] at r0
  obtain ⟨_, g1⟩ := hf 1 3 16 rfl
  have q1 : Try.prog.cellsOf 3 = 1 := by kernel_rfl
  rw [q1] at g1
  have e1 : List.take 1 (List.drop 16 [c0, c1, c2, c3, c4, c5, c6, c7, c8, c9, c10, c11, c12, c13, c14, c15, c16, c17]) = [c16] := rfl
  rw [e1] at g1
  obtain ⟨v1, r1, k1⟩ := read_int Try.underlying3 g1
  simp only [List.cons.injEq, and_true] at r1
  obtain ⟨_, g2⟩ := hf 2 3 17 rfl
  have q2 : Try.prog.cellsOf 3 = 1 := by kernel_rfl
  rw [q2] at g2
  have e2 : List.take 1 (List.drop 17 [c0, c1, c2, c3, c4, c5, c6, c7, c8, c9, c10, c11, c12, c13, c14, c15, c16, c17]) = [c17] := rfl
  rw [e2] at g2
  obtain ⟨v2, r2, k2⟩ := read_int Try.underlying3 g2
  simp only [List.cons.injEq, and_true] at r2
  obtain ⟨rfl, rfl, rfl, rfl, rfl, rfl, rfl, rfl, rfl, rfl, rfl, rfl, rfl, rfl, rfl, rfl⟩ := r0
  subst r1
  subst r2
  exact ⟨⟨v0, v1, v2⟩, rfl, k0.1, k0.2.1, k0.2.2.1, k0.2.2.2.1, k0.2.2.2.2.1, k0.2.2.2.2.2.1, k0.2.2.2.2.2.2.1, k0.2.2.2.2.2.2.2.1, k0.2.2.2.2.2.2.2.2.1, k0.2.2.2.2.2.2.2.2.2.1, k0.2.2.2.2.2.2.2.2.2.2.1, k0.2.2.2.2.2.2.2.2.2.2.2.1, k0.2.2.2.2.2.2.2.2.2.2.2.2.1, k0.2.2.2.2.2.2.2.2.2.2.2.2.2.1, k0.2.2.2.2.2.2.2.2.2.2.2.2.2.2.1, k0.2.2.2.2.2.2.2.2.2.2.2.2.2.2.2, k1, k2⟩

set_option maxRecDepth 100000 in
theorem open_Super {H : Type} {enc : TypeId × Value → H} {w : World} {base b0 : Nat} {spare : Nat → Bool} {held : Bool} {r : Reach} {x : Value} {d : DataW H} {p : List MemPlace} (hv : Value.okWide Try.prog w r b0 63 x) (h : DataW.Trod enc Try.prog w base spare held 63 x d p) : ∃ v : Su, x = .agg #[.int .i64 v.p.dm, .int .i64 v.p.sm, .int .i64 v.p.vl, .int .i64 v.p.ts, .int .i64 v.p.id, .int .i64 v.p.tt, .int .i64 v.p.si, .int .i64 v.p.di, .int .i64 v.p.g.kd, .int .i64 v.p.g.sp, .int .i64 v.p.g.dp, .int .i64 v.p.g.sq, .int .i64 v.p.g.ak, .int .i64 v.p.g.fl, .int .i64 v.p.g.wn, .string v.p.g.bd, .int .i64 v.sz, .int .i64 v.ct] ∧ v.ok := by
  obtain ⟨cs, rfl, _⟩ := okWide_struct Try.underlying63 hv
  obtain ⟨fuel, hf⟩ := h
  obtain ⟨v, h1, h2⟩ := read_Super (by simpa [Value.cells] using hf)
  exact ⟨v, by rw [← h1], h2⟩

/-- The ranges of the fields. -/
def Sm.ok (v : Sm) : Prop := I64 v.f.k ∧ I64 v.f.s ∧ I64 v.f.d ∧ I64 v.f.p ∧ I64 v.f.q ∧ I64 v.nx ∧ v.dt.size ≤ maxLen

theorem read_Stream {H : Type} {enc : TypeId × Value → H} {w : World} {base : Nat} {spare : Nat → Bool} {held : Bool} {fuel : Nat} {cs : List Value} {x} (h : DataW.trod enc Try.prog w base spare held fuel 106 cs = some x) : ∃ v : Sm, cs = [.int .i64 v.f.k, .int .i64 v.f.s, .int .i64 v.f.d, .int .i64 v.f.p, .int .i64 v.f.q, .int .i64 v.nx, .string v.dt, .bool v.dn] ∧ v.ok := by
  obtain ⟨hl, m, hf⟩ := read_field Try.underlying106 h
  have hl : cs.length = 8 := hl.trans (by kernel_rfl)
  obtain ⟨c0, c1, c2, c3, c4, c5, c6, c7, rfl⟩ := split8 hl
  obtain ⟨_, g0⟩ := hf 0 38 0 rfl
  have q0 : Try.prog.cellsOf 38 = 5 := by kernel_rfl
  rw [q0] at g0
  have e0 : List.take 5 (List.drop 0 [c0, c1, c2, c3, c4, c5, c6, c7]) = [c0, c1, c2, c3, c4] := rfl
  rw [e0] at g0
  obtain ⟨v0, r0, k0⟩ := read_Flow g0
  simp only [List.cons.injEq, and_true] at r0
  obtain ⟨_, g1⟩ := hf 1 3 5 rfl
  have q1 : Try.prog.cellsOf 3 = 1 := by kernel_rfl
  rw [q1] at g1
  have e1 : List.take 1 (List.drop 5 [c0, c1, c2, c3, c4, c5, c6, c7]) = [c5] := rfl
  rw [e1] at g1
  obtain ⟨v1, r1, k1⟩ := read_int Try.underlying3 g1
  simp only [List.cons.injEq, and_true] at r1
  obtain ⟨_, g2⟩ := hf 2 9 6 rfl
  have q2 : Try.prog.cellsOf 9 = 1 := by kernel_rfl
  rw [q2] at g2
  have e2 : List.take 1 (List.drop 6 [c0, c1, c2, c3, c4, c5, c6, c7]) = [c6] := rfl
  rw [e2] at g2
  obtain ⟨v2, r2, k2⟩ := read_str Try.underlying9 g2
  simp only [List.cons.injEq, and_true] at r2
  obtain ⟨_, g3⟩ := hf 3 4 7 rfl
  have q3 : Try.prog.cellsOf 4 = 1 := by kernel_rfl
  rw [q3] at g3
  have e3 : List.take 1 (List.drop 7 [c0, c1, c2, c3, c4, c5, c6, c7]) = [c7] := rfl
  rw [e3] at g3
  obtain ⟨v3, r3⟩ := read_bool Try.underlying4 g3
  simp only [List.cons.injEq, and_true] at r3
  obtain ⟨rfl, rfl, rfl, rfl, rfl⟩ := r0
  subst r1
  subst r2
  subst r3
  exact ⟨⟨v0, v1, v2, v3⟩, rfl, k0.1, k0.2.1, k0.2.2.1, k0.2.2.2.1, k0.2.2.2.2, k1, k2⟩

set_option maxRecDepth 100000 in
theorem open_Stream {H : Type} {enc : TypeId × Value → H} {w : World} {base b0 : Nat} {spare : Nat → Bool} {held : Bool} {r : Reach} {x : Value} {d : DataW H} {p : List MemPlace} (hv : Value.okWide Try.prog w r b0 106 x) (h : DataW.Trod enc Try.prog w base spare held 106 x d p) : ∃ v : Sm, x = .agg #[.int .i64 v.f.k, .int .i64 v.f.s, .int .i64 v.f.d, .int .i64 v.f.p, .int .i64 v.f.q, .int .i64 v.nx, .string v.dt, .bool v.dn] ∧ v.ok := by
  obtain ⟨cs, rfl, _⟩ := okWide_struct Try.underlying106 hv
  obtain ⟨fuel, hf⟩ := h
  obtain ⟨v, h1, h2⟩ := read_Stream (by simpa [Value.cells] using hf)
  exact ⟨v, by rw [← h1], h2⟩

theorem iv_flat (l : List Int) : (l.flatMap fun v => [Value.int .i64 v]) = iv l := by
  induction l with
  | nil => rfl
  | cons x l ih => rw [List.flatMap_cons, ih]; rfl

instance : Inhabited Fl := ⟨⟨0, 0, 0, 0, 0⟩⟩
instance : Inhabited Sl := ⟨⟨0, default, 0⟩⟩
instance : Inhabited Ru := ⟨⟨0, 0, 0, 0, 0, 0, 0, 0, 0⟩⟩
instance : Inhabited Sg := ⟨⟨0, 0, 0, 0, 0, 0, 0, ⟨#[]⟩⟩⟩
instance : Inhabited Pk := ⟨⟨0, 0, 0, 0, 0, 0, 0, 0, default⟩⟩
instance : Inhabited Su := ⟨⟨default, 0, 0⟩⟩
instance : Inhabited Sm := ⟨⟨default, 0, ⟨#[]⟩, false⟩⟩
theorem read_Sint {H : Type} {enc : TypeId × Value → H} {w : World} {base : Nat} {spare : Nat → Bool} {held : Bool} {fuel : Nat} {x} {v : Value} (h : DataW.trod enc Try.prog w base spare held fuel 123 [v] = some x) : ∃ a c, ∃ l : List Int, v = .slice a l.length c ∧ (l.length ≤ c ∧ l.length ≤ maxLen) ∧ Rd w a (iv l) ∧ ∀ v ∈ l, I64 v := by
  obtain ⟨a, c, l, rfl, h1, h2, h3, h4⟩ := read_slice (fun n : Int => [Value.int .i64 n]) 1 I64 Try.underlying123 (by kernel_rfl) (fun _ => rfl) (fun h => read_int Try.underlying3 h) h
  exact ⟨a, c, l, rfl, ⟨h1, Nat.le_trans h1 h2⟩, by rw [← iv_flat]; exact h3, h4⟩

theorem read_SPacket {H : Type} {enc : TypeId × Value → H} {w : World} {base : Nat} {spare : Nat → Bool} {held : Bool} {fuel : Nat} {x} {v : Value} (h : DataW.trod enc Try.prog w base spare held fuel 91 [v] = some x) : ∃ a c, ∃ l : List Pk, v = .slice a l.length c ∧ (l.length ≤ c ∧ l.length ≤ maxLen) ∧ Rd w a (l.flatMap fun v => [.int .i64 v.dm, .int .i64 v.sm, .int .i64 v.vl, .int .i64 v.ts, .int .i64 v.id, .int .i64 v.tt, .int .i64 v.si, .int .i64 v.di, .int .i64 v.g.kd, .int .i64 v.g.sp, .int .i64 v.g.dp, .int .i64 v.g.sq, .int .i64 v.g.ak, .int .i64 v.g.fl, .int .i64 v.g.wn, .string v.g.bd]) ∧ ∀ v ∈ l, v.ok := by
  obtain ⟨a, c, l, rfl, h1, h2, h3, h4⟩ := read_slice (fun v : Pk => [.int .i64 v.dm, .int .i64 v.sm, .int .i64 v.vl, .int .i64 v.ts, .int .i64 v.id, .int .i64 v.tt, .int .i64 v.si, .int .i64 v.di, .int .i64 v.g.kd, .int .i64 v.g.sp, .int .i64 v.g.dp, .int .i64 v.g.sq, .int .i64 v.g.ak, .int .i64 v.g.fl, .int .i64 v.g.wn, .string v.g.bd]) 16 Pk.ok Try.underlying91 (by kernel_rfl) (fun _ => rfl) (fun h => read_Packet h) h
  exact ⟨a, c, l, rfl, ⟨h1, Nat.le_trans h1 h2⟩, h3, h4⟩

set_option maxRecDepth 100000 in
theorem open_SPacket {H : Type} {enc : TypeId × Value → H} {w : World} {base b0 : Nat} {spare : Nat → Bool} {held : Bool} {r : Reach} {x : Value} {d : DataW H} {p : List MemPlace} (hv : Value.okWide Try.prog w r b0 91 x) (h : DataW.Trod enc Try.prog w base spare held 91 x d p) : ∃ a c, ∃ l : List Pk, x = .slice a l.length c ∧ (l.length ≤ c ∧ l.length ≤ maxLen) ∧ Rd w a (l.flatMap fun v => [.int .i64 v.dm, .int .i64 v.sm, .int .i64 v.vl, .int .i64 v.ts, .int .i64 v.id, .int .i64 v.tt, .int .i64 v.si, .int .i64 v.di, .int .i64 v.g.kd, .int .i64 v.g.sp, .int .i64 v.g.dp, .int .i64 v.g.sq, .int .i64 v.g.ak, .int .i64 v.g.fl, .int .i64 v.g.wn, .string v.g.bd]) ∧ ∀ v ∈ l, v.ok := by
  obtain ⟨a, n, c, rfl⟩ := okWide_slice Try.underlying91 hv
  obtain ⟨fuel, hf⟩ := h
  exact read_SPacket (by simpa [Value.cells] using hf)

theorem read_SSuper {H : Type} {enc : TypeId × Value → H} {w : World} {base : Nat} {spare : Nat → Bool} {held : Bool} {fuel : Nat} {x} {v : Value} (h : DataW.trod enc Try.prog w base spare held fuel 86 [v] = some x) : ∃ a c, ∃ l : List Su, v = .slice a l.length c ∧ (l.length ≤ c ∧ l.length ≤ maxLen) ∧ Rd w a (l.flatMap fun v => [.int .i64 v.p.dm, .int .i64 v.p.sm, .int .i64 v.p.vl, .int .i64 v.p.ts, .int .i64 v.p.id, .int .i64 v.p.tt, .int .i64 v.p.si, .int .i64 v.p.di, .int .i64 v.p.g.kd, .int .i64 v.p.g.sp, .int .i64 v.p.g.dp, .int .i64 v.p.g.sq, .int .i64 v.p.g.ak, .int .i64 v.p.g.fl, .int .i64 v.p.g.wn, .string v.p.g.bd, .int .i64 v.sz, .int .i64 v.ct]) ∧ ∀ v ∈ l, v.ok := by
  obtain ⟨a, c, l, rfl, h1, h2, h3, h4⟩ := read_slice (fun v : Su => [.int .i64 v.p.dm, .int .i64 v.p.sm, .int .i64 v.p.vl, .int .i64 v.p.ts, .int .i64 v.p.id, .int .i64 v.p.tt, .int .i64 v.p.si, .int .i64 v.p.di, .int .i64 v.p.g.kd, .int .i64 v.p.g.sp, .int .i64 v.p.g.dp, .int .i64 v.p.g.sq, .int .i64 v.p.g.ak, .int .i64 v.p.g.fl, .int .i64 v.p.g.wn, .string v.p.g.bd, .int .i64 v.sz, .int .i64 v.ct]) 18 Su.ok Try.underlying86 (by kernel_rfl) (fun _ => rfl) (fun h => read_Super h) h
  exact ⟨a, c, l, rfl, ⟨h1, Nat.le_trans h1 h2⟩, h3, h4⟩

set_option maxRecDepth 100000 in
theorem open_SSuper {H : Type} {enc : TypeId × Value → H} {w : World} {base b0 : Nat} {spare : Nat → Bool} {held : Bool} {r : Reach} {x : Value} {d : DataW H} {p : List MemPlace} (hv : Value.okWide Try.prog w r b0 86 x) (h : DataW.Trod enc Try.prog w base spare held 86 x d p) : ∃ a c, ∃ l : List Su, x = .slice a l.length c ∧ (l.length ≤ c ∧ l.length ≤ maxLen) ∧ Rd w a (l.flatMap fun v => [.int .i64 v.p.dm, .int .i64 v.p.sm, .int .i64 v.p.vl, .int .i64 v.p.ts, .int .i64 v.p.id, .int .i64 v.p.tt, .int .i64 v.p.si, .int .i64 v.p.di, .int .i64 v.p.g.kd, .int .i64 v.p.g.sp, .int .i64 v.p.g.dp, .int .i64 v.p.g.sq, .int .i64 v.p.g.ak, .int .i64 v.p.g.fl, .int .i64 v.p.g.wn, .string v.p.g.bd, .int .i64 v.sz, .int .i64 v.ct]) ∧ ∀ v ∈ l, v.ok := by
  obtain ⟨a, n, c, rfl⟩ := okWide_slice Try.underlying86 hv
  obtain ⟨fuel, hf⟩ := h
  exact read_SSuper (by simpa [Value.cells] using hf)

theorem read_SStream {H : Type} {enc : TypeId × Value → H} {w : World} {base : Nat} {spare : Nat → Bool} {held : Bool} {fuel : Nat} {x} {v : Value} (h : DataW.trod enc Try.prog w base spare held fuel 36 [v] = some x) : ∃ a c, ∃ l : List Sm, v = .slice a l.length c ∧ (l.length ≤ c ∧ l.length ≤ maxLen) ∧ Rd w a (l.flatMap fun v => [.int .i64 v.f.k, .int .i64 v.f.s, .int .i64 v.f.d, .int .i64 v.f.p, .int .i64 v.f.q, .int .i64 v.nx, .string v.dt, .bool v.dn]) ∧ ∀ v ∈ l, v.ok := by
  obtain ⟨a, c, l, rfl, h1, h2, h3, h4⟩ := read_slice (fun v : Sm => [.int .i64 v.f.k, .int .i64 v.f.s, .int .i64 v.f.d, .int .i64 v.f.p, .int .i64 v.f.q, .int .i64 v.nx, .string v.dt, .bool v.dn]) 8 Sm.ok Try.underlying36 (by kernel_rfl) (fun _ => rfl) (fun h => read_Stream h) h
  exact ⟨a, c, l, rfl, ⟨h1, Nat.le_trans h1 h2⟩, h3, h4⟩

set_option maxRecDepth 100000 in
theorem open_SStream {H : Type} {enc : TypeId × Value → H} {w : World} {base b0 : Nat} {spare : Nat → Bool} {held : Bool} {r : Reach} {x : Value} {d : DataW H} {p : List MemPlace} (hv : Value.okWide Try.prog w r b0 36 x) (h : DataW.Trod enc Try.prog w base spare held 36 x d p) : ∃ a c, ∃ l : List Sm, x = .slice a l.length c ∧ (l.length ≤ c ∧ l.length ≤ maxLen) ∧ Rd w a (l.flatMap fun v => [.int .i64 v.f.k, .int .i64 v.f.s, .int .i64 v.f.d, .int .i64 v.f.p, .int .i64 v.f.q, .int .i64 v.nx, .string v.dt, .bool v.dn]) ∧ ∀ v ∈ l, v.ok := by
  obtain ⟨a, n, c, rfl⟩ := okWide_slice Try.underlying36 hv
  obtain ⟨fuel, hf⟩ := h
  exact read_SStream (by simpa [Value.cells] using hf)

set_option maxRecDepth 100000 in
theorem read_bytes {H : Type} {enc : TypeId × Value → H} {w : World} {base : Nat} {spare : Nat → Bool} {held : Bool} {fuel : Nat} {x} {v : Value} (h : DataW.trod enc Try.prog w base spare held fuel 22 [v] = some x) : ∃ a c, ∃ l : List UInt8, v = .slice a l.length c ∧ (l.length ≤ c ∧ l.length ≤ maxLen) ∧ Rd w a (l.flatMap fun v => [.int .u8 (v.toNat : Int)]) := by
  obtain ⟨a, c, l, rfl, h1, h2, h3, _⟩ := read_slice (fun v : UInt8 => [Value.int .u8 (v.toNat : Int)]) 1 (fun _ => True) Try.underlying22 (by kernel_rfl) (fun _ => rfl) (fun h => by
    obtain ⟨n, h1, _, h3⟩ := DataW.trod_int Try.underlying5 h
    simp [Lit.wf, IntKind.has, IntKind.min, IntKind.max, IntKind.bits, IntKind.signed] at h3
    refine ⟨UInt8.ofNat n.toNat, ?_, trivial⟩
    rw [h1]
    have : ((UInt8.ofNat n.toNat).toNat : Int) = n := by simp; omega
    rw [this]) h
  exact ⟨a, c, l, rfl, ⟨h1, Nat.le_trans h1 h2⟩, h3⟩

set_option maxRecDepth 100000 in
theorem open_bytes {H : Type} {enc : TypeId × Value → H} {w : World} {base b0 : Nat} {spare : Nat → Bool} {held : Bool} {r : Reach} {x : Value} {d : DataW H} {p : List MemPlace} (hv : Value.okWide Try.prog w r b0 22 x) (h : DataW.Trod enc Try.prog w base spare held 22 x d p) : ∃ a c, ∃ l : List UInt8, x = .slice a l.length c ∧ (l.length ≤ c ∧ l.length ≤ maxLen) ∧ Rd w a (l.flatMap fun v => [.int .u8 (v.toNat : Int)]) := by
  obtain ⟨a, n, c, rfl⟩ := okWide_slice Try.underlying22 hv
  obtain ⟨fuel, hf⟩ := h
  exact read_bytes (by simpa [Value.cells] using hf)

end Go.Proofs.Ytgkedbhpeafbbaa


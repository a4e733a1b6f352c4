/-
  Memory that a call makes for itself: a row of cells in one block, a slice that is appended to. Laws for the walk, over any program.
  Conditions: each law states its own.
-/
import Derived.Test.YtlhngkkablhpdaaBits
import Derived.Laws.IdiomStrings
set_option linter.unusedSimpArgs false
set_option linter.unusedVariables false
namespace Go.Proofs.Ytlhngkkablhpdaa
open Go.RowKit

/-! ### a row of cells in one block -/

/-- Block b begins with the cells xs; no cell of it is frozen. -/
def Row (w : World) (b : Nat) (xs : List Value) : Prop :=
  ∃ C e lo hi, w.heap[b]? = some (.cells C e (lo, hi)) ∧ (hi ≤ lo ∨ C.size ≤ lo) ∧ C.toList.take xs.length = xs

theorem Row.lt {w : World} {b : Nat} {xs : List Value} (h : Row w b xs) : b < w.heap.size := by
  obtain ⟨C, e, lo, hi, h1, _⟩ := h
  exact (Array.getElem?_eq_some_iff.1 h1).1

theorem take_le {xs : List Value} {C : Array Value} (h : C.toList.take xs.length = xs) : xs.length ≤ C.size := by
  have := congrArg List.length h
  simp at this; omega

theorem Row.cell {w : World} {b : Nat} {xs : List Value} (h : Row w b xs) (i : Nat) (hi : i < xs.length) : w.cell? ⟨b, i, none⟩ = some xs[i] := by
  obtain ⟨C, e, lo, hi', h1, _, h3⟩ := h
  have hle := take_le h3
  rw [cell_of_row w b i C e (lo, hi') h1]
  have h4 : (C.toList.take xs.length)[i]? = xs[i]? := by rw [h3]
  rw [List.getElem?_take_of_lt hi, List.getElem?_eq_getElem hi] at h4
  simpa using h4

theorem Row.free {w : World} {b : Nat} {xs : List Value} (h : Row w b xs) (i : Nat) (hi : i < xs.length) : w.frozen? ⟨b, i, none⟩ = false := by
  obtain ⟨C, e, lo, hi', h1, h2, h3⟩ := h
  have hle := take_le h3
  unfold World.frozen?
  simp only [h1]
  simp only [Bool.and_eq_false_imp, decide_eq_true_eq, decide_eq_false_iff_not]
  omega

theorem Row.of_block {w : World} {b : Nat} {C : Array Value} {e lo hi : Nat} (h : w.heap[b]? = some (.cells C e (lo, hi))) (hf : hi ≤ lo ∨ C.size ≤ lo) (n : Nat) (hn : n ≤ C.size) : Row w b (C.toList.take n) :=
  ⟨C, e, lo, hi, h, hf, by rw [List.length_take]; simp [Nat.min_eq_left hn]⟩

theorem Row.of_heap {w w' : World} {b : Nat} {xs : List Value} (h : Row w b xs) (he : w'.heap[b]? = w.heap[b]?) : Row w' b xs := by
  obtain ⟨C, e, lo, hi, h1, h2⟩ := h
  exact ⟨C, e, lo, hi, by rw [he]; exact h1, h2⟩

theorem Row.below {w w' : World} {b B : Nat} {xs : List Value} (h : Row w b xs) (hb : Below B w w') (hB : b < B) : Row w' b xs := h.of_heap (hb.block b hB)
theorem Row.later {w w' : World} {b : Nat} {xs : List Value} (h : Row w b xs) (hb : Below w.heap.size w w') : Row w' b xs := h.below hb h.lt
theorem Row.alloc {w : World} {b : Nat} {xs : List Value} (h : Row w b xs) (o : Obj) : Row (w.alloc o) b xs := h.of_heap (heap_alloc_old w o h.lt)
theorem Row.drew {w : World} {b : Nat} {xs : List Value} (h : Row w b xs) : Row w.drew b xs := h
theorem Row.grown {w w' : World} {b : Nat} {row : Option Nat} {xs : List Value} (h : Row w b xs) (hg : w.grownBy w' row) (hne : some b ≠ row) : Row w' b xs := h.of_heap (hg.block b h.lt hne)

theorem Row.set {w : World} {b : Nat} {xs : List Value} (h : Row w b xs) (i : Nat) (hi : i < xs.length) (v : Value) : Row (w.setCell ⟨b, i, none⟩ v) b (xs.set i v) := by
  obtain ⟨C, e, lo, hi', h1, h2, h3⟩ := h
  have hle := take_le h3
  refine ⟨C.setIfInBounds i v, e, lo, hi', ?_, by simpa using h2, ?_⟩
  · simp [World.setCell, Array.getElem?_modify, h1]
  · rw [List.length_set, Array.toList_setIfInBounds, List.take_set, h3]

theorem Row.other {w : World} {b : Nat} {xs : List Value} (h : Row w b xs) (a : Addr) (ha : a.block ≠ b) (v : Value) : Row (w.setCell a v) b xs :=
  h.of_heap (Below.heap_setCell w a v b (by omega))

/-- A row of bytes. -/
def bv (l : List UInt8) : List Value := l.map fun x => .int .u8 (x.toNat : Int)

theorem bv_length (l : List UInt8) : (bv l).length = l.length := by simp [bv]

theorem Row.bts {w : World} {b : Nat} {l : List UInt8} (h : Row w b (bv l)) : Bts w b l := fun i hi => by
  have := h.cell i (by rw [bv_length]; exact hi)
  rw [this]; simp [bv]

theorem Row.byte {w : World} {b : Nat} {l : List UInt8} (h : Row w b (bv l)) (i : Nat) (hi : i < l.length) : w.cell? ⟨b, i, none⟩ = some (.int .u8 (l[i].toNat : Int)) := h.bts i hi

/-- What '[]byte(s)' lays begins with the bytes of s. -/
theorem Row.of_string (w : World) (s : ByteArray) (cap e : Nat) : Row ((w.alloc (.cells (bytesRow s cap) e ((bytesRow s cap).size, (bytesRow s cap).size + 1))).drew) w.heap.size (bv s.data.toList) := by
  refine ⟨bytesRow s cap, e, _, _, heap_alloc_new w _, .inr (Nat.le_refl _), ?_⟩
  simp [bytesRow, bv, List.take_append_of_le_length]

/-! ### a slice that is appended to -/

/-- The element type's row of the table. -/
structure El (P : Program) (t e : TypeId) (size bytes : Nat) : Prop where
  ht : P.underlying t = some (.slice e)
  hi : ∃ i z, P.info? e = some i ∧ i.zero = some z ∧ i.size = size ∧ i.bytes = bytes ∧ z.cells.size = size
  pos : 0 < size

/-- The slice at block g owns the cells xs. -/
def Own (w : World) (B e size g n cap : Nat) (xs : List Value) : Prop := w.ownsRow B e size (.slice (some ⟨g, 0, none⟩) n cap) n xs

section
variable {w : World} {B e size g n cap : Nat} {xs : List Value}

theorem Own.block (h : Own w B e size g n cap xs) : B ≤ g ∧ n ≤ cap ∧ cap ≤ maxLen ∧ xs.length = n * size ∧ ∃ C, w.heap[g]? = some (.cells C e (0, 0)) ∧ C.size = cap * size ∧ C.toList.take (n * size) = xs := by
  obtain ⟨h1, h2 | ⟨g', cap', C, h2, h3, h4, h5, h6, h7, h8⟩⟩ := h
  · simp at h2
  · simp only [Value.slice.injEq, Option.some.injEq, Addr.mk.injEq, and_true, true_and] at h2
    obtain ⟨rfl, rfl⟩ := h2
    exact ⟨h3, h5, h6, h1, C, h4, h7, h8⟩

theorem Own.lt (h : Own w B e size g n cap xs) : B ≤ g ∧ g < w.heap.size := by
  obtain ⟨h1, _, _, _, C, h2, _⟩ := h.block
  exact ⟨h1, (Array.getElem?_eq_some_iff.1 h2).1⟩

theorem Own.row (h : Own w B e size g n cap xs) : Row w g xs := by
  obtain ⟨h1, h2, h3, h4, C, h5, h6, h7⟩ := h.block
  exact ⟨C, e, 0, 0, h5, .inl (Nat.le_refl _), by rw [h4]; exact h7⟩

theorem Own.mk' {C : Array Value} (hB : B ≤ g) (hn : n ≤ cap) (hc : cap ≤ maxLen) (hx : xs.length = n * size) (hb : w.heap[g]? = some (.cells C e (0, 0))) (hC : C.size = cap * size) (ht : C.toList.take (n * size) = xs) : Own w B e size g n cap xs :=
  ⟨hx, .inr ⟨g, cap, C, rfl, hB, hb, hn, hc, hC, ht⟩⟩

theorem Own.of_heap {w' : World} (h : Own w B e size g n cap xs) (he : w'.heap[g]? = w.heap[g]?) : Own w' B e size g n cap xs := by
  obtain ⟨h1, h2, h3, h4, C, h5, h6, h7⟩ := h.block
  exact Own.mk' h1 h2 h3 h4 (by rw [he]; exact h5) h6 h7

theorem Own.mono {B' : Nat} (h : Own w B e size g n cap xs) (hB : B' ≤ B) : Own w B' e size g n cap xs := by
  obtain ⟨h1, h2, h3, h4, C, h5, h6, h7⟩ := h.block
  exact Own.mk' (by omega) h2 h3 h4 h5 h6 h7

theorem Own.later {w' : World} (h : Own w B e size g n cap xs) (hb : Below w.heap.size w w') : Own w' B e size g n cap xs := h.of_heap (hb.block g h.lt.2)
theorem Own.alloc (h : Own w B e size g n cap xs) (o : Obj) : Own (w.alloc o) B e size g n cap xs := h.of_heap (heap_alloc_old w o h.lt.2)
theorem Own.drew (h : Own w B e size g n cap xs) : Own w.drew B e size g n cap xs := h
theorem Own.grown {w' : World} {row : Option Nat} (h : Own w B e size g n cap xs) (hg : w.grownBy w' row) (hne : some g ≠ row) : Own w' B e size g n cap xs := h.of_heap (hg.block g h.lt.2 hne)
theorem Own.other (h : Own w B e size g n cap xs) (a : Addr) (ha : a.block ≠ g) (v : Value) : Own (w.setCell a v) B e size g n cap xs := h.of_heap (Below.heap_setCell w a v g (by omega))
theorem Own.len (h : Own w B e size g n cap xs) : xs.length = n * size := h.block.2.2.2.1

/-- An empty slice that has just been made. -/
theorem Own.empty (w : World) (e size : Nat) : Own (w.alloc (.cells #[] e)) w.heap.size e size w.heap.size 0 0 [] :=
  Own.mk' (Nat.le_refl _) (Nat.le_refl _) (Nat.zero_le _) (by simp) (heap_alloc_new w _) (by simp) (by simp)

theorem Own.set (h : Own w B e size g n cap xs) (i : Nat) (v : Value) : Own (w.setCell ⟨g, i, none⟩ v) B e size g n cap (xs.set i v) := by
  obtain ⟨h1, h2, h3, h4, C, h5, h6, h7⟩ := h.block
  refine Own.mk' (C := C.setIfInBounds i v) h1 h2 h3 (by simpa using h4) (by simp [World.setCell, Array.getElem?_modify, h5]) (by simpa using h6) ?_
  rw [Array.toList_setIfInBounds, List.take_set, h7]
end

/-- Behind an append: the new slice, the old memory. -/
structure Grew (w w' : World) (B e size g n g' cap' : Nat) (xs : List Value) : Prop where
  own : Own w' B e size g' n cap' xs
  by_ : w.grownBy w' (some g)
  at_ : g' = g ∨ g' = w.heap.size

theorem Grew.below {w0 w w' : World} {B e size g n g' cap' : Nat} {xs : List Value} (h : Grew w w' B e size g n g' cap' xs) (hb : Below w0.heap.size w0 w) (hg : w0.heap.size ≤ g) : Below w0.heap.size w0 w' :=
  hb.grown h.by_ hb.size fun k hk => by simp at hk; omega

section
variable {P : Program}

theorem run_app {t e size bytes : Nat} (E : El P t e size bytes) (w : World) (ty B g n cap : Nat) (xs : List Value) (hown : Own w B e size g n cap xs)
    (b off m c : Nat) (news : List Value) (hl : news.length = m * size) (hnews : ∀ j (h : j < news.length), w.cell? ⟨b, off + j, none⟩ = some news[j]) (h1 : ∀ u ∈ news, u.oneCell' = true)
    (hm : 0 < m) (hbound : (n + m) * bytes ≤ 140737488355328 ∧ n + m ≤ 9223372036854775807) (hB : B ≤ w.heap.size) :
    ∃ g' cap' w', (Builtin.append_ #[t, t] ty #[.slice (some ⟨g, 0, none⟩) n cap, .slice (some ⟨b, off, none⟩) m c]).run P w = .ok (.slice (some ⟨g', 0, none⟩) (n + m) cap') w' ∧ Grew w w' B e size g (n + m) g' cap' (xs ++ news) := by
  obtain ⟨i, z, hi, hz, hs, hby, hzs⟩ := E.hi
  obtain ⟨g', cap', w', hr, h2, h3, h4, h5⟩ := run_append_lies (P := P) w t ty B e i z size bytes E.ht hi hz hs hby hzs E.pos _ n xs hown ⟨b, off, none⟩ m c news hl
    (fun j u hu => by
      obtain ⟨hj, hu⟩ := List.getElem?_eq_some_iff.1 hu
      have := hnews j hj
      unfold Addr.add
      split
      · rename_i h0; subst h0; rw [← hu]; simpa using this
      · rw [← hu]; simpa using this) h1 hm (by simp only [maxLen]; omega) hbound.1 hB w.heap.size rfl
  exact ⟨g', cap', w', hr, h2, h3, by simpa [Value.ownBlock, eq_comm] using h4⟩

theorem wp_app {o : Oper} {a : Act} {K : Act → World → Prop} {Q : Exit → Act → World → Prop} {w : World} {t e size bytes : Nat} (E : El P t e size bytes) (s x : Operand)
    (ho : o.op = .call { callee := .builtin .append, args := #[s, x], argTypes := #[t, t] })
    (B g n cap : Nat) (xs : List Value) (hs : a.eval s = .slice (some ⟨g, 0, none⟩) n cap) (hown : Own w B e size g n cap xs)
    (b off m c : Nat) (news : List Value) (hx : a.eval x = .slice (some ⟨b, off, none⟩) m c) (hl : news.length = m * size) (hnews : ∀ j (h : j < news.length), w.cell? ⟨b, off + j, none⟩ = some news[j]) (h1 : ∀ u ∈ news, u.oneCell' = true)
    (hm : 0 < m) (hbound : (n + m) * bytes ≤ 140737488355328 ∧ n + m ≤ 9223372036854775807) (hB : B ≤ w.heap.size)
    (h : ∀ g' cap' w', Grew w w' B e size g (n + m) g' cap' (xs ++ news) → K (a.put o.dst (.slice (some ⟨g', 0, none⟩) (n + m) cap')) w') : o.wp P a w K Q := by
  obtain ⟨g', cap', w', hr, h2⟩ := run_app E w o.type B g n cap xs hown b off m c news hl hnews h1 hm hbound hB
  unfold Oper.wp execOp
  simp only [ho, resolve, invoke, builtin, Sem.run_bind, Sem.run_pure, Result.andThen_ok, List.map_toArray, List.map_cons, List.map_nil, hs, hx, hr]
  exact h g' cap' w' h2

theorem wpList_app {ops : Array Oper} {rest : List Oper} {o : Oper} {a : Act} {Q : Exit → Act → World → Prop} {w : World} {t e size bytes : Nat} (E : El P t e size bytes) (hgd : o.guard = none) (s x : Operand)
    (ho : o.op = .call { callee := .builtin .append, args := #[s, x], argTypes := #[t, t] })
    (B g n cap : Nat) (xs : List Value) (hs : a.eval s = .slice (some ⟨g, 0, none⟩) n cap) (hown : Own w B e size g n cap xs)
    (b off m c : Nat) (news : List Value) (hx : a.eval x = .slice (some ⟨b, off, none⟩) m c) (hl : news.length = m * size) (hnews : ∀ j (h : j < news.length), w.cell? ⟨b, off + j, none⟩ = some news[j]) (h1 : ∀ u ∈ news, u.oneCell' = true)
    (hm : 0 < m) (hbound : (n + m) * bytes ≤ 140737488355328 ∧ n + m ≤ 9223372036854775807) (hB : B ≤ w.heap.size)
    (h : ∀ g' cap' w', Grew w w' B e size g (n + m) g' cap' (xs ++ news) → wpList P ops Q rest (a.put o.dst (.slice (some ⟨g', 0, none⟩) (n + m) cap')) w') : wpList P ops Q (o :: rest) a w :=
  wpList_plain hgd fun _ hK => wp_app E s x ho B g n cap xs hs hown b off m c news hx hl hnews h1 hm hbound hB fun g' cap' w' h2 => hK _ _ (h g' cap' w' h2)

/-- At a step of a region that draws its order. -/
theorem step_app {ops : Array Oper} {o : Oper} {a : Act} {K : Act → World → Prop} {Q : Exit → Act → World → Prop} {w : World} {F : Prop} {t e size bytes : Nat} (E : El P t e size bytes) (hgd : o.guard = none) (s x : Operand)
    (ho : o.op = .call { callee := .builtin .append, args := #[s, x], argTypes := #[t, t] })
    (B g n cap : Nat) (xs : List Value) (hs : a.eval s = .slice (some ⟨g, 0, none⟩) n cap) (hown : Own w B e size g n cap xs)
    (b off m c : Nat) (news : List Value) (hx : a.eval x = .slice (some ⟨b, off, none⟩) m c) (hl : news.length = m * size) (hnews : ∀ j (h : j < news.length), w.cell? ⟨b, off + j, none⟩ = some news[j]) (h1 : ∀ u ∈ news, u.oneCell' = true)
    (hm : 0 < m) (hbound : (n + m) * bytes ≤ 140737488355328 ∧ n + m ≤ 9223372036854775807) (hB : B ≤ w.heap.size)
    (h : ∀ g' cap' w', Grew w w' B e size g (n + m) g' cap' (xs ++ news) → K (a.put o.dst (.slice (some ⟨g', 0, none⟩) (n + m) cap')) w') :
    if Region.wanted o (yielded ops a.tmps) = true then Oper.wp P o a w K Q else F := by
  have hw : Region.wanted o (yielded ops a.tmps) = true := by simp [Region.wanted, hgd]
  rw [if_pos hw]
  exact wp_app E s x ho B g n cap xs hs hown b off m c news hx hl hnews h1 hm hbound hB h

/-- The cells of a block that has just been made, as what is appended. -/
theorem news_new (w : World) (cs : List Value) (e : Nat) : ∀ j (h : j < cs.length), (w.alloc (.cells cs.toArray e)).cell? ⟨w.heap.size, 0 + j, none⟩ = some cs[j] := fun j h => by
  rw [Nat.zero_add, cell_of_row _ _ _ _ _ _ (heap_alloc_new w _)]
  simp [List.getElem?_eq_getElem h]
end

end Go.Proofs.Ytlhngkkablhpdaa

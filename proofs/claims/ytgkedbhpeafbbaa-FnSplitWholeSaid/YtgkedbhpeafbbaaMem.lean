/-
  Memory that a call makes for itself: a row of cells in one block, a slice that is appended to. Laws for the walk, over any program.
  Conditions: each law states its own.
-/
import Derived.Test.YtgkedbhpeafbbaaBits
import Derived.Laws.IdiomStrings
set_option linter.unusedSimpArgs false
set_option linter.unusedVariables false
namespace Go.Proofs.Ytgkedbhpeafbbaa
open Go.RowKit

/-! ### a row of cells in one block -/

/-- Block b begins with the cells xs; no cell of it is frozen. -/
def Row (w : World) (b : Nat) (xs : List Value) : Prop :=
  ∃ C e lo hi, w.heap[b]? = some (.cells C e (lo, hi)) ∧ (hi ≤ lo ∨ C.size ≤ lo) ∧ C.toList.take xs.length = xs

theorem Row.lt {w : World} {b : Nat} {xs : List Value} (h : Row w b xs) : b < w.heap.size := by
  obtain ⟨C, e, lo, hi, h1, _⟩ := h
  exact (Array.getElem?_eq_some_iff.1 h1).1

theorem take_le {xs : List Value} {C : Array Value} (h : C.toList.take xs.length = xs) : xs.length ≤ C.size := by
  have := congrArg List.length h
  simp at this; omega

theorem Row.cell {w : World} {b : Nat} {xs : List Value} (h : Row w b xs) (i : Nat) (hi : i < xs.length) : w.cell? ⟨b, i, none⟩ = some xs[i] := by
  obtain ⟨C, e, lo, hi', h1, _, h3⟩ := h
  have hle := take_le h3
  rw [cell_of_row w b i C e (lo, hi') h1]
  have h4 : (C.toList.take xs.length)[i]? = xs[i]? := by rw [h3]
  rw [List.getElem?_take_of_lt hi, List.getElem?_eq_getElem hi] at h4
  simpa using h4

theorem Row.free {w : World} {b : Nat} {xs : List Value} (h : Row w b xs) (i : Nat) (hi : i < xs.length) : w.frozen? ⟨b, i, none⟩ = false := by
  obtain ⟨C, e, lo, hi', h1, h2, h3⟩ := h
  have hle := take_le h3
  unfold World.frozen?
  simp only [h1]
  simp only [Bool.and_eq_false_imp, decide_eq_true_eq, decide_eq_false_iff_not]
  omega

theorem Row.of_block {w : World} {b : Nat} {C : Array Value} {e lo hi : Nat} (h : w.heap[b]? = some (.cells C e (lo, hi))) (hf : hi ≤ lo ∨ C.size ≤ lo) (n : Nat) (hn : n ≤ C.size) : Row w b (C.toList.take n) :=
  ⟨C, e, lo, hi, h, hf, by rw [List.length_take]; simp [Nat.min_eq_left hn]⟩

theorem Row.of_heap {w w' : World} {b : Nat} {xs : List Value} (h : Row w b xs) (he : w'.heap[b]? = w.heap[b]?) : Row w' b xs := by
  obtain ⟨C, e, lo, hi, h1, h2⟩ := h
  exact ⟨C, e, lo, hi, by rw [he]; exact h1, h2⟩

theorem Row.below {w w' : World} {b B : Nat} {xs : List Value} (h : Row w b xs) (hb : Below B w w') (hB : b < B) : Row w' b xs := h.of_heap (hb.block b hB)
theorem Row.later {w w' : World} {b : Nat} {xs : List Value} (h : Row w b xs) (hb : Below w.heap.size w w') : Row w' b xs := h.below hb h.lt
theorem Row.alloc {w : World} {b : Nat} {xs : List Value} (h : Row w b xs) (o : Obj) : Row (w.alloc o) b xs := h.of_heap (heap_alloc_old w o h.lt)
theorem Row.drew {w : World} {b : Nat} {xs : List Value} (h : Row w b xs) : Row w.drew b xs := h
theorem Row.grown {w w' : World} {b : Nat} {row : Option Nat} {xs : List Value} (h : Row w b xs) (hg : w.grownBy w' row) (hne : some b ≠ row) : Row w' b xs := h.of_heap (hg.block b h.lt hne)

theorem Row.set {w : World} {b : Nat} {xs : List Value} (h : Row w b xs) (i : Nat) (hi : i < xs.length) (v : Value) : Row (w.setCell ⟨b, i, none⟩ v) b (xs.set i v) := by
  obtain ⟨C, e, lo, hi', h1, h2, h3⟩ := h
  have hle := take_le h3
  refine ⟨C.setIfInBounds i v, e, lo, hi', ?_, by simpa using h2, ?_⟩
  · simp [World.setCell, Array.getElem?_modify, h1]
  · rw [List.length_set, Array.toList_setIfInBounds, List.take_set, h3]

theorem Row.other {w : World} {b : Nat} {xs : List Value} (h : Row w b xs) (a : Addr) (ha : a.block ≠ b) (v : Value) : Row (w.setCell a v) b xs :=
  h.of_heap (Below.heap_setCell w a v b (by omega))

/-- A row of bytes. -/
def bv (l : List UInt8) : List Value := l.map fun x => .int .u8 (x.toNat : Int)

theorem bv_length (l : List UInt8) : (bv l).length = l.length := by simp [bv]

theorem Row.bts {w : World} {b : Nat} {l : List UInt8} (h : Row w b (bv l)) : Bts w b l := fun i hi => by
  have := h.cell i (by rw [bv_length]; exact hi)
  rw [this]; simp [bv]

theorem Row.byte {w : World} {b : Nat} {l : List UInt8} (h : Row w b (bv l)) (i : Nat) (hi : i < l.length) : w.cell? ⟨b, i, none⟩ = some (.int .u8 (l[i].toNat : Int)) := h.bts i hi

/-- What '[]byte(s)' lays begins with the bytes of s. -/
theorem Row.of_string (w : World) (s : ByteArray) (cap e : Nat) : Row ((w.alloc (.cells (bytesRow s cap) e ((bytesRow s cap).size, (bytesRow s cap).size + 1))).drew) w.heap.size (bv s.data.toList) := by
  refine ⟨bytesRow s cap, e, _, _, heap_alloc_new w _, .inr (Nat.le_refl _), ?_⟩
  simp [bytesRow, bv, List.take_append_of_le_length]

/-! ### a slice that is appended to -/

/-- The element type's row of the table. -/
structure El (P : Program) (t e : TypeId) (size bytes : Nat) : Prop where
  ht : P.underlying t = some (.slice e)
  hi : ∃ i z, P.info? e = some i ∧ i.zero = some z ∧ i.size = size ∧ i.bytes = bytes ∧ z.cells.size = size
  pos : 0 < size

/-- The slice at block g owns the cells xs. -/
def Own (w : World) (B e size g n cap : Nat) (xs : List Value) : Prop := w.ownsRow B e size (.slice (some ⟨g, 0, none⟩) n cap) n xs

section
variable {w : World} {B e size g n cap : Nat} {xs : List Value}

theorem Own.block (h : Own w B e size g n cap xs) : B ≤ g ∧ n ≤ cap ∧ cap ≤ maxLen ∧ xs.length = n * size ∧ ∃ C, w.heap[g]? = some (.cells C e (0, 0)) ∧ C.size = cap * size ∧ C.toList.take (n * size) = xs := by
  obtain ⟨h1, h2 | ⟨g', cap', C, h2, h3, h4, h5, h6, h7, h8⟩⟩ := h
  · simp at h2
  · simp only [Value.slice.injEq, Option.some.injEq, Addr.mk.injEq, and_true, true_and] at h2
    obtain ⟨rfl, rfl⟩ := h2
    exact ⟨h3, h5, h6, h1, C, h4, h7, h8⟩

theorem Own.lt (h : Own w B e size g n cap xs) : B ≤ g ∧ g < w.heap.size := by
  obtain ⟨h1, _, _, _, C, h2, _⟩ := h.block
  exact ⟨h1, (Array.getElem?_eq_some_iff.1 h2).1⟩

theorem Own.row (h : Own w B e size g n cap xs) : Row w g xs := by
  obtain ⟨h1, h2, h3, h4, C, h5, h6, h7⟩ := h.block
  exact ⟨C, e, 0, 0, h5, .inl (Nat.le_refl _), by rw [h4]; exact h7⟩

theorem Own.mk' {C : Array Value} (hB : B ≤ g) (hn : n ≤ cap) (hc : cap ≤ maxLen) (hx : xs.length = n * size) (hb : w.heap[g]? = some (.cells C e (0, 0))) (hC : C.size = cap * size) (ht : C.toList.take (n * size) = xs) : Own w B e size g n cap xs :=
  ⟨hx, .inr ⟨g, cap, C, rfl, hB, hb, hn, hc, hC, ht⟩⟩

theorem Own.of_heap {w' : World} (h : Own w B e size g n cap xs) (he : w'.heap[g]? = w.heap[g]?) : Own w' B e size g n cap xs := by
  obtain ⟨h1, h2, h3, h4, C, h5, h6, h7⟩ := h.block
  exact Own.mk' h1 h2 h3 h4 (by rw [he]; exact h5) h6 h7

theorem Own.mono {B' : Nat} (h : Own w B e size g n cap xs) (hB : B' ≤ B) : Own w B' e size g n cap xs := by
  obtain ⟨h1, h2, h3, h4, C, h5, h6, h7⟩ := h.block
  exact Own.mk' (by omega) h2 h3 h4 h5 h6 h7

theorem Own.later {w' : World} (h : Own w B e size g n cap xs) (hb : Below w.heap.size w w') : Own w' B e size g n cap xs := h.of_heap (hb.block g h.lt.2)
theorem Own.alloc (h : Own w B e size g n cap xs) (o : Obj) : Own (w.alloc o) B e size g n cap xs := h.of_heap (heap_alloc_old w o h.lt.2)
theorem Own.drew (h : Own w B e size g n cap xs) : Own w.drew B e size g n cap xs := h
theorem Own.grown {w' : World} {row : Option Nat} (h : Own w B e size g n cap xs) (hg : w.grownBy w' row) (hne : some g ≠ row) : Own w' B e size g n cap xs := h.of_heap (hg.block g h.lt.2 hne)
theorem Own.other (h : Own w B e size g n cap xs) (a : Addr) (ha : a.block ≠ g) (v : Value) : Own (w.setCell a v) B e size g n cap xs := h.of_heap (Below.heap_setCell w a v g (by omega))
theorem Own.len (h : Own w B e size g n cap xs) : xs.length = n * size := h.block.2.2.2.1

/-- An empty slice that has just been made. -/
theorem Own.empty (w : World) (e size : Nat) : Own (w.alloc (.cells #[] e)) w.heap.size e size w.heap.size 0 0 [] :=
  Own.mk' (Nat.le_refl _) (Nat.le_refl _) (Nat.zero_le _) (by simp) (heap_alloc_new w _) (by simp) (by simp)

theorem Own.set (h : Own w B e size g n cap xs) (i : Nat) (v : Value) : Own (w.setCell ⟨g, i, none⟩ v) B e size g n cap (xs.set i v) := by
  obtain ⟨h1, h2, h3, h4, C, h5, h6, h7⟩ := h.block
  refine Own.mk' (C := C.setIfInBounds i v) h1 h2 h3 (by simpa using h4) (by simp [World.setCell, Array.getElem?_modify, h5]) (by simpa using h6) ?_
  rw [Array.toList_setIfInBounds, List.take_set, h7]
end

/-- Behind an append: the new slice, the old memory. -/
structure Grew (w w' : World) (B e size g n g' cap' : Nat) (xs : List Value) : Prop where
  own : Own w' B e size g' n cap' xs
  by_ : w.grownBy w' (some g)
  at_ : g' = g ∨ g' = w.heap.size

theorem Grew.below {w0 w w' : World} {B e size g n g' cap' : Nat} {xs : List Value} (h : Grew w w' B e size g n g' cap' xs) (hb : Below w0.heap.size w0 w) (hg : w0.heap.size ≤ g) : Below w0.heap.size w0 w' :=
  hb.grown h.by_ hb.size fun k hk => by simp at hk; omega

section
variable {P : Program}

theorem run_app {t e size bytes : Nat} (E : El P t e size bytes) (w : World) (ty B g n cap : Nat) (xs : List Value) (hown : Own w B e size g n cap xs)
    (b off m c : Nat) (news : List Value) (hl : news.length = m * size) (hnews : ∀ j (h : j < news.length), w.cell? ⟨b, off + j, none⟩ = some news[j]) (h1 : ∀ u ∈ news, u.oneCell' = true)
    (hm : 0 < m) (hbound : (n + m) * bytes ≤ 140737488355328 ∧ n + m ≤ 9223372036854775807) (hB : B ≤ w.heap.size) :
    ∃ g' cap' w', (Builtin.append_ #[t, t] ty #[.slice (some ⟨g, 0, none⟩) n cap, .slice (some ⟨b, off, none⟩) m c]).run P w = .ok (.slice (some ⟨g', 0, none⟩) (n + m) cap') w' ∧ Grew w w' B e size g (n + m) g' cap' (xs ++ news) := by
  obtain ⟨i, z, hi, hz, hs, hby, hzs⟩ := E.hi
  obtain ⟨g', cap', w', hr, h2, h3, h4, h5⟩ := run_append_lies (P := P) w t ty B e i z size bytes E.ht hi hz hs hby hzs E.pos _ n xs hown ⟨b, off, none⟩ m c news hl
    (fun j u hu => by
      obtain ⟨hj, hu⟩ := List.getElem?_eq_some_iff.1 hu
      have := hnews j hj
      unfold Addr.add
      split
      · rename_i h0; subst h0; rw [← hu]; simpa using this
      · rw [← hu]; simpa using this) h1 hm (by simp only [maxLen]; omega) hbound.1 hB w.heap.size rfl
  exact ⟨g', cap', w', hr, h2, h3, by simpa [Value.ownBlock, eq_comm] using h4⟩

theorem wp_app {o : Oper} {a : Act} {K : Act → World → Prop} {Q : Exit → Act → World → Prop} {w : World} {t e size bytes : Nat} (E : El P t e size bytes) (s x : Operand)
    (ho : o.op = .call { callee := .builtin .append, args := #[s, x], argTypes := #[t, t] })
    (B g n cap : Nat) (xs : List Value) (hs : a.eval s = .slice (some ⟨g, 0, none⟩) n cap) (hown : Own w B e size g n cap xs)
    (b off m c : Nat) (news : List Value) (hx : a.eval x = .slice (some ⟨b, off, none⟩) m c) (hl : news.length = m * size) (hnews : ∀ j (h : j < news.length), w.cell? ⟨b, off + j, none⟩ = some news[j]) (h1 : ∀ u ∈ news, u.oneCell' = true)
    (hm : 0 < m) (hbound : (n + m) * bytes ≤ 140737488355328 ∧ n + m ≤ 9223372036854775807) (hB : B ≤ w.heap.size)
    (h : ∀ g' cap' w', Grew w w' B e size g (n + m) g' cap' (xs ++ news) → K (a.put o.dst (.slice (some ⟨g', 0, none⟩) (n + m) cap')) w') : o.wp P a w K Q := by
  obtain ⟨g', cap', w', hr, h2⟩ := run_app E w o.type B g n cap xs hown b off m c news hl hnews h1 hm hbound hB
  unfold Oper.wp execOp
  simp only [ho, resolve, invoke, builtin, Sem.run_bind, Sem.run_pure, Result.andThen_ok, List.map_toArray, List.map_cons, List.map_nil, hs, hx, hr]
  exact h g' cap' w' h2

theorem wpList_app {ops : Array Oper} {rest : List Oper} {o : Oper} {a : Act} {Q : Exit → Act → World → Prop} {w : World} {t e size bytes : Nat} (E : El P t e size bytes) (hgd : o.guard = none) (s x : Operand)
    (ho : o.op = .call { callee := .builtin .append, args := #[s, x], argTypes := #[t, t] })
    (B g n cap : Nat) (xs : List Value) (hs : a.eval s = .slice (some ⟨g, 0, none⟩) n cap) (hown : Own w B e size g n cap xs)
    (b off m c : Nat) (news : List Value) (hx : a.eval x = .slice (some ⟨b, off, none⟩) m c) (hl : news.length = m * size) (hnews : ∀ j (h : j < news.length), w.cell? ⟨b, off + j, none⟩ = some news[j]) (h1 : ∀ u ∈ news, u.oneCell' = true)
    (hm : 0 < m) (hbound : (n + m) * bytes ≤ 140737488355328 ∧ n + m ≤ 9223372036854775807) (hB : B ≤ w.heap.size)
    (h : ∀ g' cap' w', Grew w w' B e size g (n + m) g' cap' (xs ++ news) → wpList P ops Q rest (a.put o.dst (.slice (some ⟨g', 0, none⟩) (n + m) cap')) w') : wpList P ops Q (o :: rest) a w :=
  wpList_plain hgd fun _ hK => wp_app E s x ho B g n cap xs hs hown b off m c news hx hl hnews h1 hm hbound hB fun g' cap' w' h2 => hK _ _ (h g' cap' w' h2)

/-- At a step of a region that draws its order. -/
theorem step_app {ops : Array Oper} {o : Oper} {a : Act} {K : Act → World → Prop} {Q : Exit → Act → World → Prop} {w : World} {F : Prop} {t e size bytes : Nat} (E : El P t e size bytes) (hgd : o.guard = none) (s x : Operand)
    (ho : o.op = .call { callee := .builtin .append, args := #[s, x], argTypes := #[t, t] })
    (B g n cap : Nat) (xs : List Value) (hs : a.eval s = .slice (some ⟨g, 0, none⟩) n cap) (hown : Own w B e size g n cap xs)
    (b off m c : Nat) (news : List Value) (hx : a.eval x = .slice (some ⟨b, off, none⟩) m c) (hl : news.length = m * size) (hnews : ∀ j (h : j < news.length), w.cell? ⟨b, off + j, none⟩ = some news[j]) (h1 : ∀ u ∈ news, u.oneCell' = true)
    (hm : 0 < m) (hbound : (n + m) * bytes ≤ 140737488355328 ∧ n + m ≤ 9223372036854775807) (hB : B ≤ w.heap.size)
    (h : ∀ g' cap' w', Grew w w' B e size g (n + m) g' cap' (xs ++ news) → K (a.put o.dst (.slice (some ⟨g', 0, none⟩) (n + m) cap')) w') :
    if Region.wanted o (yielded ops a.tmps) = true then Oper.wp P o a w K Q else F := by
  have hw : Region.wanted o (yielded ops a.tmps) = true := by simp [Region.wanted, hgd]
  rw [if_pos hw]
  exact wp_app E s x ho B g n cap xs hs hown b off m c news hx hl hnews h1 hm hbound hB h

/-- The cells of a block that has just been made, as what is appended. -/
theorem news_new (w : World) (cs : List Value) (e : Nat) : ∀ j (h : j < cs.length), (w.alloc (.cells cs.toArray e)).cell? ⟨w.heap.size, 0 + j, none⟩ = some cs[j] := fun j h => by
  rw [Nat.zero_add, cell_of_row _ _ _ _ _ _ (heap_alloc_new w _)]
  simp [List.getElem?_eq_getElem h]
end

/-! ### slices that are read, slices that a call has made, slices that are marked -/

/-- A slice whose elements' cells are xs (an empty one may begin anywhere). -/
def Rd (w : World) (a : Option Addr) (xs : List Value) : Prop :=
  xs = [] ∨ ∃ b o, a = some ⟨b, o, none⟩ ∧ b < w.heap.size ∧ ∀ i (h : i < xs.length), w.cell? ⟨b, o + i, none⟩ = some xs[i]

/-- A slice that was made in a block from B on, below U, with the cells xs. -/
def Sv (w : World) (B U : Nat) (a : Option Addr) (xs : List Value) : Prop :=
  xs = [] ∨ ∃ g, a = some ⟨g, 0, none⟩ ∧ B ≤ g ∧ g < U ∧ Row w g xs

/-- One slice alone has been written, in a block from B on, below U. -/
def Marked (w w' : World) (B U : Nat) (a : Option Addr) (xs : List Value) : Prop :=
  (xs = [] ∧ w' = w) ∨ ∃ g, a = some ⟨g, 0, none⟩ ∧ B ≤ g ∧ g < U ∧ w.grownBy w' (some g) ∧ w'.heap.size = w.heap.size ∧ Row w' g xs

section
variable {w w' : World} {B U B2 U2 : Nat} {a a2 : Option Addr} {xs xs2 : List Value}

theorem Rd.later (h : Rd w a xs) (hb : Below w.heap.size w w') : Rd w' a xs := by
  rcases h with h | ⟨b, o, rfl, hlt, hc⟩
  · exact .inl h
  · exact .inr ⟨b, o, rfl, Nat.lt_of_lt_of_le hlt hb.size, fun i hi => by rw [hb.cell (by exact hlt)]; exact hc i hi⟩
theorem Rd.al (h : Rd w a xs) (o : Obj) : Rd (w.alloc o) a xs := h.later (Below.al (Below.refl _ _) _)
theorem Rd.dr (h : Rd w a xs) : Rd w.drew a xs := h

theorem Sv.rd (h : Sv w B U a xs) : Rd w a xs := by
  rcases h with h | ⟨g, rfl, _, _, hr⟩
  · exact .inl h
  · exact .inr ⟨g, 0, rfl, hr.lt, fun i hi => by rw [Nat.zero_add]; exact hr.cell i hi⟩

theorem Sv.later (h : Sv w B U a xs) (hb : Below w.heap.size w w') : Sv w' B U a xs := by
  rcases h with h | ⟨g, rfl, h1, h2, hr⟩
  · exact .inl h
  · exact .inr ⟨g, rfl, h1, h2, hr.later hb⟩
theorem Sv.al (h : Sv w B U a xs) (o : Obj) : Sv (w.alloc o) B U a xs := h.later (Below.al (Below.refl _ _) _)
theorem Sv.dr (h : Sv w B U a xs) : Sv w.drew B U a xs := h
theorem Sv.st (h : Sv w B U a xs) {p : Addr} (hp : U ≤ p.block ∨ p.block < B) (v : Value) : Sv (w.setCell p v) B U a xs := by
  rcases h with h | ⟨g, rfl, h1, h2, hr⟩
  · exact .inl h
  · exact .inr ⟨g, rfl, h1, h2, hr.other p (by omega) v⟩
theorem Sv.other (m : Marked w w' B2 U2 a2 xs2) (h : Sv w B U a xs) (hd : U ≤ B2 ∨ U2 ≤ B) : Sv w' B U a xs := by
  rcases m with ⟨_, rfl⟩ | ⟨g, rfl, h1, h2, hg, _⟩
  · exact h
  · rcases h with h | ⟨g', rfl, h3, h4, hr⟩
    · exact .inl h
    · exact .inr ⟨g', rfl, h3, h4, hr.grown hg (by simp; omega)⟩
theorem Sv.self (m : Marked w w' B U a xs) : Sv w' B U a xs := by
  rcases m with ⟨h, _⟩ | ⟨g, rfl, h1, h2, _, _, hr⟩
  · exact .inl h
  · exact .inr ⟨g, rfl, h1, h2, hr⟩
theorem Own.sv {e size g n cap : Nat} (h : Own w B e size g n cap xs) : Sv w B w.heap.size (some ⟨g, 0, none⟩) xs := .inr ⟨g, rfl, h.lt.1, h.lt.2, h.row⟩
theorem Sv.nil : Sv w B U a [] := .inl rfl

theorem Marked.size (m : Marked w w' B U a xs) : w'.heap.size = w.heap.size := by
  rcases m with ⟨_, rfl⟩ | ⟨g, rfl, _, _, _, h, _⟩
  · rfl
  · exact h
theorem Below.marked {w0 : World} (m : Marked w w' B U a xs) (h : Below w0.heap.size w0 w) (hB : w0.heap.size ≤ B) : Below w0.heap.size w0 w' := by
  rcases m with ⟨_, rfl⟩ | ⟨g, rfl, h1, _, hg, _, _⟩
  · exact h
  · exact h.grown hg h.size fun k hk => by simp at hk; omega
/-- Behind a marking: every cell that lies elsewhere reads as before. -/
theorem Marked.old (m : Marked w w' B U a xs) : (∀ b o, w'.cell? ⟨b, o, none⟩ = if b < B then w.cell? ⟨b, o, none⟩ else if U ≤ b then w.cell? ⟨b, o, none⟩ else far w' ⟨b, o, none⟩) ∧
    (∀ b o, w'.frozen? ⟨b, o, none⟩ = if b < B then w.frozen? ⟨b, o, none⟩ else if U ≤ b then w.frozen? ⟨b, o, none⟩ else farF w' ⟨b, o, none⟩) ∧ w'.heap.size = w.heap.size := by
  refine ⟨fun b o => ?_, fun b o => ?_, m.size⟩
  all_goals
    rcases m with ⟨_, rfl⟩ | ⟨g, rfl, h1, h2, hg, hs, _⟩
    · split
      · rfl
      · split <;> rfl
    · by_cases hlt : b < w.heap.size
      · split
        · first | exact World.cell?_of_block (hg.block b hlt (by simp; omega)) | exact World.frozen?_of_block (hg.block b hlt (by simp; omega))
        · split
          · first | exact World.cell?_of_block (hg.block b hlt (by simp; omega)) | exact World.frozen?_of_block (hg.block b hlt (by simp; omega))
          · rfl
      · have e1 : w'.heap[b]? = none := Array.getElem?_eq_none (by omega)
        have e2 : w.heap[b]? = none := Array.getElem?_eq_none (by omega)
        split
        · first | exact World.cell?_of_block (by rw [e1, e2]) | exact World.frozen?_of_block (by rw [e1, e2])
        · split
          · first | exact World.cell?_of_block (by rw [e1, e2]) | exact World.frozen?_of_block (by rw [e1, e2])
          · rfl
end

/-- The numbers k, k + 1, .. as the marks leave them: the kind of the i-th cell is f i. -/
def marks (f : Nat → Int → Value) (k : Int) (n : Nat) : List Value := (List.range n).map fun i => f i (k + i)

abbrev mkI : Nat → Int → Value := fun _ => .int .i64

theorem marks_length (f : Nat → Int → Value) (k : Int) (n : Nat) : (marks f k n).length = n := by simp [marks]
theorem marks_at (f : Nat → Int → Value) (k : Int) (n i : Nat) (h : i < (marks f k n).length) : (marks f k n)[i] = f i (k + i) := by simp [marks]

/-- Halfway: of the n cells of block g the first m hold F 0, F 1, .. -/
def Pre (w : World) (g n : Nat) (F : Nat → Value) (m : Nat) : Prop := ∃ ys, ys.length = n ∧ Row w g ys ∧ ys.take m = (List.range m).map F

section
variable {w w' : World} {g n m : Nat} {F : Nat → Value}

theorem Pre.start {xs : List Value} (h : Row w g xs) (F : Nat → Value) : Pre w g xs.length F 0 := ⟨xs, rfl, h, by simp⟩
theorem Pre.cell (h : Pre w g n F m) (i : Nat) (hi : i < n) : ∃ v, w.cell? ⟨g, i, none⟩ = some v := by
  obtain ⟨ys, hl, hr, _⟩ := h
  exact ⟨_, hr.cell i (by omega)⟩
theorem Pre.free (h : Pre w g n F m) (i : Nat) (hi : i < n) : w.frozen? ⟨g, i, none⟩ = false := by
  obtain ⟨ys, hl, hr, _⟩ := h
  exact hr.free i (by omega)
theorem Pre.lt (h : Pre w g n F m) : g < w.heap.size := by
  obtain ⟨ys, hl, hr, _⟩ := h
  exact hr.lt
theorem Pre.later (h : Pre w g n F m) (hb : Below w.heap.size w w') : Pre w' g n F m := by
  obtain ⟨ys, hl, hr, ht⟩ := h
  exact ⟨ys, hl, hr.later hb, ht⟩
theorem Pre.other (h : Pre w g n F m) (p : Addr) (hp : p.block ≠ g) (v : Value) : Pre (w.setCell p v) g n F m := by
  obtain ⟨ys, hl, hr, ht⟩ := h
  exact ⟨ys, hl, hr.other p hp v, ht⟩
theorem Pre.step (h : Pre w g n F m) (hm : m < n) {v : Value} (hv : v = F m) : Pre (w.setCell ⟨g, m, none⟩ v) g n F (m + 1) := by
  obtain ⟨ys, hl, hr, ht⟩ := h
  subst hv
  refine ⟨ys.set m (F m), by simpa using hl, hr.set m (by omega) _, ?_⟩
  have hlt : m < ys.length := by omega
  rw [List.take_succ_eq_append_getElem (by simpa using hlt), List.take_set, List.set_eq_of_length_le (by simp; omega), ht]
  simp [List.range_succ]
theorem Pre.row (h : Pre w g n F n) : Row w g ((List.range n).map F) := by
  obtain ⟨ys, hl, hr, ht⟩ := h
  rw [← ht, List.take_of_length_le (by omega)]
  exact hr
end

/-- Two worlds that part in block g alone. -/
def Only (g : Nat) (w w' : World) : Prop := w.grownBy w' (some g) ∧ w'.heap.size = w.heap.size
theorem Only.refl (g : Nat) (w : World) : Only g w w := ⟨World.grownBy.refl _ _, rfl⟩
theorem Only.st {g : Nat} {w w' : World} (h : Only g w w') (i : Nat) (v : Value) : Only g w (w'.setCell ⟨g, i, none⟩ v) := by
  obtain ⟨hg, hs⟩ := h
  refine ⟨⟨hg.os, hg.tape, hg.output, by simpa using hg.size, fun b hb hne => ?_⟩, by simpa using hs⟩
  rw [Below.heap_setCell _ _ _ _ (by simp at hne; simpa using hne)]
  exact hg.block b hb hne

theorem Only.marked {w w' : World} {B U g n : Nat} {F : Nat → Value} (h : Only g w w') (hp : Pre w' g n F n) (hB : B ≤ g ∧ g < U) : Marked w w' B U (some ⟨g, 0, none⟩) ((List.range n).map F) :=
  .inr ⟨g, rfl, hB.1, hB.2, h.1, h.2, hp.row⟩

/-! ### lists of elements, told by their cells -/

theorem flat_at {α : Type} (c : α → List Value) (z : Nat) (hz : ∀ x, (c x).length = z) : ∀ (l : List α) (k j : Nat) (_ : k < l.length) (_ : j < z), (l.flatMap c)[k * z + j]? = (l[k]?).bind fun x => (c x)[j]?
  | x :: l, 0, j, _, hj => by simp [List.getElem?_append_left (show j < (c x).length by rw [hz]; exact hj)]
  | x :: l, k + 1, j, hk, hj => by
    have h := flat_at c z hz l k j (by simpa using hk) hj
    rw [List.flatMap_cons, List.getElem?_append_right (by rw [hz, Nat.succ_mul]; omega), hz]
    rw [show (k + 1) * z + j - z = k * z + j by rw [Nat.succ_mul]; omega]
    simpa using h

theorem flat_len {α : Type} (c : α → List Value) (z : Nat) (hz : ∀ x, (c x).length = z) : ∀ l : List α, (l.flatMap c).length = l.length * z
  | [] => by simp
  | x :: l => by rw [List.flatMap_cons, List.length_append, hz, flat_len c z hz l, List.length_cons, Nat.succ_mul]; omega

/-- A cell of the k-th element. -/
theorem Rd.at_ {α : Type} {c : α → List Value} {z : Nat} (hz : ∀ x, (c x).length = z) {w : World} {a : Option Addr} {l : List α} (h : Rd w a (l.flatMap c)) (k : Nat) (hk : k < l.length) (hz0 : 0 < z) :
    ∃ b o, a = some ⟨b, o, none⟩ ∧ b < w.heap.size ∧ ∀ j (hj : j < z), w.cell? ⟨b, o + (k * z + j), none⟩ = some ((c l[k])[j]'(by rw [hz]; exact hj)) := by
  have hlen := flat_len c z hz l
  have hkz : k * z + z ≤ l.length * z := by rw [← Nat.succ_mul]; exact Nat.mul_le_mul_right z hk
  rcases h with h | ⟨b, o, rfl, hlt, hc⟩
  · rw [h] at hlen; simp at hlen; omega
  · refine ⟨b, o, rfl, hlt, fun j hj => ?_⟩
    have hi : k * z + j < (l.flatMap c).length := by omega
    rw [hc _ hi]
    have := flat_at c z hz l k j hk hj
    rw [List.getElem?_eq_getElem hi, List.getElem?_eq_getElem hk] at this
    simp only [Option.bind_some] at this
    rw [List.getElem?_eq_getElem (by rw [hz]; exact hj)] at this
    exact this

/-- Integers as cells. -/
def iv (l : List Int) : List Value := l.map (Value.int .i64)
theorem iv_length (l : List Int) : (iv l).length = l.length := by simp [iv]
theorem Rd.int {w : World} {a : Option Addr} {l : List Int} (h : Rd w a (iv l)) (k : Nat) (hk : k < l.length) :
    ∃ b o, a = some ⟨b, o, none⟩ ∧ b < w.heap.size ∧ w.cell? ⟨b, o + k, none⟩ = some (.int .i64 l[k]) := by
  rcases h with h | ⟨b, o, rfl, hlt, hc⟩
  · have := congrArg List.length h; simp [iv] at this; subst this; simp at hk
  · exact ⟨b, o, rfl, hlt, by rw [hc k (by simpa [iv] using hk)]; simp [iv]⟩

section
variable {P : Program}

theorem run_app_none {t e size bytes : Nat} (E : El P t e size bytes) (w : World) (ty B g n cap : Nat) (xs : List Value) (hown : Own w B e size g n cap xs) (a2 : Option Addr) (c : Nat) :
    (Builtin.append_ #[t, t] ty #[.slice (some ⟨g, 0, none⟩) n cap, .slice a2 0 c]).run P w = .ok (.slice (some ⟨g, 0, none⟩) n cap) w := by
  obtain ⟨i, z, hi, hz, hs, hby, hzs⟩ := E.hi
  have hnc := hown.block.2.1
  cases a2 with
  | none => simp [Builtin.append_, run_underlying E.ht, sizeOf, typeInfo, hi, Builtin.lenOf, Builtin.firstCells, hnc, storeCells]
  | some a => simp [Builtin.append_, run_underlying E.ht, sizeOf, typeInfo, hi, Builtin.lenOf, Builtin.firstCells, hnc, storeCells, loadCells, loadCellsFrom]

/-- What is appended is any slice that can be read. -/
theorem run_appR {t e size bytes : Nat} (E : El P t e size bytes) (w : World) (ty B g n cap : Nat) (xs : List Value) (hown : Own w B e size g n cap xs)
    (a2 : Option Addr) (m c : Nat) (news : List Value) (hl : news.length = m * size) (hrd : Rd w a2 news) (h1 : ∀ u ∈ news, u.oneCell' = true)
    (hbound : (n + m) * bytes ≤ 140737488355328 ∧ n + m ≤ 9223372036854775807) (hB : B ≤ w.heap.size) :
    ∃ g' cap' w', (Builtin.append_ #[t, t] ty #[.slice (some ⟨g, 0, none⟩) n cap, .slice a2 m c]).run P w = .ok (.slice (some ⟨g', 0, none⟩) (n + m) cap') w' ∧ Grew w w' B e size g (n + m) g' cap' (xs ++ news) := by
  by_cases hm : m = 0
  · subst hm
    have hn : news = [] := List.eq_nil_of_length_eq_zero (by simpa using hl)
    subst hn
    exact ⟨g, cap, w, run_app_none E w ty B g n cap xs hown a2 c, by simpa using hown, World.grownBy.refl _ _, .inl rfl⟩
  · rcases hrd with h | ⟨b, o, rfl, _, hc⟩
    · subst h
      have : 0 < m * size := Nat.mul_pos (by omega) E.pos
      simp at hl; omega
    · exact run_app E w ty B g n cap xs hown b o m c news hl hc h1 (by omega) hbound hB

theorem wp_appR {o : Oper} {a : Act} {K : Act → World → Prop} {Q : Exit → Act → World → Prop} {w : World} {t e size bytes : Nat} (E : El P t e size bytes) (s x : Operand)
    (ho : o.op = .call { callee := .builtin .append, args := #[s, x], argTypes := #[t, t] })
    (B g n cap : Nat) (xs : List Value) (hs : a.eval s = .slice (some ⟨g, 0, none⟩) n cap) (hown : Own w B e size g n cap xs)
    (a2 : Option Addr) (m c : Nat) (news : List Value) (hx : a.eval x = .slice a2 m c) (hl : news.length = m * size) (hrd : Rd w a2 news) (h1 : ∀ u ∈ news, u.oneCell' = true)
    (hbound : (n + m) * bytes ≤ 140737488355328 ∧ n + m ≤ 9223372036854775807) (hB : B ≤ w.heap.size)
    (h : ∀ g' cap' w', Grew w w' B e size g (n + m) g' cap' (xs ++ news) → K (a.put o.dst (.slice (some ⟨g', 0, none⟩) (n + m) cap')) w') : o.wp P a w K Q := by
  obtain ⟨g', cap', w', hr, h2⟩ := run_appR E w o.type B g n cap xs hown a2 m c news hl hrd h1 hbound hB
  unfold Oper.wp execOp
  simp only [ho, resolve, invoke, builtin, Sem.run_bind, Sem.run_pure, Result.andThen_ok, List.map_toArray, List.map_cons, List.map_nil, hs, hx, hr]
  exact h g' cap' w' h2

theorem wpList_appR {ops : Array Oper} {rest : List Oper} {o : Oper} {a : Act} {Q : Exit → Act → World → Prop} {w : World} {t e size bytes : Nat} (E : El P t e size bytes) (hgd : o.guard = none) (s x : Operand)
    (ho : o.op = .call { callee := .builtin .append, args := #[s, x], argTypes := #[t, t] })
    (B g n cap : Nat) (xs : List Value) (hs : a.eval s = .slice (some ⟨g, 0, none⟩) n cap) (hown : Own w B e size g n cap xs)
    (a2 : Option Addr) (m c : Nat) (news : List Value) (hx : a.eval x = .slice a2 m c) (hl : news.length = m * size) (hrd : Rd w a2 news) (h1 : ∀ u ∈ news, u.oneCell' = true)
    (hbound : (n + m) * bytes ≤ 140737488355328 ∧ n + m ≤ 9223372036854775807) (hB : B ≤ w.heap.size)
    (h : ∀ g' cap' w', Grew w w' B e size g (n + m) g' cap' (xs ++ news) → wpList P ops Q rest (a.put o.dst (.slice (some ⟨g', 0, none⟩) (n + m) cap')) w') : wpList P ops Q (o :: rest) a w :=
  wpList_plain hgd fun _ hK => wp_appR E s x ho B g n cap xs hs hown a2 m c news hx hl hrd h1 hbound hB fun g' cap' w' h2 => hK _ _ (h g' cap' w' h2)

theorem step_appR {ops : Array Oper} {o : Oper} {a : Act} {K : Act → World → Prop} {Q : Exit → Act → World → Prop} {w : World} {F : Prop} {t e size bytes : Nat} (E : El P t e size bytes) (hgd : o.guard = none) (s x : Operand)
    (ho : o.op = .call { callee := .builtin .append, args := #[s, x], argTypes := #[t, t] })
    (B g n cap : Nat) (xs : List Value) (hs : a.eval s = .slice (some ⟨g, 0, none⟩) n cap) (hown : Own w B e size g n cap xs)
    (a2 : Option Addr) (m c : Nat) (news : List Value) (hx : a.eval x = .slice a2 m c) (hl : news.length = m * size) (hrd : Rd w a2 news) (h1 : ∀ u ∈ news, u.oneCell' = true)
    (hbound : (n + m) * bytes ≤ 140737488355328 ∧ n + m ≤ 9223372036854775807) (hB : B ≤ w.heap.size)
    (h : ∀ g' cap' w', Grew w w' B e size g (n + m) g' cap' (xs ++ news) → K (a.put o.dst (.slice (some ⟨g', 0, none⟩) (n + m) cap')) w') :
    if Region.wanted o (yielded ops a.tmps) = true then Oper.wp P o a w K Q else F := by
  have hw : Region.wanted o (yielded ops a.tmps) = true := by simp [Region.wanted, hgd]
  rw [if_pos hw]
  exact wp_appR E s x ho B g n cap xs hs hown a2 m c news hx hl hrd h1 hbound hB h
end

theorem Sv.wide {w : World} {B U B' U' : Nat} {a : Option Addr} {xs : List Value} (h : Sv w B U a xs) (hB : B' ≤ B) (hU : U ≤ U') : Sv w B' U' a xs := by
  rcases h with h | ⟨g, rfl, h1, h2, hr⟩
  · exact .inl h
  · exact .inr ⟨g, rfl, by omega, by omega, hr⟩

theorem iv_one (l : List Int) : ∀ u ∈ iv l, u.oneCell' = true := by
  intro u hu
  obtain ⟨x, _, rfl⟩ := List.mem_map.1 hu
  rfl

/-- A call hands back a new slice that it owns. -/
def RetOwn (w : World) (el size n : Nat) (xs : List Value) (e : Ending) (w' : World) : Prop :=
  ∃ g c, e = .returned (.slice (some ⟨g, 0, none⟩) n c) ∧ Own w' w.heap.size el size g n c xs ∧ Below w.heap.size w w'

/-- A call hands back a new slice of n elements with the cells xs, and nothing old has turned. -/
def RetSv (w : World) (n : Nat) (xs : List Value) (e : Ending) (w' : World) : Prop :=
  ∃ a c, e = .returned (.slice a n c) ∧ Sv w' w.heap.size w'.heap.size a xs ∧ Below w.heap.size w w'

theorem range_map_getD (xs : List Value) (d : Value) : (List.range xs.length).map (fun i => xs.getD i d) = xs := by
  apply List.ext_getElem
  · simp
  · intro i h1 h2; simp [List.getD_eq_getElem?_getD, List.getElem?_eq_getElem h2]

end Go.Proofs.Ytgkedbhpeafbbaa

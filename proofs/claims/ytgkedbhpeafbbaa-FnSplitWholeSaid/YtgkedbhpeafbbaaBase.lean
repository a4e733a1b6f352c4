/-
  What the call reads and makes in memory, said once for all walks of this seat: bytes in a block, slices that can be read, blocks that are marked cell by cell.
  Conditions: none.
-/
import Derived.WalkKit
import Derived.WalkSpells
import Derived.WalkLawsBesides
import Derived.Deep.LoopGhost
import Derived.BigQuiet
import Derived.Deep.RegionHeld3
import Derived.Deep.DrawnRows
import Derived.Deep.AppendLies
import Derived.Lib.Hide
set_option linter.unusedSimpArgs false
set_option linter.unusedVariables false
namespace Go.Proofs.Ytgkedbhpeafbbaa
open Go.RowKit

/-- A 64-bit integer. -/
def I64 (n : Int) : Prop := -9223372036854775808 ≤ n ∧ n ≤ 9223372036854775807

/-! ### worlds that come later -/

/-- A world that may stand later: below B as w was. -/
structure Later (B : Nat) (w : World) where
  val : World
  ok : Below B w val

instance Later.some (B : Nat) (w : World) : Nonempty (Later B w) := ⟨⟨w, Below.refl _ _⟩⟩

theorem Later.step {B : Nat} {w : World} (u : Later B w) {w' : World} (h : Below u.val.heap.size u.val w') (hB : B ≤ w.heap.size) : ∃ v : Later B w, w' = v.val :=
  ⟨⟨w', u.ok.trans (h.mono (Nat.le_trans hB u.ok.size))⟩, rfl⟩

theorem Below.tr {w a b : World} (h : Below w.heap.size w a) (k : Below a.heap.size a b) : Below w.heap.size w b :=
  h.trans (k.mono h.size)
theorem Below.al {w a : World} (h : Below w.heap.size w a) (o : Obj) : Below w.heap.size w (a.alloc o) := h.alloc h.size o
theorem Below.dr {w a : World} (h : Below w.heap.size w a) : Below w.heap.size w a.drew := h.drew
theorem Below.st {w a : World} (h : Below w.heap.size w a) {p : Addr} (hp : w.heap.size ≤ p.block) (u : Value) : Below w.heap.size w (a.setCell p u) := h.setCell hp u

/-- A region that draws its order, whose operations read old blocks only and whose callees only make new blocks. -/
theorem wp_region_later {P : Program} {id : Nat} {Q : Exit → Act → World → Prop} {a : Act} {w : World} {l : List Oper} (B : Nat) (hm : P.follows .mixedOrders = true) (hB : Region.lexB .any l.toArray = true)
    (h : wpQuiet P l.toArray (fun w' => ∃ u : Later B w, w' = u.val) (fun a' => ∀ w', (∃ u : Later B w, w' = u.val) → Q .normal a' w') l a) : (Code.region id l.toArray true).wp P Q a w :=
  wp_region_quiet (C := fun w' => ∃ u : Later B w, w' = u.val) hm hB ⟨⟨w.drew, (Below.refl B w).drew⟩, rfl⟩ (by simpa using h)

theorem later_call {P : Program} {f : FuncId} {args : Array Value} {B : Nat} {w : World} {u : Later B w} {v : Value} (hB : B ≤ w.heap.size)
    (h : Calls P f args u.val fun e w' => e = .returned v ∧ Below u.val.heap.size u.val w') :
    Calls P f args u.val fun e w'' => e = .returned v ∧ ∃ x : Later B w, w'' = x.val :=
  h.mono fun _ _ ⟨he, hb⟩ => ⟨he, u.step hb hB⟩

theorem later_call_same {P : Program} {f : FuncId} {args : Array Value} {B : Nat} {w : World} {u : Later B w} {v : Value}
    (h : Calls P f args u.val fun e w' => e = .returned v ∧ u.val = w') :
    Calls P f args u.val fun e w'' => e = .returned v ∧ ∃ x : Later B w, w'' = x.val :=
  h.mono fun _ _ ⟨he, hb⟩ => ⟨he, u, hb.symm⟩

/-- A cell of an old block, in every later world. -/
theorem later_cell {B : Nat} {w : World} {a : Addr} {v : Value} (h : w.cell? a = some v) (hB : a.block < B) : ∀ u : Later B w, u.val.cell? a = some v :=
  fun u => (u.ok.cell hB).trans h

@[go_sem] theorem Later.cell {B : Nat} {W : World} (u : Later B W) (a : Addr) (h : a.block < B) : u.val.cell? a = W.cell? a := u.ok.cell h
@[go_sem] theorem Later.frozen {B : Nat} {W : World} (u : Later B W) (a : Addr) (h : a.block < B) : u.val.frozen? a = W.frozen? a := u.ok.frozen h

/-- A cell of which nothing is said: what stands where an address is not seen to be old. -/
def far (w : World) (a : Addr) : Option Value := w.cell? a
def farF (w : World) (a : Addr) : Bool := w.frozen? a

/-- A cell behind a new block: which block is meant is left to linear arithmetic. -/
@[go_sem low] theorem cell_alloc_if (w : World) (o : Obj) (n i : Nat) : (w.alloc o).cell? ⟨n, i, none⟩ =
    if n < w.heap.size then w.cell? ⟨n, i, none⟩ else if n = w.heap.size then (match o with | .cells c _ _ => c[i]? | _ => none) else none := by
  show (match (w.heap.push o)[n]? with | some (.cells c _ _) => if (none : Option Nat).isSome then none else c[i]? | _ => none) = _
  rw [Array.getElem?_push]
  split
  · rename_i c e f h
    by_cases h1 : n = w.heap.size
    · subst h1; simp at h; subst h; simp
    · rw [if_neg h1] at h
      have : n < w.heap.size := (Array.getElem?_eq_some_iff.1 h).1
      rw [if_pos this]
      show _ = (match w.heap[n]? with | some (.cells c _ _) => if (none : Option Nat).isSome then none else c[i]? | _ => none)
      rw [h]
  · rename_i h
    by_cases h1 : n = w.heap.size
    · subst h1
      simp only [if_pos] at h
      rw [if_neg (by omega), if_pos rfl]
      cases o <;> first | rfl | (exact absurd rfl (h _ _ _))
    · rw [if_neg h1] at h
      by_cases h2 : n < w.heap.size
      · rw [if_pos h2]
        unfold World.cell?
        split
        · rename_i c e f h3; exact absurd h3 (h _ _ _)
        · rfl
      · simp [h1, h2]

@[go_sem low] theorem frozen_alloc_if (w : World) (c : Array Value) (e : TypeId) (lo hi n i : Nat) : (w.alloc (.cells c e (lo, hi))).frozen? ⟨n, i, none⟩ =
    if n < w.heap.size then w.frozen? ⟨n, i, none⟩ else if n = w.heap.size then (decide (lo ≤ i) && decide (i < hi)) else false := by
  show (match (w.heap.push (.cells c e (lo, hi)))[n]? with | some (.cells _ _ (lo, hi)) => lo ≤ i && i < hi | _ => false) = _
  rw [Array.getElem?_push]
  by_cases h1 : n = w.heap.size
  · subst h1; simp
  · rw [if_neg h1]
    by_cases h2 : n < w.heap.size
    · rw [if_pos h2]; rfl
    · rw [if_neg h2, if_neg h1, Array.getElem?_eq_none (by omega)]

/-- A cell behind a store. -/
@[go_sem low] theorem cell_setCell_if (w : World) (n i m j : Nat) (v : Value) : (w.setCell ⟨n, i, none⟩ v).cell? ⟨m, j, none⟩ =
    if n = m then (if i = j then (w.cell? ⟨m, j, none⟩).map (fun _ => v) else w.cell? ⟨m, j, none⟩) else w.cell? ⟨m, j, none⟩ := by
  by_cases h : n = m
  · subst h
    by_cases h2 : i = j
    · subst h2
      rw [if_pos rfl, if_pos rfl]
      cases hc : w.cell? ⟨n, i, none⟩ with
      | some u => rw [World.cell?_setCell_same w _ v hc]; rfl
      | none =>
        have hb : ∀ C e f, w.heap[n]? = some (.cells C e f) → C[i]? = none := fun C e f hh => by
          rw [cell_of_row w n i C e f hh] at hc; exact hc
        show (match (w.setCell ⟨n, i, none⟩ v).heap[n]? with | some (.cells c _ _) => if (none : Option Nat).isSome then none else c[i]? | _ => none) = none
        simp only [World.setCell, Array.getElem?_modify, if_pos]
        cases hh : w.heap[n]? with
        | none => rfl
        | some o =>
          cases o <;> first | rfl | skip
          rename_i C e f
          have := hb C e f hh
          have hsz : C.size ≤ i := by simpa using this
          simp [Array.setIfInBounds, Nat.not_lt.2 hsz]
    · rw [if_pos rfl, if_neg h2]
      exact World.cell?_setCell_other w _ _ v (by simp [h2])
  · rw [if_neg h]
    exact World.cell?_setCell_other w _ _ v (by simp [h])

/-- Behind a call that makes new blocks alone: every old cell and every old mark reads as before. -/
theorem old {B : Nat} {W w' : World} (h : Below B W w') : (∀ b o, w'.cell? ⟨b, o, none⟩ = if b < B then W.cell? ⟨b, o, none⟩ else far w' ⟨b, o, none⟩) ∧
    (∀ b o, w'.frozen? ⟨b, o, none⟩ = if b < B then W.frozen? ⟨b, o, none⟩ else farF w' ⟨b, o, none⟩) ∧ W.heap.size ≤ w'.heap.size := by
  refine ⟨fun b o => ?_, fun b o => ?_, h.size⟩
  · split
    · rename_i hb; exact h.cell hb
    · rfl
  · split
    · rename_i hb; exact h.frozen hb
    · rfl

/-- What a region's loads rest on: every cell of an old block reads as it did when the region began. -/
theorem held_start (W : World) : (∀ b o, W.cell? ⟨b, o, none⟩ = if b < W.heap.size then W.cell? ⟨b, o, none⟩ else far W ⟨b, o, none⟩) ∧ Below W.heap.size W W :=
  ⟨fun b o => by split <;> rfl, Below.refl _ _⟩
theorem held_drew (W : World) : (∀ b o, W.drew.cell? ⟨b, o, none⟩ = if b < W.heap.size then W.cell? ⟨b, o, none⟩ else far W.drew ⟨b, o, none⟩) ∧ Below W.heap.size W W.drew :=
  ⟨fun b o => by split <;> rfl, (Below.refl _ _).drew⟩
theorem held_step {W a b : World} (h : Below W.heap.size W a) (k : Below a.heap.size a b) : (∀ x o, b.cell? ⟨x, o, none⟩ = if x < W.heap.size then W.cell? ⟨x, o, none⟩ else far b ⟨x, o, none⟩) ∧ Below W.heap.size W b :=
  ⟨fun x o => by
    split
    · rename_i hx; exact (Below.tr h k).cell hx
    · rfl, Below.tr h k⟩

/-! ### strings out of bytes that lie in a block -/

/-- The bytes l lie in block b from its head. -/
def Bts (w : World) (b : Nat) (l : List UInt8) : Prop := ∀ i (h : i < l.length), w.cell? ⟨b, i, none⟩ = some (.int .u8 (l[i].toNat : Int))

theorem run_str {P : Program} (w : World) (src dst e : TypeId) (hs : P.underlying src = some (.slice e)) (he : P.underlying e = some (.int .u8)) (hd : P.underlying dst = some .string)
    (b cap n : Nat) (l : List UInt8) (hn : l.length = n) (h : Bts w b l) : (convert src dst (.slice (some ⟨b, 0, none⟩) n cap)).run P w = .ok (.string ⟨l.toArray⟩) w := by
  subst hn
  refine run_convert_bytes_back w src dst e ⟨b, 0, none⟩ cap l hs he hd fun j hj => ?_
  have := h j hj
  unfold Addr.add
  split
  · rename_i h0; subst h0; exact this
  · simpa using this

theorem wp_str {P : Program} {o : Oper} {a : Act} {K : Act → World → Prop} {Q : Exit → Act → World → Prop} {w : World} (src dst e : TypeId) (x : Operand) (ho : o.op = .convert src dst x)
    (hs : P.underlying src = some (.slice e)) (he : P.underlying e = some (.int .u8)) (hd : P.underlying dst = some .string)
    (b cap n : Nat) (l : List UInt8) (hx : a.eval x = .slice (some ⟨b, 0, none⟩) n cap) (hn : l.length = n) (h : Bts w b l) (hk : K (a.put o.dst (.string ⟨l.toArray⟩)) w) : o.wp P a w K Q := by
  unfold Oper.wp execOp
  simp only [ho, hx, Sem.run_bind, run_str w src dst e hs he hd b cap n l hn h, Result.andThen_ok, Sem.run_pure]
  exact hk

/-- A string literal of bytes: 'string([]byte{..})'. -/
theorem run_str4 {P : Program} (src dst e : TypeId) (hs : P.underlying src = some (.slice e)) (he : P.underlying e = some (.int .u8)) (hd : P.underlying dst = some .string)
    (w : World) (x0 x1 x2 x3 : Int) (h0 : 0 ≤ x0 ∧ x0 < 256) (h1 : 0 ≤ x1 ∧ x1 < 256) (h2 : 0 ≤ x2 ∧ x2 < 256) (h3 : 0 ≤ x3 ∧ x3 < 256) :
    (convert src dst (.slice (some ⟨w.heap.size, 0, none⟩) 4 4)).run P (w.alloc (.cells #[.int .u8 x0, .int .u8 x1, .int .u8 x2, .int .u8 x3] e)) =
      .ok (.string ⟨#[UInt8.ofNat x0.toNat, UInt8.ofNat x1.toNat, UInt8.ofNat x2.toNat, UInt8.ofNat x3.toNat]⟩) (w.alloc (.cells #[.int .u8 x0, .int .u8 x1, .int .u8 x2, .int .u8 x3] e)) := by
  refine run_str _ src dst e hs he hd w.heap.size 4 4 [UInt8.ofNat x0.toNat, UInt8.ofNat x1.toNat, UInt8.ofNat x2.toNat, UInt8.ofNat x3.toNat] rfl ?_
  intro i hi
  simp at hi
  rw [cell_of_row _ _ _ _ _ _ (heap_alloc_new w _)]
  match i, hi with
  | 0, _ => simp; omega
  | 1, _ => simp; omega
  | 2, _ => simp; omega
  | 3, _ => simp; omega

theorem run_str2 {P : Program} (src dst e : TypeId) (hs : P.underlying src = some (.slice e)) (he : P.underlying e = some (.int .u8)) (hd : P.underlying dst = some .string)
    (w : World) (x0 x1 : Int) (h0 : 0 ≤ x0 ∧ x0 < 256) (h1 : 0 ≤ x1 ∧ x1 < 256) :
    (convert src dst (.slice (some ⟨w.heap.size, 0, none⟩) 2 2)).run P (w.alloc (.cells #[.int .u8 x0, .int .u8 x1] e)) =
      .ok (.string ⟨#[UInt8.ofNat x0.toNat, UInt8.ofNat x1.toNat]⟩) (w.alloc (.cells #[.int .u8 x0, .int .u8 x1] e)) := by
  refine run_str _ src dst e hs he hd w.heap.size 2 2 [UInt8.ofNat x0.toNat, UInt8.ofNat x1.toNat] rfl ?_
  intro i hi
  simp at hi
  rw [cell_of_row _ _ _ _ _ _ (heap_alloc_new w _)]
  match i, hi with
  | 0, _ => simp; omega
  | 1, _ => simp; omega

/-! ### the program's structs -/

structure Fl where
  k : Int
  s : Int
  d : Int
  p : Int
  q : Int
  deriving DecidableEq

structure Sl where
  st : Int
  f : Fl
  qu : Int
  deriving DecidableEq

structure Ru where
  pr : Int
  kd : Int
  ip : Int
  bt : Int
  fp : Int
  lp : Int
  vl : Int
  ac : Int
  qu : Int
  deriving DecidableEq

structure Sg where
  kd : Int
  sp : Int
  dp : Int
  sq : Int
  ak : Int
  fl : Int
  wn : Int
  bd : ByteArray
  deriving DecidableEq

structure Pk where
  dm : Int
  sm : Int
  vl : Int
  ts : Int
  id : Int
  tt : Int
  si : Int
  di : Int
  g : Sg
  deriving DecidableEq

structure Su where
  p : Pk
  sz : Int
  ct : Int
  deriving DecidableEq

structure Sm where
  f : Fl
  nx : Int
  dt : ByteArray
  dn : Bool
  deriving DecidableEq

end Go.Proofs.Ytgkedbhpeafbbaa

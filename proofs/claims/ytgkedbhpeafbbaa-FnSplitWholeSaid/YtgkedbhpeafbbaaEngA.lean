/-
  Memory told by names: what a call reads and makes is a list of blocks under names of our own; how the worlds of the model stand to it; what a step may turn. Laws over any program.
  Conditions: none.
-/
import Derived.WalkKit
import Derived.WalkSpells
import Derived.Deep.MidRow
import Derived.Deep.AppendLies
set_option linter.unusedSimpArgs false
set_option linter.unusedVariables false
namespace Go.Proofs.Ytgkedbhpeafbbaa
open Go.RowKit

/-- Two lists, element by element. -/
inductive All2 {α β : Type} (R : α → β → Prop) : List α → List β → Prop
  | nil : All2 R [] []
  | cons {x : α} {y : β} {xs : List α} {ys : List β} : R x y → All2 R xs ys → All2 R (x :: xs) (y :: ys)

namespace All2
variable {α β : Type} {R S : α → β → Prop}

theorem len : ∀ {xs : List α} {ys : List β}, All2 R xs ys → xs.length = ys.length
  | _, _, .nil => rfl
  | _, _, .cons _ h => by simp [h.len]

theorem mono (hs : ∀ x y, R x y → S x y) : ∀ {xs : List α} {ys : List β}, All2 R xs ys → All2 S xs ys
  | _, _, .nil => .nil
  | _, _, .cons h t => .cons (hs _ _ h) (t.mono hs)

theorem get : ∀ {xs : List α} {ys : List β}, All2 R xs ys → ∀ (i : Nat) (x : α), xs[i]? = some x → ∃ y, ys[i]? = some y ∧ R x y
  | _, _, .nil, i, x, h => by simp at h
  | _, _, .cons h t, 0, x, hx => by simp at hx; subst hx; exact ⟨_, rfl, h⟩
  | _, _, .cons h t, i + 1, x, hx => by
    obtain ⟨y, h1, h2⟩ := t.get i x (by simpa using hx)
    exact ⟨y, by simpa using h1, h2⟩

theorem of_get : ∀ {xs : List α} {ys : List β}, xs.length = ys.length → (∀ (i : Nat) (x : α), xs[i]? = some x → ∃ y, ys[i]? = some y ∧ R x y) → All2 R xs ys
  | [], [], _, _ => .nil
  | x :: xs, y :: ys, hl, h => by
    refine .cons ?_ (of_get (by simpa using hl) fun i x hx => ?_)
    · obtain ⟨y', h1, h2⟩ := h 0 x rfl
      simp at h1; subst h1; exact h2
    · obtain ⟨y', h1, h2⟩ := h (i + 1) x (by simpa using hx)
      exact ⟨y', by simpa using h1, h2⟩

theorem append : ∀ {xs xs' : List α} {ys ys' : List β}, All2 R xs ys → All2 R xs' ys' → All2 R (xs ++ xs') (ys ++ ys')
  | _, _, _, _, .nil, k => k
  | _, _, _, _, .cons h t, k => .cons h (t.append k)

theorem take : ∀ {xs : List α} {ys : List β} (n : Nat), All2 R xs ys → All2 R (xs.take n) (ys.take n)
  | _, _, 0, _ => by simp; exact .nil
  | _, _, n + 1, .nil => by simp; exact .nil
  | _, _, n + 1, .cons h t => by simp; exact .cons h (t.take n)

theorem drop : ∀ {xs : List α} {ys : List β} (n : Nat), All2 R xs ys → All2 R (xs.drop n) (ys.drop n)
  | _, _, 0, h => by simpa using h
  | _, _, n + 1, .nil => by simp; exact .nil
  | _, _, n + 1, .cons h t => by simp; exact t.drop n

theorem set : ∀ {xs : List α} {ys : List β} (i : Nat) {x : α} {y : β}, All2 R xs ys → R x y → All2 R (xs.set i x) (ys.set i y)
  | _, _, _, _, _, .nil, _ => by simp; exact .nil
  | _, _, 0, _, _, .cons _ t, h => by simp; exact .cons h t
  | _, _, i + 1, _, _, .cons h0 t, h => by simp; exact .cons h0 (t.set i h)

theorem map_left {γ : Type} {T : γ → β → Prop} (f : γ → α) (h : ∀ x y, T x y → R (f x) y) : ∀ {xs : List γ} {ys : List β}, All2 T xs ys → All2 R (xs.map f) ys
  | _, _, .nil => .nil
  | _, _, .cons h0 t => .cons (h _ _ h0) (t.map_left f h)

theorem of_map {γ : Type} {T : γ → β → Prop} (f : γ → α) (h : ∀ x y, R (f x) y → T x y) : ∀ {xs : List γ} {ys : List β}, All2 R (xs.map f) ys → All2 T xs ys
  | [], _, .nil => .nil
  | _ :: _, _, .cons h0 t => .cons (h _ _ h0) (of_map f h t)

theorem refl {R : α → α → Prop} : ∀ (xs : List α), (∀ x ∈ xs, R x x) → All2 R xs xs
  | [], _ => .nil
  | x :: xs, h => .cons (h x (by simp)) (refl xs fun y hy => h y (by simp [hy]))

theorem eq_of {R : α → α → Prop} (h : ∀ x y, R x y → x = y) : ∀ {xs ys : List α}, All2 R xs ys → xs = ys
  | _, _, .nil => rfl
  | _, _, .cons h0 t => by rw [h _ _ h0, t.eq_of h]

theorem eq_of_mem {R : α → α → Prop} : ∀ {xs ys : List α}, (∀ x ∈ xs, ∀ y, R x y → y = x) → All2 R xs ys → ys = xs
  | _, _, _, .nil => rfl
  | x :: xs, _ :: _, h, .cons h0 t => by rw [h x (by simp) _ h0, t.eq_of_mem fun y hy => h y (by simp [hy])]

theorem nil_left {ys : List β} (h : All2 R [] ys) : ys = [] := by cases h; rfl
theorem cons_left {x : α} {xs : List α} {ys : List β} (h : All2 R (x :: xs) ys) : ∃ y ys', ys = y :: ys' ∧ R x y ∧ All2 R xs ys' := by
  cases h with | cons h t => exact ⟨_, _, rfl, h, t⟩
end All2

/-! ### names and what they stand for -/

/-- What a name stands for: memory (block, offset of the first cell, cells of an element, cells of the block); no memory at all; an empty slice that came in, wherever it lies. -/
inductive Base where
  | mem (b o z c : Nat)
  | nil
  | any

def Base.blk : Base → Option Nat
  | .mem b _ _ _ => some b
  | _ => none

abbrev Rho := Nat → Option Base

def Rho.le (ρ ρ' : Rho) : Prop := ∀ j b, ρ j = some b → ρ' j = some b

theorem Rho.le.rfl' {ρ : Rho} : Rho.le ρ ρ := fun _ _ h => h
theorem Rho.le.trans {ρ ρ' ρ'' : Rho} (h : Rho.le ρ ρ') (k : Rho.le ρ' ρ'') : Rho.le ρ ρ'' := fun j b hb => k j b (h j b hb)

/-- A value that fills one cell. -/
inductive VR1 (ρ : Rho) : Value → Value → Prop
  | bool (b : Bool) : VR1 ρ (.bool b) (.bool b)
  | int (k : IntKind) (n : Int) : VR1 ρ (.int k n) (.int k n)
  | str (s : ByteArray) : VR1 ρ (.string s) (.string s)
  | nilp : VR1 ρ (.pointer none) (.pointer none)
  | ptr {j s b o z c : Nat} {sp : Option Nat} : ρ j = some (.mem b o z c) → VR1 ρ (.pointer (some ⟨j, s, sp⟩)) (.pointer (some ⟨b, o + sp.getD 0 * z + s, none⟩))
  | nils : VR1 ρ (.slice none 0 0) (.slice none 0 0)
  | sl {j k n m b o z c : Nat} {a : Option Addr} : ρ j = some (.mem b o z c) → n ≤ m → (m = 0 ∨ (a = some ⟨b, o + k * z, none⟩ ∧ k * z + m * z ≤ c)) → VR1 ρ (.slice (some ⟨j, 0, some k⟩) n n) (.slice a n m)
  | slnil {j k : Nat} {a : Option Addr} : ρ j = some .nil → VR1 ρ (.slice (some ⟨j, 0, some k⟩) 0 0) (.slice a 0 0)
  | slany {j k m : Nat} {a : Option Addr} : ρ j = some .any → VR1 ρ (.slice (some ⟨j, 0, some k⟩) 0 0) (.slice a 0 m)

theorem VR1.mono {ρ ρ' : Rho} (h : Rho.le ρ ρ') {v v' : Value} (k : VR1 ρ v v') : VR1 ρ' v v' := by
  cases k with
  | bool => exact .bool _
  | int => exact .int _ _
  | str => exact .str _
  | nilp => exact .nilp
  | ptr hj => exact .ptr (h _ _ hj)
  | nils => exact .nils
  | sl hj h1 h2 => exact .sl (h _ _ hj) h1 h2
  | slnil hj => exact .slnil (h _ _ hj)
  | slany hj => exact .slany (h _ _ hj)

theorem VR1.one {ρ : Rho} {v v' : Value} (k : VR1 ρ v v') : v'.oneCell' = true := by cases k <;> rfl
theorem VR1.cells {ρ : Rho} {v v' : Value} (k : VR1 ρ v v') : v.cells = #[v] ∧ v'.cells = #[v'] := by cases k <;> exact ⟨rfl, rfl⟩

/-- A value of one cell, or a struct. -/
inductive VR2 (ρ : Rho) : Value → Value → Prop
  | one {v v' : Value} : VR1 ρ v v' → VR2 ρ v v'
  | agg {cs cs' : Array Value} : All2 (VR1 ρ) cs.toList cs'.toList → VR2 ρ (.agg cs) (.agg cs')

/-- A value, a struct, a tuple of these. -/
inductive VR (ρ : Rho) : Value → Value → Prop
  | two {v v' : Value} : VR2 ρ v v' → VR ρ v v'
  | tup {vs vs' : Array Value} : All2 (VR2 ρ) vs.toList vs'.toList → VR ρ (.tuple vs) (.tuple vs')

theorem VR2.mono {ρ ρ' : Rho} (h : Rho.le ρ ρ') {v v' : Value} (k : VR2 ρ v v') : VR2 ρ' v v' := by
  cases k with
  | one k => exact .one (k.mono h)
  | agg k => exact .agg (k.mono fun _ _ => VR1.mono h)
theorem VR.mono {ρ ρ' : Rho} (h : Rho.le ρ ρ') {v v' : Value} (k : VR ρ v v') : VR ρ' v v' := by
  cases k with
  | two k => exact .two (k.mono h)
  | tup k => exact .tup (k.mono fun _ _ => VR2.mono h)

theorem VR.of1 {ρ : Rho} {v v' : Value} (k : VR1 ρ v v') : VR ρ v v' := .two (.one k)
theorem VR.undef {ρ : Rho} : VR ρ Go.undef Go.undef := .tup .nil

theorem VR.cells {ρ : Rho} {v v' : Value} (k : VR2 ρ v v') : All2 (VR1 ρ) v.cells.toList v'.cells.toList := by
  cases k with
  | one k => rw [k.cells.1, k.cells.2]; exact .cons k .nil
  | agg k => exact k

/-- No address in it. -/
def gnd1 : Value → Bool
  | .bool _ | .int _ _ | .string _ => true
  | _ => false
def gnd : Value → Bool
  | .agg cs => cs.toList.all gnd1
  | v => gnd1 v

theorem VR1.eq {ρ : Rho} {v v' : Value} (k : VR1 ρ v v') (h : gnd1 v = true) : v' = v := by cases k <;> simp [gnd1] at h <;> rfl
theorem VR1.of_gnd {ρ : Rho} {v : Value} (h : gnd1 v = true) : VR1 ρ v v := by
  cases v <;> simp [gnd1] at h
  · exact .bool _
  · exact .int _ _
  · exact .str _
theorem VR2.eq {ρ : Rho} {v v' : Value} (k : VR2 ρ v v') (h : gnd v = true) : v' = v := by
  cases k with
  | one k => cases k <;> simp [gnd, gnd1] at h <;> rfl
  | agg k =>
    rename_i cs cs'
    have : cs'.toList = cs.toList := k.eq_of_mem fun x hx y hy => hy.eq (List.all_eq_true.1 h x hx)
    exact congrArg Value.agg (by simpa using this)
theorem VR2.of_gnd {ρ : Rho} {v : Value} (h : gnd v = true) : VR2 ρ v v := by
  cases v with
  | agg cs => exact .agg (All2.refl _ fun x hx => .of_gnd (List.all_eq_true.1 h x hx))
  | bool => exact .one (.bool _)
  | int => exact .one (.int _ _)
  | string => exact .one (.str _)
  | _ => simp [gnd, gnd1] at h
theorem VR.eq {ρ : Rho} {v v' : Value} (k : VR ρ v v') (h : gnd v = true) : v' = v := by
  cases k with
  | two k => exact k.eq h
  | tup k => simp [gnd, gnd1] at h
theorem VR.of_gnd {ρ : Rho} {v : Value} (h : gnd v = true) : VR ρ v v := .two (.of_gnd h)

theorem VR.int_inv {ρ : Rho} {k : IntKind} {n : Int} {v : Value} (h : VR ρ (.int k n) v) : v = .int k n := h.eq rfl
theorem VR.bool_inv {ρ : Rho} {b : Bool} {v : Value} (h : VR ρ (.bool b) v) : v = .bool b := h.eq rfl
theorem VR.str_inv {ρ : Rho} {s : ByteArray} {v : Value} (h : VR ρ (.string s) v) : v = .string s := h.eq rfl
theorem VR.ptr_inv {ρ : Rho} {j s : Nat} {sp : Option Nat} {v : Value} (h : VR ρ (.pointer (some ⟨j, s, sp⟩)) v) :
    ∃ b o z c, ρ j = some (.mem b o z c) ∧ v = .pointer (some ⟨b, o + sp.getD 0 * z + s, none⟩) := by
  cases h with
  | two h => cases h with
    | one h => cases h with
      | ptr hj => exact ⟨_, _, _, _, hj, rfl⟩
theorem VR.agg_inv {ρ : Rho} {cs : Array Value} {v : Value} (h : VR ρ (.agg cs) v) : ∃ cs', v = .agg cs' ∧ All2 (VR1 ρ) cs.toList cs'.toList := by
  cases h with
  | two h => cases h with
    | one h => cases h
    | agg h => exact ⟨_, rfl, h⟩
theorem VR.tup_inv {ρ : Rho} {vs : Array Value} {v : Value} (h : VR ρ (.tuple vs) v) : ∃ vs', v = .tuple vs' ∧ All2 (VR2 ρ) vs.toList vs'.toList := by
  cases h with
  | two h => cases h with
    | one h => cases h
  | tup h => exact ⟨_, rfl, h⟩

/-- What a slice of ours stands for. -/
def SlOk (ρ : Rho) (j k n : Nat) (a : Option Addr) (m : Nat) : Prop :=
  n ≤ m ∧ ((∃ b o z c, ρ j = some (.mem b o z c) ∧ (m = 0 ∨ (a = some ⟨b, o + k * z, none⟩ ∧ k * z + m * z ≤ c))) ∨ (ρ j = some .nil ∧ m = 0) ∨ (ρ j = some .any ∧ n = 0))

theorem VR.sl_inv {ρ : Rho} {j k n : Nat} {v : Value} (h : VR ρ (.slice (some ⟨j, 0, some k⟩) n n) v) : ∃ a m, v = .slice a n m ∧ SlOk ρ j k n a m := by
  cases h with
  | two h => cases h with
    | one h => cases h with
      | sl hj h1 h2 => exact ⟨_, _, rfl, h1, .inl ⟨_, _, _, _, hj, h2⟩⟩
      | slnil hj => exact ⟨_, _, rfl, Nat.le_refl _, .inr (.inl ⟨hj, rfl⟩)⟩
      | slany hj => exact ⟨_, _, rfl, Nat.zero_le _, .inr (.inr ⟨hj, rfl⟩)⟩

theorem SlOk.vr1 {ρ : Rho} {j k n : Nat} {a : Option Addr} {m : Nat} (h : SlOk ρ j k n a m) : VR1 ρ (.slice (some ⟨j, 0, some k⟩) n n) (.slice a n m) := by
  obtain ⟨h1, ⟨b, o, z, c, h2, h3⟩ | ⟨h2, h3⟩ | ⟨h2, h3⟩⟩ := h
  · exact .sl h2 h1 h3
  · subst h3
    obtain rfl : n = 0 := by omega
    exact .slnil h2
  · subst h3; exact .slany h2

/-! ### blocks -/

/-- What may be done to a row of elements: read only; written; appended to (the element's type). -/
inductive Ow where
  | ro
  | rw
  | ap (e : TypeId)

def Ow.own : Ow → Bool
  | .ro => false
  | _ => true

/-- A block under a name of ours: given up; a variable, cell by cell; a row of elements (cells of an element, what may be done, the elements). -/
inductive Blk where
  | dead
  | row (cs : List Value)
  | arr (z : Nat) (ow : Ow) (rows : List (List Value))

def Blk.live : Blk → Bool
  | .dead => false
  | _ => true
def Blk.own : Blk → Bool
  | .dead => false
  | .row _ => true
  | .arr _ ow _ => ow.own
theorem Blk.own_live {b : Blk} (h : b.own = true) : b.live = true := by cases b <;> simp_all [Blk.own, Blk.live]

def Blk.cells : Blk → List Value
  | .dead => []
  | .row cs => cs
  | .arr _ _ rows => rows.flatten

def Blk.zok (z : Nat) : Blk → Prop
  | .arr z' _ rows => z' = z ∧ ∀ r ∈ rows, r.length = z
  | _ => True

/-- The elements of a row bear no address. -/
def Blk.gok : Blk → Prop
  | .arr _ _ rows => ∀ r ∈ rows, r.all gnd1 = true
  | _ => True

/-- Block k is there, has c cells and may be written. -/
def OwnB (w : World) (k c : Nat) : Prop := ∃ C e f, w.heap[k]? = some (.cells C e f) ∧ (f.2 ≤ f.1 ∨ C.size ≤ f.1) ∧ C.size = c

def Blk.ownok (w : World) (k c : Nat) : Blk → Prop
  | .dead | .arr _ .ro _ => True
  | .row _ | .arr _ .rw _ => OwnB w k c
  | .arr _ (.ap e) _ => ∃ C : Array Value, w.heap[k]? = some (.cells C e (0, 0)) ∧ C.size = c

/-- The block at memory. -/
structure Blk.okm (ρ : Rho) (w : World) (b : Blk) (k o z c : Nat) : Prop where
  zok : b.zok z
  at0 : b.own = true → o = 0
  own : b.ownok w k c
  lt : k < w.heap.size
  cell : ∀ i v, b.cells[i]? = some v → ∃ v', w.cell? ⟨k, o + i, none⟩ = some v' ∧ VR1 ρ v v'
  gok : b.gok

def Blk.ok (ρ : Rho) (w : World) (b : Blk) : Option Base → Prop
  | some (.mem k o z c) => b.okm ρ w k o z c
  | some .nil => ∃ z ow, b = .arr z ow []
  | some .any => ∃ z, b = .arr z .ro []
  | none => False

abbrev Hp := Nat → Blk

def Owned (ρ : Rho) (h : Hp) (k : Nat) : Prop := ∃ j, (h j).own = true ∧ (ρ j).bind Base.blk = some k

/-- The world holds these blocks. -/
structure HR (ρ : Rho) (h : Hp) (w : World) : Prop where
  ok : ∀ j, (h j).live = true → (h j).ok ρ w (ρ j)
  sep : ∀ i j k, i ≠ j → (h i).own = true → (h j).live = true → (ρ i).bind Base.blk = some k → (ρ j).bind Base.blk = some k → False

/-- What a step may turn. -/
structure Step (ρ : Rho) (h : Hp) (w : World) (ρ' : Rho) (h' : Hp) (w' : World) : Prop where
  os : w'.os = w.os
  tape : w'.tape = w.tape
  output : w'.output = w.output
  size : w.heap.size ≤ w'.heap.size
  keep : ∀ k, k < w.heap.size → ¬ Owned ρ h k → w'.heap[k]? = w.heap[k]?
  ext : Rho.le ρ ρ'
  live : ∀ j, (h' j).live = true → ((h j).live = true ∧ ρ' j = ρ j ∧ ((h' j).own = true → (h j).own = true)) ∨ (ρ j = none ∧ ∀ k, (ρ' j).bind Base.blk = some k → w.heap.size ≤ k ∨ Owned ρ h k)

theorem Step.refl (ρ : Rho) (h : Hp) (w : World) : Step ρ h w ρ h w :=
  ⟨rfl, rfl, rfl, Nat.le_refl _, fun _ _ _ => rfl, Rho.le.rfl', fun j hl => .inl ⟨hl, rfl, id⟩⟩

theorem Step.owned {ρ ρ' : Rho} {h h' : Hp} {w w' : World} (s : Step ρ h w ρ' h' w') {k : Nat} (ho : Owned ρ' h' k) : w.heap.size ≤ k ∨ Owned ρ h k := by
  obtain ⟨j, hj, hk⟩ := ho
  rcases s.live j (Blk.own_live hj) with ⟨h1, h2, h3⟩ | ⟨h1, h2⟩
  · exact .inr ⟨j, h3 hj, by rw [← h2]; exact hk⟩
  · exact h2 k hk

theorem Step.trans {ρ ρ' ρ'' : Rho} {h h' h'' : Hp} {w w' w'' : World} (s : Step ρ h w ρ' h' w') (t : Step ρ' h' w' ρ'' h'' w'') : Step ρ h w ρ'' h'' w'' where
  os := t.os.trans s.os
  tape := t.tape.trans s.tape
  output := t.output.trans s.output
  size := Nat.le_trans s.size t.size
  keep k hk hn := by
    refine (t.keep k (Nat.lt_of_lt_of_le hk s.size) fun ho => ?_).trans (s.keep k hk hn)
    rcases s.owned ho with h1 | h1
    · omega
    · exact hn h1
  ext := s.ext.trans t.ext
  live j hj := by
    rcases t.live j hj with ⟨h1, h2, h3⟩ | ⟨h1, h2⟩
    · rcases s.live j h1 with ⟨k1, k2, k3⟩ | ⟨k1, k2⟩
      · exact .inl ⟨k1, h2.trans k2, fun x => k3 (h3 x)⟩
      · exact .inr ⟨k1, fun k hk => k2 k (by rw [← h2]; exact hk)⟩
    · refine .inr ⟨?_, fun k hk => ?_⟩
      · cases hr : ρ j with
        | none => rfl
        | some b => rw [s.ext j b hr] at h1; cases h1
      · rcases h2 k hk with h3 | h3
        · exact .inl (Nat.le_trans s.size h3)
        · exact s.owned h3

theorem Step.drew {ρ ρ' : Rho} {h h' : Hp} {w w' : World} (s : Step ρ h w ρ' h' w') : Step ρ h w ρ' h' w'.drew :=
  ⟨s.os, s.tape, s.output, s.size, s.keep, s.ext, s.live⟩

theorem Blk.ok_drew {ρ : Rho} {w : World} {b : Blk} {x : Option Base} (h : b.ok ρ w x) : b.ok ρ w.drew x := by
  cases x with
  | none => exact h
  | some x =>
    cases x with
    | nil => exact h
    | any => exact h
    | mem k o z c => exact ⟨h.zok, h.at0, h.own, h.lt, h.cell, h.gok⟩

theorem HR.drew {ρ : Rho} {h : Hp} {w : World} (k : HR ρ h w) : HR ρ h w.drew := ⟨fun j hj => Blk.ok_drew (k.ok j hj), k.sep⟩

/-- The block as it stood, in a later world where it has not turned. -/
theorem Blk.ok_later {ρ ρ' : Rho} {w w' : World} {b : Blk} {x : Option Base} (h : b.ok ρ w x) (hle : Rho.le ρ ρ') (hs : w.heap.size ≤ w'.heap.size)
    (hk : ∀ k, x.bind Base.blk = some k → w'.heap[k]? = w.heap[k]?) : b.ok ρ' w' x := by
  cases x with
  | none => exact h
  | some x =>
    cases x with
    | nil => exact h
    | any => exact h
    | mem k o z c =>
      have hb := hk k rfl
      refine ⟨h.zok, h.at0, ?_, Nat.lt_of_lt_of_le h.lt hs, fun i v hv => ?_, h.gok⟩
      · have ho := h.own
        cases b with
        | dead => trivial
        | row cs => obtain ⟨C, e, f, h1, h2⟩ := ho; exact ⟨C, e, f, by rw [hb]; exact h1, h2⟩
        | arr z' ow rows =>
          cases ow with
          | ro => trivial
          | rw => obtain ⟨C, e, f, h1, h2⟩ := ho; exact ⟨C, e, f, by rw [hb]; exact h1, h2⟩
          | ap e => obtain ⟨C, h1, h2⟩ := ho; exact ⟨C, by rw [hb]; exact h1, h2⟩
      · obtain ⟨v', h1, h2⟩ := h.cell i v hv
        exact ⟨v', by rw [← h1]; exact World.cell?_of_block (w := w) hb, h2.mono hle⟩

/-- THE FRAME: a step over some of the blocks, among all of them. -/
theorem HR.frame {ρ ρ' : Rho} {S S' G G' : Hp} {w w' : World} (hG : HR ρ G w) (hS' : HR ρ' S' w') (st : Step ρ S w ρ' S' w')
    (hsub : ∀ j, (S j).live = true → G j = S j) (hin : ∀ j, (S j).live = true ∨ ((S' j).live = true) → G' j = S' j)
    (hout : ∀ j, (S j).live = false → (S' j).live = false → G' j = G j ∨ (G' j).live = false) :
    HR ρ' G' w' ∧ Step ρ G w ρ' G' w' := by
  have own_sub : ∀ k, Owned ρ S k → Owned ρ G k := fun k ⟨j, h1, h2⟩ => ⟨j, by rw [hsub j (Blk.own_live h1)]; exact h1, h2⟩
  -- an old block that the step does not see has not turned
  have old : ∀ j, (G j).live = true → (S j).live = false → ρ' j = ρ j ∧ ∀ k, (ρ j).bind Base.blk = some k → k < w.heap.size ∧ ¬ Owned ρ S k := fun j hj hs => by
    have hok := hG.ok j hj
    refine ⟨?_, fun k hk => ⟨?_, ?_⟩⟩
    · cases hr : ρ j with
      | none => rw [hr] at hok; exact hok.elim
      | some b => exact st.ext j b hr
    · cases hr : ρ j with
      | none => rw [hr] at hok; exact hok.elim
      | some b =>
        rw [hr] at hok hk
        cases b with
        | mem k' o z c => simp [Base.blk] at hk; subst hk; exact hok.lt
        | nil => simp [Base.blk] at hk
        | any => simp [Base.blk] at hk
    · rintro ⟨i, h1, h2⟩
      have hne : i ≠ j := fun e => by subst e; rw [Blk.own_live h1] at hs; cases hs
      have hi := hsub i (Blk.own_live h1)
      exact hG.sep i j k hne (by rw [hi]; exact h1) hj h2 hk
  have cls : ∀ j, (G' j).live = true → ((S' j).live = true ∧ G' j = S' j) ∨ ((G j).live = true ∧ G' j = G j ∧ (S j).live = false) := fun j hj => by
    by_cases h1 : (S' j).live = true
    · exact .inl ⟨h1, hin j (.inr h1)⟩
    · by_cases h2 : (S j).live = true
      · have := hin j (.inl h2); rw [this] at hj; exact absurd hj h1
      · rcases hout j (by simpa using h2) (by simpa using h1) with h3 | h3
        · exact .inr ⟨by rw [← h3]; exact hj, h3, by simpa using h2⟩
        · rw [h3] at hj; cases hj
  -- where the memory of a block of S' lies
  have newmem : ∀ j k, (S' j).live = true → (ρ' j).bind Base.blk = some k → w.heap.size ≤ k ∨ Owned ρ S k ∨ ((S j).live = true ∧ ρ' j = ρ j) := fun j k hj hk => by
    rcases st.live j hj with ⟨h1, h2, h3⟩ | ⟨h1, h2⟩
    · exact .inr (.inr ⟨h1, h2⟩)
    · rcases h2 k hk with h3 | h3
      · exact .inl h3
      · exact .inr (.inl h3)
  refine ⟨⟨fun j hj => ?_, fun i j k hne hi hj hki hkj => ?_⟩, ⟨st.os, st.tape, st.output, st.size, fun k hk hn => st.keep k hk fun ho => hn (own_sub k ho), st.ext, fun j hj => ?_⟩⟩
  · rcases cls j hj with ⟨h1, h2⟩ | ⟨h1, h2, h3⟩
    · rw [h2]; exact hS'.ok j h1
    · rw [h2]
      obtain ⟨h4, h5⟩ := old j h1 h3
      rw [h4]
      exact Blk.ok_later (hG.ok j h1) st.ext st.size fun k hk => st.keep k (h5 k hk).1 (h5 k hk).2
  · have hil := Blk.own_live hi
    rcases cls i hil with ⟨a1, a2⟩ | ⟨a1, a2, a3⟩
    · rcases cls j hj with ⟨b1, b2⟩ | ⟨b1, b2, b3⟩
      · rw [a2] at hi; exact hS'.sep i j k hne hi b1 hki hkj
      · obtain ⟨h4, h5⟩ := old j b1 b3
        rw [h4] at hkj
        obtain ⟨h6, h7⟩ := h5 k hkj
        rcases newmem i k a1 hki with h8 | h8 | ⟨h8, h9⟩
        · omega
        · exact h7 h8
        · rcases st.live i a1 with ⟨c1, c2, c3⟩ | ⟨c1, c2⟩
          · exact h7 ⟨i, c3 (by rw [← a2]; exact hi), by rw [← c2]; exact hki⟩
          · rcases c2 k hki with h10 | h10
            · omega
            · exact h7 h10
    · obtain ⟨h4, h5⟩ := old i a1 a3
      rw [h4] at hki
      obtain ⟨h6, h7⟩ := h5 k hki
      rw [a2] at hi
      rcases cls j hj with ⟨b1, b2⟩ | ⟨b1, b2, b3⟩
      · rcases newmem j k b1 hkj with h8 | h8 | ⟨h8, h9⟩
        · omega
        · exact h7 h8
        · rw [h9] at hkj
          exact hG.sep i j k hne hi (by rw [hsub j h8]; exact h8) hki hkj
      · obtain ⟨h8, _⟩ := old j b1 b3
        rw [h8] at hkj
        exact hG.sep i j k hne hi b1 hki hkj
  · rcases cls j hj with ⟨h1, h2⟩ | ⟨h1, h2, h3⟩
    · rcases st.live j h1 with ⟨c1, c2, c3⟩ | ⟨c1, c2⟩
      · refine .inl ⟨by rw [hsub j c1]; exact c1, c2, fun h => ?_⟩
        rw [hsub j c1]; rw [h2] at h; exact c3 h
      · refine .inr ⟨c1, fun k hk => ?_⟩
        rcases c2 k hk with h4 | h4
        · exact .inl h4
        · exact .inr (own_sub k h4)
    · exact .inl ⟨h1, (old j h1 h3).1, fun h => by rw [h2] at h; exact h⟩

/-! ### other names -/

/-- A cell under other names. -/
def ren1 (τ : Nat → Nat) : Value → Value
  | .pointer (some ⟨j, s, sp⟩) => .pointer (some ⟨τ j, s, sp⟩)
  | .slice (some ⟨j, s, sp⟩) n m => .slice (some ⟨τ j, s, sp⟩) n m
  | v => v
def ren2 (τ : Nat → Nat) : Value → Value
  | .agg cs => .agg (cs.toList.map (ren1 τ)).toArray
  | v => ren1 τ v
def ren (τ : Nat → Nat) : Value → Value
  | .tuple vs => .tuple (vs.toList.map (ren2 τ)).toArray
  | v => ren2 τ v
def Blk.ren (τ : Nat → Nat) : Blk → Blk
  | .dead => .dead
  | .row cs => .row (cs.map (ren1 τ))
  | .arr z ow rows => .arr z ow rows

theorem ren1_gnd {τ : Nat → Nat} {v : Value} (h : gnd1 v = true) : ren1 τ v = v := by cases v <;> simp [gnd1] at h <;> rfl

/-- Towards more names. -/
theorem VR1.ren {ρa ρb : Rho} {τ : Nat → Nat} (h : ∀ i b, ρa i = some b → ρb (τ i) = some b) {v v' : Value} (k : VR1 ρa v v') : VR1 ρb (ren1 τ v) v' := by
  cases k with
  | bool => exact .bool _
  | int => exact .int _ _
  | str => exact .str _
  | nilp => exact .nilp
  | ptr hj => exact .ptr (h _ _ hj)
  | nils => exact .nils
  | sl hj h1 h2 => exact .sl (h _ _ hj) h1 h2
  | slnil hj => exact .slnil (h _ _ hj)
  | slany hj => exact .slany (h _ _ hj)
/-- And back. -/
theorem VR1.unren {ρa ρb : Rho} {τ : Nat → Nat} (h : ∀ i, ρa i = ρb (τ i)) {v v' : Value} (k : VR1 ρb (ren1 τ v) v') : VR1 ρa v v' := by
  cases v with
  | pointer a =>
    cases a with
    | none => cases k; exact .nilp
    | some a => obtain ⟨j, s, sp⟩ := a; cases k with | ptr hj => exact .ptr (by rw [h]; exact hj)
  | slice a n m =>
    cases a with
    | none => cases k; exact .nils
    | some a =>
      obtain ⟨j, s, sp⟩ := a
      cases k with
      | sl hj h1 h2 => exact .sl (by rw [h]; exact hj) h1 h2
      | slnil hj => exact .slnil (by rw [h]; exact hj)
      | slany hj => exact .slany (by rw [h]; exact hj)
  | bool => cases k; exact .bool _
  | int => cases k; exact .int _ _
  | string => cases k; exact .str _
  | _ => cases k

theorem VR2.ren {ρa ρb : Rho} {τ : Nat → Nat} (h : ∀ i b, ρa i = some b → ρb (τ i) = some b) {v v' : Value} (k : VR2 ρa v v') : VR2 ρb (ren2 τ v) v' := by
  cases k with
  | one k => have := k.ren h; cases k <;> exact .one this
  | agg k => exact .agg (by simpa using k.map_left (ren1 τ) fun x y hxy => hxy.ren h)
theorem VR.ren {ρa ρb : Rho} {τ : Nat → Nat} (h : ∀ i b, ρa i = some b → ρb (τ i) = some b) {v v' : Value} (k : VR ρa v v') : VR ρb (ren τ v) v' := by
  cases k with
  | two k =>
    have := k.ren h
    cases k with
    | one k => cases k <;> exact .two this
    | agg k => exact .two this
  | tup k => exact .tup (by simpa using k.map_left (ren2 τ) fun x y hxy => hxy.ren h)
theorem VR2.unren {ρa ρb : Rho} {τ : Nat → Nat} (h : ∀ i, ρa i = ρb (τ i)) {v v' : Value} (k : VR2 ρb (ren2 τ v) v') : VR2 ρa v v' := by
  cases v with
  | agg cs =>
    cases k with
    | one k => cases k
    | agg k => exact .agg (All2.of_map (R := VR1 ρb) (ren1 τ) (fun x y hxy => VR1.unren h hxy) (by simpa using k))
  | _ =>
    refine .one (VR1.unren h (τ := τ) ?_)
    first
      | (cases k with | one k => exact k)
      | (rename_i a; cases a <;> (cases k with | one k => exact k))
      | (rename_i a n m; cases a <;> (cases k with | one k => exact k))
theorem VR.unren {ρa ρb : Rho} {τ : Nat → Nat} (h : ∀ i, ρa i = ρb (τ i)) {v v' : Value} (k : VR ρb (Proofs.Ytgkedbhpeafbbaa.ren τ v) v') : VR ρa v v' := by
  cases v with
  | tuple vs =>
    cases k with
    | two k => cases k with | one k => cases k
    | tup k => exact .tup (All2.of_map (R := VR2 ρb) (ren2 τ) (fun x y hxy => VR2.unren h hxy) (by simpa using k))
  | _ =>
    refine .two (VR2.unren h (τ := τ) ?_)
    first
      | (cases k with | two k => exact k)
      | (rename_i a; cases a <;> (cases k with | two k => exact k))
      | (rename_i a n m; cases a <;> (cases k with | two k => exact k))

end Go.Proofs.Ytgkedbhpeafbbaa

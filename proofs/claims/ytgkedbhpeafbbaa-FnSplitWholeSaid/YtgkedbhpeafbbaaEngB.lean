/-
  Operations over memory told by names: what each of them yields, which blocks it reads, writes, makes.
  Conditions: each law states its own.
-/
import Derived.Test.YtgkedbhpeafbbaaEngA
set_option linter.unusedSimpArgs false
set_option linter.unusedVariables false
namespace Go.Proofs.Ytgkedbhpeafbbaa
open Go.RowKit

/-- What is known of the slots. -/
abbrev Env := List (Nat × Value)

def Env.look : Env → Nat → Option Value
  | [], _ => none
  | (t, v) :: r, s => match Nat.beq t s with
    | true => some v
    | false => Env.look r s

def constOk : Value → Bool
  | .slice none 0 0 => true
  | .pointer none => true
  | v => gnd v

def Env.get (env : Env) : Operand → Option Value
  | .tmp t => env.look t
  | .const v => match constOk v with
    | true => some v
    | false => none
  | _ => none

def Env.put (env : Env) (d : Option Tmp) (v : Value) : Env :=
  match d with
  | some t => (t, v) :: env
  | none => env

theorem constOk_vr {ρ : Rho} {v : Value} (h : constOk v = true) : VR ρ v v := by
  unfold constOk at h
  split at h
  · exact .of1 .nils
  · exact .of1 .nilp
  · exact .of_gnd h

theorem Env.get_const {env : Env} {v u : Value} (h : env.get (.const v) = some u) : u = v ∧ constOk v = true := by
  simp only [Env.get] at h
  split at h
  · rename_i hc; simp at h; exact ⟨h.symm, hc⟩
  · cases h

/-- What an operation's operands are, in a frame. -/
def EvOk (ρ : Rho) (env : Env) (a : Act) (xs : Array Operand) : Prop := ∀ x ∈ xs, ∀ u, env.get x = some u → VR ρ u (a.eval x)

/-- The blocks that an operation sees. -/
def mask (n : Nat) (L : List Nat) (H : List Blk) : Hp := fun j => if j < n then (if j ∈ L then H.getD j .dead else .dead) else H.getD j .dead

def hp (H : List Blk) : Hp := fun j => H.getD j .dead

/-- The operation yields v; it sees the blocks R and W alone, turns W alone, and makes what stands behind. -/
structure OpOK (P : Program) (o : Oper) (env : Env) (H : List Blk) (v : Value) (H' : List Blk) (R W : List Nat) : Prop where
  len : H.length ≤ H'.length
  off : ∀ j, j < H.length → j ∉ W → H'[j]? = H[j]?
  old : ∀ j, j ∈ R ++ W → j < H.length
  run : ∀ (ρ : Rho) (a : Act) (w : World), EvOk ρ env a o.op.operands → HR ρ (mask H.length (R ++ W) H) w → (∀ j, H.length ≤ j → j < H'.length → ρ j = none) →
    ∀ (K : Act → World → Prop) (Q : Exit → Act → World → Prop),
      (∀ ρ' cv w', VR ρ' v cv → HR ρ' (mask H.length (R ++ W) H') w' → Step ρ (mask H.length (R ++ W) H) w ρ' (mask H.length (R ++ W) H') w' →
        (∀ j, j < H.length ∨ H'.length ≤ j → ρ' j = ρ j) → K (a.put o.dst cv) w') → o.wp P a w K Q

theorem wp_val {P : Program} {o : Oper} {a : Act} {w w' : World} {K : Act → World → Prop} {Q : Exit → Act → World → Prop} {v : Value}
    (h : (execOp a.eval o).run P w = .ok (.value v) w') (hk : K (a.put o.dst v) w') : o.wp P a w K Q := by
  unfold Oper.wp; rw [h]; exact hk
theorem wp_skp {P : Program} {o : Oper} {a : Act} {w w' : World} {K : Act → World → Prop} {Q : Exit → Act → World → Prop}
    (h : (execOp a.eval o).run P w = .ok .skip w') (hk : K (a.put o.dst undef) w') : o.wp P a w K Q := by
  unfold Oper.wp; rw [h]; exact hk

section
variable {P : Program} {o : Oper} {env : Env} {H : List Blk} {v : Value}

/-- An operation that touches no memory. -/
theorem OpOK.pure (h : ∀ (ρ : Rho) (a : Act), EvOk ρ env a o.op.operands → ∃ cv, (∀ w, (execOp a.eval o).run P w = .ok (.value cv) w) ∧ VR ρ v cv) : OpOK P o env H v H [] [] where
  len := Nat.le_refl _
  off _ _ _ := rfl
  old j hj := by simp at hj
  run ρ a w he hr _ K Q hk := by
    obtain ⟨cv, h1, h2⟩ := h ρ a he
    exact wp_val (h1 w) (hk ρ cv w h2 hr (Step.refl _ _ _) fun _ _ => rfl)

/-- An operation that only reads. -/
theorem OpOK.read {R : List Nat} (ho : ∀ j, j ∈ R → j < H.length) (h : ∀ (ρ : Rho) (a : Act) (w : World), EvOk ρ env a o.op.operands → HR ρ (mask H.length (R ++ []) H) w → ∃ cv, (execOp a.eval o).run P w = .ok (.value cv) w ∧ VR ρ v cv) : OpOK P o env H v H R [] where
  len := Nat.le_refl _
  off _ _ _ := rfl
  old j hj := ho j (by simpa using hj)
  run ρ a w he hr _ K Q hk := by
    obtain ⟨cv, h1, h2⟩ := h ρ a w he hr
    exact wp_val h1 (hk ρ cv w h2 hr (Step.refl _ _ _) fun _ _ => rfl)

/-- The world has new blocks. -/
structure WExt (w w' : World) : Prop where
  os : w'.os = w.os
  tape : w'.tape = w.tape
  output : w'.output = w.output
  size : w.heap.size ≤ w'.heap.size
  keep : ∀ k, k < w.heap.size → w'.heap[k]? = w.heap[k]?

theorem WExt.refl (w : World) : WExt w w := ⟨rfl, rfl, rfl, Nat.le_refl _, fun _ _ => rfl⟩
theorem WExt.alloc (w : World) (ob : Obj) : WExt w (w.alloc ob) := ⟨rfl, rfl, rfl, by simp, fun k hk => heap_alloc_old w ob hk⟩
theorem WExt.trans {a b c : World} (h : WExt a b) (k : WExt b c) : WExt a c :=
  ⟨k.os.trans h.os, k.tape.trans h.tape, k.output.trans h.output, Nat.le_trans h.size k.size, fun i hi => (k.keep i (Nat.lt_of_lt_of_le hi h.size)).trans (h.keep i hi)⟩
theorem WExt.drew {a b : World} (h : WExt a b) : WExt a b.drew := ⟨h.os, h.tape, h.output, h.size, h.keep⟩

def Rho.set (ρ : Rho) (n : Nat) (x : Base) : Rho := fun j => if j = n then some x else ρ j

theorem Rho.le_set {ρ : Rho} {n : Nat} {x : Base} (h : ρ n = none) : Rho.le ρ (ρ.set n x) := fun j b hb => by
  unfold Rho.set
  split
  · rename_i e; subst e; rw [h] at hb; cases hb
  · exact hb

/-- A new block under a new name. -/
theorem HR.new {ρ : Rho} {S : Hp} {w w' : World} {n : Nat} {b : Blk} {x : Base} (hr : HR ρ S w) (hn : ρ n = none) (hd : (S n).live = false) (he : WExt w w')
    (hb : b.ok (ρ.set n x) w' (some x)) (hx : ∀ k, x.blk = some k → w.heap.size ≤ k) :
    HR (ρ.set n x) (fun j => if j = n then b else S j) w' ∧ Step ρ S w (ρ.set n x) (fun j => if j = n then b else S j) w' := by
  have hle := Rho.le_set (x := x) hn
  have hlt : ∀ j k, (S j).live = true → (ρ j).bind Base.blk = some k → k < w.heap.size := fun j k hj hk => by
    have hok := hr.ok j hj
    cases hq : ρ j with
    | none => rw [hq] at hok; exact hok.elim
    | some b =>
      rw [hq] at hok hk
      cases b with
      | mem k' o z c => simp [Base.blk] at hk; subst hk; exact hok.lt
      | nil => simp [Base.blk] at hk
      | any => simp [Base.blk] at hk
  refine ⟨⟨fun j hj => ?_, fun i j k hne hi hj hki hkj => ?_⟩, ⟨he.os, he.tape, he.output, he.size, fun k hk _ => he.keep k hk, hle, fun j hj => ?_⟩⟩
  · by_cases e : j = n
    · subst e; simpa [Rho.set] using hb
    · simp only [if_neg e] at hj ⊢
      have : (ρ.set n x) j = ρ j := by simp [Rho.set, e]
      rw [this]
      exact Blk.ok_later (hr.ok j hj) hle he.size fun k hk => he.keep k (hlt j k hj hk)
  · by_cases e1 : i = n
    · subst e1
      have e2 : j ≠ i := fun e => hne e.symm
      simp only [if_neg e2] at hj
      simp only [Rho.set, if_neg e2] at hkj
      have hki2 : x.blk = some k := by simpa [Rho.set] using hki
      have := hx k hki2
      have := hlt j k hj hkj
      omega
    · simp only [if_neg e1] at hi
      simp only [Rho.set, if_neg e1] at hki
      by_cases e2 : j = n
      · subst e2
        have hkj2 : x.blk = some k := by simpa [Rho.set] using hkj
        have := hx k hkj2
        have := hlt i k (Blk.own_live hi) hki
        omega
      · simp only [if_neg e2] at hj
        simp only [Rho.set, if_neg e2] at hkj
        exact hr.sep i j k hne hi hj hki hkj
  · by_cases e : j = n
    · subst e
      exact .inr ⟨hn, fun k hk => .inl (hx k (by simpa [Rho.set] using hk))⟩
    · simp only [if_neg e] at hj ⊢
      exact .inl ⟨hj, by simp [Rho.set, e], id⟩

theorem mask_new {n : Nat} {L : List Nat} {H : List Blk} {b : Blk} (hn : n = H.length) : mask n L (H ++ [b]) = fun j => if j = n then b else mask n L H j := by
  subst hn
  funext j
  unfold mask
  by_cases e : j = H.length
  · subst e; simp
  · rw [if_neg e]
    by_cases h : j < H.length
    · simp [h, List.getElem?_append_left]
    · simp only [h, if_false]
      simp only [List.getD_eq_getElem?_getD]
      rw [List.getElem?_eq_none (by simp; omega), List.getElem?_eq_none (by omega)]

theorem mask_dead {n : Nat} {L : List Nat} {H : List Blk} (hn : n = H.length) : (mask n L H n).live = false := by
  subst hn; simp [mask, Blk.live]

/-- An operation that makes one block. -/
theorem OpOK.make {R : List Nat} {b : Blk} (ho : ∀ j, j ∈ R → j < H.length) (h : ∀ (ρ : Rho) (a : Act) (w : World), EvOk ρ env a o.op.operands → HR ρ (mask H.length (R ++ []) H) w → ρ H.length = none →
    ∃ cv w' x, (execOp a.eval o).run P w = .ok (.value cv) w' ∧ WExt w w' ∧ (∀ k, x.blk = some k → w.heap.size ≤ k) ∧ b.ok (ρ.set H.length x) w' (some x) ∧ VR (ρ.set H.length x) v cv) : OpOK P o env H v (H ++ [b]) R [] where
  len := by simp
  off j hj _ := by simp [List.getElem?_append_left hj]
  old j hj := ho j (by simpa using hj)
  run ρ a w he hr hf K Q hk := by
    have hn : ρ H.length = none := hf _ (Nat.le_refl _) (by simp)
    obtain ⟨cv, w', x, h1, h2, h3, h4, h5⟩ := h ρ a w he hr hn
    obtain ⟨h6, h7⟩ := HR.new hr hn (mask_dead rfl) h2 h4 h3
    rw [← mask_new rfl] at h6 h7
    refine wp_val h1 (hk _ cv w' h5 h6 h7 fun j hj => ?_)
    have : j ≠ H.length := by
      rcases hj with hj | hj
      · omega
      · simp at hj; omega
    simp [Rho.set, this]

/-- One block has turned, in place. -/
theorem HR.turn {ρ : Rho} {S : Hp} {w w' : World} {j k o z c : Nat} {b : Blk} (hr : HR ρ S w) (hj : (S j).own = true) (hx : ρ j = some (.mem k o z c)) (hown : b.own = true)
    (hos : w'.os = w.os) (htape : w'.tape = w.tape) (hout : w'.output = w.output) (hsize : w'.heap.size = w.heap.size) (hkeep : ∀ i, i ≠ k → w'.heap[i]? = w.heap[i]?)
    (hb : b.okm ρ w' k o z c) : HR ρ (fun i => if i = j then b else S i) w' ∧ Step ρ S w ρ (fun i => if i = j then b else S i) w' := by
  have hjk : (ρ j).bind Base.blk = some k := by rw [hx]; rfl
  refine ⟨⟨fun i hi => ?_, fun i1 i2 k' hne h1 h2 h3 h4 => ?_⟩, ⟨hos, htape, hout, by omega, fun i hi hn => hkeep i fun e => hn ⟨j, hj, by rw [e]; exact hjk⟩, Rho.le.rfl', fun i hi => ?_⟩⟩
  · by_cases e : i = j
    · subst e; rw [hx]; simpa using (show Blk.ok ρ w' b (some (.mem k o z c)) from hb)
    · simp only [if_neg e] at hi ⊢
      refine Blk.ok_later (hr.ok i hi) Rho.le.rfl' (by omega) fun k' hk' => hkeep k' fun e2 => ?_
      subst e2
      exact hr.sep j i k' (fun e3 => e e3.symm) hj hi hjk hk'
  · have a1 : (S i1).own = true := by
      by_cases e : i1 = j
      · subst e; exact hj
      · simpa [e] using h1
    have a2 : (S i2).live = true := by
      by_cases e : i2 = j
      · subst e; exact Blk.own_live hj
      · simpa [e] using h2
    exact hr.sep i1 i2 k' hne a1 a2 h3 h4
  · by_cases e : i = j
    · subst e; exact .inl ⟨Blk.own_live hj, rfl, fun _ => hj⟩
    · refine .inl ⟨by simpa [e] using hi, rfl, fun h => by simpa [e] using h⟩

theorem mask_set {n : Nat} {L : List Nat} {H : List Blk} {b : Blk} {j : Nat} (hn : n = H.length) (hj : j < H.length) (hL : j ∈ L) : mask n L (H.set j b) = fun i => if i = j then b else mask n L H i := by
  subst hn
  funext i
  unfold mask
  by_cases e : i = j
  · subst e; simp [hj, hL]
  · rw [if_neg e]
    simp only [List.getD_eq_getElem?_getD, List.getElem?_set]
    have : ¬ j = i := fun h => e h.symm
    simp [this]

theorem mask_at {n : Nat} {L : List Nat} {H : List Blk} {b : Blk} {j : Nat} (hj : H[j]? = some b) (hn : n = H.length) (hL : j ∈ L) : mask n L H j = b := by
  have hlt : j < H.length := (List.getElem?_eq_some_iff.1 hj).1
  subst hn
  rw [mask, if_pos hlt, if_pos hL, List.getD_eq_getElem?_getD, hj]; rfl

/-- An operation that writes into one block. -/
theorem OpOK.write {R : List Nat} {j : Nat} {b b' : Blk} (ho : ∀ i, i ∈ R → i < H.length) (hj : H[j]? = some b) (hown : b.own = true) (hown' : b'.own = true)
    (h : ∀ (ρ : Rho) (a : Act) (w : World), EvOk ρ env a o.op.operands → HR ρ (mask H.length (R ++ [j]) H) w → ∀ k of z c, ρ j = some (.mem k of z c) → b.okm ρ w k of z c →
      ∃ w', (execOp a.eval o).run P w = .ok .skip w' ∧ w'.os = w.os ∧ w'.tape = w.tape ∧ w'.output = w.output ∧ w'.heap.size = w.heap.size ∧ (∀ i, i ≠ k → w'.heap[i]? = w.heap[i]?) ∧ b'.okm ρ w' k of z c)
    (hne : ∀ (z : Nat) (ow : Ow), b ≠ .arr z ow []) : OpOK P o env H undef (H.set j b') R [j] where
  len := by simp
  off i hi hn := by
    have : j ≠ i := fun e => hn (by simp [e])
    simp [List.getElem?_set, this]
  old i hi := by
    rcases List.mem_append.1 hi with hi | hi
    · exact ho i hi
    · simp at hi; subst hi; exact (List.getElem?_eq_some_iff.1 hj).1
  run ρ a w he hr hf K Q hk := by
    have hlt : j < H.length := (List.getElem?_eq_some_iff.1 hj).1
    have hm : mask H.length (R ++ [j]) H j = b := mask_at hj rfl (by simp)
    have hok := hr.ok j (by rw [hm]; exact Blk.own_live hown)
    rw [hm] at hok
    cases hq : ρ j with
    | none => rw [hq] at hok; exact hok.elim
    | some x =>
      rw [hq] at hok
      cases x with
      | nil => obtain ⟨z, ow, e⟩ := hok; exact absurd e (hne z ow)
      | any => obtain ⟨z, e⟩ := hok; exact absurd e (hne z .ro)
      | mem k of z c =>
        obtain ⟨w', h1, h2, h3, h4, h5, h6, h7⟩ := h ρ a w he hr k of z c hq hok
        obtain ⟨h8, h9⟩ := HR.turn hr (by rw [hm]; exact hown) hq hown' h2 h3 h4 h5 h6 h7
        rw [← mask_set rfl hlt (by simp)] at h8 h9
        exact wp_skp h1 (hk ρ undef w' .undef h8 h9 fun _ _ => rfl)
end

/-! ### types, by tables -/

/-- What is asked of a type: a struct or an array? how many cells? which zero? -/
def tyChk (P : Program) (t : TypeId) : Option (Bool × Nat × List Value) :=
  match P.underlying t, P.info? t with
  | some d, some i => match i.zero with
    | some z => some (d.isRow, i.size, z.cells.toList)
    | none => none
  | _, _ => none

theorem tyChk_ok {P : Program} {t : TypeId} {r : Bool} {n : Nat} {zs : List Value} (h : tyChk P t = some (r, n, zs)) :
    (∃ d, P.underlying t = some d ∧ d.isRow = r) ∧ ∃ i z, P.info? t = some i ∧ i.size = n ∧ i.zero = some z ∧ z.cells.toList = zs := by
  unfold tyChk at h
  split at h
  · rename_i d i h1 h2
    split at h
    · rename_i z h3
      simp only [Option.some.injEq, Prod.mk.injEq] at h
      exact ⟨⟨d, h1, h.1⟩, i, z, h2, h.2.1, h3, h.2.2⟩
    · cases h
  · cases h

/-- A field's place. -/
def fldChk (P : Program) (s : TypeId) (f : Nat) : Option Nat :=
  match P.underlying s with
  | some (.struct fs) => match fs[f]? with
    | some fl => match P.info? fl.type with
      | some i => if i.size = 0 then none else some fl.offset
      | none => none
    | none => none
  | _ => none

/-- A slice's elements: type, cells, bytes, zero. -/
def slChk (P : Program) (t : TypeId) : Option (TypeId × Nat × Nat × List Value) :=
  match P.underlying t with
  | some (.slice e) => match P.info? e with
    | some i => match i.zero with
      | some z => if i.size = 0 then none else if z.cells.size = i.size then some (e, i.size, i.bytes, z.cells.toList) else none
      | none => none
    | none => none
  | _ => none

theorem slChk_ok {P : Program} {t e : TypeId} {n b : Nat} {zs : List Value} (h : slChk P t = some (e, n, b, zs)) :
    P.underlying t = some (.slice e) ∧ 0 < n ∧ zs.length = n ∧ ∃ i z, P.info? e = some i ∧ i.size = n ∧ i.bytes = b ∧ i.zero = some z ∧ z.cells.toList = zs := by
  unfold slChk at h
  split at h
  · rename_i e' h1
    split at h
    · rename_i i h2
      split at h
      · rename_i z h3
        split at h
        · cases h
        · rename_i h4
          split at h
          · rename_i h5
            simp only [Option.some.injEq, Prod.mk.injEq] at h
            obtain ⟨rfl, rfl, rfl, rfl⟩ := h
            exact ⟨h1, by omega, by simpa using h5, i, z, h2, rfl, rfl, h3, rfl⟩
          · cases h
      · cases h
    · cases h
  · cases h

def isInt (P : Program) (t : TypeId) : Option IntKind := match P.underlying t with | some (.int k) => some k | _ => none
def isStr (P : Program) (t : TypeId) : Bool := match P.underlying t with | some .string => true | _ => false

/-- The tables of a program. -/
structure Tabs where
  ty : List (Nat × (Bool × Nat × List Value))
  fld : List ((Nat × Nat) × Nat)
  sl : List (Nat × (Nat × Nat × Nat × List Value))

def tlook {α : Type} : List (Nat × α) → Nat → Option α
  | [], _ => none
  | (t, v) :: r, s => match Nat.beq t s with
    | true => some v
    | false => tlook r s
def flook {α : Type} : List ((Nat × Nat) × α) → Nat → Nat → Option α
  | [], _, _ => none
  | ((t, f), v) :: r, s, g => match Nat.beq t s, Nat.beq f g with
    | true, true => some v
    | _, _ => flook r s g

theorem tlook_mem {α : Type} : ∀ {l : List (Nat × α)} {t : Nat} {v : α}, tlook l t = some v → (t, v) ∈ l
  | [], _, _, h => by simp [tlook] at h
  | (t', v') :: r, t, v, h => by
    simp only [tlook] at h
    split at h
    · rename_i hb
      have : t' = t := by simpa using hb
      simp at h; subst h; subst this; simp
    · exact List.mem_cons_of_mem _ (tlook_mem h)
theorem flook_mem {α : Type} : ∀ {l : List ((Nat × Nat) × α)} {t f : Nat} {v : α}, flook l t f = some v → ((t, f), v) ∈ l
  | [], _, _, _, h => by simp [flook] at h
  | ((t', f'), v') :: r, t, f, v, h => by
    simp only [flook] at h
    split at h
    · rename_i hb hc
      have h1 : t' = t := by simpa using hb
      have h2 : f' = f := by simpa using hc
      simp at h; subst h; subst h1; subst h2; simp
    · exact List.mem_cons_of_mem _ (flook_mem h)

structure Tabs.ok (T : Tabs) (P : Program) : Prop where
  ty : ∀ p ∈ T.ty, tyChk P p.1 = some p.2
  fld : ∀ p ∈ T.fld, fldChk P p.1.1 p.1.2 = some p.2
  sl : ∀ p ∈ T.sl, slChk P p.1 = some p.2

theorem Tabs.ok.tyOf {T : Tabs} {P : Program} (h : T.ok P) {t : Nat} {x : Bool × Nat × List Value} (k : tlook T.ty t = some x) : tyChk P t = some x := h.ty (t, x) (tlook_mem k)
theorem Tabs.ok.fldOf {T : Tabs} {P : Program} (h : T.ok P) {t f : Nat} {x : Nat} (k : flook T.fld t f = some x) : fldChk P t f = some x := h.fld ((t, f), x) (flook_mem k)
theorem Tabs.ok.slOf {T : Tabs} {P : Program} (h : T.ok P) {t : Nat} {x : Nat × Nat × Nat × List Value} (k : tlook T.sl t = some x) : slChk P t = some x := h.sl (t, x) (tlook_mem k)

end Go.Proofs.Ytgkedbhpeafbbaa

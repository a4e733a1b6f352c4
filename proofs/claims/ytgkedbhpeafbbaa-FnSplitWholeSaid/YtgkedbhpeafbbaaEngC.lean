/-
  The operations one by one: moves, arithmetic, comparisons, texts, memory of variables, slices.
  Conditions: each law states its own.
-/
import Derived.Test.YtgkedbhpeafbbaaEngB
import Derived.Deep.Slices
set_option linter.unusedSimpArgs false
set_option linter.unusedVariables false
namespace Go.Proofs.Ytgkedbhpeafbbaa
open Go.RowKit

section
variable {P : Program} {T : Tabs} {env : Env} {H : List Blk} {v : Value} {d : Option Tmp} {ty : TypeId} {pos : String} {aft : Array Edge} {gd : Option (Nat × Bool)}

theorem ok_move {x : Operand} (hx : env.get x = some v) : OpOK P ⟨d, .move x, ty, pos, aft, gd⟩ env H v H [] [] :=
  .pure fun ρ a he => ⟨a.eval x, fun _ => rfl, he x (by simp [Op.operands]) v hx⟩
theorem ok_assign {x : Operand} (hx : env.get x = some v) : OpOK P ⟨d, .assign x, ty, pos, aft, gd⟩ env H v H [] [] :=
  .pure fun ρ a he => ⟨a.eval x, fun _ => rfl, he x (by simp [Op.operands]) v hx⟩
theorem ok_pick_true {c x y : Operand} (hc : env.get c = some (.bool true)) (hx : env.get x = some v) : OpOK P ⟨d, .pick c x y, ty, pos, aft, gd⟩ env H v H [] [] :=
  .pure fun ρ a he => ⟨a.eval x, fun w => by
    have := (he c (by simp [Op.operands]) _ hc).bool_inv
    simp [execOp, this, asBool], he x (by simp [Op.operands]) v hx⟩
theorem ok_pick_false {c x y : Operand} (hc : env.get c = some (.bool false)) (hy : env.get y = some v) : OpOK P ⟨d, .pick c x y, ty, pos, aft, gd⟩ env H v H [] [] :=
  .pure fun ρ a he => ⟨a.eval y, fun w => by
    have := (he c (by simp [Op.operands]) _ hc).bool_inv
    simp [execOp, this, asBool], he y (by simp [Op.operands]) v hy⟩

theorem ok_nilCheck {x : Operand} {j s : Nat} {sp : Option Nat} (hx : env.get x = some (.pointer (some ⟨j, s, sp⟩))) : OpOK P ⟨d, .nilCheck x, ty, pos, aft, gd⟩ env H (.pointer (some ⟨j, s, sp⟩)) H [] [] :=
  .pure fun ρ a he => by
    have h1 := he x (by simp [Op.operands]) _ hx
    obtain ⟨b, o, z, c, h2, h3⟩ := h1.ptr_inv
    exact ⟨a.eval x, fun w => by simp [execOp, h3], h1⟩

/-- Two values without addresses: what the operator makes of them, in every world. -/
structure BinR (P : Program) (op : BinOp) (t : TypeId) (a b r : Value) : Prop where
  ga : gnd a = true
  gb : gnd b = true
  gr : gnd r = true
  run : ∀ (x y : Operand) (w : World), (do eqGuard op t x y a b; binOp op t a b : Sem Value).run P w = .ok r w

theorem ok_bin {op : BinOp} {t t2 : TypeId} {x y : Operand} {a b : Value} (hx : env.get x = some a) (hy : env.get y = some b) (h : BinR P op t a b v) : OpOK P ⟨d, .binOp op t x y t2, ty, pos, aft, gd⟩ env H v H [] [] :=
  .pure fun ρ c he => by
    have h1 := (he x (by simp [Op.operands]) _ hx).eq h.ga
    have h2 := (he y (by simp [Op.operands]) _ hy).eq h.gb
    refine ⟨v, fun w => ?_, .of_gnd h.gr⟩
    have h3 := h.run x y w
    simp only [execOp, h1, h2, Sem.run_bind] at h3 ⊢
    rw [h3]; rfl

theorem eqGuard_int (op : BinOp) (t : TypeId) (x y : Operand) (k k' : IntKind) (a b : Int) (w : World) : (eqGuard op t x y (.int k a) (.int k' b)).run P w = .ok () w := by
  cases op <;> rfl
theorem eqGuard_str (op : BinOp) (t : TypeId) (x y : Operand) (a b : ByteArray) (w : World) : (eqGuard op t x y (.string a) (.string b)).run P w = .ok () w := by
  cases op <;> rfl
theorem eqGuard_bool (op : BinOp) (t : TypeId) (x y : Operand) (a b : Bool) (w : World) : (eqGuard op t x y (.bool a) (.bool b)).run P w = .ok () w := by
  cases op <;> rfl

theorem bin_int {op : BinOp} {t : TypeId} {k : IntKind} {a b : Int} {r : Value} (hr : gnd r = true) (h : ∀ w, (binOp op t (.int k a) (.int k b)).run P w = .ok r w) : BinR P op t (.int k a) (.int k b) r :=
  ⟨rfl, rfl, hr, fun x y w => by rw [Sem.run_bind, eqGuard_int]; exact h w⟩

theorem bin_add {t : TypeId} {k : IntKind} {a b : Int} : BinR P .add t (.int k a) (.int k b) (.int k (k.wrap (a + b))) := bin_int rfl fun w => by simp [binOp, Op.intArith]
theorem bin_sub {t : TypeId} {k : IntKind} {a b : Int} : BinR P .sub t (.int k a) (.int k b) (.int k (k.wrap (a - b))) := bin_int rfl fun w => by simp [binOp, Op.intArith]
theorem bin_mul {t : TypeId} {k : IntKind} {a b : Int} : BinR P .mul t (.int k a) (.int k b) (.int k (k.wrap (a * b))) := bin_int rfl fun w => by simp [binOp, Op.intArith]

theorem wrap64_of {n : Int} (h1 : -9223372036854775808 ≤ n) (h2 : n ≤ 9223372036854775807) : IntKind.i64.wrap n = n := IntWalk.i64_in _ ⟨h1, h2⟩

theorem bin_add64 {t : TypeId} {a b : Int} (h1 : -9223372036854775808 ≤ a + b) (h2 : a + b ≤ 9223372036854775807) : BinR P .add t (.int .i64 a) (.int .i64 b) (.int .i64 (a + b)) := by
  have := bin_add (P := P) (t := t) (k := .i64) (a := a) (b := b); rwa [wrap64_of h1 h2] at this
theorem bin_sub64 {t : TypeId} {a b : Int} (h1 : -9223372036854775808 ≤ a - b) (h2 : a - b ≤ 9223372036854775807) : BinR P .sub t (.int .i64 a) (.int .i64 b) (.int .i64 (a - b)) := by
  have := bin_sub (P := P) (t := t) (k := .i64) (a := a) (b := b); rwa [wrap64_of h1 h2] at this
theorem bin_mul64 {t : TypeId} {a b : Int} (h1 : -9223372036854775808 ≤ a * b) (h2 : a * b ≤ 9223372036854775807) : BinR P .mul t (.int .i64 a) (.int .i64 b) (.int .i64 (a * b)) := by
  have := bin_mul (P := P) (t := t) (k := .i64) (a := a) (b := b); rwa [wrap64_of h1 h2] at this

theorem bin_rem {t : TypeId} {k : IntKind} {a b : Int} (hb : b ≠ 0) : BinR P .rem t (.int k a) (.int k b) (.int k (a.tmod b)) := bin_int rfl fun w => by simp [binOp, Op.intDiv, hb]
theorem bin_quo {t : TypeId} {k : IntKind} {a b : Int} (hb : b ≠ 0) : BinR P .quo t (.int k a) (.int k b) (.int k (k.wrap (a.tdiv b))) := bin_int rfl fun w => by simp [binOp, Op.intDiv, hb]
theorem bin_rem0 {t : TypeId} {a b : Int} (ha : 0 ≤ a) (hb : 0 < b) : BinR P .rem t (.int .i64 a) (.int .i64 b) (.int .i64 (a % b)) := by
  have := bin_rem (P := P) (t := t) (k := .i64) (a := a) (b := b) (by omega)
  rwa [Int.tmod_eq_emod_of_nonneg ha] at this
theorem bin_quo0 {t : TypeId} {a b : Int} (ha : 0 ≤ a) (h1 : a ≤ 9223372036854775807) (hb : 0 < b) : BinR P .quo t (.int .i64 a) (.int .i64 b) (.int .i64 (a / b)) := by
  have := bin_quo (P := P) (t := t) (k := .i64) (a := a) (b := b) (by omega)
  have h2 : a / b ≤ a := Int.ediv_le_self b ha
  have h3 : 0 ≤ a / b := Int.ediv_nonneg ha (by omega)
  rwa [Int.tdiv_eq_ediv_of_nonneg ha, wrap64_of (by omega) (by omega)] at this

/-- The bits of two integers together. -/
def bitsOf (k : IntKind) (op : BinOp) (a b : Int) : Int :=
  let x := BitVec.ofInt k.bits a
  let y := BitVec.ofInt k.bits b
  match op with
  | .and => k.wrap (x &&& y).toNat
  | .or => k.wrap (x ||| y).toNat
  | .xor => k.wrap (x ^^^ y).toNat
  | _ => k.wrap (x &&& ~~~y).toNat
theorem bin_and {t : TypeId} {k : IntKind} {a b : Int} : BinR P .and t (.int k a) (.int k b) (.int k (bitsOf k .and a b)) := bin_int rfl fun w => by simp [binOp, Op.intBits, bitsOf]
theorem bin_or {t : TypeId} {k : IntKind} {a b : Int} : BinR P .or t (.int k a) (.int k b) (.int k (bitsOf k .or a b)) := bin_int rfl fun w => by simp [binOp, Op.intBits, bitsOf]
theorem bin_xor {t : TypeId} {k : IntKind} {a b : Int} : BinR P .xor t (.int k a) (.int k b) (.int k (bitsOf k .xor a b)) := bin_int rfl fun w => by simp [binOp, Op.intBits, bitsOf]
theorem bin_andNot {t : TypeId} {k : IntKind} {a b : Int} : BinR P .andNot t (.int k a) (.int k b) (.int k (bitsOf k .andNot a b)) := bin_int rfl fun w => by simp [binOp, Op.intBits, bitsOf]

theorem bin_shl {t : TypeId} {k k' : IntKind} {a b : Int} (hb : 0 ≤ b) : BinR P .shl t (.int k a) (.int k' b) (.int k (k.wrap (a * 2 ^ (min b.toNat k.bits)))) :=
  ⟨rfl, rfl, rfl, fun x y w => by
    have : ¬ b < 0 := by omega
    rw [Sem.run_bind, eqGuard_int]; simp [binOp, Op.shift, this]⟩
theorem bin_shr {t : TypeId} {k k' : IntKind} {a b : Int} (hb : 0 ≤ b) : BinR P .shr t (.int k a) (.int k' b) (.int k (a.fdiv (2 ^ (min b.toNat k.bits)))) :=
  ⟨rfl, rfl, rfl, fun x y w => by
    have : ¬ b < 0 := by omega
    rw [Sem.run_bind, eqGuard_int]; simp [binOp, Op.shift, this]⟩

theorem bin_lss {t : TypeId} {k : IntKind} {a b : Int} : BinR P .lss t (.int k a) (.int k b) (.bool (decide (a < b))) := bin_int rfl fun w => by simp [binOp, Op.intCmp]
theorem bin_leq {t : TypeId} {k : IntKind} {a b : Int} : BinR P .leq t (.int k a) (.int k b) (.bool (decide (a ≤ b))) := bin_int rfl fun w => by simp [binOp, Op.intCmp]
theorem bin_gtr {t : TypeId} {k : IntKind} {a b : Int} : BinR P .gtr t (.int k a) (.int k b) (.bool (decide (b < a))) := bin_int rfl fun w => by simp [binOp, Op.intCmp]
theorem bin_geq {t : TypeId} {k : IntKind} {a b : Int} : BinR P .geq t (.int k a) (.int k b) (.bool (decide (b ≤ a))) := bin_int rfl fun w => by simp [binOp, Op.intCmp]
theorem bin_eql {t : TypeId} {k : IntKind} {a b : Int} : BinR P .eql t (.int k a) (.int k b) (.bool (decide (a = b))) := bin_int rfl fun w => by simp [binOp, Op.intCmp]; rfl
theorem bin_neq {t : TypeId} {k : IntKind} {a b : Int} : BinR P .neq t (.int k a) (.int k b) (.bool (!decide (a = b))) := bin_int rfl fun w => by simp [binOp, Op.intCmp]; rfl

theorem str_eq (a b : ByteArray) : (a.toList == b.toList) = decide (a = b) := by
  rw [ByteArray.toList_eq, ByteArray.toList_eq]
  obtain ⟨⟨x⟩⟩ := a
  obtain ⟨⟨y⟩⟩ := b
  rw [Bool.eq_iff_iff]; simp

theorem bin_str {op : BinOp} {t : TypeId} {a b : ByteArray} {r : Value} (hr : gnd r = true) (h : ∀ w, (binOp op t (.string a) (.string b)).run P w = .ok r w) : BinR P op t (.string a) (.string b) r :=
  ⟨rfl, rfl, hr, fun x y w => by rw [Sem.run_bind, eqGuard_str]; exact h w⟩
theorem bin_cat {t : TypeId} {a b : ByteArray} (h : a.size + b.size ≤ 9223372036854775807) : BinR P .add t (.string a) (.string b) (.string (a ++ b)) := bin_str rfl fun w => by
  have h2 : ¬ (((a.size + b.size : Nat) : Int) > IntKind.i64.max) := by
    have : IntKind.i64.max = 9223372036854775807 := by decide
    rw [this]; omega
  simp only [binOp, Op.stringOp, if_neg h2]; rfl
theorem bin_seql {t : TypeId} {a b : ByteArray} : BinR P .eql t (.string a) (.string b) (.bool (decide (a = b))) := bin_str rfl fun w => by
  simp only [binOp, Op.stringOp, str_eq]; rfl
theorem bin_sneq {t : TypeId} {a b : ByteArray} : BinR P .neq t (.string a) (.string b) (.bool (!decide (a = b))) := bin_str rfl fun w => by
  simp only [binOp, Op.stringOp, str_eq]; rfl

theorem beq_bool_decide (a b : Bool) : (a == b) = decide (a = b) := by cases a <;> cases b <;> rfl
theorem bin_beql {t : TypeId} {a b : Bool} (ht : P.underlying t = some .bool) : BinR P .eql t (.bool a) (.bool b) (.bool (decide (a = b))) :=
  ⟨rfl, rfl, rfl, fun x y w => by
    rw [Sem.run_bind, eqGuard_bool]
    simp [binOp, Op.equal, Op.maxDepth, run_equalIn_bool' w _ t a b ht, beq_bool_decide]⟩
theorem bin_bneq {t : TypeId} {a b : Bool} (ht : P.underlying t = some .bool) : BinR P .neq t (.bool a) (.bool b) (.bool (!decide (a = b))) :=
  ⟨rfl, rfl, rfl, fun x y w => by
    rw [Sem.run_bind, eqGuard_bool]
    simp [binOp, Op.equal, Op.maxDepth, run_equalIn_bool' w _ t a b ht, beq_bool_decide]⟩

theorem ok_not {t : TypeId} {x : Operand} {b : Bool} (hx : env.get x = some (.bool b)) : OpOK P ⟨d, .unOp .not t x, ty, pos, aft, gd⟩ env H (.bool (!b)) H [] [] :=
  .pure fun ρ a he => ⟨.bool (!b), fun w => by
    have := (he x (by simp [Op.operands]) _ hx).bool_inv
    simp [execOp, this, Op.unary], .of1 (.bool _)⟩
theorem ok_neg {t : TypeId} {x : Operand} {k : IntKind} {n : Int} (hx : env.get x = some (.int k n)) : OpOK P ⟨d, .unOp .neg t x, ty, pos, aft, gd⟩ env H (.int k (k.wrap (0 - n))) H [] [] :=
  .pure fun ρ a he => ⟨.int k (k.wrap (0 - n)), fun w => by
    have := (he x (by simp [Op.operands]) _ hx).int_inv
    simp [execOp, this, Op.unary, Op.intArith], .of1 (.int _ _)⟩

theorem ok_conv {src dst : TypeId} {x : Operand} {k k' : IntKind} {n : Int} (hx : env.get x = some (.int k n)) (hs : isInt P src = some k) (hd : isInt P dst = some k') :
    OpOK P ⟨d, .convert src dst x, ty, pos, aft, gd⟩ env H (.int k' (k'.wrap n)) H [] [] :=
  .pure fun ρ a he => ⟨.int k' (k'.wrap n), fun w => by
    have h1 := (he x (by simp [Op.operands]) _ hx).int_inv
    have h2 : P.underlying src = some (.int k) := by unfold isInt at hs; split at hs <;> simp_all
    have h3 : P.underlying dst = some (.int k') := by unfold isInt at hd; split at hd <;> simp_all
    simp [execOp, h1, convert, run_underlying h2, run_underlying h3, Conv.intToInt], .of1 (.int _ _)⟩

theorem ok_len_sl {t : TypeId} {x : Operand} {j k n : Nat} {e : TypeId × Nat × Nat × List Value} (hT : T.ok P) (ht : tlook T.sl t = some e) (hx : env.get x = some (.slice (some ⟨j, 0, some k⟩) n n)) :
    OpOK P ⟨d, .call { callee := .builtin .len, args := #[x], argTypes := #[t] }, ty, pos, aft, gd⟩ env H (.int .i64 n) H [] [] :=
  .pure fun ρ a he => ⟨.int .i64 n, fun w => by
    obtain ⟨b, m, h1, _⟩ := (he x (by simp [Op.operands, Call.operands]) _ hx).sl_inv
    obtain ⟨e, sz, by', zs⟩ := e
    have h2 := (slChk_ok (hT.slOf ht)).1
    simp [execOp, resolve, invoke, builtin, Builtin.len_, run_underlying h2, h1, goInt], .of1 (.int _ _)⟩
theorem ok_len_str {t : TypeId} {x : Operand} {s : ByteArray} (ht : isStr P t = true) (hx : env.get x = some (.string s)) :
    OpOK P ⟨d, .call { callee := .builtin .len, args := #[x], argTypes := #[t] }, ty, pos, aft, gd⟩ env H (.int .i64 (s.size : Int)) H [] [] :=
  .pure fun ρ a he => ⟨.int .i64 (s.size : Int), fun w => by
    have h1 := (he x (by simp [Op.operands, Call.operands]) _ hx).str_inv
    have h2 : P.underlying t = some .string := by unfold isStr at ht; split at ht <;> simp_all
    simp [execOp, resolve, invoke, builtin, Builtin.len_, run_underlying h2, h1, goInt], .of1 (.int _ _)⟩
theorem ok_min {t : TypeId} {x y : Operand} {k : IntKind} {m n : Int} (hx : env.get x = some (.int k m)) (hy : env.get y = some (.int k n)) :
    OpOK P ⟨d, .call { callee := .builtin .min, args := #[x, y], argTypes := #[t, t] }, ty, pos, aft, gd⟩ env H (.int k (if n < m then n else m)) H [] [] :=
  .pure fun ρ a he => ⟨.int k (if n < m then n else m), fun w => by
    have h1 := (he x (by simp [Op.operands, Call.operands]) _ hx).int_inv
    have h2 := (he y (by simp [Op.operands, Call.operands]) _ hy).int_inv
    simp [execOp, resolve, invoke, builtin, Builtin.min_, Builtin.min2, h1, h2], .of1 (.int _ _)⟩

theorem ok_index_str {t ti : TypeId} {x i : Operand} {s : ByteArray} {k : IntKind} {n : Nat} (ht : isStr P t = true) (hx : env.get x = some (.string s)) (hi : env.get i = some (.int k (n : Int))) (hn : n < s.size) :
    OpOK P ⟨d, .index t x i, ty, pos, aft, gd⟩ env H (.int .u8 ((s[n]'hn).toNat : Int)) H [] [] :=
  .pure fun ρ a he => ⟨.int .u8 ((s[n]'hn).toNat : Int), fun w => by
    have h1 := (he x (by simp [Op.operands]) _ hx).str_inv
    have h2 := (he i (by simp [Op.operands]) _ hi).int_inv
    have h3 : P.underlying t = some .string := by unfold isStr at ht; split at ht <;> simp_all
    have h4 : s[n]? = some (s[n]'hn) := getElem?_pos s n hn
    simp [execOp, h1, h2, Instr.index, asIntOf, run_underlying h3, h4], .of1 (.int _ _)⟩

theorem ok_slice_str {t : TypeId} {x : Operand} {s : ByteArray} {lo hi : Option Operand} {l h : Nat} (ht : isStr P t = true) (hx : env.get x = some (.string s))
    (hlo : match lo with | some y => env.get y = some (.int .i64 (l : Int)) | none => l = 0) (hhi : match hi with | some y => env.get y = some (.int .i64 (h : Int)) | none => h = s.size) (h1 : l ≤ h) (h2 : h ≤ s.size) :
    OpOK P ⟨d, .slice t x lo hi none, ty, pos, aft, gd⟩ env H (.string (s.extract l h)) H [] [] :=
  .pure fun ρ a he => ⟨.string (s.extract l h), fun w => by
    have e1 := (he x (by cases lo <;> cases hi <;> simp [Op.operands]) _ hx).str_inv
    have h3 : P.underlying t = some .string := by unfold isStr at ht; split at ht <;> simp_all
    have c1 : (0 : Int) ≤ (h : Int) ∧ (h : Int) ≤ (s.size : Int) := by omega
    have c2 : (0 : Int) ≤ (l : Int) ∧ (l : Int) ≤ (h : Int) := by omega
    cases lo with
    | none =>
      dsimp only at hlo; subst hlo
      cases hi with
      | none => dsimp only at hhi; subst hhi; simp [execOp, e1, Instr.sliceAt, Instr.slice, Instr.sliceBounds, run_underlying h3]
      | some y =>
        dsimp only at hhi
        have e2 := (he y (by simp [Op.operands]) _ hhi).int_inv
        simp [execOp, e1, e2, Instr.sliceAt, Instr.slice, Instr.sliceBounds, Instr.sliceBound, asIntOf, run_underlying h3, c1, Nat.not_lt.2 h2]
    | some z =>
      dsimp only at hlo
      have e3 := (he z (by cases hi <;> simp [Op.operands]) _ hlo).int_inv
      cases hi with
      | none => dsimp only at hhi; subst hhi; simp [execOp, e1, e3, Instr.sliceAt, Instr.slice, Instr.sliceBounds, Instr.sliceBound, asIntOf, run_underlying h3, c2, Nat.not_lt.2 h1]
      | some y =>
        dsimp only at hhi
        have e2 := (he y (by simp [Op.operands]) _ hhi).int_inv
        simp [execOp, e1, e2, e3, Instr.sliceAt, Instr.slice, Instr.sliceBounds, Instr.sliceBound, asIntOf, run_underlying h3, c1, c2, h1, h2], .of1 (.str _)⟩

theorem ok_extract {x : Operand} {i : Nat} {vs : List Value} (hx : env.get x = some (.tuple vs.toArray)) (hi : vs[i]? = some v) :
    OpOK P ⟨d, .extract x i, ty, pos, aft, gd⟩ env H v H [] [] :=
  .pure fun ρ a he => by
    obtain ⟨vs', h1, h2⟩ := (he x (by simp [Op.operands]) _ hx).tup_inv
    obtain ⟨v', h3, h4⟩ := h2.get i v (by simpa using hi)
    have h3 : vs'[i]? = some v' := by simpa using h3
    exact ⟨v', fun w => by simp [execOp, h1, Instr.extract, h3], .two h4⟩

/-! ### variables -/

/-- Cells that lie one behind the other. -/
def seg : List Value → Nat → Nat → Option (List Value)
  | _, 0, 0 => some []
  | [], _, _ => none
  | c :: cs, 0, n + 1 => (seg cs 0 n).map (c :: ·)
  | _ :: cs, s + 1, n => seg cs s n

theorem seg_get : ∀ {cs : List Value} {s n : Nat} {r : List Value}, seg cs s n = some r → r.length = n ∧ s + n ≤ cs.length + s ∧ ∀ i, i < n → cs[s + i]? = r[i]?
  | cs, 0, 0, r, h => by simp [seg] at h; subst h; simp
  | [], s + 1, n, r, h => by simp [seg] at h
  | [], 0, n + 1, r, h => by simp [seg] at h
  | c :: cs, 0, n + 1, r, h => by
    simp only [seg, Option.map_eq_some_iff] at h
    obtain ⟨r', h1, rfl⟩ := h
    obtain ⟨h2, h3, h4⟩ := seg_get h1
    refine ⟨by simp [h2], by simp; omega, fun i hi => ?_⟩
    cases i with
    | zero => simp
    | succ i => have := h4 i (by omega); simpa using this
  | c :: cs, s + 1, n, r, h => by
    simp only [seg] at h
    obtain ⟨h2, h3, h4⟩ := seg_get h
    refine ⟨h2, by simp; omega, fun i hi => ?_⟩
    have := h4 i hi
    rw [← this, show s + 1 + i = (s + i) + 1 by omega]; simp

/-- Cells written one behind the other. -/
def splice : List Value → Nat → List Value → Option (List Value)
  | cs, 0, [] => some cs
  | [], _, _ => none
  | _ :: cs, 0, v :: vs => (splice cs 0 vs).map (v :: ·)
  | c :: cs, s + 1, vs => (splice cs s vs).map (c :: ·)

theorem splice_get : ∀ {cs : List Value} {s : Nat} {vs r : List Value}, splice cs s vs = some r → r.length = cs.length ∧ s + vs.length ≤ cs.length ∧ ∀ i, r[i]? = if s ≤ i ∧ i < s + vs.length then vs[i - s]? else cs[i]?
  | cs, 0, [], r, h => by simp [splice] at h; subst h; refine ⟨rfl, by simp, fun i => ?_⟩; rw [if_neg (by simp only [List.length_nil]; omega)]
  | [], 0, v :: vs, r, h => by simp [splice] at h
  | [], s + 1, vs, r, h => by simp [splice] at h
  | c :: cs, 0, v :: vs, r, h => by
    simp only [splice, Option.map_eq_some_iff] at h
    obtain ⟨r', h1, rfl⟩ := h
    obtain ⟨h2, h3, h4⟩ := splice_get h1
    refine ⟨by simp [h2], by simp only [List.length_cons]; omega, fun i => ?_⟩
    cases i with
    | zero => simp
    | succ i =>
      have := h4 i
      simp only [List.getElem?_cons_succ, this, List.length_cons]
      by_cases h5 : i < vs.length
      · rw [if_pos (by omega), if_pos (by omega)]; simp
      · rw [if_neg (by omega), if_neg (by omega)]
  | c :: cs, s + 1, vs, r, h => by
    simp only [splice, Option.map_eq_some_iff] at h
    obtain ⟨r', h1, rfl⟩ := h
    obtain ⟨h2, h3, h4⟩ := splice_get h1
    refine ⟨by simp [h2], by simp; omega, fun i => ?_⟩
    cases i with
    | zero => rw [if_neg (by omega)]; simp
    | succ i =>
      have := h4 i
      simp only [List.getElem?_cons_succ, this]
      by_cases h5 : s ≤ i ∧ i < s + vs.length
      · rw [if_pos h5, if_pos (by omega)]; congr 1; omega
      · rw [if_neg h5, if_neg (by omega)]

/-- Where the cell s of a block's element (or variable) lies among its cells. -/
def Blk.part (b : Blk) (sp : Option Nat) (z : Nat) (cs : List Value) : Prop :=
  match b, sp with
  | .row cs', none => cs' = cs
  | .arr z' _ rows, some k => z' = z ∧ rows[k]? = some cs
  | _, _ => False

theorem flat_get : ∀ {rows : List (List Value)} {z k s : Nat} {r : List Value}, (∀ r ∈ rows, r.length = z) → rows[k]? = some r → s < z → rows.flatten[k * z + s]? = r[s]?
  | [], _, _, _, _, _, h, _ => by simp at h
  | r0 :: rows, z, 0, s, r, hz, h, hs => by
    simp at h; subst h
    have : r0.length = z := hz r0 (by simp)
    simp [List.getElem?_append_left (show s < r0.length by omega)]
  | r0 :: rows, z, k + 1, s, r, hz, h, hs => by
    have h0 : r0.length = z := hz r0 (by simp)
    have := flat_get (rows := rows) (k := k) (fun r hr => hz r (by simp [hr])) (by simpa using h) hs
    rw [List.flatten_cons, List.getElem?_append_right (by rw [h0, Nat.succ_mul]; omega), h0, show (k + 1) * z + s - z = k * z + s by rw [Nat.succ_mul]; omega]
    exact this

theorem Blk.okm.part_cell {ρ : Rho} {w : World} {b : Blk} {k o z c : Nat} (h : b.okm ρ w k o z c) {sp : Option Nat} {z' : Nat} {cs : List Value} (hp : b.part sp z' cs) {s : Nat} {u : Value} (hs : cs[s]? = some u) :
    ∃ u', w.cell? ⟨k, o + sp.getD 0 * z + s, none⟩ = some u' ∧ VR1 ρ u u' := by
  cases b with
  | dead => simp [Blk.part] at hp
  | row cs' =>
    cases sp with
    | none => simp only [Blk.part] at hp; subst hp; simpa using h.cell s u hs
    | some k' => simp [Blk.part] at hp
  | arr z2 ow rows =>
    cases sp with
    | none => simp [Blk.part] at hp
    | some k' =>
      simp only [Blk.part] at hp
      obtain ⟨rfl, h2⟩ := hp
      obtain ⟨rfl, hz⟩ := h.zok
      have hl : cs.length = z2 := hz cs (List.mem_of_getElem? h2)
      have hlt : s < cs.length := (List.getElem?_eq_some_iff.1 hs).1
      have := flat_get hz h2 (s := s) (by omega)
      rw [Option.getD_some, Nat.add_assoc]
      exact h.cell _ u (by rw [← hs, ← this]; rfl)

/-- A load. -/
theorem ok_load {t : TypeId} {x : Operand} {j s n z : Nat} {sp : Option Nat} {b : Blk} {cs : List Value} {c : Value} {zs : List Value} (hT : T.ok P) (ht : tlook T.ty t = some (false, n, zs)) (hx : env.get x = some (.pointer (some ⟨j, s, sp⟩)))
    (hj : H[j]? = some b) (hp : b.part sp z cs) (hs : seg cs s 1 = some [c]) : OpOK P ⟨d, .load t x, ty, pos, aft, gd⟩ env H c H [j] [] :=
  .read (fun i hi => by simp at hi; subst hi; exact (List.getElem?_eq_some_iff.1 hj).1) fun ρ a w he hr => by
    obtain ⟨⟨dd, h1, h2⟩, _⟩ := tyChk_ok (hT.tyOf ht)
    obtain ⟨k, o, z', c', h3, h4⟩ := (he x (by simp [Op.operands]) _ hx).ptr_inv
    have hm : mask H.length ([j] ++ []) H j = b := mask_at hj rfl (by simp)
    have hl : b.live = true := by cases b <;> simp_all [Blk.part, Blk.live]
    have hok := hr.ok j (by rw [hm]; exact hl)
    rw [hm, h3] at hok
    obtain ⟨_, _, h5⟩ := seg_get hs
    have h6 : cs[s]? = some c := by simpa using h5 0 (by omega)
    obtain ⟨u', h7, h8⟩ := Blk.okm.part_cell hok hp h6
    refine ⟨u', ?_, .of1 h8⟩
    cases dd <;> simp [TypeDesc.isRow] at h2 <;> simp [execOp, h4, Instr.loadAt, Instr.sureAddr, loadVar, isAgg, run_underlying h1, h7]

theorem ok_loadS {t : TypeId} {x : Operand} {j s n z : Nat} {sp : Option Nat} {b : Blk} {cs r : List Value} {zs : List Value} (hT : T.ok P) (ht : tlook T.ty t = some (true, n, zs)) (hx : env.get x = some (.pointer (some ⟨j, s, sp⟩)))
    (hj : H[j]? = some b) (hp : b.part sp z cs) (hs : seg cs s n = some r) : OpOK P ⟨d, .load t x, ty, pos, aft, gd⟩ env H (.agg r.toArray) H [j] [] :=
  .read (fun i hi => by simp at hi; subst hi; exact (List.getElem?_eq_some_iff.1 hj).1) fun ρ a w he hr => by
    obtain ⟨⟨dd, h1, h2⟩, ii, zz, h9, h10, _, _⟩ := tyChk_ok (hT.tyOf ht)
    obtain ⟨k, o, z', c', h3, h4⟩ := (he x (by simp [Op.operands]) _ hx).ptr_inv
    have hm : mask H.length ([j] ++ []) H j = b := mask_at hj rfl (by simp)
    have hl : b.live = true := by cases b <;> simp_all [Blk.part, Blk.live]
    have hok := hr.ok j (by rw [hm]; exact hl)
    rw [hm, h3] at hok
    obtain ⟨h5, _, h6⟩ := seg_get hs
    have key : ∀ i, i < n → ∃ u', w.cell? ⟨k, o + sp.getD 0 * z' + (s + i), none⟩ = some u' ∧ ∀ u, r[i]? = some u → VR1 ρ u u' := fun i hi => by
      have h7 : cs[s + i]? = some (r[i]'(by omega)) := by rw [h6 i hi]; exact List.getElem?_eq_getElem (by omega)
      obtain ⟨u', h8, h9⟩ := Blk.okm.part_cell hok hp h7
      exact ⟨u', h8, fun u hu => by rw [List.getElem?_eq_getElem (by omega)] at hu; simp at hu; subst hu; exact h9⟩
    obtain ⟨f, hf⟩ := Go.Deep.choose_lt (n := n) (p := fun i u' => w.cell? ⟨k, o + sp.getD 0 * z' + (s + i), none⟩ = some u' ∧ ∀ u, r[i]? = some u → VR1 ρ u u') key
    refine ⟨.agg ((List.range n).map f).toArray, ?_, .two (.agg ?_)⟩
    · have hrun := run_loadAt_mid (P := P) w k (o + sp.getD 0 * z' + s) t ((List.range n).map f) dd (fun i v hv => by
        have hi : i < n := by simpa using (List.getElem?_eq_some_iff.1 hv).1
        rw [Nat.add_assoc, (hf i hi).1]
        simpa [List.getElem?_range hi] using hv) h1 h2 (by simp [h9, h10])
      simp only [execOp, h4, Sem.run_bind, hrun]; rfl
    · refine All2.of_get (by simp [h5]) fun i u hu => ?_
      have hi : i < n := by
        have := (List.getElem?_eq_some_iff.1 hu).1
        simp at this; omega
      exact ⟨f i, by simp [List.getElem?_range hi], (hf i hi).2 u (by simpa using hu)⟩

end
end Go.Proofs.Ytgkedbhpeafbbaa

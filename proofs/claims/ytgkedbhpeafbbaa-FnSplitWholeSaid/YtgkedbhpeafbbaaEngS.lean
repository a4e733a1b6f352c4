/-
  More of the walk, fifth part: a byte of a text by its number, the complement of a number of 32 bits.
  Conditions: each states its own.
-/
import Derived.Test.YtgkedbhpeafbbaaEngR
set_option linter.unusedSimpArgs false
set_option linter.unusedVariables false
namespace Go.Proofs.Ytgkedbhpeafbbaa
open Go.RowKit

section
variable {P : Program} {ops : Array Oper} {nt : Nat} {T : Tabs} {env : Env} {s : SH} {n : Nat} {ty : TypeId} {pos : String} {aft : Array Edge} {gd : Option (Nat × Bool)} {l : List Oper} {t : Nat}
theorem s_index1 {K : Env → SH → Nat → Prop} {x i : Operand} {ty1 : TypeId} {u : ByteArray} {kk : IntKind} {m r : Nat} (hm : m < u.size) (hr : (u[m]'hm).toNat = r) (ht : isStr P ty1 = true) (hx : env.get x = some (.string u)) (hi : env.get i = some (.int kk (m : Int))) (hw : wantedE ops ⟨some t, .index ty1 x i, ty, pos, aft, gd⟩ env = some true) (hd : Nat.blt t nt = true)
    (h : SL P ops nt l ((t, .int .u8 (r : Int)) :: env) s n K) : SL P ops nt (⟨some t, .index ty1 x i, ty, pos, aft, gd⟩ :: l) env s n K :=
  s_indexT ht hx hi hm hw hd (by rw [hr]; exact h)
theorem d_index1 {fs : List FP} {K : Env → SH → Nat → List FP → Prop} {x i : Operand} {ty1 : TypeId} {u : ByteArray} {kk : IntKind} {m r : Nat} (hm : m < u.size) (hr : (u[m]'hm).toNat = r) (ht : isStr P ty1 = true) (hx : env.get x = some (.string u)) (hi : env.get i = some (.int kk (m : Int))) (hw : wantedE ops ⟨some t, .index ty1 x i, ty, pos, aft, gd⟩ env = some true) (hd : Nat.blt t nt = true)
    (h : DL P ops nt l ((t, .int .u8 (r : Int)) :: env) s n (fs ++ [⟨[], [], n, n⟩]) K) : DL P ops nt (⟨some t, .index ty1 x i, ty, pos, aft, gd⟩ :: l) env s n fs K :=
  d_indexT ht hx hi hm hw hd (by rw [hr]; exact h)

theorem cpl32 {c : Nat} (h : c < 4294967296) : bitsOf .u32 .xor IntKind.u32.max (c : Int) = ((4294967295 - c : Nat) : Int) := by
  have e1 : (BitVec.ofInt 32 IntKind.u32.max ^^^ BitVec.ofInt 32 (c : Int)).toNat = 4294967295 - c := by
    have e2 : BitVec.ofInt 32 IntKind.u32.max = BitVec.allOnes 32 := by decide
    rw [e2, BitVec.allOnes_xor, BitVec.toNat_not]
    rw [BitVec.ofInt_natCast, BitVec.toNat_ofNat, Nat.mod_eq_of_lt (by omega)]
  show IntKind.u32.wrap ((BitVec.ofInt 32 IntKind.u32.max ^^^ BitVec.ofInt 32 (c : Int)).toNat : Int) = _
  rw [e1]
  have e : IntKind.u32.wrap ((4294967295 - c : Nat) : Int) = ((4294967295 - c : Nat) : Int) % 4294967296 := by simp [IntKind.wrap, IntKind.bits, IntKind.signed]
  rw [e]; omega
theorem ok_cpl32 {H : List Blk} {d : Option Tmp} {t1 : TypeId} {x : Operand} {c : Nat} (hc : c < 4294967296) (hx : env.get x = some (.int .u32 (c : Int))) : OpOK P ⟨d, .unOp .xor t1 x, ty, pos, aft, gd⟩ env H (.int .u32 ((4294967295 - c : Nat) : Int)) H [] [] :=
  .pure fun ρ a he => ⟨.int .u32 ((4294967295 - c : Nat) : Int), fun w => by
    have := (he x (by simp [Op.operands]) _ hx).int_inv
    have e := cpl32 hc
    rw [← e]
    simp [execOp, this, Op.unary, Op.intBits, bitsOf, IntKind.signed], .of1 (.int _ _)⟩
theorem s_cpl {K : Env → SH → Nat → Prop} {t1 : TypeId} {x : Operand} {c : Nat} (hc : c < 4294967296) (hx : env.get x = some (.int .u32 (c : Int))) (hw : wantedE ops ⟨some t, .unOp .xor t1 x, ty, pos, aft, gd⟩ env = some true) (hd : Nat.blt t nt = true)
    (h : SL P ops nt l ((t, .int .u32 ((4294967295 - c : Nat) : Int)) :: env) s n K) : SL P ops nt (⟨some t, .unOp .xor t1 x, ty, pos, aft, gd⟩ :: l) env s n K :=
  s_stp (R := []) (W := []) (ok_cpl32 hc hx) hw hd h
end
end Go.Proofs.Ytgkedbhpeafbbaa

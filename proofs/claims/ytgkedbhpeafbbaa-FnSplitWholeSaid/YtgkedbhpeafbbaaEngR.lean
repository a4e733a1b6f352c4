/-
  More of the walk, fourth part: appends with the rows told plainly; the first stream of a flow.
  Conditions: each states its own.
-/
import Derived.Test.YtgkedbhpeafbbaaEngQ
set_option linter.unusedSimpArgs false
set_option linter.unusedVariables false
namespace Go.Proofs.Ytgkedbhpeafbbaa
open Go.RowKit

section
variable {P : Program} {ops : Array Oper} {nt : Nat} {T : Tabs} {env : Env} {s : SH} {n n1 : Nat} {ty : TypeId} {pos : String} {aft : Array Edge} {gd : Option (Nat × Bool)} {l : List Oper}
theorem s_appX {t : Nat} {K : Env → SH → Nat → Prop} {x y : Operand} {ty1 : TypeId} {j m j2 q2 m2 : Nat} {e z by1 : Nat} {zs : List Value} {ow2 : Ow} {rows rows2 news out : List (List Value)} {mm : Nat} (hT : T.ok P) (ht : tlook T.sl ty1 = some (e, z, by1, zs)) (hx : env.get x = some (.slice (some ⟨j, 0, some 0⟩) m m)) (hy : env.get y = some (.slice (some ⟨j2, 0, some q2⟩) m2 m2)) (hj : slook s j = some (.arr z (.ap e) rows)) (hjn : Nat.blt j n = true) (hj2 : slook s j2 = some (.arr z ow2 rows2)) (hjn2 : Nat.blt j2 n = true) (hne : Nat.beq j2 j = false) (hm : rows.length = m) (hm2 : q2 + m2 ≤ rows2.length) (hb : (m + m2) * by1 ≤ 140737488355328) (h63 : m + m2 ≤ 9223372036854775807) (hnews : part rows2 q2 m2 = news) (hout : rows ++ news = out) (hmm : m + m2 = mm) (hn1 : n + 1 = n1) (hw : wantedE ops ⟨some t, .call { callee := .builtin .append, args := #[x, y], argTypes := #[ty1, ty1] }, ty, pos, aft, gd⟩ env = some true) (hd : Nat.blt t nt = true)
    (h : SL P ops nt l ((t, .slice (some ⟨n, 0, some 0⟩) mm mm) :: env) ((n, .arr z (.ap e) out) :: (j, .dead) :: s) n1 K) : SL P ops nt (⟨some t, .call { callee := .builtin .append, args := #[x, y], argTypes := #[ty1, ty1] }, ty, pos, aft, gd⟩ :: l) env s n K := by
  subst hout
  exact s_app hT ht hx hy hj hjn hj2 hjn2 hne hm hm2 hb h63 hnews hmm hn1 hw hd h
theorem d_appX {t : Nat} {fs : List FP} {K : Env → SH → Nat → List FP → Prop} {x y : Operand} {ty1 : TypeId} {j m j2 q2 m2 : Nat} {e z by1 : Nat} {zs : List Value} {ow2 : Ow} {rows rows2 news out : List (List Value)} {mm : Nat} (hT : T.ok P) (ht : tlook T.sl ty1 = some (e, z, by1, zs)) (hx : env.get x = some (.slice (some ⟨j, 0, some 0⟩) m m)) (hy : env.get y = some (.slice (some ⟨j2, 0, some q2⟩) m2 m2)) (hj : slook s j = some (.arr z (.ap e) rows)) (hjn : Nat.blt j n = true) (hj2 : slook s j2 = some (.arr z ow2 rows2)) (hjn2 : Nat.blt j2 n = true) (hne : Nat.beq j2 j = false) (hm : rows.length = m) (hm2 : q2 + m2 ≤ rows2.length) (hb : (m + m2) * by1 ≤ 140737488355328) (h63 : m + m2 ≤ 9223372036854775807) (hnews : part rows2 q2 m2 = news) (hout : rows ++ news = out) (hmm : m + m2 = mm) (hn1 : n + 1 = n1) (hw : wantedE ops ⟨some t, .call { callee := .builtin .append, args := #[x, y], argTypes := #[ty1, ty1] }, ty, pos, aft, gd⟩ env = some true) (hd : Nat.blt t nt = true)
    (h : DL P ops nt l ((t, .slice (some ⟨n, 0, some 0⟩) mm mm) :: env) ((n, .arr z (.ap e) out) :: (j, .dead) :: s) n1 (fs ++ [⟨[j2], [j], n, n1⟩]) K) : DL P ops nt (⟨some t, .call { callee := .builtin .append, args := #[x, y], argTypes := #[ty1, ty1] }, ty, pos, aft, gd⟩ :: l) env s n fs K := by
  subst hout
  exact d_app hT ht hx hy hj hjn hj2 hjn2 hne hm hm2 hb h63 hnews hmm hn1 hw hd h
end
theorem end_get {A : List (List Value)} {x : List Value} {n : Nat} (h : A.length = n) : (A ++ [x])[n]? = some x := by subst h; simp
theorem end_set {A : List (List Value)} {x y : List Value} {n : Nat} (h : A.length = n) : (A ++ [x]).set n y = A ++ [y] := by subst h; simp
theorem wrap_mod32 (a : Int) : IntKind.i64.wrap a % 4294967296 = a % 4294967296 := by rw [IntKind.wrap_i64]; omega
theorem and32 (a : Int) : bitsOf .i64 .and a 4294967295 = a % 4294967296 := by
  have h : (BitVec.ofInt 64 a &&& BitVec.ofInt 64 4294967295).toNat = (a % 4294967296).toNat := by
    have e : BitVec.ofInt 64 4294967295 = BitVec.ofNat 64 (2 ^ 32 - 1) := rfl
    rw [BitVec.toNat_and, BitVec.toNat_ofInt, e, BitVec.toNat_ofNat, Nat.mod_eq_of_lt (show 2 ^ 32 - 1 < 2 ^ 64 by decide), Nat.and_two_pow_sub_one_eq_mod]
    omega
  show IntKind.i64.wrap (((BitVec.ofInt 64 a &&& BitVec.ofInt 64 4294967295).toNat : Nat) : Int) = _
  rw [h, IntKind.wrap_i64]
  omega
end Go.Proofs.Ytgkedbhpeafbbaa

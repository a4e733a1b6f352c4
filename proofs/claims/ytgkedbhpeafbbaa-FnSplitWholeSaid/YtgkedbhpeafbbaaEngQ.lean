/-
  More of the walk, third part: elements that have been written, bytes, lists that are marked.
  Conditions: each states its own.
-/
import Derived.Test.YtgkedbhpeafbbaaEngZ
set_option linter.unusedSimpArgs false
set_option linter.unusedVariables false
namespace Go.Proofs.Ytgkedbhpeafbbaa
open Go.RowKit

/-! ### elements that have been written -/
section
variable {P : Program} {ops : Array Oper} {nt : Nat} {T : Tabs} {env : Env} {s : SH} {n : Nat} {ty : TypeId} {pos : String} {aft : Array Edge} {gd : Option (Nat × Bool)} {l : List Oper}
variable {x y : Operand} {ty1 j q m z i : Nat} {ow : Ow} {rows : List (List Value)} {cs cs1 zs : List Value} {c u : Value} {r : Bool}

theorem set_at {h : i < rows.length} : (rows.set i cs)[i]? = some cs := by simp [h]

theorem s_aload2 {t : Nat} {K : Env → SH → Nat → Prop} (hT : T.ok P) (ht : tlook T.ty ty1 = some (false, m, zs)) (hx : env.get x = some (.pointer (some ⟨j, q, some i⟩))) (hj : slook s j = some (.arr z ow (rows.set i cs))) (hjn : Nat.blt j n = true) (hi : i < rows.length) (hs : nth cs q = some c) (hw : wantedE ops ⟨some t, .load ty1 x, ty, pos, aft, gd⟩ env = some true) (hd : Nat.blt t nt = true)
    (h : SL P ops nt l ((t, c) :: env) s n K) : SL P ops nt (⟨some t, .load ty1 x, ty, pos, aft, gd⟩ :: l) env s n K :=
  s_aload hT ht hx hj hjn (set_at (h := hi)) hs hw hd h
theorem d_aload2 {t : Nat} {fs : List FP} {K : Env → SH → Nat → List FP → Prop} (hT : T.ok P) (ht : tlook T.ty ty1 = some (false, m, zs)) (hx : env.get x = some (.pointer (some ⟨j, q, some i⟩))) (hj : slook s j = some (.arr z ow (rows.set i cs))) (hjn : Nat.blt j n = true) (hi : i < rows.length) (hs : nth cs q = some c) (hw : wantedE ops ⟨some t, .load ty1 x, ty, pos, aft, gd⟩ env = some true) (hd : Nat.blt t nt = true)
    (h : DL P ops nt l ((t, c) :: env) s n (fs ++ [⟨[j], [], n, n⟩]) K) : DL P ops nt (⟨some t, .load ty1 x, ty, pos, aft, gd⟩ :: l) env s n fs K :=
  d_aload hT ht hx hj hjn (set_at (h := hi)) hs hw hd h
theorem s_astore2 {K : Env → SH → Nat → Prop} (hT : T.ok P) (ht : tlook T.ty ty1 = some (r, m, zs)) (hx : env.get x = some (.pointer (some ⟨j, q, some i⟩))) (hy : env.get y = some u) (hu : gnd1 u = true) (hm : m = 1) (hj : slook s j = some (.arr z ow (rows.set i cs))) (hjn : Nat.blt j n = true) (hw2 : ow.own = true) (hi : i < rows.length) (hs : splice cs q [u] = some cs1) (hw : wantedE ops ⟨none, .store ty1 x y, ty, pos, aft, gd⟩ env = some true)
    (h : SL P ops nt l env ((j, .arr z ow (rows.set i cs1)) :: s) n K) : SL P ops nt (⟨none, .store ty1 x y, ty, pos, aft, gd⟩ :: l) env s n K :=
  s_astore hT ht hx hy hu hm hj hjn hw2 (set_at (h := hi)) hs hw (by rw [List.set_set]; exact h)
theorem d_astore2 {fs : List FP} {K : Env → SH → Nat → List FP → Prop} (hT : T.ok P) (ht : tlook T.ty ty1 = some (r, m, zs)) (hx : env.get x = some (.pointer (some ⟨j, q, some i⟩))) (hy : env.get y = some u) (hu : gnd1 u = true) (hm : m = 1) (hj : slook s j = some (.arr z ow (rows.set i cs))) (hjn : Nat.blt j n = true) (hw2 : ow.own = true) (hi : i < rows.length) (hs : splice cs q [u] = some cs1) (hw : wantedE ops ⟨none, .store ty1 x y, ty, pos, aft, gd⟩ env = some true)
    (h : DL P ops nt l env ((j, .arr z ow (rows.set i cs1)) :: s) n (fs ++ [⟨[], [j], n, n⟩]) K) : DL P ops nt (⟨none, .store ty1 x y, ty, pos, aft, gd⟩ :: l) env s n fs K :=
  d_astore hT ht hx hy hu hm hj hjn hw2 (set_at (h := hi)) hs hw (by rw [List.set_set]; exact h)
end

/-! ### bytes -/
theorem u8w (m : Int) : IntKind.u8.wrap m = ((UInt8.ofInt m).toNat : Int) := by
  have h : IntKind.u8.wrap m = m % 256 := by simp [IntKind.wrap, IntKind.bits, IntKind.signed]
  have h2 : (UInt8.ofInt m).toNat = (m % 256).toNat := by
    unfold UInt8.ofInt
    simp
    omega
  rw [h, h2]
  omega
theorem w64u8 (b : UInt8) : IntKind.i64.wrap (b.toNat : Int) = (b.toNat : Int) := by
  have := b.toNat_lt
  exact wrap64_of (by omega) (by omega)
theorem bys1 {a : UInt8} : part [[.int .u8 (a.toNat : Int)]] 0 1 = bys [a] := rfl
theorem bys2 {a b : UInt8} : part [[.int .u8 (a.toNat : Int)], [.int .u8 (b.toNat : Int)]] 0 2 = bys [a, b] := rfl
theorem bys4 {a b c d : UInt8} : part [[.int .u8 (a.toNat : Int)], [.int .u8 (b.toNat : Int)], [.int .u8 (c.toNat : Int)], [.int .u8 (d.toNat : Int)]] 0 4 = bys [a, b, c, d] := rfl
theorem fdiv_pow {a : Int} {k : Nat} : a.fdiv ((2 ^ k : Nat) : Int) = a / ((2 ^ k : Nat) : Int) := Int.fdiv_eq_ediv_of_nonneg _ (Int.natCast_nonneg _)
theorem bin_shrC {P : Program} {t : TypeId} {k' : IntKind} {a : Int} {b d : Int} (hb : 0 ≤ b) (h64 : b ≤ 64) (hd : (2 : Int) ^ b.toNat = d) : BinR P .shr t (.int .i64 a) (.int k' b) (.int .i64 (a / d)) := by
  have h := bin_shr (P := P) (t := t) (k := .i64) (k' := k') (a := a) (b := b) hb
  have e : min b.toNat IntKind.i64.bits = b.toNat := Nat.min_eq_left (by show b.toNat ≤ 64; omega)
  rw [e, show (2 : Int) ^ b.toNat = ((2 ^ b.toNat : Nat) : Int) by simp, fdiv_pow] at h
  rw [← hd, show (2 : Int) ^ b.toNat = ((2 ^ b.toNat : Nat) : Int) by simp]
  exact h
theorem bin_shr8 {P : Program} {t : TypeId} {k' : IntKind} {a : Int} : BinR P .shr t (.int .i64 a) (.int k' 8) (.int .i64 (a / 256)) := bin_shrC (by decide) (by decide) (by decide)
theorem bin_shr16 {P : Program} {t : TypeId} {k' : IntKind} {a : Int} : BinR P .shr t (.int .i64 a) (.int k' 16) (.int .i64 (a / 65536)) := bin_shrC (by decide) (by decide) (by decide)
theorem bin_shr24 {P : Program} {t : TypeId} {k' : IntKind} {a : Int} : BinR P .shr t (.int .i64 a) (.int k' 24) (.int .i64 (a / 16777216)) := bin_shrC (by decide) (by decide) (by decide)
theorem bin_shr32 {P : Program} {t : TypeId} {k' : IntKind} {a : Int} : BinR P .shr t (.int .i64 a) (.int k' 32) (.int .i64 (a / 4294967296)) := bin_shrC (by decide) (by decide) (by decide)

/-! ### lists that are marked -/
section
variable {α : Type} {c : α → List Value} (f : Int → α) (g : Int → Int)
def mkGo : Int → Nat → List α
  | _, 0 => []
  | k, n + 1 => f k :: mkGo (g k) n
def mkEnd : Int → Nat → Int
  | k, 0 => k
  | k, n + 1 => mkEnd (g k) n
theorem mkGo_len : ∀ (n : Nat) (k : Int), (mkGo f g k n).length = n
  | 0, _ => rfl
  | n + 1, k => by simp [mkGo, mkGo_len n]
end
theorem mid_get {α : Type} {c : α → List Value} {A l : List α} {k : Nat} (hA : A.length = k) (h : k < l.length) : ((A ++ l.drop k).map c)[k]? = some (c l[k]) := by
  subst hA
  rw [List.map_append, List.getElem?_append_right (by simp)]
  simp only [List.length_map, Nat.sub_self, List.getElem?_map, List.getElem?_drop, Nat.add_zero, List.getElem?_eq_getElem h, Option.map_some]
theorem mid_set {α : Type} {c : α → List Value} {A l : List α} {k : Nat} {x : α} {r : List Value} (hA : A.length = k) (h : k < l.length) (hr : c x = r) : ((A ++ l.drop k).map c).set k r = ((A ++ [x]) ++ l.drop (k + 1)).map c := by
  subst hA; subst hr
  rw [drop_cons h, List.map_append, List.set_append_right _ _ (by simp)]
  simp only [List.length_map, Nat.sub_self, List.map_cons, List.set_cons_zero, List.map_append, List.map_nil, List.append_assoc, List.cons_append, List.nil_append]
theorem mid_len {α : Type} {c : α → List Value} {A l : List α} {k : Nat} (hA : A.length = k) (h : k ≤ l.length) : ((A ++ l.drop k).map c).length = l.length := by
  subst hA; simp; omega

end Go.Proofs.Ytgkedbhpeafbbaa

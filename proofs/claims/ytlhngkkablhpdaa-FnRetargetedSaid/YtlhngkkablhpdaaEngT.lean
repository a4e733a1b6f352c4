/-
  More of the walk, sixth part: an append to a slice of nothing.
  Conditions: something is appended.
-/
import Derived.Test.YtlhngkkablhpdaaEngS
set_option linter.unusedSimpArgs false
set_option linter.unusedVariables false
namespace Go.Proofs.Ytlhngkkablhpdaa
open Go.RowKit

section
variable {P : Program} {T : Tabs} {env : Env} {H : List Blk} {d : Option Tmp} {ty : TypeId} {pos : String} {aft : Array Edge} {gd : Option (Nat × Bool)}
theorem ok_appendN {t : TypeId} {x y : Operand} {j2 k2 m : Nat} {e z by' : Nat} {zs : List Value} {ow2 : Ow} {rows2 : List (List Value)} (hT : T.ok P) (ht : tlook T.sl t = some (e, z, by', zs))
    (hx : env.get x = some (.slice none 0 0)) (hy : env.get y = some (.slice (some ⟨j2, 0, some k2⟩) m m))
    (hj2 : H[j2]? = some (.arr z ow2 rows2)) (hm : k2 + m ≤ rows2.length) (hmp : 0 < m) (hb : m * by' ≤ 140737488355328) (h63 : m ≤ 9223372036854775807) :
    OpOK P ⟨d, .call { callee := .builtin .append, args := #[x, y], argTypes := #[t, t] }, ty, pos, aft, gd⟩ env H (.slice (some ⟨H.length, 0, some 0⟩) m m) (H ++ [.arr z (.ap e) (part rows2 k2 m)]) [j2] [] :=
  .make (fun i hi => by simp at hi; subst hi; exact (List.getElem?_eq_some_iff.1 hj2).1) fun ρ a w hev hr hfn => by
    obtain ⟨h1, hzp, h3, ii, zz, h4, h5, h6, h7, h8⟩ := slChk_ok (hT.slOf ht)
    have hmj2 : mask H.length ([j2] ++ []) H j2 = .arr z ow2 rows2 := mask_at hj2 rfl (by simp)
    have hok2 := hr.ok j2 (by rw [hmj2]; rfl)
    rw [hmj2] at hok2
    have h9 : a.eval x = .slice none 0 0 := by
      have := hev x (by simp [Op.operands, Call.operands]) _ hx
      cases this with
      | two h => cases h with
        | one h =>
          generalize a.eval x = cv at h
          cases h; rfl
    obtain ⟨ay, cy, h10, hsy⟩ := (hev y (by simp [Op.operands, Call.operands]) _ hy).sl_inv
    have hzc : zz.cells.size = z := by rw [← h3, ← h8]; simp
    obtain ⟨b2, o2, hay, news, hnl, hnr, hnc⟩ := sl_cells hsy hok2 hm hmp
    subst hay
    have hpz2 : ∀ r ∈ part rows2 k2 m, r.length = z := by
      intro r hr'
      have hmem : r ∈ rows2 := List.mem_of_mem_drop (List.mem_of_mem_take hr')
      cases hq : ρ j2 with
      | none => rw [hq] at hok2; exact hok2.elim
      | some xx =>
        rw [hq] at hok2
        cases xx with
        | mem => exact hok2.zok.1 ▸ hok2.zok.2 r hmem
        | nil => obtain ⟨_, _, hh⟩ := hok2; simp only [Blk.arr.injEq] at hh; rw [hh.2.2] at hmem; simp at hmem
        | any => obtain ⟨_, hh⟩ := hok2; simp only [Blk.arr.injEq] at hh; rw [hh.2.2] at hmem; simp at hmem
    have hpg2 : ∀ r ∈ part rows2 k2 m, r.all gnd1 = true := by
      intro r hr'
      have hmem : r ∈ rows2 := List.mem_of_mem_drop (List.mem_of_mem_take hr')
      cases hq : ρ j2 with
      | none => rw [hq] at hok2; exact hok2.elim
      | some xx =>
        rw [hq] at hok2
        cases xx with
        | mem => exact hok2.gok r hmem
        | nil => obtain ⟨_, _, hh⟩ := hok2; simp only [Blk.arr.injEq] at hh; rw [hh.2.2] at hmem; simp at hmem
        | any => obtain ⟨_, hh⟩ := hok2; simp only [Blk.arr.injEq] at hh; rw [hh.2.2] at hmem; simp at hmem
    have hnc' : ∀ i u, news[i]? = some u → w.cell? ((⟨b2, o2, none⟩ : Addr).add i) = some u := fun i u hu => by rw [add_at]; exact hnc i u hu
    have hge := grownCap_ge w m 0 e
    have hrun := run_append_nil (P := P) w t ty e ii zz h1 h4 h7 ⟨b2, o2, none⟩ m cy news (by rw [hnl, h5]) hnc' hmp (by omega) (by rw [h6]; omega)
    have hsize : (news.toArray ++ Builtin.zeroCells zz.cells (grownCap w m 0 e - m)).size = grownCap w m 0 e * z := by
      simp only [Array.size_append, List.size_toArray, size_zeroCells, hzc]
      rw [hnl, ← Nat.add_mul]
      congr 1; omega
    have hle : Rho.le ρ (ρ.set H.length (.mem w.heap.size 0 z (news.toArray ++ Builtin.zeroCells zz.cells (grownCap w m 0 e - m)).size)) := Rho.le_set hfn
    refine ⟨.slice (some ⟨w.heap.size, 0, none⟩) m (grownCap w m 0 e), w.drew.alloc (.cells (news.toArray ++ Builtin.zeroCells zz.cells (grownCap w m 0 e - m)) e), .mem w.heap.size 0 z (news.toArray ++ Builtin.zeroCells zz.cells (grownCap w m 0 e - m)).size, ?_, ?_, fun k hk => by simp [Base.blk] at hk; omega, ?_, ?_⟩
    · simp [execOp, resolve, invoke, builtin, h9, h10, hrun]
    · exact WExt.trans (WExt.drew (WExt.refl w)) (WExt.alloc _ _)
    · refine okm_new_arr (w := w.drew) hpz2 hpg2 fun i u hu => ?_
      obtain ⟨y', g1, g2⟩ := hnr.get i u hu
      refine ⟨y', ?_, g2.mono hle⟩
      have hlt2 : i < news.length := (List.getElem?_eq_some_iff.1 g1).1
      rw [Array.getElem?_append_left (by simpa using hlt2)]
      simpa using g1
    · refine .of1 (.sl (b := w.heap.size) (o := 0) (z := z) (c := (news.toArray ++ Builtin.zeroCells zz.cells (grownCap w m 0 e - m)).size) (by simp only [Rho.set, if_pos]) hge (.inr ⟨by simp, ?_⟩))
      rw [hsize]; omega
end
section
variable {P : Program} {ops : Array Oper} {nt : Nat} {T : Tabs} {env : Env} {s : SH} {n n1 : Nat} {ty : TypeId} {pos : String} {aft : Array Edge} {gd : Option (Nat × Bool)} {l : List Oper}
theorem s_appN {t : Nat} {K : Env → SH → Nat → Prop} {x y : Operand} {ty1 : TypeId} {j2 q2 m2 : Nat} {e z by1 : Nat} {zs : List Value} {ow2 : Ow} {rows2 news : List (List Value)} (hT : T.ok P) (ht : tlook T.sl ty1 = some (e, z, by1, zs)) (hx : env.get x = some (.slice none 0 0)) (hy : env.get y = some (.slice (some ⟨j2, 0, some q2⟩) m2 m2)) (hj2 : slook s j2 = some (.arr z ow2 rows2)) (hjn2 : Nat.blt j2 n = true) (hm2 : q2 + m2 ≤ rows2.length) (hmp : 0 < m2) (hb : m2 * by1 ≤ 140737488355328) (h63 : m2 ≤ 9223372036854775807) (hnews : part rows2 q2 m2 = news) (hn1 : n + 1 = n1) (hw : wantedE ops ⟨some t, .call { callee := .builtin .append, args := #[x, y], argTypes := #[ty1, ty1] }, ty, pos, aft, gd⟩ env = some true) (hd : Nat.blt t nt = true)
    (h : SL P ops nt l ((t, .slice (some ⟨n, 0, some 0⟩) m2 m2) :: env) ((n, .arr z (.ap e) news) :: s) n1 K) : SL P ops nt (⟨some t, .call { callee := .builtin .append, args := #[x, y], argTypes := #[ty1, ty1] }, ty, pos, aft, gd⟩ :: l) env s n K :=
  s_stp (R := [j2]) (W := []) (by have := ok_appendN (d := some t) (ty := ty) (pos := pos) (aft := aft) (gd := gd) (H := tb n s) hT ht hx hy (tb_get hj2 hjn2) hm2 hmp hb h63; rw [tb_len, tb_new, hn1, hnews] at this; exact this) hw hd h
theorem d_appN {t : Nat} {fs : List FP} {K : Env → SH → Nat → List FP → Prop} {x y : Operand} {ty1 : TypeId} {j2 q2 m2 : Nat} {e z by1 : Nat} {zs : List Value} {ow2 : Ow} {rows2 news : List (List Value)} (hT : T.ok P) (ht : tlook T.sl ty1 = some (e, z, by1, zs)) (hx : env.get x = some (.slice none 0 0)) (hy : env.get y = some (.slice (some ⟨j2, 0, some q2⟩) m2 m2)) (hj2 : slook s j2 = some (.arr z ow2 rows2)) (hjn2 : Nat.blt j2 n = true) (hm2 : q2 + m2 ≤ rows2.length) (hmp : 0 < m2) (hb : m2 * by1 ≤ 140737488355328) (h63 : m2 ≤ 9223372036854775807) (hnews : part rows2 q2 m2 = news) (hn1 : n + 1 = n1) (hw : wantedE ops ⟨some t, .call { callee := .builtin .append, args := #[x, y], argTypes := #[ty1, ty1] }, ty, pos, aft, gd⟩ env = some true) (hd : Nat.blt t nt = true)
    (h : DL P ops nt l ((t, .slice (some ⟨n, 0, some 0⟩) m2 m2) :: env) ((n, .arr z (.ap e) news) :: s) n1 (fs ++ [⟨[j2], [], n, n1⟩]) K) : DL P ops nt (⟨some t, .call { callee := .builtin .append, args := #[x, y], argTypes := #[ty1, ty1] }, ty, pos, aft, gd⟩ :: l) env s n fs K :=
  d_stp (R := [j2]) (W := []) (by have := ok_appendN (d := some t) (ty := ty) (pos := pos) (aft := aft) (gd := gd) (H := tb n s) hT ht hx hy (tb_get hj2 hjn2) hm2 hmp hb h63; rw [tb_len, tb_new, hn1, hnews] at this; exact this) hw hd h
end
end Go.Proofs.Ytlhngkkablhpdaa

/-
  More of the walk, second part: calls in general, slices of nothing, the sizes of texts, contracts out of plain calls.
  Conditions: each states its own.
-/
import Derived.Test.YtgkedbhpeafbbaaEngY
import Derived.Test.YtgkedbhpeafbbaaBase
set_option linter.unusedSimpArgs false
set_option linter.unusedVariables false
namespace Go.Proofs.Ytgkedbhpeafbbaa
open Go.RowKit

/-! ### calls in general -/

def updS (τ : Nat → Nat) : List Nat → List Blk → List Blk → SH → SH
  | x :: σ, b :: bs, b' :: bs', s => updS τ σ bs bs' (if b.own then (x, b'.ren τ) :: s else s)
  | _, _, _, s => s
def addS (τ : Nat → Nat) : Nat → List Blk → SH → SH
  | _, [], s => s
  | n, b :: bs, s => addS τ (n + 1) bs ((n, b.ren τ) :: s)

theorem putBack_tb {τ : Nat → Nat} {n : Nat} : ∀ (σ : List Nat) (bs bs' : List Blk) (s : SH), putBack τ σ bs bs' (tb n s) = tb n (updS τ σ bs bs' s)
  | x :: σ, b :: bs, b' :: bs', s => by
    rw [putBack, updS]
    split
    · rw [tb_set]; exact putBack_tb σ bs bs' _
    · exact putBack_tb σ bs bs' _
  | [], _, _, _ => rfl
  | _ :: _, [], _, _ => rfl
  | _ :: _, _ :: _, [], _ => rfl
theorem add_tb {τ : Nat → Nat} : ∀ (bs : List Blk) (n : Nat) (s : SH), tb n s ++ bs.map (Blk.ren τ) = tb (n + bs.length) (addS τ n bs s)
  | [], n, s => by simp [addS]
  | b :: bs, n, s => by
    have := add_tb (τ := τ) bs (n + 1) ((n, b.ren τ) :: s)
    rw [← tb_new] at this
    rw [List.map_cons, addS, List.length_cons, show n + (bs.length + 1) = n + 1 + bs.length by omega, ← this]
    simp

section
variable {P : Program} {ops : Array Oper} {nt k : Nat} {T : Tabs} {Q : Exit → Env → List Blk → Prop} {env : Env} {s s1 : SH} {n n1 : Nat}

theorem callG_eq {σ : List Nat} {Hc Hc1 : List Blk} (hs : addS (tauc σ n) n (Hc1.drop Hc.length) (updS (tauc σ n) σ Hc Hc1 s) = s1) (hn : n + (Hc1.length - Hc.length) = n1) :
    putBack (tauc σ n) σ Hc Hc1 (tb n s) ++ (Hc1.drop Hc.length).map (Blk.ren (tauc σ n)) = tb n1 s1 := by
  subst hs; subst hn
  rw [putBack_tb, add_tb, List.length_drop]

theorem s_callG {ty : TypeId} {pos : String} {aft : Array Edge} {gd : Option (Nat × Bool)} {t : Nat} {l : List Oper} {f : FuncId} {xs : List Operand} {ats : Array TypeId} {args args2 : List Value} {Hc Hc1 : List Blk} {v v2 : Value} {W : List Nat} {K : Env → SH → Nat → Prop} (F : Fn P f args Hc v Hc1) (σ : List Nat) (hev : evA env xs = some args2) (ha : args2 = args.map (ren (tauc σ n))) (hg : gives (tauc σ n) (tb n s) σ Hc) (hn2 : nodupN σ = true) (hlt : σ.all (fun x => Nat.blt x n) = true) (hv : ren (tauc σ n) v = v2)
    (hs : addS (tauc σ n) n (Hc1.drop Hc.length) (updS (tauc σ n) σ Hc Hc1 s) = s1) (hn : n + (Hc1.length - Hc.length) = n1) (hW : ownsOf σ Hc = W) (hw : wantedE ops ⟨some t, .call { callee := .value (.func f), args := xs.toArray, argTypes := ats }, ty, pos, aft, gd⟩ env = some true) (hd : Nat.blt t nt = true) (h : SL P ops nt l ((t, v2) :: env) s1 n1 K) : SL P ops nt (⟨some t, .call { callee := .value (.func f), args := xs.toArray, argTypes := ats }, ty, pos, aft, gd⟩ :: l) env s n K :=
  s_call (W := W) F σ hev ha hg (.inr hn2) hlt hv (callG_eq hs hn) hW hw hd h
theorem d_callG {ty : TypeId} {pos : String} {aft : Array Edge} {gd : Option (Nat × Bool)} {t : Nat} {l : List Oper} {f : FuncId} {xs : List Operand} {ats : Array TypeId} {args args2 : List Value} {Hc Hc1 : List Blk} {v v2 : Value} {W : List Nat} {fs : List FP} {K : Env → SH → Nat → List FP → Prop} (F : Fn P f args Hc v Hc1) (σ : List Nat) (hev : evA env xs = some args2) (ha : args2 = args.map (ren (tauc σ n))) (hg : gives (tauc σ n) (tb n s) σ Hc) (hn2 : nodupN σ = true) (hlt : σ.all (fun x => Nat.blt x n) = true) (hv : ren (tauc σ n) v = v2)
    (hs : addS (tauc σ n) n (Hc1.drop Hc.length) (updS (tauc σ n) σ Hc Hc1 s) = s1) (hn : n + (Hc1.length - Hc.length) = n1) (hW : ownsOf σ Hc = W) (hw : wantedE ops ⟨some t, .call { callee := .value (.func f), args := xs.toArray, argTypes := ats }, ty, pos, aft, gd⟩ env = some true) (hd : Nat.blt t nt = true) (h : DL P ops nt l ((t, v2) :: env) s1 n1 (fs ++ [⟨σ, W, n, n1⟩]) K) : DL P ops nt (⟨some t, .call { callee := .value (.func f), args := xs.toArray, argTypes := ats }, ty, pos, aft, gd⟩ :: l) env s n fs K :=
  d_call (W := W) F σ hev ha hg (.inr hn2) hlt hv (callG_eq hs hn) hW hw hd h

/-! ### an empty slice under a name -/

theorem hp_new {H : List Blk} {b : Blk} : hp (H ++ [b]) = fun j => if j = H.length then b else hp H j := by
  funext j
  unfold hp
  simp only [List.getD_eq_getElem?_getD]
  by_cases e : j = H.length
  · subst e; simp
  · rw [if_neg e]
    rcases Nat.lt_or_ge j H.length with h | h
    · rw [List.getElem?_append_left h]
    · rw [List.getElem?_eq_none (by simp; omega), List.getElem?_eq_none h]
theorem hp_dead {H : List Blk} {j : Nat} (h : H.length ≤ j) : (hp H j).live = false := by
  unfold hp; rw [List.getD_eq_getElem?_getD, List.getElem?_eq_none h]; rfl

/-- The same result, its slice of nothing told as an empty row under a new name. -/
theorem Fn.named {f : FuncId} {args : List Value} {H H' : List Blk} {v v2 : Value} (F : Fn P f args H v H') (z : Nat) (ow : Ow)
    (hv : ∀ (ρ ρ' : Rho) (cv : Value), Rho.le ρ ρ' → ρ' H'.length = some .nil → VR ρ v cv → VR ρ' v2 cv) : Fn P f args H v2 (H' ++ [.arr z ow []]) where
  ent := F.ent
  len := by have := F.len; simp; omega
  lv := F.lv
  sca := F.sca
  sch := F.sch
  run ρ w cargs hno ha hr := by
    refine (F.run ρ w cargs hno ha hr).mono ?_
    rintro e w' ⟨cv, ρ', h1, h2, h3, h4, h5⟩
    have hn := h5 _ (Nat.le_refl _)
    obtain ⟨k1, k2⟩ := HR.new (b := .arr z ow []) (x := .nil) h3 hn (hp_dead (Nat.le_refl _)) (WExt.refl w') ⟨z, ow, rfl⟩ (fun k hk => by simp [Base.blk] at hk)
    rw [← hp_new] at k1 k2
    refine ⟨cv, _, h1, hv ρ' _ cv (Rho.le_set hn) (by simp [Rho.set]) h2, k1, h4.trans k2, fun j hj => ?_⟩
    simp at hj
    simp only [Rho.set]
    rw [if_neg (by omega)]
    exact h5 j (by omega)

theorem Fn.nil_slice {f : FuncId} {args : List Value} {H H' : List Blk} (F : Fn P f args H (.slice none 0 0) H') (z : Nat) (ow : Ow) {m : Nat} (hm : H'.length = m) : Fn P f args H (.slice (some ⟨m, 0, some 0⟩) 0 0) (H' ++ [.arr z ow []]) :=
  F.named z ow fun ρ ρ' cv _ hn h => by
    subst hm
    cases h with | two h => cases h with | one h => cases h; exact .of1 (.slnil hn)

theorem sub_name {t : Nat} (z : Nat) (ow : Ow) (ht : env.look t = some (.slice none 0 0)) : Sub nt k env (tb n s) ((t, .slice (some ⟨n, 0, some 0⟩) 0 0) :: env) (tb (n + 1) ((n, .arr z ow []) :: s)) := fun ρ0 h0 w0 hk0 ρ a w hr st => by
  have hn : ρ n = none := hr.none n (by rw [tb_len]; exact Nat.le_refl _)
  obtain ⟨k1, k2⟩ := HR.new (b := .arr z ow []) (x := .nil) hr.hr hn (hp_dead (by rw [tb_len]; exact Nat.le_refl _)) (WExt.refl w) ⟨z, ow, rfl⟩ (fun k hk => by simp [Base.blk] at hk)
  have e : (fun j => if j = n then Blk.arr z ow [] else hp (tb n s) j) = hp (tb (n + 1) ((n, .arr z ow []) :: s)) := by
    rw [← tb_new, hp_new, tb_len]
  rw [e] at k1 k2
  refine ⟨ρ.set n .nil, ⟨fun t' u hu => ?_, hr.size, hr.defers, k1, fun j hj => ?_⟩, st.trans k2⟩
  · simp only [Env.look] at hu
    split at hu
    · rename_i hb
      have hst : t = t' := Nat.eq_of_beq_eq_true hb
      subst hst
      simp at hu; subst hu
      have := hr.env t _ ht
      cases this with
      | two h => cases h with
        | one h => 
          generalize a.tmps.getD t undef = cv at h
          cases h
          exact .of1 (.slnil (by simp [Rho.set]))
    · exact (hr.env t' u hu).mono (Rho.le_set hn)
  · rw [tb_len] at hj
    simp only [Rho.set]
    rw [if_neg (by omega)]
    exact hr.none j (by rw [tb_len]; omega)

/-- A slice of nothing gets a name. -/
theorem aw_name {c : Code} (t z : Nat) (ow : Ow) (ht : env.look t = some (.slice none 0 0)) (hn : n + 1 = n1) (h : AW P nt k c Q ((t, .slice (some ⟨n, 0, some 0⟩) 0 0) :: env) (tb n1 ((n, .arr z ow []) :: s))) : AW P nt k c Q env (tb n s) := by
  subst hn; exact AW.sub (sub_name z ow ht) h
end

/-! ### the sizes of texts -/

def SzLe (b : ByteArray) (n : Nat) : Prop := b.size ≤ n
theorem szle_app {a b : ByteArray} {m n : Nat} (ha : SzLe a m) (hb : SzLe b n) : SzLe (a ++ b) (m + n) := by
  unfold SzLe at *; rw [ByteArray.size_append]; omega
theorem szle_self {a : ByteArray} : SzLe a a.size := Nat.le_refl _
theorem bin_catL {P : Program} {t : TypeId} {a b : ByteArray} {m n : Nat} (ha : SzLe a m) (hb : SzLe b n) (h : Nat.ble (m + n) 9223372036854775807 = true) : BinR P .add t (.string a) (.string b) (.string (a ++ b)) :=
  bin_cat (by have := Nat.le_of_ble_eq_true h; unfold SzLe at *; omega)

theorem bin_bool_congr {P : Program} {op : BinOp} {t : TypeId} {a b : Value} {p q : Prop} [Decidable p] [Decidable q] (h : p ↔ q) (hb : BinR P op t a b (.bool (decide p))) : BinR P op t a b (.bool (decide q)) := by
  rwa [decide_eq_decide.2 h] at hb

/-! ### lists -/
theorem part_all {rows : List (List Value)} : part rows 0 rows.length = rows := by simp [part]
theorem part_map {α : Type} {c : α → List Value} {l : List α} : part (l.map c) 0 l.length = l.map c := by unfold part; rw [List.drop_zero]; exact List.take_of_length_le (by simp)
theorem bin_mulN {P : Program} {t : TypeId} {a b : Nat} (h : a * b ≤ 9223372036854775807) : BinR P .mul t (.int .i64 (a : Int)) (.int .i64 (b : Int)) (.int .i64 ((a * b : Nat) : Int)) := by
  have := bin_mul64 (P := P) (t := t) (a := (a : Int)) (b := (b : Int)) (by rw [← Int.natCast_mul]; omega) (by rw [← Int.natCast_mul]; omega)
  rwa [← Int.natCast_mul] at this
theorem bin_addN {P : Program} {t : TypeId} {a b : Nat} (h : a + b ≤ 9223372036854775807) : BinR P .add t (.int .i64 (a : Int)) (.int .i64 (b : Int)) (.int .i64 ((a + b : Nat) : Int)) := by
  have := bin_add64 (P := P) (t := t) (a := (a : Int)) (b := (b : Int)) (by omega) (by omega)
  rwa [← Int.natCast_add] at this
theorem bin_add1 {P : Program} {t : TypeId} {a : Nat} (h : a ≤ 9223372036854775806) : BinR P .add t (.int .i64 (a : Int)) (.int .i64 1) (.int .i64 ((a + 1 : Nat) : Int)) := bin_addN (b := 1) (by omega)

/-! ### contracts out of plain calls -/

theorem all2_gnd {ρ : Rho} : ∀ {l cs : List Value}, l.all gnd = true → All2 (VR ρ) l cs → cs = l
  | [], _, _, h => by cases h; rfl
  | v :: l, _, hg, .cons h t => by
    simp only [List.all_cons, Bool.and_eq_true] at hg
    rw [h.eq hg.1, all2_gnd hg.2 t]

theorem sc_of_gnd1 {n : Nat} {v : Value} (h : gnd1 v = true) : sc1 n v = true := by cases v <;> simp [gnd1] at h <;> rfl
theorem sc_of_gnd {n : Nat} {v : Value} (h : gnd v = true) : sc n v = true := by
  cases v with
  | agg cs => 
    simp only [gnd] at h
    simp only [sc, sc2]
    exact List.all_eq_true.2 fun x hx => sc_of_gnd1 (List.all_eq_true.1 h x hx)
  | _ => first | rfl | simp [gnd, gnd1] at h

theorem Fn.of_below {P : Program} {f : FuncId} {args : List Value} {v : Value} (he : Enters P f) (hg : args.all gnd = true) (hv : gnd v = true)
    (h : ∀ w, Calls P f args.toArray w fun e w' => e = .returned v ∧ Below w.heap.size w w') : Fn P f args [] v [] where
  ent := he
  len := Nat.le_refl _
  lv := rfl
  sca := List.all_eq_true.2 fun x hx => sc_of_gnd (List.all_eq_true.1 hg x hx)
  sch := rfl
  run ρ w cargs hno ha hr := by
    rw [all2_gnd hg ha]
    refine (h w).mono ?_
    rintro e w' ⟨rfl, hb⟩
    have hd : ∀ j, (hp [] j).live = false := fun j => by simp [hp, Blk.live]
    refine ⟨v, ρ, rfl, VR.of_gnd hv, ⟨fun j hj => ?_, fun i j k _ _ hj => ?_⟩, ⟨hb.os, hb.tape, hb.output, hb.size, fun k hk _ => hb.block k hk, Rho.le.rfl', fun j hj => ?_⟩, fun j hj => hno j hj⟩
    · rw [hd j] at hj; cases hj
    · rw [hd j] at hj; cases hj
    · rw [hd j] at hj; cases hj
end Go.Proofs.Ytgkedbhpeafbbaa

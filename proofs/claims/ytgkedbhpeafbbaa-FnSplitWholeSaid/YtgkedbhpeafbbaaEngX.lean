/-
  More of the walk: loops, calls that make one block, lists that are filled and measured.
  Conditions: each states its own.
-/
import Derived.Test.YtgkedbhpeafbbaaEngW
set_option linter.unusedSimpArgs false
set_option linter.unusedVariables false
namespace Go.Proofs.Ytgkedbhpeafbbaa
open Go.RowKit

section
variable {P : Program} {ops : Array Oper} {nt k : Nat} {T : Tabs} {Q : Exit → Env → List Blk → Prop} {env : Env} {s : SH} {n : Nat}

/-- A round is done: the next state of the loop. -/
def Rnd {ι : Type} (nt k : Nat) (E : ι → Env) (B : ι → List Blk) (φ : ι → Prop) (μ : ι → Nat) (i : ι) (env : Env) (H : List Blk) : Prop :=
  ∃ i', φ i' ∧ μ i' < μ i ∧ Sub nt k env H (E i') (B i')

theorem aw_loop {ι : Type} {c : Code} (E : ι → Env) (B : ι → List Blk) (φ : ι → Prop) (μ : ι → Nat) (i0 : ι) (hi0 : φ i0) (hs : Sub nt k env (tb n s) (E i0) (B i0))
    (round : ∀ i, φ i → AW P nt k c (thenQ (Rnd nt k E B φ μ i) Q) (E i) (B i)) : AW P nt k (.loop c) Q env (tb n s) :=
  .loop (fun i => (E i, B i)) φ μ i0 hi0 hs round

theorem sub_tb {env2 : Env} {H2 : List Blk} (l : List Nat) (he : envSub (tau l n) env env2) (hb : blksOk (tau l n) (tb n s) l H2) (hsc : env2.all (fun p => sc H2.length p.2) = true) (hbs : H2.all (Blk.sc H2.length) = true)
    (ht : tauOk k l = true) (hn : nodupN l = true) (hk : Nat.ble k H2.length = true) : Sub nt k env (tb n s) env2 H2 :=
  .mk l (by rw [tb_len]; exact he) (by rw [tb_len]; exact hb) hsc hbs ht hn (Nat.le_of_ble_eq_true hk)

theorem rnd_tb {ι : Type} {E : ι → Env} {B : ι → List Blk} {φ : ι → Prop} {μ : ι → Nat} {i : ι} (i' : ι) (h1 : φ i') (h2 : μ i' < μ i) (h3 : Sub nt k env (tb n s) (E i') (B i')) : Rnd nt k E B φ μ i env (tb n s) := ⟨i', h1, h2, h3⟩

/-- A call that only reads blocks and hands back a slice of a new one. -/
theorem callN_eq {H : List Blk} {z m : Nat} {ow : Ow} {rows : List (List Value)} (σ : List Nat) (hl : σ.length = H.length) (hro : (H.all fun b => !b.own) = true) :
    putBack (tauc σ n) σ H (H ++ [Blk.arr z ow rows]) (tb n s) ++ ((H ++ [Blk.arr z ow rows]).drop H.length).map (Blk.ren (tauc σ n)) = tb (n + 1) ((n, .arr z ow rows) :: s) ∧
    ren (tauc σ n) (.slice (some ⟨H.length, 0, some 0⟩) m m) = .slice (some ⟨n, 0, some 0⟩) m m := by
  constructor
  · rw [putBack_ro _ _ _ _ hro, List.drop_left]
    simp only [List.map_cons, List.map_nil, Blk.ren]
    exact tb_new
  · simp [ren, ren2, ren1, tauc, ← hl]

theorem s_callN {ty : TypeId} {pos : String} {aft : Array Edge} {gd : Option (Nat × Bool)} {t : Nat} {l : List Oper} {n1 : Nat} {f : FuncId} {xs : List Operand} {ats : Array TypeId} {args args2 : List Value} {H H' : List Blk} {z m h : Nat} {ow : Ow} {rows : List (List Value)} {K : Env → SH → Nat → Prop} (F : Fn P f args H (.slice (some ⟨h, 0, some 0⟩) m m) H') (σ : List Nat) (hH : H' = H ++ [.arr z ow rows]) (hh : H.length = h) (hl : σ.length = H.length) (hev : evA env xs = some args2) (ha : args2 = args.map (ren (tauc σ n))) (hg : gives (tauc σ n) (tb n s) σ H) (hro : (H.all fun b => !b.own) = true) (hlt : σ.all (fun x => Nat.blt x n) = true) (hn1 : n + 1 = n1) (hw : wantedE ops ⟨some t, .call { callee := .value (.func f), args := xs.toArray, argTypes := ats }, ty, pos, aft, gd⟩ env = some true) (hd : Nat.blt t nt = true) (h : SL P ops nt l ((t, .slice (some ⟨n, 0, some 0⟩) m m) :: env) ((n, .arr z ow rows) :: s) n1 K) : SL P ops nt (⟨some t, .call { callee := .value (.func f), args := xs.toArray, argTypes := ats }, ty, pos, aft, gd⟩ :: l) env s n K := by
  subst hH; subst hh; subst hn1
  exact s_call (W := []) F σ hev ha hg (.inl hro) hlt (callN_eq (s := s) (z := z) (ow := ow) (rows := rows) σ hl hro).2 (callN_eq (m := 0) (z := z) (ow := ow) (rows := rows) σ hl hro).1 (ownsOf_ro _ _ hro) hw hd h
theorem d_callN {ty : TypeId} {pos : String} {aft : Array Edge} {gd : Option (Nat × Bool)} {t : Nat} {l : List Oper} {n1 : Nat} {f : FuncId} {xs : List Operand} {ats : Array TypeId} {args args2 : List Value} {H H' : List Blk} {z m h : Nat} {ow : Ow} {rows : List (List Value)} {fs : List FP} {K : Env → SH → Nat → List FP → Prop} (F : Fn P f args H (.slice (some ⟨h, 0, some 0⟩) m m) H') (σ : List Nat) (hH : H' = H ++ [.arr z ow rows]) (hh : H.length = h) (hl : σ.length = H.length) (hev : evA env xs = some args2) (ha : args2 = args.map (ren (tauc σ n))) (hg : gives (tauc σ n) (tb n s) σ H) (hro : (H.all fun b => !b.own) = true) (hlt : σ.all (fun x => Nat.blt x n) = true) (hn1 : n + 1 = n1) (hw : wantedE ops ⟨some t, .call { callee := .value (.func f), args := xs.toArray, argTypes := ats }, ty, pos, aft, gd⟩ env = some true) (hd : Nat.blt t nt = true) (h : DL P ops nt l ((t, .slice (some ⟨n, 0, some 0⟩) m m) :: env) ((n, .arr z ow rows) :: s) n1 (fs ++ [⟨σ, [], n, n1⟩]) K) : DL P ops nt (⟨some t, .call { callee := .value (.func f), args := xs.toArray, argTypes := ats }, ty, pos, aft, gd⟩ :: l) env s n fs K := by
  subst hH; subst hh; subst hn1
  exact d_call (W := []) F σ hev ha hg (.inl hro) hlt (callN_eq (s := s) (z := z) (ow := ow) (rows := rows) σ hl hro).2 (callN_eq (m := 0) (z := z) (ow := ow) (rows := rows) σ hl hro).1 (ownsOf_ro _ _ hro) hw hd h
end

/-! ### lists -/
section
variable {α : Type} {c : α → List Value} {l : List α} {zs : List Value}

/-- The first k rows are in, the others still empty. -/
def fillR (c : α → List Value) (l : List α) (zs : List Value) (k : Nat) : List (List Value) := (l.take k).map c ++ List.replicate (l.length - k) zs

theorem fillR_zero : fillR c l zs 0 = List.replicate l.length zs := by simp [fillR]
theorem fillR_all : fillR c l zs l.length = l.map c := by simp [fillR]
theorem fillR_get {k : Nat} (h : k < l.length) : (fillR c l zs k)[k]? = some zs := by
  unfold fillR
  rw [List.getElem?_append_right (by simp; omega)]
  simp [List.getElem?_replicate]; omega
theorem fillR_set {k : Nat} (h : k < l.length) : (fillR c l zs k).set k (c l[k]) = fillR c l zs (k + 1) := by
  unfold fillR
  apply List.ext_getElem?
  intro i
  rw [List.getElem?_set]
  by_cases hi : k = i
  · subst hi
    rw [if_pos rfl, if_pos (by simp; omega), List.getElem?_append_left (by simp; omega)]
    simp [h]
  · rw [if_neg hi]
    by_cases hik : i < k
    · rw [List.getElem?_append_left (by simp; omega), List.getElem?_append_left (by simp; omega)]
      simp [List.getElem?_take, hik, show i < k + 1 by omega]
    · rw [List.getElem?_append_right (by simp; omega), List.getElem?_append_right (by simp; omega)]
      simp only [List.getElem?_replicate, List.length_map, List.length_take]
      rw [Nat.min_eq_left (by omega), Nat.min_eq_left (by omega)]
      by_cases hl : i < l.length
      · rw [if_pos (by omega), if_pos (by omega)]
      · rw [if_neg (by omega), if_neg (by omega)]
theorem rows_get {k : Nat} (h : k < l.length) : (l.map c)[k]? = some (c l[k]) := by simp [h]

/-- The measure of the rows: what is left of n. -/
def szGo (f : Int → α → Int) : Int → List α → Int
  | n, [] => n
  | n, x :: l => if f n x < 0 then -1 else szGo f (f n x) l
def szAll (f : Int → α → Int) (n : Int) (l : List α) : Int := if n - l.length < 0 then -1 else szGo f (n - l.length) l

theorem drop_cons {k : Nat} (h : k < l.length) : l.drop k = l[k] :: l.drop (k + 1) := by simp

theorem szGo_le {f : Int → α → Int} (hf : ∀ n x, 0 ≤ n → f n x ≤ n) : ∀ (l : List α) (n : Int), 0 ≤ n → szGo f n l ≤ n
  | [], n, _ => by simp [szGo]
  | x :: l, n, h => by
    unfold szGo
    split
    · omega
    · have := hf n x h
      have := szGo_le hf l (f n x) (by omega)
      omega
theorem szAll_le {f : Int → α → Int} (hf : ∀ n x, 0 ≤ n → f n x ≤ n) {n : Int} (h : 0 ≤ szAll f n l) : szAll f n l ≤ n ∧ (l.length : Int) ≤ n := by
  unfold szAll at h ⊢
  split at h
  · omega
  · rename_i hh
    rw [if_neg hh]
    have := szGo_le hf l (n - l.length) (by omega)
    omega
end

/-- What is left of n when m is taken. -/
def left (n m : Int) : Int := if n - m < 0 then -1 else n - m
theorem left_lo {n m : Int} : -1 ≤ left n m := by unfold left; split <;> omega
theorem left_hi {n m : Int} (h : 0 ≤ n) (hm : 0 ≤ m) : left n m ≤ n := by unfold left; split <;> omega
end Go.Proofs.Ytgkedbhpeafbbaa

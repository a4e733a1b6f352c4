/-
  Code over memory told by names: regions, tests, loops, calls, whole functions.
  Conditions: each law states its own.
-/
import Derived.Test.YtgkedbhpeafbbaaEngF
import Derived.Deep.LoopGhost
set_option linter.unusedSimpArgs false
set_option linter.unusedVariables false
namespace Go.Proofs.Ytgkedbhpeafbbaa
open Go.RowKit

/-! ### the check of a region that draws its order -/

theorem envD_shift (dst : Nat → Option Tmp) (v : Nat → Value) (E : Env) : ∀ i, envD (fun _ => true) dst v E (i + 1) = envD (fun _ => true) (fun j => dst (j + 1)) (fun j => v (j + 1)) (E.put (dst 0) (v 0)) i
  | 0 => by simp [envD]
  | i + 1 => by
    have ih := envD_shift dst v E i
    rw [envD, if_pos rfl, ih]
    conv => rhs; rw [envD, if_pos rfl]

def rec0 : Rec := ⟨undef, [], [], [], 0, 0⟩
def oF (l : List Oper) (i : Nat) : Oper := l.getD i default
def vF (rs : List Rec) (i : Nat) : Value := (rs.getD i rec0).v
def RF (rs : List Rec) (i : Nat) : List Nat := (rs.getD i rec0).R
def WF (rs : List Rec) (i : Nat) : List Nat := (rs.getD i rec0).W
def HF (H : List Blk) (rs : List Rec) : Nat → List Blk
  | 0 => H
  | i + 1 => (rs.getD i rec0).H1

theorem Run.one {P : Program} {ops : Array Oper} {nt : Nat} : ∀ {l : List Oper} {env env' : Env} {H H' : List Blk} {rs : List Rec}, Run P ops nt l env H rs env' H' →
    l.length = rs.length ∧ env' = envD (fun _ => true) (fun i => (oF l i).dst) (vF rs) env l.length ∧ H' = HF H rs l.length ∧
    ∀ i, i < l.length → dstOk (oF l i) nt = true ∧ (rs.getD i rec0).n0 = (HF H rs i).length ∧ (rs.getD i rec0).n1 = (HF H rs (i + 1)).length ∧
      ((wantedE ops (oF l i) (envD (fun _ => true) (fun i => (oF l i).dst) (vF rs) env i) = some true ∧ OpOK P (oF l i) (envD (fun _ => true) (fun i => (oF l i).dst) (vF rs) env i) (HF H rs i) (vF rs i) (HF H rs (i + 1)) (RF rs i) (WF rs i)) ∨
       (wantedE ops (oF l i) (envD (fun _ => true) (fun i => (oF l i).dst) (vF rs) env i) = some false ∧ vF rs i = undef ∧ HF H rs (i + 1) = HF H rs i ∧ RF rs i = [] ∧ WF rs i = []))
  | _, _, _, _, _, _, .nil => ⟨rfl, rfl, rfl, fun i hi => by simp at hi⟩
  | _, _, _, _, _, _, .step (o := o) (l := l) (env := env) (H := H) (H1 := H1) (v := v) (R := R) (W := W) (n0 := n0) (n1 := n1) (rs := rs) h1 h2 h3 h4 h5 h6 => by
    obtain ⟨e1, e2, e3, e4⟩ := h6.one
    have hs : ∀ i, envD (fun _ => true) (fun i => (oF (o :: l) i).dst) (vF (⟨v, H1, R, W, n0, n1⟩ :: rs)) env (i + 1) = envD (fun _ => true) (fun i => (oF l i).dst) (vF rs) (env.put o.dst v) i := fun i => by
      rw [envD_shift]; rfl
    have hH : ∀ i, HF H (⟨v, H1, R, W, n0, n1⟩ :: rs) (i + 1) = HF H1 rs i := fun i => by cases i <;> rfl
    refine ⟨by simp [e1], by rw [List.length_cons, hs]; exact e2, by rw [List.length_cons, hH]; exact e3, fun i hi => ?_⟩
    cases i with
    | zero => exact ⟨h2, h3.symm, h4.symm, .inl ⟨h1, h5⟩⟩
    | succ i =>
      have := e4 i (by simpa using hi)
      rw [hs, hH, hH]
      exact this
  | _, _, _, _, _, _, .skip (o := o) (l := l) (env := env) (H := H) (n0 := n0) (rs := rs) h1 h2 h3 h6 => by
    obtain ⟨e1, e2, e3, e4⟩ := h6.one
    have hs : ∀ i, envD (fun _ => true) (fun i => (oF (o :: l) i).dst) (vF (⟨undef, H, [], [], n0, n0⟩ :: rs)) env (i + 1) = envD (fun _ => true) (fun i => (oF l i).dst) (vF rs) (env.put o.dst undef) i := fun i => by
      rw [envD_shift]; rfl
    have hH : ∀ i, HF H (⟨undef, H, [], [], n0, n0⟩ :: rs) (i + 1) = HF H rs i := fun i => by cases i <;> rfl
    refine ⟨by simp [e1], by rw [List.length_cons, hs]; exact e2, by rw [List.length_cons, hH]; exact e3, fun i hi => ?_⟩
    cases i with
    | zero => exact ⟨h2, h3.symm, h3.symm, .inr ⟨h1, rfl, rfl, rfl, rfl⟩⟩
    | succ i =>
      have := e4 i (by simpa using hi)
      rw [hs, hH, hH]
      exact this

/-- What of a record the check looks at. -/
structure FP where
  R : List Nat
  W : List Nat
  n0 : Nat
  n1 : Nat
def Rec.fp (r : Rec) : FP := ⟨r.R, r.W, r.n0, r.n1⟩
def fp0 : FP := ⟨[], [], 0, 0⟩
theorem getD_fp (rs : List Rec) (i : Nat) : (rs.map Rec.fp).getD i fp0 = (rs.getD i rec0).fp := by
  rw [List.getD_eq_getElem?_getD, List.getD_eq_getElem?_getD, List.getElem?_map]
  cases rs[i]? <;> rfl

def hasN (l : List Nat) (x : Nat) : Bool := l.any (Nat.beq x)
theorem hasN_iff {l : List Nat} {x : Nat} : hasN l x = true ↔ x ∈ l := by
  unfold hasN
  rw [List.any_eq_true]
  constructor
  · rintro ⟨y, h1, h2⟩
    have : x = y := Nat.eq_of_beq_eq_true h2
    rw [this]; exact h1
  · intro h; exact ⟨x, h, Nat.beq_refl x⟩

def addN (l : List Nat) (x : Nat) : List Nat := if hasN l x then l else x :: l
/-- What has come before each operation. -/
def mkBefs : List Oper → List (List Nat) → List (List Nat)
  | [], acc => acc
  | o :: l, acc => mkBefs l (acc ++ [o.after.toList.foldl (fun s e => if Region.binds .any e then (acc.getD e.on []).foldl addN (addN s e.on) else s) []])

def confT (ops : Array Oper) (x y : Oper) : Bool :=
  (match x.dst with
   | some d => hasN (y.looksAt ops) d || (match y.dst with | some d' => Nat.beq d d' | none => false)
   | none => false) ||
  (match y.dst with
   | some d => hasN (x.looksAt ops) d
   | none => false)
def confM (r s : FP) : Bool :=
  (s.R ++ s.W).any (fun x => hasN r.W x || (Nat.ble r.n0 x && Nat.blt x r.n1)) || r.R.any (fun x => hasN s.W x)

def safeB (ops : Array Oper) (l : List Oper) (rs : List FP) (bs : List (List Nat)) : Bool :=
  (List.range l.length).all fun j =>
    ((oF l j).after.toList.all fun e => !(Region.binds .any e) || Nat.blt e.on j) &&
    ((bs.getD j []).all fun x => (oF l j).after.toList.any fun e => Region.binds .any e && (Nat.beq e.on x || hasN (bs.getD e.on []) x)) &&
    (((rs.getD j fp0).R ++ (rs.getD j fp0).W).all fun x => Nat.blt x (rs.getD j fp0).n0) &&
    ((List.range j).all fun i => !(confT ops (oF l i) (oF l j) || confM (rs.getD i fp0) (rs.getD j fp0)) || hasN (bs.getD j []) i)

theorem safe_of {P : Program} {ops : Array Oper} {nt : Nat} {env env' : Env} {H H' : List Blk} {rs : List Rec} {bs : List (List Nat)} (hr : Run P ops nt ops.toList env H rs env' H') (h : safeB ops ops.toList (rs.map Rec.fp) bs = true) :
    Trace P ops nt ops.size (oF ops.toList) (vF rs) (RF rs) (WF rs) (HF H rs) env ∧ Safe ops.size ops (oF ops.toList) (RF rs) (WF rs) (HF H rs) (fun j i => i ∈ bs.getD j []) := by
  obtain ⟨e1, e2, e3, e4⟩ := hr.one
  have hl : ops.toList.length = ops.size := by simp
  have hall := List.all_eq_true.1 h
  simp only [getD_fp] at hall
  have get : ∀ j, j < ops.size → _ := fun j hj => hall j (List.mem_range.2 (by rw [hl]; exact hj))
  simp only [Bool.and_eq_true] at get
  refine ⟨⟨rfl, fun i hi => ?_, fun i hi => (e4 i (by rw [hl]; exact hi)).1, fun i hi => (e4 i (by rw [hl]; exact hi)).2.2.2⟩, ⟨fun i hi e he hb => ?_, fun i j hi hb => ?_, fun i hi j hj => ?_, fun i j d hij hj hc => ?_, fun i j x hij hj hc => ?_⟩⟩
  · unfold oF
    rw [List.getD_eq_getElem?_getD, Array.getElem?_toList]
    cases hq : ops[i]? with
    | none => rw [Array.getElem?_eq_none_iff] at hq; omega
    | some o => rfl
  · have := List.all_eq_true.1 (get i hi).1.1.1 e (by simpa using he)
    rw [hb] at this
    have h2 : Nat.blt e.on i = true := by simpa using this
    rw [Nat.blt_eq] at h2
    exact h2
  · have := List.all_eq_true.1 (get i hi).1.1.2 j hb
    obtain ⟨e, h1, h2⟩ := List.any_eq_true.1 this
    simp only [Bool.and_eq_true, Bool.or_eq_true] at h2
    refine ⟨e, by simpa using h1, h2.1, ?_⟩
    rcases h2.2 with h3 | h3
    · exact .inl (Nat.eq_of_beq_eq_true h3)
    · exact .inr (hasN_iff.1 h3)
  · have := List.all_eq_true.1 (get i hi).1.2 j hj
    rw [Nat.blt_eq] at this
    have h0 := (e4 i (by rw [hl]; exact hi)).2.1
    rw [← h0]; exact this
  · have := List.all_eq_true.1 (get j hj).2 i (List.mem_range.2 hij)
    rw [Bool.or_eq_true] at this
    rcases this with h1 | h1
    · exfalso
      have hct : confT ops (oF ops.toList i) (oF ops.toList j) = true := by
        unfold confT
        rcases hc with ⟨c1, c2⟩ | ⟨c1, c2⟩ | ⟨c1, c2⟩
        · rw [c1]; simp [hasN_iff.2 c2]
        · rw [c1]; simp [hasN_iff.2 c2]
        · rw [c1, c2]; simp
      rw [hct] at h1; simp at h1
    · exact hasN_iff.1 h1
  · have := List.all_eq_true.1 (get j hj).2 i (List.mem_range.2 hij)
    rw [Bool.or_eq_true] at this
    rcases this with h1 | h1
    · exfalso
      have hcm : confM (rs.getD i rec0).fp (rs.getD j rec0).fp = true := by
        unfold confM
        rw [Bool.or_eq_true]
        rcases hc with ⟨c1, c2⟩ | ⟨c1, c2⟩ | ⟨c1, c2⟩
        · exact .inl (List.any_eq_true.2 ⟨x, c2, by rw [Bool.or_eq_true]; exact .inl (hasN_iff.2 c1)⟩)
        · exact .inr (List.any_eq_true.2 ⟨x, c2, hasN_iff.2 c1⟩)
        · refine .inl (List.any_eq_true.2 ⟨x, c2, ?_⟩)
          have f1 := (e4 i (by rw [hl]; omega)).2.1
          have f2 := (e4 i (by rw [hl]; omega)).2.2.1
          rw [Bool.or_eq_true, Bool.and_eq_true]
          refine .inr ⟨?_, ?_⟩
          · show Nat.ble (rs.getD i rec0).n0 x = true
            rw [f1]; exact Nat.ble_eq.mpr c1.1
          · show Nat.blt x (rs.getD i rec0).n1 = true
            rw [Nat.blt_eq, f2]; exact c1.2
      rw [hcm] at h1; simp at h1
    · exact hasN_iff.1 h1

/-! ### code -/

/-- Code run from what is known leads to what is known, by some exit. -/
structure AW (P : Program) (nt k : Nat) (c : Code) (Q : Exit → Env → List Blk → Prop) (env : Env) (H : List Blk) : Prop where
  run : ∀ (ρ0 : Rho) (h0 : Hp) (w0 : World), (∀ j, k ≤ j → ρ0 j = none) → ∀ (ρ : Rho) (a : Act) (w : World), Rel nt ρ env H a w → Step ρ0 h0 w0 ρ (hp H) w →
    c.wp P (fun e a' w' => ∃ ρ' env' H', Q e env' H' ∧ Rel nt ρ' env' H' a' w' ∧ Step ρ0 h0 w0 ρ' (hp H') w') a w

def thenQ (N : Env → List Blk → Prop) (Q : Exit → Env → List Blk → Prop) : Exit → Env → List Blk → Prop
  | .normal, env, H => N env H
  | e, env, H => Q e env H
def inQ (id : Nat) (Q : Exit → Env → List Blk → Prop) : Exit → Env → List Blk → Prop
  | .exit id', env, H => match Nat.beq id' id with
    | true => Q .normal env H
    | false => Q (.exit id') env H
  | e, env, H => Q e env H

section
variable {P : Program} {nt k : Nat} {Q : Exit → Env → List Blk → Prop} {env : Env} {H : List Blk}

theorem AW.mono {c : Code} {Q' : Exit → Env → List Blk → Prop} (h : AW P nt k c Q env H) (hq : ∀ e env H, Q e env H → Q' e env H) : AW P nt k c Q' env H :=
  .mk fun ρ0 h0 w0 hk ρ a w hr st => wp_mono (h.run ρ0 h0 w0 hk ρ a w hr st) fun e a' w' ⟨ρ', env', H', h1, h2⟩ => ⟨ρ', env', H', hq _ _ _ h1, h2⟩

theorem AW.skip (h : Q .normal env H) : AW P nt k .skip Q env H := .mk fun ρ0 h0 w0 hk ρ a w hr st => wp_skip ⟨ρ, env, H, h, hr, st⟩
theorem AW.ret (h : Q .ret env H) : AW P nt k .ret Q env H := .mk fun ρ0 h0 w0 hk ρ a w hr st => wp_ret ⟨ρ, env, H, h, hr, st⟩
theorem AW.exit {id : Nat} (h : Q (.exit id) env H) : AW P nt k (.exit id) Q env H := .mk fun ρ0 h0 w0 hk ρ a w hr st => wp_exit ⟨ρ, env, H, h, hr, st⟩

theorem AW.seq {x y : Code} (h : AW P nt k x (thenQ (fun env H => AW P nt k y Q env H) Q) env H) : AW P nt k (.seq x y) Q env H := .mk fun ρ0 h0 w0 hk ρ a w hr st =>
  wp_seq (wp_mono (h.run ρ0 h0 w0 hk ρ a w hr st) fun e a' w' ⟨ρ', env', H', h1, h2, h3⟩ => by
    cases e with
    | normal => exact AW.run h1 ρ0 h0 w0 hk ρ' a' w' h2 h3
    | exit => exact ⟨ρ', env', H', h1, h2, h3⟩
    | goto => exact ⟨ρ', env', H', h1, h2, h3⟩
    | ret => exact ⟨ρ', env', H', h1, h2, h3⟩
    | panic => exact ⟨ρ', env', H', h1, h2, h3⟩
    | outgrown => exact ⟨ρ', env', H', h1, h2, h3⟩)

theorem AW.block {id : Nat} {c : Code} (h : AW P nt k c (inQ id Q) env H) : AW P nt k (.block id c) Q env H := .mk fun ρ0 h0 w0 hk ρ a w hr st =>
  wp_block (wp_mono (h.run ρ0 h0 w0 hk ρ a w hr st) fun e a' w' ⟨ρ', env', H', h1, h2, h3⟩ => by
    cases e with
    | exit id' =>
      simp only [inQ] at h1
      simp only [Exit.inBlock]
      cases hb : Nat.beq id' id with
      | true =>
        rw [hb] at h1
        rw [if_pos (Nat.eq_of_beq_eq_true hb)]; exact ⟨ρ', env', H', h1, h2, h3⟩
      | false =>
        rw [hb] at h1
        rw [if_neg (fun e => by subst e; simp at hb)]; exact ⟨ρ', env', H', h1, h2, h3⟩
    | normal => exact ⟨ρ', env', H', h1, h2, h3⟩
    | goto => exact ⟨ρ', env', H', h1, h2, h3⟩
    | ret => exact ⟨ρ', env', H', h1, h2, h3⟩
    | panic => exact ⟨ρ', env', H', h1, h2, h3⟩
    | outgrown => exact ⟨ρ', env', H', h1, h2, h3⟩)

theorem AW.cond {t : Nat} {x y : Code} {b : Bool} (hb : env.look t = some (.bool b)) (h1 : b = true → AW P nt k x Q env H) (h2 : b = false → AW P nt k y Q env H) : AW P nt k (.cond (.tmp t) x y) Q env H := .mk fun ρ0 h0 w0 hk ρ a w hr st => by
  have hv : a.eval (.tmp t) = .bool b := (hr.env t _ hb).bool_inv
  exact wp_cond_split hv (fun e => (h1 e).run ρ0 h0 w0 hk ρ a w hr st) (fun e => (h2 e).run ρ0 h0 w0 hk ρ a w hr st)
theorem AW.cond_true {t : Nat} {x y : Code} (hb : env.look t = some (.bool true)) (h1 : AW P nt k x Q env H) : AW P nt k (.cond (.tmp t) x y) Q env H := AW.cond hb (fun _ => h1) (fun e => by cases e)
theorem AW.cond_false {t : Nat} {x y : Code} (hb : env.look t = some (.bool false)) (h1 : AW P nt k y Q env H) : AW P nt k (.cond (.tmp t) x y) Q env H := AW.cond hb (fun e => by cases e) (fun _ => h1)
theorem AW.cond_dec {t : Nat} {x y : Code} {p : Prop} [Decidable p] (hb : env.look t = some (.bool (decide p))) (h1 : p → AW P nt k x Q env H) (h2 : ¬ p → AW P nt k y Q env H) : AW P nt k (.cond (.tmp t) x y) Q env H :=
  AW.cond hb (fun e => h1 (of_decide_eq_true e)) (fun e => h2 (of_decide_eq_false e))
theorem AW.cond_ndec {t : Nat} {x y : Code} {p : Prop} [Decidable p] (hb : env.look t = some (.bool (!decide p))) (h1 : ¬ p → AW P nt k x Q env H) (h2 : p → AW P nt k y Q env H) : AW P nt k (.cond (.tmp t) x y) Q env H :=
  AW.cond hb (fun e => h1 (by simpa using e)) (fun e => h2 (by simpa using e))

/-- The operations from here on. -/
def AWL (P : Program) (ops : Array Oper) (nt : Nat) (l : List Oper) (env : Env) (H : List Blk) (rs : List Rec) (K : Env → List Blk → List Rec → Prop) : Prop :=
  ∃ rs' env' H', Run P ops nt l env H rs' env' H' ∧ K env' H' (rs ++ rs')

theorem AWL.nil {ops : Array Oper} {rs : List Rec} {K : Env → List Blk → List Rec → Prop} (h : K env H rs) : AWL P ops nt [] env H rs K := ⟨[], env, H, .nil, by simpa using h⟩

theorem AWL.step {ops : Array Oper} {o : Oper} {l : List Oper} {rs : List Rec} {K : Env → List Blk → List Rec → Prop} {v : Value} {H1 : List Blk} {R W : List Nat} {n0 n1 : Nat} (h5 : OpOK P o env H v H1 R W) (h1 : wantedE ops o env = some true) (h2 : dstOk o nt = true) (h3 : H.length = n0) (h4 : H1.length = n1)
    (h : AWL P ops nt l (env.put o.dst v) H1 (rs ++ [⟨v, H1, R, W, n0, n1⟩]) K) : AWL P ops nt (o :: l) env H rs K := by
  obtain ⟨rs', env', H', h6, h7⟩ := h
  exact ⟨_, env', H', .step h1 h2 h3 h4 h5 h6, by simpa using h7⟩

theorem AWL.pass {ops : Array Oper} {o : Oper} {l : List Oper} {rs : List Rec} {K : Env → List Blk → List Rec → Prop} {n0 : Nat} (h1 : wantedE ops o env = some false) (h2 : dstOk o nt = true) (h3 : H.length = n0)
    (h : AWL P ops nt l (env.put o.dst undef) H (rs ++ [⟨undef, H, [], [], n0, n0⟩]) K) : AWL P ops nt (o :: l) env H rs K := by
  obtain ⟨rs', env', H', h6, h7⟩ := h
  exact ⟨_, env', H', .skip h1 h2 h3 h6, by simpa using h7⟩

/-- A slot that holds a Bool is known by its value. -/
theorem AWL.split {ops : Array Oper} {l : List Oper} {rs : List Rec} {K : Env → List Blk → List Rec → Prop} (b : Bool) (h1 : b = true → AWL P ops nt l env H rs K) (h2 : b = false → AWL P ops nt l env H rs K) : AWL P ops nt l env H rs K := by
  cases b
  · exact h2 rfl
  · exact h1 rfl

theorem AW.region {id : Nat} {ops : Array Oper} (h : AWL P ops nt ops.toList env H [] (fun env' H' _ => Q .normal env' H')) : AW P nt k (.region id ops false) Q env H := .mk fun ρ0 h0 w0 hk ρ a w hr st => by
  obtain ⟨rs, env', H', h1, h2⟩ := h
  exact wp_region_list (h1.seq hr st fun ρ' a' w' hr' st' => ⟨ρ', env', H', h2, hr', st'⟩)

theorem AW.regionD {id : Nat} {ops : Array Oper} (hm : P.follows .mixedOrders = true) (h : AWL P ops nt ops.toList env H [] (fun env' H' rs => safeB ops ops.toList (rs.map Rec.fp) (mkBefs ops.toList []) = true ∧ Q .normal env' H')) : AW P nt k (.region id ops true) Q env H := .mk fun ρ0 h0 w0 hk ρ a w hr st => by
  obtain ⟨rs, env', H', h1, h2, h3⟩ := h
  simp only [List.nil_append] at h2
  obtain ⟨T, S⟩ := safe_of h1 h2
  obtain ⟨e1, e2, e3, e4⟩ := h1.one
  have hl : ops.toList.length = ops.size := by simp
  refine wp_region_any hm (any_order T S (ρ0 := ρ0) (h0 := h0) (w0 := w0) (fun ρ' a' w' I => ?_) ops.size _ (by simp) ?_ ρ a _ ?_)
  · rw [hl] at e2 e3
    have hrel : Rel nt ρ' env' H' a' w' := by
      have hheap : ∀ m, m ≤ ops.size → heapD (fun _ => true) (HF H rs) (WF rs) m = hp (HF H rs m) := fun m => by
        induction m with
        | zero => intro _; rfl
        | succ m ih =>
          intro hm
          funext x
          simp only [heapD, true_and]
          split
          · rfl
          · rename_i hno
            rw [ih (by omega)]
            rcases T.one m (by omega) with ⟨_, hop⟩ | ⟨_, _, hsame, _⟩
            · unfold hp
              simp only [List.getD_eq_getElem?_getD]
              by_cases h3 : x < (HF H rs m).length
              · rw [hop.off x h3 fun e => hno (.inl e)]
              · have h4 : ¬ x < (HF H rs (m + 1)).length := fun e => hno (.inr ⟨by omega, e⟩)
                rw [List.getElem?_eq_none (by omega), List.getElem?_eq_none (by omega)]
            · rw [hsame]
      refine ⟨fun t u hu => I.env t u (by rw [e2] at hu; exact hu), I.size, I.defers, ?_, fun j hj => ?_⟩
      · have := I.hr
        rw [hheap _ (Nat.le_refl _)] at this
        rw [e3]; exact this
      · refine I.fresh j ?_ fun i hi _ => ?_
        · have := T.mono (i := 0) ops.size (by omega) (Nat.le_refl _)
          rw [e3] at hj
          exact Nat.le_trans this hj
        · have := T.mono (i := i + 1) ops.size (by omega) (Nat.le_refl _)
          rw [e3] at hj
          omega
    refine ⟨ρ', env', H', h3, hrel, ?_⟩
    have hheap2 : heapD (fun _ => true) (HF H rs) (WF rs) ops.size = hp H' := by
      have hheap : ∀ m, m ≤ ops.size → heapD (fun _ => true) (HF H rs) (WF rs) m = hp (HF H rs m) := fun m => by
        induction m with
        | zero => intro _; rfl
        | succ m ih =>
          intro hm
          funext x
          simp only [heapD, true_and]
          split
          · rfl
          · rename_i hno
            rw [ih (by omega)]
            rcases T.one m (by omega) with ⟨_, hop⟩ | ⟨_, _, hsame, _⟩
            · unfold hp
              simp only [List.getD_eq_getElem?_getD]
              by_cases h3 : x < (HF H rs m).length
              · rw [hop.off x h3 fun e => hno (.inl e)]
              · have h4 : ¬ x < (HF H rs (m + 1)).length := fun e => hno (.inr ⟨by omega, e⟩)
                rw [List.getElem?_eq_none (by omega), List.getElem?_eq_none (by omega)]
            · rw [hsame]
      rw [hheap _ (Nat.le_refl _), e3]
    have := I.step
    rw [hheap2] at this
    exact this
  · exact Nat.le_trans (List.length_filter_le _ _) (by simp)
  · have hD : (fun i => (Array.replicate ops.size false).getD i false) = fun _ => false := by
      funext i
      rw [Array.getD_eq_getD_getElem?, Array.getElem?_replicate]
      split <;> rfl
    rw [hD]
    have e1 : ∀ m, envD (fun _ => false) (fun i => (oF ops.toList i).dst) (vF rs) env m = env := fun m => by
      induction m with
      | zero => rfl
      | succ m ih => unfold envD; rw [if_neg (by simp), ih]
    have e5 : ∀ m, heapD (fun _ => false) (HF H rs) (WF rs) m = hp H := fun m => by
      induction m with
      | zero => rfl
      | succ m ih => unfold heapD; funext j; rw [if_neg (by simp), ih]
    exact ⟨fun t u hu => hr.env t u (by rw [e1] at hu; exact hu), hr.size, hr.defers, by rw [e5]; exact hr.hr.drew, fun j hj _ => hr.none j hj, by rw [e5]; exact st.drew, fun i _ h => by cases h⟩

/-! ### knowing less, under other names -/

/-- What is known may be told so. -/
def Sub (nt k : Nat) (env : Env) (H : List Blk) (env2 : Env) (H2 : List Blk) : Prop :=
  ∀ (ρ0 : Rho) (h0 : Hp) (w0 : World), (∀ j, k ≤ j → ρ0 j = none) → ∀ (ρ : Rho) (a : Act) (w : World), Rel nt ρ env H a w → Step ρ0 h0 w0 ρ (hp H) w → ∃ ρ2, Rel nt ρ2 env2 H2 a w ∧ Step ρ0 h0 w0 ρ2 (hp H2) w

theorem Sub.refl : Sub nt k env H env H := fun ρ0 h0 w0 hk ρ a w hr st => ⟨ρ, hr, st⟩
theorem Sub.trans {env2 env3 : Env} {H2 H3 : List Blk} (h : Sub nt k env H env2 H2) (g : Sub nt k env2 H2 env3 H3) : Sub nt k env H env3 H3 := fun ρ0 h0 w0 hk ρ a w hr st =>
  let ⟨ρ2, hr2, st2⟩ := h ρ0 h0 w0 hk ρ a w hr st
  g ρ0 h0 w0 hk ρ2 a w hr2 st2

theorem AW.sub {c : Code} {env2 : Env} {H2 : List Blk} (hs : Sub nt k env H env2 H2) (h : AW P nt k c Q env2 H2) : AW P nt k c Q env H := .mk fun ρ0 h0 w0 hk ρ a w hr st =>
  let ⟨ρ2, hr2, st2⟩ := hs ρ0 h0 w0 hk ρ a w hr st
  h.run ρ0 h0 w0 hk ρ2 a w hr2 st2

theorem AW.loop {ι : Type} {c : Code} (S : ι → Env × List Blk) (φ : ι → Prop) (μ : ι → Nat) (i0 : ι) (hi0 : φ i0) (hs : Sub nt k env H (S i0).1 (S i0).2)
    (round : ∀ i, φ i → AW P nt k c (thenQ (fun env H => ∃ i', φ i' ∧ μ i' < μ i ∧ Sub nt k env H (S i').1 (S i').2) Q) (S i).1 (S i).2) : AW P nt k (.loop c) Q env H := .mk fun ρ0 h0 w0 hk ρ a w hr st => by
  obtain ⟨ρ1, hr1, st1⟩ := hs ρ0 h0 w0 hk ρ a w hr st
  refine wp_loop_ghost (fun n a w => ∃ i ρ, μ i = n ∧ φ i ∧ Rel nt ρ (S i).1 (S i).2 a w ∧ Step ρ0 h0 w0 ρ (hp (S i).2) w) (μ i0) ⟨i0, ρ1, rfl, hi0, hr1, st1⟩ fun n a w ⟨i, ρ, hn, hφ, hr, st⟩ => ?_
  subst hn
  refine wp_mono ((round i hφ).run ρ0 h0 w0 hk ρ a w hr st) fun e a' w' ⟨ρ', env', H', h1, h2, h3⟩ => ?_
  cases e with
  | normal =>
    obtain ⟨i', g1, g2, g3⟩ := h1
    obtain ⟨ρ2, hr2, st2⟩ := g3 ρ0 h0 w0 hk ρ' a' w' h2 h3
    exact ⟨μ i', g2, i', ρ2, rfl, g1, hr2, st2⟩
  | exit => exact ⟨ρ', env', H', h1, h2, h3⟩
  | goto => exact ⟨ρ', env', H', h1, h2, h3⟩
  | ret => exact ⟨ρ', env', H', h1, h2, h3⟩
  | panic => exact ⟨ρ', env', H', h1, h2, h3⟩
  | outgrown => exact ⟨ρ', env', H', h1, h2, h3⟩

/-- Where ways meet again. -/
theorem AW.cut {ι : Type} {x y : Code} (S : ι → Env × List Blk) (φ : ι → Prop) (h1 : AW P nt k x (thenQ (fun env H => ∃ i, φ i ∧ Sub nt k env H (S i).1 (S i).2) Q) env H) (h2 : ∀ i, φ i → AW P nt k y Q (S i).1 (S i).2) : AW P nt k (.seq x y) Q env H :=
  .seq (h1.mono fun e env H hq => by
    cases e with
    | normal => obtain ⟨i, g1, g2⟩ := hq; exact (h2 i g1).sub g2
    | _ => exact hq)

/-- The names as a list; behind it none. -/
def tau (l : List Nat) (n : Nat) (j : Nat) : Nat := match l[j]? with | some x => x | none => n + j

/-- Names below n. -/
def sc1 (n : Nat) : Value → Bool
  | .pointer (some ⟨j, _, _⟩) => Nat.blt j n
  | .slice (some ⟨j, _, _⟩) _ _ => Nat.blt j n
  | _ => true
def sc2 (n : Nat) : Value → Bool
  | .agg cs => cs.toList.all (sc1 n)
  | v => sc1 n v
def sc (n : Nat) : Value → Bool
  | .tuple vs => vs.toList.all (sc2 n)
  | v => sc2 n v
def Blk.sc (n : Nat) : Blk → Bool
  | .row cs => cs.all (sc1 n)
  | _ => true

theorem VR1.back {ρa ρb : Rho} {τ : Nat → Nat} {n : Nat} (h : ∀ i, i < n → ρa i = ρb (τ i)) {v v' : Value} (hs : sc1 n v = true) (k : VR1 ρb (ren1 τ v) v') : VR1 ρa v v' := by
  cases v with
  | pointer a =>
    cases a with
    | none => cases k; exact .nilp
    | some a =>
      obtain ⟨j, s, sp⟩ := a
      have hj : j < n := by have h0 : Nat.blt j n = true := hs
                            rw [Nat.blt_eq] at h0; exact h0
      cases k with | ptr hk => exact .ptr (by rw [h j hj]; exact hk)
  | slice a m c =>
    cases a with
    | none => cases k; exact .nils
    | some a =>
      obtain ⟨j, s, sp⟩ := a
      have hj : j < n := by have h0 : Nat.blt j n = true := hs
                            rw [Nat.blt_eq] at h0; exact h0
      cases k with
      | sl hk h1 h2 => exact .sl (by rw [h j hj]; exact hk) h1 h2
      | slnil hk => exact .slnil (by rw [h j hj]; exact hk)
      | slany hk => exact .slany (by rw [h j hj]; exact hk)
  | bool => cases k; exact .bool _
  | int => cases k; exact .int _ _
  | string => cases k; exact .str _
  | _ => cases k
theorem All2.back1 {ρa ρb : Rho} {τ : Nat → Nat} {n : Nat} (h : ∀ i, i < n → ρa i = ρb (τ i)) : ∀ {xs ys : List Value}, xs.all (sc1 n) = true → All2 (VR1 ρb) (xs.map (ren1 τ)) ys → All2 (VR1 ρa) xs ys
  | [], _, _, .nil => .nil
  | x :: xs, _, hs, .cons h0 t => by
    simp only [List.all_cons, Bool.and_eq_true] at hs
    exact .cons (VR1.back h hs.1 h0) (All2.back1 h hs.2 t)
theorem VR2.back {ρa ρb : Rho} {τ : Nat → Nat} {n : Nat} (h : ∀ i, i < n → ρa i = ρb (τ i)) {v v' : Value} (hs : sc2 n v = true) (k : VR2 ρb (ren2 τ v) v') : VR2 ρa v v' := by
  cases v with
  | agg cs =>
    cases k with
    | one k => cases k
    | agg k => exact .agg (All2.back1 h hs (by simpa using k))
  | _ =>
    refine .one (VR1.back h (τ := τ) hs ?_)
    first
      | (cases k with | one k => exact k)
      | (rename_i a; cases a <;> (cases k with | one k => exact k))
      | (rename_i a n m; cases a <;> (cases k with | one k => exact k))
theorem All2.back2 {ρa ρb : Rho} {τ : Nat → Nat} {n : Nat} (h : ∀ i, i < n → ρa i = ρb (τ i)) : ∀ {xs ys : List Value}, xs.all (sc2 n) = true → All2 (VR2 ρb) (xs.map (ren2 τ)) ys → All2 (VR2 ρa) xs ys
  | [], _, _, .nil => .nil
  | x :: xs, _, hs, .cons h0 t => by
    simp only [List.all_cons, Bool.and_eq_true] at hs
    exact .cons (VR2.back h hs.1 h0) (All2.back2 h hs.2 t)
theorem VR.back {ρa ρb : Rho} {τ : Nat → Nat} {n : Nat} (h : ∀ i, i < n → ρa i = ρb (τ i)) {v v' : Value} (hs : Proofs.Ytgkedbhpeafbbaa.sc n v = true) (k : VR ρb (Proofs.Ytgkedbhpeafbbaa.ren τ v) v') : VR ρa v v' := by
  cases v with
  | tuple vs =>
    cases k with
    | two k => cases k with | one k => cases k
    | tup k => exact .tup (All2.back2 h hs (by simpa using k))
  | _ =>
    refine .two (VR2.back h (τ := τ) hs ?_)
    first
      | (cases k with | two k => exact k)
      | (rename_i a; cases a <;> (cases k with | two k => exact k))
      | (rename_i a n m; cases a <;> (cases k with | two k => exact k))

theorem Blk.ren_live {τ : Nat → Nat} (b : Blk) : (b.ren τ).live = b.live := by cases b <;> rfl
theorem Blk.ren_own {τ : Nat → Nat} (b : Blk) : (b.ren τ).own = b.own := by cases b <;> rfl

theorem okm_back {ρa ρb : Rho} {τ : Nat → Nat} {n : Nat} (h : ∀ i, i < n → ρa i = ρb (τ i)) {w : World} {b : Blk} {k o z c : Nat} (hs : b.sc n = true) (hb : (b.ren τ).okm ρb w k o z c) : b.okm ρa w k o z c := by
  cases b with
  | dead => exact ⟨trivial, hb.at0, trivial, hb.lt, fun i v hv => by simp [Blk.cells] at hv, trivial⟩
  | row cs =>
    refine ⟨trivial, hb.at0, hb.own, hb.lt, fun i v hv => ?_, trivial⟩
    simp only [Blk.cells] at hv
    obtain ⟨v', h1, h2⟩ := hb.cell i (ren1 τ v) (by simp [Blk.ren, Blk.cells, hv])
    exact ⟨v', h1, VR1.back h (List.all_eq_true.1 hs v (List.mem_of_getElem? hv)) h2⟩
  | arr z' ow rows =>
    refine ⟨hb.zok, hb.at0, hb.own, hb.lt, fun i v hv => ?_, hb.gok⟩
    obtain ⟨v', h1, h2⟩ := hb.cell i v hv
    have hg : gnd1 v = true := by
      have hmem : v ∈ rows.flatten := List.mem_of_getElem? hv
      obtain ⟨r, hr1, hr2⟩ := List.mem_flatten.1 hmem
      exact List.all_eq_true.1 (hb.gok r hr1) v hr2
    exact ⟨v', h1, by rw [h2.eq hg]; exact .of_gnd hg⟩

theorem ok_back {ρa ρb : Rho} {τ : Nat → Nat} {n : Nat} (h : ∀ i, i < n → ρa i = ρb (τ i)) {w : World} {b : Blk} {x : Option Base} (hs : b.sc n = true) (hl : b.live = true) (hb : (b.ren τ).ok ρb w x) : b.ok ρa w x := by
  cases x with
  | none => exact hb
  | some x =>
    cases x with
    | mem => exact okm_back h hs hb
    | nil =>
      obtain ⟨z, ow, e⟩ := hb
      cases b with
      | arr z' ow' rows => exact ⟨z, ow, e⟩
      | dead => cases e
      | row cs => cases e
    | any =>
      obtain ⟨z, e⟩ := hb
      cases b with
      | arr z' ow' rows => exact ⟨z, e⟩
      | dead => cases e
      | row cs => cases e

/-- Other names for the same memory. -/
theorem HR.back {ρ : Rho} {h h2 : Hp} {w : World} (τ : Nat → Nat) (n : Nat) (hr : HR ρ h w) (hdead : ∀ j, n ≤ j → (h2 j).live = false) (hs : ∀ j, (h2 j).sc n = true) (he : ∀ j, j < n → (h2 j).live = true → h (τ j) = (h2 j).ren τ)
    (hinj : ∀ i j, i < n → j < n → (h2 i).own = true → (h2 j).live = true → i ≠ j → τ i ≠ τ j) : HR (fun j => if j < n then ρ (τ j) else none) h2 w := by
  have hlt : ∀ j, (h2 j).live = true → j < n := fun j hj => by
    rcases Nat.lt_or_ge j n with h | h
    · exact h
    · rw [hdead j h] at hj; cases hj
  refine ⟨fun j hj => ?_, fun i j k hne hi hj hki hkj => ?_⟩
  · have hjn := hlt j hj
    have h1 := he j hjn hj
    have h2' := hr.ok (τ j) (by rw [h1, Blk.ren_live]; exact hj)
    rw [h1] at h2'
    simp only [if_pos hjn]
    exact ok_back (τ := τ) (n := n) (fun i hi => by simp [hi]) (hs j) hj h2'
  · have hin := hlt i (Blk.own_live hi)
    have hjn := hlt j hj
    simp only [if_pos hin] at hki
    simp only [if_pos hjn] at hkj
    exact hr.sep (τ i) (τ j) k (hinj i j hin hjn hi hj hne) (by rw [he i hin (Blk.own_live hi), Blk.ren_own]; exact hi) (by rw [he j hjn hj, Blk.ren_live]; exact hj) hki hkj

/-- The check of a list of names. -/
def tauOk (k : Nat) (l : List Nat) : Bool := (List.range l.length).all fun i => if Nat.blt i k then Nat.beq (l.getD i 0) i else Nat.ble k (l.getD i 0)
def nodupN : List Nat → Bool
  | [] => true
  | x :: l => !(hasN l x) && nodupN l

theorem nodupN_ne : ∀ {l : List Nat}, nodupN l = true → ∀ (i j x : Nat), i ≠ j → l[i]? = some x → l[j]? ≠ some x
  | [], _, i, j, x, _, h => by simp at h
  | y :: l, hn, i, j, x, hne, hi => by
    simp only [nodupN, Bool.and_eq_true, Bool.not_eq_true'] at hn
    intro hj
    cases i with
    | zero =>
      simp at hi; subst hi
      cases j with
      | zero => exact hne rfl
      | succ j =>
        simp at hj
        have : hasN l y = true := hasN_iff.2 (List.mem_of_getElem? hj)
        rw [this] at hn; cases hn.1
    | succ i =>
      simp at hi
      cases j with
      | zero =>
        simp at hj; subst hj
        have : hasN l y = true := hasN_iff.2 (List.mem_of_getElem? hi)
        rw [this] at hn; cases hn.1
      | succ j => simp at hj; exact nodupN_ne hn.2 i j x (fun e => hne (by rw [e])) hi hj

/-- The blocks under other names. -/
def blksOk (τ : Nat → Nat) (H : List Blk) : List Nat → List Blk → Prop
  | [], [] => True
  | x :: l, b :: bs => (b = .dead ∨ H[x]? = some (b.ren τ)) ∧ blksOk τ H l bs
  | _, _ => False

theorem blksOk_get {τ : Nat → Nat} {H : List Blk} : ∀ {l : List Nat} {bs : List Blk}, blksOk τ H l bs → l.length = bs.length ∧ ∀ (i : Nat) (b : Blk), bs[i]? = some b → ∃ x : Nat, l[i]? = some x ∧ (b = .dead ∨ H[x]? = some (b.ren τ))
  | [], [], _ => ⟨rfl, fun i b h => by simp at h⟩
  | x :: l, b :: bs, h => by
    obtain ⟨h1, h2⟩ := blksOk_get h.2
    refine ⟨by simp [h1], fun i c hi => ?_⟩
    cases i with
    | zero => simp at hi; subst hi; exact ⟨x, rfl, h.1⟩
    | succ i => exact h2 i c (by simpa using hi)
  | [], _ :: _, h => h.elim
  | _ :: _, [], h => h.elim

def envSub (τ : Nat → Nat) (env : Env) : Env → Prop
  | [] => True
  | (t, v) :: r => env.look t = some (ren τ v) ∧ envSub τ env r

theorem envSub_look {τ : Nat → Nat} {env : Env} : ∀ {e2 : Env}, envSub τ env e2 → ∀ t v, e2.look t = some v → env.look t = some (ren τ v)
  | [], _, t, v, h => by simp [Env.look] at h
  | (s, u) :: r, hs, t, v, h => by
    simp only [Env.look] at h
    split at h
    · rename_i hb
      have : s = t := Nat.eq_of_beq_eq_true hb
      subst this
      simp at h; subst h; exact hs.1
    · exact envSub_look hs.2 t v h

/-- What stays of a step, under other names. -/
theorem Step.back {ρ0 ρ : Rho} {h0 h h2 : Hp} {w0 w : World} {k n : Nat} {τ : Nat → Nat} (hk : ∀ j, k ≤ j → ρ0 j = none) (hkn : k ≤ n) (st : Step ρ0 h0 w0 ρ h w) (hfix : ∀ j, j < k → τ j = j) (hge : ∀ j, k ≤ j → j < n → k ≤ τ j)
    (hdead : ∀ j, n ≤ j → (h2 j).live = false) (he : ∀ j, j < n → (h2 j).live = true → h (τ j) = (h2 j).ren τ) : Step ρ0 h0 w0 (fun j => if j < n then ρ (τ j) else none) h2 w where
  os := st.os
  tape := st.tape
  output := st.output
  size := st.size
  keep := st.keep
  ext j b hb := by
    have hj : j < k := by
      rcases Nat.lt_or_ge j k with h | h
      · exact h
      · rw [hk j h] at hb; cases hb
    simp only [if_pos (show j < n by omega), hfix j hj]
    exact st.ext j b hb
  live j hj := by
    have hjn : j < n := by
      rcases Nat.lt_or_ge j n with h | h
      · exact h
      · rw [hdead j h] at hj; cases hj
    have h1 := he j hjn hj
    simp only [if_pos hjn]
    rcases Nat.lt_or_ge j k with h | h
    · rw [hfix j h] at h1 ⊢
      rcases st.live j (by rw [h1, Blk.ren_live]; exact hj) with ⟨g1, g2, g3⟩ | ⟨g1, g2⟩
      · exact .inl ⟨g1, g2, fun ho => g3 (by rw [h1, Blk.ren_own]; exact ho)⟩
      · exact .inr ⟨g1, g2⟩
    · refine .inr ⟨hk j h, ?_⟩
      rcases st.live (τ j) (by rw [h1, Blk.ren_live]; exact hj) with ⟨g1, g2, g3⟩ | ⟨g1, g2⟩
      · intro k' hk'
        rw [g2, hk (τ j) (hge j h hjn)] at hk'
        simp at hk'
      · exact g2

theorem Sub.mk {env2 : Env} {H2 : List Blk} (l : List Nat) (he : envSub (tau l H.length) env env2) (hb : blksOk (tau l H.length) H l H2) (hsc : env2.all (fun p => sc H2.length p.2) = true) (hbs : H2.all (Blk.sc H2.length) = true)
    (ht : tauOk k l = true) (hn : nodupN l = true) (hk : k ≤ H2.length) : Sub nt k env H env2 H2 := fun ρ0 h0 w0 hk0 ρ a w hr st => by
  obtain ⟨hl, hget⟩ := blksOk_get hb
  have hlv : ∀ j, (hp H2 j).live = true → ∃ b, H2[j]? = some b ∧ hp H2 j = b := fun j hj => by
    unfold hp at hj ⊢
    rw [List.getD_eq_getElem?_getD] at hj ⊢
    cases hq : H2[j]? with
    | none => rw [hq] at hj; simp [Blk.live] at hj
    | some b => exact ⟨b, rfl, rfl⟩
  have hdead : ∀ j, H2.length ≤ j → (hp H2 j).live = false := fun j hj => by
    unfold hp; rw [List.getD_eq_getElem?_getD, List.getElem?_eq_none hj]; rfl
  have hs : ∀ j, (hp H2 j).sc H2.length = true := fun j => by
    unfold hp; rw [List.getD_eq_getElem?_getD]
    cases hq : H2[j]? with
    | none => rfl
    | some b => exact List.all_eq_true.1 hbs b (List.mem_of_getElem? hq)
  have hee : ∀ j, j < H2.length → (hp H2 j).live = true → hp H (tau l H.length j) = (hp H2 j).ren (tau l H.length) := fun j hj hlive => by
    obtain ⟨b, h1, h2⟩ := hlv j hlive
    obtain ⟨x, h3, h4⟩ := hget j b h1
    rw [h2] at hlive ⊢
    have e : tau l H.length j = x := by unfold tau; rw [h3]
    rcases h4 with h4 | h4
    · subst h4; simp [Blk.live] at hlive
    · rw [e]; unfold hp; rw [List.getD_eq_getElem?_getD, h4]; rfl
  have htau : ∀ j, j < l.length → tau l H.length j = l.getD j 0 := fun j hj => by
    unfold tau; rw [List.getElem?_eq_getElem hj, List.getD_eq_getElem?_getD, List.getElem?_eq_getElem hj]; rfl
  have hall := List.all_eq_true.1 ht
  have hfix : ∀ j, j < k → tau l H.length j = j := fun j hj => by
    have h1 := hall j (List.mem_range.2 (by omega))
    rw [if_pos (by rw [Nat.blt_eq]; exact hj)] at h1
    rw [htau j (by omega)]
    exact Nat.eq_of_beq_eq_true h1
  have hge : ∀ j, k ≤ j → j < H2.length → k ≤ tau l H.length j := fun j hj hj2 => by
    have h1 := hall j (List.mem_range.2 (by omega))
    rw [if_neg (by rw [Nat.blt_eq]; omega)] at h1
    rw [htau j (by omega)]
    exact Nat.le_of_ble_eq_true h1
  have hinj : ∀ i j, i < H2.length → j < H2.length → (hp H2 i).own = true → (hp H2 j).live = true → i ≠ j → tau l H.length i ≠ tau l H.length j := fun i j hi hj _ _ hne he => by
    rw [htau i (by omega), htau j (by omega)] at he
    have h1 : l[i]? = some (l.getD i 0) := by rw [List.getD_eq_getElem?_getD, List.getElem?_eq_getElem (by omega)]; rfl
    have h2 : l[j]? = some (l.getD i 0) := by rw [he, List.getD_eq_getElem?_getD, List.getElem?_eq_getElem (by omega)]; rfl
    exact nodupN_ne hn i j _ hne h1 h2
  refine ⟨fun j => if j < H2.length then ρ (tau l H.length j) else none, ⟨fun t v hv => ?_, hr.size, hr.defers, HR.back _ _ hr.hr hdead hs hee hinj, fun j hj => by simp [Nat.not_lt.2 hj]⟩, st.back hk0 hk hfix hge hdead hee⟩
  have h1 := hr.env t _ (envSub_look he t v hv)
  refine VR.back (n := H2.length) (fun i hi => by simp [hi]) ?_ h1
  have : (t, v) ∈ env2 := by
    have key : ∀ (e : Env), e.look t = some v → (t, v) ∈ e := fun e => by
      induction e with
      | nil => intro h; simp [Env.look] at h
      | cons p r ih =>
        obtain ⟨s, u⟩ := p
        intro h
        simp only [Env.look] at h
        split at h
        · rename_i hb
          have hst : s = t := Nat.eq_of_beq_eq_true hb
          simp at h; subst h; subst hst; simp
        · exact List.mem_cons_of_mem _ (ih h)
    exact key env2 hv
  exact List.all_eq_true.1 hsc (t, v) this
end

end Go.Proofs.Ytgkedbhpeafbbaa

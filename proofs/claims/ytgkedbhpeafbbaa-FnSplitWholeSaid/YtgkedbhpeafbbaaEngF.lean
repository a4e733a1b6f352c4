/-
  Regions: operations one after the other, and in whatever order their edges allow.
  Conditions: each law states its own.
-/
import Derived.Test.YtgkedbhpeafbbaaEngE
set_option linter.unusedSimpArgs false
set_option linter.unusedVariables false
namespace Go.Proofs.Ytgkedbhpeafbbaa
open Go.RowKit

/-- What the world and the frame are to what is known. -/
structure Rel (nt : Nat) (ρ : Rho) (env : Env) (H : List Blk) (a : Act) (w : World) : Prop where
  env : ∀ t v, env.look t = some v → VR ρ v (a.tmps.getD t undef)
  size : a.tmps.size = nt
  defers : a.defers = []
  hr : HR ρ (hp H) w
  none : ∀ j, H.length ≤ j → ρ j = none

/-- Is the operation carried out? -/
def wantedE (ops : Array Oper) (o : Oper) (env : Env) : Option Bool :=
  match o.guard with
  | none => some true
  | some (j, want) => match ops[j]? with
    | some g => match g.dst with
      | some t => match env.look t with
        | some (.bool b) => some (b == want)
        | some (.tuple _) => some false
        | _ => none
      | none => none
    | none => none

theorem wanted_of {ops : Array Oper} {o : Oper} {E : Env} {b : Bool} {ρ : Rho} {a : Act} (h : wantedE ops o E = some b) (hv : ∀ t ∈ o.looksAt ops, ∀ v, E.look t = some v → VR ρ v (a.tmps.getD t undef)) :
    Region.wanted o (yielded ops a.tmps) = b := by
  unfold wantedE at h
  unfold Region.wanted
  cases hg : o.guard with
  | none => simp [hg] at h; simp [h]
  | some gw =>
    obtain ⟨j, want⟩ := gw
    simp only [hg] at h
    cases ho : ops[j]? with
    | none => simp [ho] at h
    | some g =>
      simp only [ho] at h
      cases hd : g.dst with
      | none => simp [hd] at h
      | some t =>
        simp only [hd] at h
        have hmem : t ∈ o.looksAt ops := by simp [Oper.looksAt, hg, ho, hd]
        unfold yielded
        simp only [ho, Option.bind_some, hd]
        cases hl : E.look t with
        | none => simp [hl] at h
        | some u =>
          have hvr := hv t hmem u hl
          simp only [hl] at h
          have hget : ∀ x : Value, a.tmps.getD t undef = x → (∀ vs, x ≠ .tuple vs) → a.tmps[t]? = some x := fun x hx hne => by
            cases hq : a.tmps[t]? with
            | none => rw [Array.getD_eq_getD_getElem?, hq] at hx; exact absurd hx.symm (hne _)
            | some y => rw [Array.getD_eq_getD_getElem?, hq] at hx; exact congrArg some hx
          cases u with
          | bool c =>
            simp only [Option.some.injEq] at h
            rw [hget _ hvr.bool_inv (by intro vs; simp)]
            simp [← h]
          | tuple vs =>
            simp only [Option.some.injEq] at h
            obtain ⟨vs', h1, _⟩ := hvr.tup_inv
            rw [← h]
            cases hq : a.tmps[t]? with
            | none => rfl
            | some y =>
              rw [Array.getD_eq_getD_getElem?, hq] at h1
              simp at h1; subst h1; rfl
          | _ => simp at h

theorem ev_of {ops : Array Oper} {o : Oper} {E : Env} {ρ : Rho} {a : Act} (hv : ∀ t ∈ o.looksAt ops, ∀ v, E.look t = some v → VR ρ v (a.tmps.getD t undef)) : EvOk ρ E a o.op.operands := by
  intro x hx u hu
  cases x with
  | tmp t =>
    exact hv t (by
      unfold Oper.looksAt
      exact List.mem_append_left _ (List.mem_filterMap.2 ⟨.tmp t, by simpa using hx, rfl⟩)) u hu
  | const c =>
    obtain ⟨rfl, hc⟩ := Env.get_const hu
    exact constOk_vr hc
  | global g => simp [Env.get] at hu
  | func f => simp [Env.get] at hu

def dstOk (o : Oper) (nt : Nat) : Bool := match o.dst with | some d => Nat.blt d nt | none => true

structure Rec where
  v : Value
  H1 : List Blk
  R : List Nat
  W : List Nat
  n0 : Nat
  n1 : Nat

/-- The operations in the text's order. -/
inductive Run (P : Program) (ops : Array Oper) (nt : Nat) : List Oper → Env → List Blk → List Rec → Env → List Blk → Prop
  | nil {env : Env} {H : List Blk} : Run P ops nt [] env H [] env H
  | step {o : Oper} {l : List Oper} {env env' : Env} {H H1 H' : List Blk} {v : Value} {R W : List Nat} {n0 n1 : Nat} {rs : List Rec} : wantedE ops o env = some true → dstOk o nt = true → H.length = n0 → H1.length = n1 → OpOK P o env H v H1 R W →
      Run P ops nt l (env.put o.dst v) H1 rs env' H' → Run P ops nt (o :: l) env H (⟨v, H1, R, W, n0, n1⟩ :: rs) env' H'
  | skip {o : Oper} {l : List Oper} {env env' : Env} {H H' : List Blk} {n0 : Nat} {rs : List Rec} : wantedE ops o env = some false → dstOk o nt = true → H.length = n0 →
      Run P ops nt l (env.put o.dst undef) H rs env' H' → Run P ops nt (o :: l) env H (⟨undef, H, [], [], n0, n0⟩ :: rs) env' H'

theorem HR.mask {ρ : Rho} {H : List Blk} {w : World} (h : HR ρ (hp H) w) (n : Nat) (L : List Nat) : HR ρ (Proofs.Ytgkedbhpeafbbaa.mask n L H) w := by
  have key : ∀ j, (Proofs.Ytgkedbhpeafbbaa.mask n L H j).live = true → Proofs.Ytgkedbhpeafbbaa.mask n L H j = hp H j := fun j hj => by
    unfold Proofs.Ytgkedbhpeafbbaa.mask at hj ⊢
    unfold hp
    split
    · split
      · rfl
      · rename_i h1 h2; simp [h1, h2, Blk.live] at hj
    · rfl
  exact ⟨fun j hj => by have e := key j hj; rw [e] at hj ⊢; exact h.ok j hj, fun i j k hne hi hj => by
    have e1 := key i (Blk.own_live hi); have e2 := key j hj
    rw [e1] at hi; rw [e2] at hj; exact h.sep i j k hne hi hj⟩

theorem look_put {env : Env} {d : Option Tmp} {v : Value} {t : Nat} : (env.put d v).look t = match d with | some s => if s = t then some v else env.look t | none => env.look t := by
  cases d with
  | none => rfl
  | some s =>
    simp only [Env.put, Env.look]
    by_cases h : s = t
    · subst h; simp
    · have : Nat.beq s t = false := by
        cases hb : Nat.beq s t with
        | false => rfl
        | true => exact absurd (Nat.eq_of_beq_eq_true hb) h
      simp [this, h]

def putG (d : Option Tmp) (cv : Value) (t : Nat) (old : Value) : Value := match d with | some s => if s = t then cv else old | none => old

theorem getD_put {a : Act} {cv : Value} {t : Nat} {nt : Nat} {o : Oper} (hd : dstOk o nt = true) (hs : a.tmps.size = nt) : (a.put o.dst cv).tmps.getD t undef = putG o.dst cv t (a.tmps.getD t undef) := by
  unfold dstOk at hd
  cases hq : o.dst with
  | none => rfl
  | some s =>
    rw [hq] at hd
    have hlt : s < a.tmps.size := by
      have : Nat.blt s nt = true := hd
      rw [Nat.blt_eq] at this
      rw [hs]; exact this
    simp only [Act.put, putG]
    by_cases h : s = t
    · subst h; simp [hlt]
    · simp [Array.getElem?_setIfInBounds, h]

theorem put_size (a : Act) (d : Option Tmp) (v : Value) : (a.put d v).tmps.size = a.tmps.size ∧ (a.put d v).defers = a.defers := by
  cases d <;> simp [Act.put]

section
variable {P : Program} {ops : Array Oper} {nt : Nat} {ρ0 : Rho} {h0 : Hp} {w0 : World}

/-- One operation among all blocks. -/
theorem OpOK.full {o : Oper} {env : Env} {H H1 : List Blk} {v : Value} {R W : List Nat} (h : OpOK P o env H v H1 R W) {ρ : Rho} {a : Act} {w : World} (hr : Rel nt ρ env H a w) (hd : dstOk o nt = true) (st : Step ρ0 h0 w0 ρ (hp H) w)
    {K : Act → World → Prop} {Q : Exit → Act → World → Prop} (hk : ∀ ρ' a' w', Rel nt ρ' (env.put o.dst v) H1 a' w' → Step ρ0 h0 w0 ρ' (hp H1) w' → K a' w') : o.wp P a w K Q := by
  refine h.run ρ a w (fun x _ u hu => ?_) (hr.hr.mask _ _) (fun j hj _ => hr.none j hj) K Q fun ρ' cv w' hv hr' st' hn => ?_
  · cases x with
    | tmp t => exact hr.env t u hu
    | const c => obtain ⟨rfl, hc⟩ := Env.get_const hu; exact constOk_vr hc
    | global g => simp [Env.get] at hu
    | func f => simp [Env.get] at hu
  · have lenle := h.len
    have hfr := HR.frame (G := hp H) (G' := hp H1) hr.hr hr' st' (fun j hj => by
      unfold mask at hj ⊢; unfold hp
      split
      · split
        · rfl
        · rename_i h1 h2; simp [h1, h2, Blk.live] at hj
      · rfl) (fun j hj => by
      unfold mask at hj ⊢; unfold hp
      by_cases h1 : j < H.length
      · by_cases h2 : j ∈ R ++ W
        · rw [if_pos h1, if_pos h2]
        · simp only [h1, h2, if_true, if_false, Blk.live] at hj
          rcases hj with hj | hj <;> cases hj
      · rw [if_neg h1]) (fun j hj hj' => by
      unfold mask at hj hj'; unfold hp
      by_cases h1 : j < H.length
      · by_cases h2 : j ∈ R ++ W
        · right; simp only [h1, h2, if_true] at hj'; exact hj'
        · left
          have h3 : j ∉ W := fun e => h2 (List.mem_append_right _ e)
          rw [List.getD_eq_getElem?_getD, List.getD_eq_getElem?_getD, h.off j h1 h3]
      · right; simp only [h1, if_false] at hj'; exact hj')
    refine hk ρ' _ w' ⟨fun t u hu => ?_, by rw [(put_size _ _ _).1]; exact hr.size, by rw [(put_size _ _ _).2]; exact hr.defers, hfr.1, fun j hj => ?_⟩ (st.trans hfr.2)
    · rw [look_put] at hu
      rw [getD_put hd hr.size]
      cases hdd : o.dst with
      | none => rw [hdd] at hu; exact (hr.env t u hu).mono st'.ext
      | some s =>
        rw [hdd] at hu
        simp only [putG] at hu ⊢
        split
        · rename_i e; rw [if_pos e] at hu; simp at hu; subst hu; exact hv
        · rename_i e; rw [if_neg e] at hu; exact (hr.env t u hu).mono st'.ext
    · rw [hn j (.inr hj)]; exact hr.none j (Nat.le_trans lenle hj)

/-- A region that keeps the text's order. -/
theorem Run.seq {Q : Exit → Act → World → Prop} : ∀ {l : List Oper} {env env' : Env} {H H' : List Blk} {rs : List Rec}, Run P ops nt l env H rs env' H' → ∀ {ρ : Rho} {a : Act} {w : World}, Rel nt ρ env H a w → Step ρ0 h0 w0 ρ (hp H) w →
    (∀ ρ' a' w', Rel nt ρ' env' H' a' w' → Step ρ0 h0 w0 ρ' (hp H') w' → Q .normal a' w') → wpList P ops Q l a w
  | _, _, _, _, _, _, .nil, ρ, a, w, hr, st, hq => hq ρ a w hr st
  | _, _, _, _, _, _, .step (o := o) h1 h2 h3 h4 h5 h6, ρ, a, w, hr, st, hq => by
    have hw : Region.wanted o (yielded ops a.tmps) = true := wanted_of h1 fun t _ v hv => hr.env t v hv
    unfold wpList
    rw [if_pos hw]
    exact .inl (h5.full hr h2 st fun ρ' a' w' hr' st' => h6.seq hr' st' hq)
  | _, _, _, _, _, _, .skip (o := o) h1 h2 h3 h6, ρ, a, w, hr, st, hq => by
    have hw : Region.wanted o (yielded ops a.tmps) = false := wanted_of h1 fun t _ v hv => hr.env t v hv
    unfold wpList
    rw [if_neg (by simp [hw])]
    refine h6.seq (ρ := ρ) ⟨fun t u hu => ?_, by rw [(put_size _ _ _).1]; exact hr.size, by rw [(put_size _ _ _).2]; exact hr.defers, hr.hr, hr.none⟩ st hq
    rw [look_put] at hu
    rw [getD_put h2 hr.size]
    cases hdd : o.dst with
    | none => rw [hdd] at hu; exact hr.env t u hu
    | some s =>
      rw [hdd] at hu
      simp only [putG] at hu ⊢
      split
      · rename_i e; rw [if_pos e] at hu; simp at hu; subst hu; exact .undef
      · rename_i e; rw [if_neg e] at hu; exact hr.env t u hu
end

/-! ### whatever order -/

def envD (D : Nat → Bool) (dst : Nat → Option Tmp) (v : Nat → Value) (E : Env) : Nat → Env
  | 0 => E
  | i + 1 => if D i = true then (envD D dst v E i).put (dst i) (v i) else envD D dst v E i

def heapD (D : Nat → Bool) (Hs : Nat → List Blk) (W : Nat → List Nat) : Nat → Hp
  | 0 => hp (Hs 0)
  | i + 1 => fun j => if D i = true ∧ (j ∈ W i ∨ ((Hs i).length ≤ j ∧ j < (Hs (i + 1)).length)) then hp (Hs (i + 1)) j else heapD D Hs W i j

/-- The run, step by step. -/
structure Trace (P : Program) (ops : Array Oper) (nt n : Nat) (o : Nat → Oper) (v : Nat → Value) (R W : Nat → List Nat) (Hs : Nat → List Blk) (E0 : Env) : Prop where
  size : ops.size = n
  at_ : ∀ i, i < n → ops[i]? = some (o i)
  dst : ∀ i, i < n → dstOk (o i) nt = true
  one : ∀ i, i < n → (wantedE ops (o i) (envD (fun _ => true) (fun i => (o i).dst) v E0 i) = some true ∧ OpOK P (o i) (envD (fun _ => true) (fun i => (o i).dst) v E0 i) (Hs i) (v i) (Hs (i + 1)) (R i) (W i)) ∨
    (wantedE ops (o i) (envD (fun _ => true) (fun i => (o i).dst) v E0 i) = some false ∧ v i = undef ∧ Hs (i + 1) = Hs i ∧ R i = [] ∧ W i = [])

theorem Trace.len {P : Program} {ops : Array Oper} {nt n : Nat} {o : Nat → Oper} {v : Nat → Value} {R W : Nat → List Nat} {Hs : Nat → List Blk} {E0 : Env} (T : Trace P ops nt n o v R W Hs E0) {i : Nat} (hi : i < n) : (Hs i).length ≤ (Hs (i + 1)).length := by
  rcases T.one i hi with ⟨_, h⟩ | ⟨_, _, h, _⟩
  · exact h.len
  · rw [h]; exact Nat.le_refl _

/-- What must not be exchanged is in order: 'bef j i': i has come before j whenever j comes up. -/
structure Safe (n : Nat) (ops : Array Oper) (o : Nat → Oper) (R W : Nat → List Nat) (Hs : Nat → List Blk) (bef : Nat → Nat → Prop) : Prop where
  back : ∀ i, i < n → ∀ e ∈ (o i).after, Region.binds .any e = true → e.on < i
  just : ∀ i j, i < n → bef i j → ∃ e ∈ (o i).after, Region.binds .any e = true ∧ (e.on = j ∨ bef e.on j)
  old : ∀ i, i < n → ∀ j, j ∈ R i ++ W i → j < (Hs i).length
  tmp : ∀ i j d, i < j → j < n → (((o i).dst = some d ∧ d ∈ (o j).looksAt ops) ∨ ((o j).dst = some d ∧ d ∈ (o i).looksAt ops) ∨ ((o i).dst = some d ∧ (o j).dst = some d)) → bef j i
  mem : ∀ i j x, i < j → j < n → ((x ∈ W i ∧ x ∈ R j ++ W j) ∨ (x ∈ W j ∧ x ∈ R i) ∨ (((Hs i).length ≤ x ∧ x < (Hs (i + 1)).length) ∧ x ∈ R j ++ W j)) → bef j i

section
variable {P : Program} {ops : Array Oper} {nt n : Nat} {o : Nat → Oper} {v : Nat → Value} {R W : Nat → List Nat} {Hs : Nat → List Blk} {E0 : Env} {bef : Nat → Nat → Prop} {D : Nat → Bool}

theorem closed_bef (S : Safe n ops o R W Hs bef) (hcl : ∀ i, i < n → D i = true → ∀ e ∈ (o i).after, Region.binds .any e = true → D e.on = true) : ∀ i, i < n → D i = true → ∀ j, bef i j → D j = true := by
  intro i
  induction i using Nat.strongRecOn with
  | _ i ih =>
    intro hi hD j hb
    obtain ⟨e, he, hbind, h | h⟩ := S.just i j hi hb
    · rw [← h]; exact hcl i hi hD e he hbind
    · exact ih e.on (S.back i hi e he hbind) (Nat.lt_trans (S.back i hi e he hbind) hi) (hcl i hi hD e he hbind) j h

/-- What an operation looks at is what it finds in the text's order. -/
theorem env_agree (T : Trace P ops nt n o v R W Hs E0) (S : Safe n ops o R W Hs bef) (hb : ∀ i, i < n → D i = true → ∀ j, bef i j → D j = true) {i : Nat} (hi : i < n) (hiD : D i = false) (hib : ∀ j, bef i j → D j = true) {t : Nat} (ht : t ∈ (o i).looksAt ops) :
    ∀ m, m ≤ n → (envD D (fun i => (o i).dst) v E0 m).look t = (envD (fun _ => true) (fun i => (o i).dst) v E0 (min m i)).look t
  | 0, _ => by simp [envD]
  | m + 1, hm => by
    have ih := env_agree T S hb hi hiD hib ht m (by omega)
    by_cases h1 : m < i
    · rw [show min (m + 1) i = m + 1 by omega]
      rw [show min m i = m by omega] at ih
      simp only [envD, if_true]
      by_cases h2 : D m = true
      · rw [if_pos h2, look_put, look_put, ih]
      · rw [if_neg h2, look_put, ih]
        cases hd : (o m).dst with
        | none => rfl
        | some s =>
          simp only
          split
          · rename_i e
            subst e
            exact absurd (hib m (S.tmp m i s h1 hi (.inl ⟨hd, ht⟩))) h2
          · rfl
    · rw [show min (m + 1) i = i by omega]
      rw [show min m i = i by omega] at ih
      simp only [envD]
      by_cases h2 : D m = true
      · rw [if_pos h2, look_put, ih]
        cases hd : (o m).dst with
        | none => rfl
        | some s =>
          simp only
          split
          · rename_i e
            subst e
            have hne : m ≠ i := fun e => by subst e; rw [hiD] at h2; cases h2
            have := hb m (by omega) h2 i (S.tmp i m s (by omega) (by omega) (.inr (.inl ⟨hd, ht⟩)))
            rw [hiD] at this; cases this
          · rfl
      · rw [if_neg h2, ih]

/-- So are the blocks that it sees. -/
theorem heap_agree (T : Trace P ops nt n o v R W Hs E0) (S : Safe n ops o R W Hs bef) (hb : ∀ i, i < n → D i = true → ∀ j, bef i j → D j = true) {i : Nat} (hi : i < n) (hiD : D i = false) (hib : ∀ j, bef i j → D j = true) {x : Nat} (hx : x ∈ R i ++ W i) :
    ∀ m, m ≤ n → heapD D Hs W m x = hp (Hs (min m i)) x
  | 0, _ => by simp [heapD]
  | m + 1, hm => by
    have ih := heap_agree T S hb hi hiD hib hx m (by omega)
    by_cases h1 : m < i
    · rw [show min (m + 1) i = m + 1 by omega]
      rw [show min m i = m by omega] at ih
      simp only [heapD]
      by_cases h2 : x ∈ W m ∨ ((Hs m).length ≤ x ∧ x < (Hs (m + 1)).length)
      · have hD : D m = true := by
          refine hib m (S.mem m i x h1 hi ?_)
          rcases h2 with h2 | h2
          · exact .inl ⟨h2, hx⟩
          · exact .inr (.inr ⟨h2, hx⟩)
        rw [if_pos ⟨hD, h2⟩]
      · rw [if_neg (fun h => h2 h.2), ih]
        -- the step has not turned it
        rcases T.one m (by omega) with ⟨_, hop⟩ | ⟨_, _, hsame, _⟩
        · unfold hp
          simp only [List.getD_eq_getElem?_getD]
          by_cases h3 : x < (Hs m).length
          · rw [hop.off x h3 fun e => h2 (.inl e)]
          · have h4 : ¬ x < (Hs (m + 1)).length := fun e => h2 (.inr ⟨by omega, e⟩)
            rw [List.getElem?_eq_none (by omega), List.getElem?_eq_none (by omega)]
        · rw [hsame]
    · rw [show min (m + 1) i = i by omega]
      rw [show min m i = i by omega] at ih
      simp only [heapD]
      by_cases h2 : D m = true ∧ (x ∈ W m ∨ ((Hs m).length ≤ x ∧ x < (Hs (m + 1)).length))
      · exfalso
        have hne : m ≠ i := fun e => by subst e; rw [hiD] at h2; cases h2.1
        rcases h2.2 with h3 | h3
        · have : bef m i := by
            rcases List.mem_append.1 hx with hx | hx
            · exact S.mem i m x (by omega) (by omega) (.inr (.inl ⟨h3, hx⟩))
            · exact S.mem i m x (by omega) (by omega) (.inl ⟨hx, List.mem_append_right _ h3⟩)
          have := hb m (by omega) h2.1 i this
          rw [hiD] at this; cases this
        · have h4 := S.old i hi x hx
          have mono : ∀ k, i ≤ k → k ≤ n → (Hs i).length ≤ (Hs k).length := fun k hk => by
            induction k with
            | zero => intro _; have : i = 0 := by omega
                      subst this; exact Nat.le_refl _
            | succ k ihk =>
              intro hkn
              by_cases hik : i = k + 1
              · subst hik; exact Nat.le_refl _
              · exact Nat.le_trans (ihk (by omega) (by omega)) (T.len (by omega))
          have := mono m (by omega) (by omega)
          omega
      · rw [if_neg h2, ih]

theorem Trace.mono (T : Trace P ops nt n o v R W Hs E0) {i : Nat} : ∀ k, i ≤ k → k ≤ n → (Hs i).length ≤ (Hs k).length := fun k hk => by
  induction k with
  | zero => intro _; have : i = 0 := by omega
            subst this; exact Nat.le_refl _
  | succ k ihk =>
    intro hkn
    by_cases hik : i = k + 1
    · subst hik; exact Nat.le_refl _
    · exact Nat.le_trans (ihk (by omega) (by omega)) (T.len (by omega))

/-- One more has come up: the slots. -/
theorem envD_add (T : Trace P ops nt n o v R W Hs E0) (S : Safe n ops o R W Hs bef) (hb : ∀ i, i < n → D i = true → ∀ j, bef i j → D j = true) {i : Nat} (hi : i < n) (hiD : D i = false) {D' : Nat → Bool} (hD' : ∀ j, D' j = if j = i then true else D j) (t : Nat) :
    ∀ m, m ≤ n → (envD D' (fun i => (o i).dst) v E0 m).look t = if i < m ∧ (o i).dst = some t then some (v i) else (envD D (fun i => (o i).dst) v E0 m).look t
  | 0, _ => by simp [envD]
  | m + 1, hm => by
    have ih := envD_add T S hb hi hiD hD' t m (by omega)
    simp only [envD, hD' m]
    by_cases e : m = i
    · subst e
      rw [if_pos rfl, if_pos rfl, look_put, ih, if_neg (by omega)]
      rw [if_neg (c := D m = true) (by simp [hiD])]
      cases hd : (o m).dst with
      | none => simp
      | some s =>
        by_cases e2 : s = t
        · subst e2; simp
        · simp [e2]
    · rw [if_neg e]
      by_cases h2 : D m = true
      · rw [if_pos h2, if_pos h2, look_put, look_put, ih]
        cases hd : (o m).dst with
        | none =>
          simp only
          by_cases h3 : i < m ∧ (o i).dst = some t
          · rw [if_pos h3, if_pos ⟨by omega, h3.2⟩]
          · rw [if_neg h3, if_neg (fun h => h3 ⟨by omega, h.2⟩)]
        | some s =>
          simp only
          by_cases e2 : s = t
          · subst e2
            rw [if_pos rfl]
            by_cases h3 : i < m + 1 ∧ (o i).dst = some s
            · exfalso
              have := hb m (by omega) h2 i (S.tmp i m s (by omega) (by omega) (.inr (.inr ⟨h3.2, hd⟩)))
              rw [hiD] at this; cases this
            · rw [if_neg h3, if_pos rfl]
          · rw [if_neg e2, if_neg e2]
            by_cases h3 : i < m ∧ (o i).dst = some t
            · rw [if_pos h3, if_pos ⟨by omega, h3.2⟩]
            · rw [if_neg h3, if_neg (fun h => h3 ⟨by omega, h.2⟩)]
      · rw [if_neg h2, if_neg h2, ih]
        by_cases h3 : i < m ∧ (o i).dst = some t
        · rw [if_pos h3, if_pos ⟨by omega, h3.2⟩]
        · rw [if_neg h3, if_neg (fun h => h3 ⟨by omega, h.2⟩)]

/-- One more has come up: the blocks. -/
theorem heapD_add (T : Trace P ops nt n o v R W Hs E0) (S : Safe n ops o R W Hs bef) (hb : ∀ i, i < n → D i = true → ∀ j, bef i j → D j = true) {i : Nat} (hi : i < n) (hiD : D i = false) {D' : Nat → Bool} (hD' : ∀ j, D' j = if j = i then true else D j) (x : Nat) :
    ∀ m, m ≤ n → heapD D' Hs W m x = if i < m ∧ (x ∈ W i ∨ ((Hs i).length ≤ x ∧ x < (Hs (i + 1)).length)) then hp (Hs (i + 1)) x else heapD D Hs W m x
  | 0, _ => by simp [heapD]
  | m + 1, hm => by
    have ih := heapD_add T S hb hi hiD hD' x m (by omega)
    simp only [heapD, hD' m]
    by_cases e : m = i
    · subst e
      rw [if_pos rfl, ih]
      rw [if_neg (c := m < m ∧ _) (by omega)]
      rw [if_neg (c := D m = true ∧ _) (fun h => by rw [hiD] at h; cases h.1)]
      simp
    · rw [if_neg e]
      by_cases h2 : D m = true ∧ (x ∈ W m ∨ ((Hs m).length ≤ x ∧ x < (Hs (m + 1)).length))
      · rw [if_pos h2, if_pos h2]
        by_cases h3 : i < m + 1 ∧ (x ∈ W i ∨ ((Hs i).length ≤ x ∧ x < (Hs (i + 1)).length))
        · exfalso
          have hlt : i < m := by omega
          have hbm : bef m i := by
            have h5 := T.mono (i := i + 1) m (by omega) (by omega)
            rcases h2.2 with h4 | h4
            · rcases h3.2 with h6 | h6
              · exact S.mem i m x hlt (by omega) (.inl ⟨h6, List.mem_append_right _ h4⟩)
              · exact S.mem i m x hlt (by omega) (.inr (.inr ⟨h6, List.mem_append_right _ h4⟩))
            · rcases h3.2 with h6 | h6
              · have := S.old i hi x (List.mem_append_right _ h6)
                have := T.len hi
                omega
              · omega
          have := hb m (by omega) h2.1 i hbm
          rw [hiD] at this; cases this
        · rw [if_neg h3]
      · rw [if_neg h2, if_neg h2, ih]
        by_cases h3 : i < m ∧ (x ∈ W i ∨ ((Hs i).length ≤ x ∧ x < (Hs (i + 1)).length))
        · rw [if_pos h3, if_pos ⟨by omega, h3.2⟩]
        · rw [if_neg h3, if_neg (fun h => h3 ⟨by omega, h.2⟩)]

/-- What has come up so far. -/
structure Inv (P : Program) (nt n : Nat) (o : Nat → Oper) (v : Nat → Value) (W : Nat → List Nat) (Hs : Nat → List Blk) (E0 : Env) (ρ0 : Rho) (h0 : Hp) (w0 : World) (D : Nat → Bool) (ρ : Rho) (a : Act) (w : World) : Prop where
  env : ∀ t u, (envD D (fun i => (o i).dst) v E0 n).look t = some u → VR ρ u (a.tmps.getD t undef)
  size : a.tmps.size = nt
  defers : a.defers = []
  hr : HR ρ (heapD D Hs W n) w
  fresh : ∀ j, (Hs 0).length ≤ j → (∀ i, i < n → D i = true → ¬ ((Hs i).length ≤ j ∧ j < (Hs (i + 1)).length)) → ρ j = none
  step : Step ρ0 h0 w0 ρ (heapD D Hs W n) w
  closed : ∀ i, i < n → D i = true → ∀ e ∈ (o i).after, Region.binds .any e = true → D e.on = true

theorem Inv.add (T : Trace P ops nt n o v R W Hs E0) (S : Safe n ops o R W Hs bef) {ρ0 : Rho} {h0 : Hp} {w0 : World} {ρ : Rho} {a : Act} {w : World} (I : Inv P nt n o v W Hs E0 ρ0 h0 w0 D ρ a w) {i : Nat} (hi : i < n) (hiD : D i = false)
    (hrdy : ∀ e ∈ (o i).after, Region.binds .any e = true → D e.on = true) {D' : Nat → Bool} (hD' : ∀ j, D' j = if j = i then true else D j) {K : Act → World → Prop} {Q : Exit → Act → World → Prop} (hk : ∀ ρ' a' w', Inv P nt n o v W Hs E0 ρ0 h0 w0 D' ρ' a' w' → K a' w') : wpOp P ops Q i K a w := by
  have hb := closed_bef S I.closed
  have hib : ∀ j, bef i j → D j = true := fun j hj => by
    obtain ⟨e, he, hbind, h | h⟩ := S.just i j hi hj
    · rw [← h]; exact hrdy e he hbind
    · exact hb e.on (Nat.lt_trans (S.back i hi e he hbind) hi) (hrdy e he hbind) j h
  have hlook : ∀ t ∈ (o i).looksAt ops, ∀ u, (envD (fun _ => true) (fun i => (o i).dst) v E0 i).look t = some u → VR ρ u (a.tmps.getD t undef) := fun t ht u hu => by
    have := env_agree T S hb hi hiD hib ht n (Nat.le_refl _)
    rw [show min n i = i by omega] at this
    exact I.env t u (by rw [this]; exact hu)
  have hcl' : ∀ k, k < n → D' k = true → ∀ e ∈ (o k).after, Region.binds .any e = true → D' e.on = true := fun k hk0 hDk e he hbind => by
    rw [hD'] at hDk ⊢
    by_cases e1 : e.on = i
    · rw [if_pos e1]
    · rw [if_neg e1]
      by_cases e2 : k = i
      · subst e2; exact hrdy e he hbind
      · rw [if_neg e2] at hDk; exact I.closed k hk0 hDk e he hbind
  unfold wpOp
  rw [T.at_ i hi]
  rcases T.one i hi with ⟨hw, hop⟩ | ⟨hw, hv, hH, hR, hW⟩
  · simp only [wanted_of hw hlook, if_true]
    left
    -- the blocks that it sees
    have hsee : ∀ j, j ∈ R i ++ W i → heapD D Hs W n j = hp (Hs i) j := fun j hj => by
      have := heap_agree T S hb hi hiD hib hj n (Nat.le_refl _)
      rwa [show min n i = i by omega] at this
    have hm : ∀ j, (mask (Hs i).length (R i ++ W i) (Hs i) j).live = true → heapD D Hs W n j = mask (Hs i).length (R i ++ W i) (Hs i) j := fun j hj => by
      unfold mask at hj ⊢
      by_cases h1 : j < (Hs i).length
      · by_cases h2 : j ∈ R i ++ W i
        · rw [if_pos h1, if_pos h2, hsee j h2]; rfl
        · simp [h1, h2, Blk.live] at hj
      · exfalso
        simp only [h1, if_false] at hj
        rw [List.getD_eq_getElem?_getD, List.getElem?_eq_none (by omega)] at hj
        simp [Blk.live] at hj
    have hrm : HR ρ (mask (Hs i).length (R i ++ W i) (Hs i)) w := ⟨fun j hj => by
      have h1 := hm j hj
      rw [← h1] at hj ⊢
      exact I.hr.ok j hj, fun i1 i2 k hne h1 h2 => by
      have e1 := hm i1 (Blk.own_live h1)
      have e2 := hm i2 h2
      rw [← e1] at h1; rw [← e2] at h2
      exact I.hr.sep i1 i2 k hne h1 h2⟩
    have hfresh : ∀ j, (Hs i).length ≤ j → j < (Hs (i + 1)).length → ρ j = none := fun j h1 h2 => by
      refine I.fresh j (Nat.le_trans (T.mono (i := 0) i (by omega) (by omega)) h1) fun k hk0 hDk h3 => ?_
      have hne : k ≠ i := fun e => by subst e; rw [hiD] at hDk; cases hDk
      rcases Nat.lt_or_gt_of_ne hne with hlt | hgt
      · have := T.mono (i := k + 1) i (by omega) (by omega); omega
      · have := T.mono (i := i + 1) k (by omega) (by omega); omega
    refine hop.run ρ a w (ev_of hlook) hrm hfresh K Q fun ρ' cv w' hvr hr' st' hn => ?_
    have hadd := heapD_add T S hb hi hiD hD'
    have hold : ∀ j, j ∈ R i ++ W i → j < (Hs i).length := S.old i hi
    have hfr := HR.frame (G := heapD D Hs W n) (G' := heapD D' Hs W n) I.hr hr' st' hm (fun j hj => by
      rw [hadd j n (Nat.le_refl _)]
      unfold mask at hj ⊢
      by_cases h1 : j < (Hs i).length
      · by_cases h2 : j ∈ R i ++ W i
        · rw [if_pos h1, if_pos h2]
          by_cases h3 : j ∈ W i
          · rw [if_pos ⟨hi, .inl h3⟩]; rfl
          · rw [if_neg (fun h => by rcases h.2 with h4 | h4; exact h3 h4; omega), hsee j h2]
            unfold hp
            rw [List.getD_eq_getElem?_getD, List.getD_eq_getElem?_getD, hop.off j h1 h3]
        · simp only [h1, h2, if_true, if_false, Blk.live] at hj
          rcases hj with hj | hj <;> cases hj
      · rw [if_neg h1]
        by_cases h3 : j < (Hs (i + 1)).length
        · rw [if_pos ⟨hi, .inr ⟨by omega, h3⟩⟩]; rfl
        · exfalso
          simp only [h1, if_false] at hj
          rw [List.getD_eq_getElem?_getD, List.getElem?_eq_none (by omega), List.getD_eq_getElem?_getD, List.getElem?_eq_none (by omega)] at hj
          simp [Blk.live] at hj) (fun j hj hj' => by
      rw [hadd j n (Nat.le_refl _)]
      unfold mask at hj hj'
      by_cases h1 : j < (Hs i).length
      · by_cases h2 : j ∈ R i ++ W i
        · right
          simp only [h1, h2, if_true] at hj'
          by_cases h3 : j ∈ W i
          · rw [if_pos ⟨hi, .inl h3⟩]; exact hj'
          · rw [if_neg (fun h => by rcases h.2 with h4 | h4; exact h3 h4; omega), hsee j h2]
            simp only [h1, h2, if_true] at hj; exact hj
        · left
          have h3 : j ∉ W i := fun e => h2 (List.mem_append_right _ e)
          rw [if_neg (fun h => by rcases h.2 with h4 | h4; exact h3 h4; omega)]
      · by_cases h3 : j < (Hs (i + 1)).length
        · right
          rw [if_pos ⟨hi, .inr ⟨by omega, h3⟩⟩]
          simp only [h1, if_false] at hj'; exact hj'
        · left
          rw [if_neg (fun h => by
            rcases h.2 with h4 | h4
            · have := hold j (List.mem_append_right _ h4); omega
            · omega)])
    refine hk ρ' _ w' ⟨fun t u hu => ?_, by rw [(put_size _ _ _).1]; exact I.size, by rw [(put_size _ _ _).2]; exact I.defers, hfr.1, fun j hj hall => ?_, I.step.trans hfr.2, hcl'⟩
    · rw [envD_add T S hb hi hiD hD' t n (Nat.le_refl _)] at hu
      rw [getD_put (T.dst i hi) I.size]
      cases hdd : (o i).dst with
      | none => rw [hdd] at hu; simp at hu; exact (I.env t u hu).mono st'.ext
      | some s =>
        rw [hdd] at hu
        simp only [putG] at hu ⊢
        by_cases e : s = t
        · subst e
          rw [if_pos ⟨hi, rfl⟩] at hu
          simp at hu; subst hu; rw [if_pos rfl]; exact hvr
        · rw [if_neg (fun h => e (by simpa using h.2))] at hu
          rw [if_neg e]; exact (I.env t u hu).mono st'.ext
    · have hni : ¬ ((Hs i).length ≤ j ∧ j < (Hs (i + 1)).length) := hall i hi (by rw [hD', if_pos rfl])
      rw [hn j (by omega)]
      refine I.fresh j hj fun k hk0 hDk => hall k hk0 ?_
      rw [hD']; split <;> first | rfl | exact hDk
  · simp only [wanted_of hw hlook, Bool.false_eq_true, if_false]
    refine hk ρ _ w ⟨fun t u hu => ?_, by rw [(put_size _ _ _).1]; exact I.size, by rw [(put_size _ _ _).2]; exact I.defers, ?_, fun j hj hall => ?_, ?_, hcl'⟩
    · rw [envD_add T S hb hi hiD hD' t n (Nat.le_refl _)] at hu
      rw [getD_put (T.dst i hi) I.size]
      cases hdd : (o i).dst with
      | none => rw [hdd] at hu; simp at hu; exact I.env t u hu
      | some s =>
        rw [hdd] at hu
        simp only [putG] at hu ⊢
        by_cases e : s = t
        · subst e
          rw [if_pos ⟨hi, rfl⟩] at hu
          simp at hu; subst hu; rw [if_pos rfl, hv]; exact .undef
        · rw [if_neg (fun h => e (by simpa using h.2))] at hu
          rw [if_neg e]; exact I.env t u hu
    all_goals
      have hsame : heapD D' Hs W n = heapD D Hs W n := funext fun x => by
        rw [heapD_add T S hb hi hiD hD' x n (Nat.le_refl _), if_neg]
        rintro ⟨_, h4 | h4⟩
        · rw [hW] at h4; simp at h4
        · rw [hH] at h4; omega
    · rw [hsame]; exact I.hr
    · refine I.fresh j hj fun k hk0 hDk => hall k hk0 ?_
      rw [hD']; split <;> first | rfl | exact hDk
    · rw [hsame]; exact I.step
end

theorem filter_le {α : Type} {p q : α → Bool} (hpq : ∀ y, q y = true → p y = true) : ∀ l : List α, (l.filter q).length ≤ (l.filter p).length
  | [] => Nat.le_refl _
  | b :: l => by
    have ih := filter_le hpq l
    by_cases hb : q b = true
    · rw [List.filter_cons_of_pos hb, List.filter_cons_of_pos (hpq b hb), List.length_cons, List.length_cons]; omega
    · rw [List.filter_cons_of_neg hb]
      by_cases hc : p b = true
      · rw [List.filter_cons_of_pos hc, List.length_cons]; omega
      · rw [List.filter_cons_of_neg hc]; exact ih
theorem filter_lt {α : Type} {p q : α → Bool} : ∀ {l : List α} {x : α}, x ∈ l → p x = true → q x = false → (∀ y, q y = true → p y = true) → (l.filter q).length < (l.filter p).length
  | [], x, h, _, _, _ => by cases h
  | a :: l, x, h, hp, hq, hpq => by
    rcases List.mem_cons.1 h with h | h
    · subst h
      have := filter_le hpq l
      rw [List.filter_cons_of_neg (by simp [hq]), List.filter_cons_of_pos hp, List.length_cons]; omega
    · have ih := filter_lt h hp hq hpq
      by_cases hb : q a = true
      · rw [List.filter_cons_of_pos hb, List.filter_cons_of_pos (hpq a hb), List.length_cons, List.length_cons]; omega
      · rw [List.filter_cons_of_neg hb]
        by_cases hc : p a = true
        · rw [List.filter_cons_of_pos hc, List.length_cons]; omega
        · rw [List.filter_cons_of_neg hc]; exact ih

/-- Whatever order is drawn. -/
theorem any_order {P : Program} {ops : Array Oper} {nt n : Nat} {o : Nat → Oper} {v : Nat → Value} {R W : Nat → List Nat} {Hs : Nat → List Blk} {E0 : Env} {bef : Nat → Nat → Prop} {ρ0 : Rho} {h0 : Hp} {w0 : World}
    (T : Trace P ops nt n o v R W Hs E0) (S : Safe n ops o R W Hs bef) {Q : Exit → Act → World → Prop}
    (hq : ∀ ρ a w, Inv P nt n o v W Hs E0 ρ0 h0 w0 (fun _ => true) ρ a w → Q .normal a w) :
    ∀ (fuel : Nat) (listed : Array Bool), listed.size = n → ((List.range n).filter fun i => !(listed.getD i false)).length ≤ fuel → ∀ (ρ : Rho) (a : Act) (w : World), Inv P nt n o v W Hs E0 ρ0 h0 w0 (fun i => listed.getD i false) ρ a w → wpAny P .any ops Q fuel listed a w := by
  -- all have come up
  have fin : ∀ (listed : Array Bool), (∀ i, i < n → listed.getD i false = true) → ∀ ρ a w, Inv P nt n o v W Hs E0 ρ0 h0 w0 (fun i => listed.getD i false) ρ a w → Q .normal a w := fun listed hall ρ a w I => by
    have e1 : ∀ m, m ≤ n → envD (fun i => listed.getD i false) (fun i => (o i).dst) v E0 m = envD (fun _ => true) (fun i => (o i).dst) v E0 m := fun m => by
      induction m with
      | zero => intro _; rfl
      | succ m ih => intro hm; unfold envD; rw [if_pos (hall m (by omega)), if_pos rfl, ih (by omega)]
    have e2 : ∀ m, m ≤ n → heapD (fun i => listed.getD i false) Hs W m = heapD (fun _ => true) Hs W m := fun m => by
      induction m with
      | zero => intro _; rfl
      | succ m ih =>
        intro hm
        unfold heapD
        funext j
        by_cases h : j ∈ W m ∨ ((Hs m).length ≤ j ∧ j < (Hs (m + 1)).length)
        · rw [if_pos ⟨hall m (by omega), h⟩, if_pos ⟨rfl, h⟩]
        · rw [if_neg (fun k => h k.2), if_neg (fun k => h k.2), ih (by omega)]
    refine hq ρ a w ⟨fun t u hu => I.env t u (by rw [e1 n (Nat.le_refl _)]; exact hu), I.size, I.defers, by rw [← e2 n (Nat.le_refl _)]; exact I.hr, fun j hj hall2 => I.fresh j hj fun i hi _ => hall2 i hi rfl, by rw [← e2 n (Nat.le_refl _)]; exact I.step, fun i hi _ e he hb => rfl⟩
  -- if nothing may come up, all have
  have done : ∀ (listed : Array Bool), listed.size = n → Region.ready .any ops listed = [] → ∀ i, i < n → listed.getD i false = true := fun listed hs hr i => by
    induction i using Nat.strongRecOn with
    | _ i ih =>
      intro hi
      cases hg : listed.getD i false with
      | true => rfl
      | false =>
        exfalso
        have hmem : i ∈ Region.ready .any ops listed := by
          rw [mem_ready]
          refine ⟨?_, o i, T.at_ i hi, fun e he hb => ?_⟩
          · rw [Array.getD_eq_getD_getElem?] at hg ⊢
            have : i < listed.size := by omega
            simp [this] at hg ⊢; exact hg
          · exact ih e.on (S.back i hi e he hb) (Nat.lt_trans (S.back i hi e he hb) hi)
        rw [hr] at hmem; cases hmem
  intro fuel
  induction fuel with
  | zero =>
    intro listed hs hc ρ a w I
    have hall : ∀ i, i < n → listed.getD i false = true := fun i hi => by
      cases hg : listed.getD i false with
      | true => rfl
      | false =>
        exfalso
        have : i ∈ (List.range n).filter fun i => !(listed.getD i false) := List.mem_filter.2 ⟨List.mem_range.2 hi, by simp only [hg]; rfl⟩
        have h1 := List.length_pos_of_mem this
        omega
    refine ⟨?_, fin listed hall ρ a w I⟩
    cases hr : Region.ready .any ops listed with
    | nil => rfl
    | cons x xs =>
      exfalso
      have hx : x ∈ Region.ready .any ops listed := by rw [hr]; simp
      obtain ⟨h1, ox, h2, _⟩ := mem_ready.1 hx
      have hlt : x < n := by rw [← T.size]; exact (Array.getElem?_eq_some_iff.1 h2).1
      have h3 := hall x hlt
      rw [Array.getD_eq_getD_getElem?] at h1 h3
      have : x < listed.size := by omega
      simp [this] at h1 h3
      rw [h1] at h3; cases h3
  | succ fuel ih =>
    intro listed hs hc ρ a w I
    refine ⟨fun hr => fin listed (done listed hs hr) ρ a w I, fun i hi => ?_⟩
    obtain ⟨h1, oi, h2, h3⟩ := mem_ready.1 hi
    have hlt : i < n := by rw [← T.size]; exact (Array.getElem?_eq_some_iff.1 h2).1
    have hoi : oi = o i := by rw [T.at_ i hlt] at h2; simpa using h2.symm
    subst hoi
    have hiD : listed.getD i false = false := by
      rw [Array.getD_eq_getD_getElem?] at h1 ⊢
      have : i < listed.size := by omega
      simp [this] at h1 ⊢; exact h1
    have hD' : ∀ j, (listed.setIfInBounds i true).getD j false = if j = i then true else listed.getD j false := fun j => by
      by_cases e : j = i
      · subst e
        have : j < listed.size := by omega
        simp [this]
      · rw [if_neg e, getD_set_ne false (fun e2 => e e2.symm)]
    refine I.add T S hlt hiD h3 hD' fun ρ' a' w' I' => ih _ (by simpa using hs) ?_ ρ' a' w' I'
    have := filter_lt (l := List.range n) (x := i) (p := fun i => !(listed.getD i false)) (q := fun j => !((listed.setIfInBounds i true).getD j false)) (List.mem_range.2 hlt) (by simp only [hiD]; rfl) (by simp only [hD', if_true]; rfl) (fun y hy => by
      simp only [hD'] at hy
      split at hy
      · simp at hy
      · exact hy)
    omega

end Go.Proofs.Ytgkedbhpeafbbaa

/-
  Whole functions over memory told by names: what a call of them needs, yields, turns; how a call stands among the operations; how a law stands in the world.
  Conditions: each law states its own.
-/
import Derived.Test.YtgkedbhpeafbbaaEngG
set_option linter.unusedSimpArgs false
set_option linter.unusedVariables false
namespace Go.Proofs.Ytgkedbhpeafbbaa
open Go.RowKit

def Enters (P : Program) (f : FuncId) : Prop := ∃ fn, P.funcs[f]? = some fn ∧ (fn.name == "runtime.NumGoroutine") = false ∧ fn.body.isNone = false

/-- Called with these values over these blocks, the function yields v and leaves these blocks. -/
structure Fn (P : Program) (f : FuncId) (args : List Value) (H : List Blk) (v : Value) (H' : List Blk) : Prop where
  ent : Enters P f
  len : H.length ≤ H'.length
  lv : H.all Blk.live = true
  sca : args.all (sc H.length) = true
  sch : H.all (Blk.sc H.length) = true
  run : ∀ (ρ : Rho) (w : World) (cargs : List Value), (∀ j, H.length ≤ j → ρ j = none) → All2 (VR ρ) args cargs → HR ρ (hp H) w →
    Calls P f cargs.toArray w fun e w' => ∃ cv ρ', e = .returned cv ∧ VR ρ' v cv ∧ HR ρ' (hp H') w' ∧ Step ρ (hp H) w ρ' (hp H') w' ∧ ∀ j, H'.length ≤ j → ρ' j = none

/-! ### the call as an operation -/

/-- The names of a call's blocks; the new ones come behind. -/
def tauc (σ : List Nat) (n : Nat) (j : Nat) : Nat := match σ[j]? with | some x => x | none => n + (j - σ.length)

def evA (env : Env) : List Operand → Option (List Value)
  | [] => some []
  | x :: r => match env.get x, evA env r with
    | some v, some l => some (v :: l)
    | _, _ => none

theorem evA_rel {ρ : Rho} {env : Env} {a : Act} : ∀ {xs : List Operand} {l : List Value}, (∀ x ∈ xs, ∀ u, env.get x = some u → VR ρ u (a.eval x)) → evA env xs = some l → All2 (VR ρ) l (xs.map a.eval)
  | [], l, _, h => by simp [evA] at h; subst h; exact .nil
  | x :: xs, l, he, h => by
    simp only [evA] at h
    split at h
    · rename_i v l' h1 h2
      simp at h; subst h
      exact .cons (he x (by simp) v h1) (evA_rel (fun y hy => he y (by simp [hy])) h2)
    · cases h

/-- The caller has the blocks that the call needs. -/
def gives (τ : Nat → Nat) (H : List Blk) : List Nat → List Blk → Prop
  | [], [] => True
  | s :: σ, .arr z .ro rows :: bs => (∃ ow, H[s]? = some (.arr z ow rows)) ∧ gives τ H σ bs
  | s :: σ, b :: bs => H[s]? = some (b.ren τ) ∧ gives τ H σ bs
  | _, _ => False

theorem gives_get {τ : Nat → Nat} {H : List Blk} : ∀ {σ : List Nat} {bs : List Blk}, gives τ H σ bs → σ.length = bs.length ∧ ∀ (i : Nat) (b : Blk), bs[i]? = some b → ∃ s : Nat, σ[i]? = some s ∧ (H[s]? = some (b.ren τ) ∨ ∃ z ow rows, b = .arr z .ro rows ∧ H[s]? = some (.arr z ow rows))
  | [], [], _ => ⟨rfl, fun i b h => by simp at h⟩
  | s :: σ, b :: bs, h => by
    have key : (H[s]? = some (b.ren τ) ∨ ∃ z ow rows, b = .arr z .ro rows ∧ H[s]? = some (.arr z ow rows)) ∧ gives τ H σ bs := by
      cases b with
      | dead => exact ⟨.inl h.1, h.2⟩
      | row cs => exact ⟨.inl h.1, h.2⟩
      | arr z ow rows =>
        cases ow with
        | ro => obtain ⟨⟨ow, h1⟩, h2⟩ := h; exact ⟨.inr ⟨z, ow, rows, rfl, h1⟩, h2⟩
        | rw => exact ⟨.inl h.1, h.2⟩
        | ap e => exact ⟨.inl h.1, h.2⟩
    obtain ⟨h1, h2⟩ := gives_get key.2
    refine ⟨by simp [h1], fun i c hi => ?_⟩
    cases i with
    | zero => simp at hi; subst hi; exact ⟨s, rfl, key.1⟩
    | succ i => exact h2 i c (by simpa using hi)
  | [], _ :: _, h => h.elim
  | _ :: _, [], h => h.elim

/-- The blocks that the call may turn. -/
def ownsOf : List Nat → List Blk → List Nat
  | s :: σ, b :: bs => if b.own then s :: ownsOf σ bs else ownsOf σ bs
  | _, _ => []
def putBack (τ : Nat → Nat) : List Nat → List Blk → List Blk → List Blk → List Blk
  | s :: σ, b :: bs, b' :: bs', H => putBack τ σ bs bs' (if b.own then H.set s (b'.ren τ) else H)
  | _, _, _, H => H

theorem putBack_len {τ : Nat → Nat} : ∀ (σ : List Nat) (bs bs' H : List Blk), (putBack τ σ bs bs' H).length = H.length
  | s :: σ, b :: bs, b' :: bs', H => by
    rw [putBack, putBack_len σ bs bs']
    split <;> simp
  | [], _, _, _ => rfl
  | _ :: _, [], _, _ => rfl
  | _ :: _, _ :: _, [], _ => rfl

theorem mem_ownsOf : ∀ {σ : List Nat} {bs : List Blk} {x : Nat}, x ∈ ownsOf σ bs ↔ ∃ (i : Nat) (b : Blk), σ[i]? = some x ∧ bs[i]? = some b ∧ b.own = true
  | [], bs, x => by simp [ownsOf]
  | _ :: _, [], x => by simp [ownsOf]
  | s :: σ, b :: bs, x => by
    have ih := mem_ownsOf (σ := σ) (bs := bs) (x := x)
    unfold ownsOf
    constructor
    · intro h
      split at h
      · rename_i hb
        rcases List.mem_cons.1 h with h | h
        · subst h; exact ⟨0, b, rfl, rfl, hb⟩
        · obtain ⟨i, c, h1, h2, h3⟩ := ih.1 h; exact ⟨i + 1, c, by simpa using h1, by simpa using h2, h3⟩
      · obtain ⟨i, c, h1, h2, h3⟩ := ih.1 h; exact ⟨i + 1, c, by simpa using h1, by simpa using h2, h3⟩
    · rintro ⟨i, c, h1, h2, h3⟩
      cases i with
      | zero => simp at h1 h2; subst h1; subst h2; rw [if_pos h3]; simp
      | succ i =>
        have := ih.2 ⟨i, c, by simpa using h1, by simpa using h2, h3⟩
        split
        · exact List.mem_cons_of_mem _ this
        · exact this

theorem putBack_off {τ : Nat → Nat} : ∀ (σ : List Nat) (bs bs' H : List Blk) (x : Nat), x ∉ ownsOf σ bs → (putBack τ σ bs bs' H)[x]? = H[x]?
  | s :: σ, b :: bs, b' :: bs', H, x, h => by
    unfold ownsOf at h
    rw [putBack]
    by_cases hb : b.own = true
    · rw [if_pos hb] at h ⊢
      rw [putBack_off σ bs bs' _ x (fun e => h (List.mem_cons_of_mem _ e))]
      rw [List.getElem?_set_ne (fun e => h (by rw [e]; simp))]
    · rw [if_neg hb] at h ⊢
      exact putBack_off σ bs bs' _ x h
  | [], _, _, _, _, _ => rfl
  | _ :: _, [], _, _, _, _ => rfl
  | _ :: _, _ :: _, [], _, _, _ => rfl

theorem putBack_on {τ : Nat → Nat} : ∀ (σ : List Nat) (bs bs' H : List Blk) (i x : Nat) (b b' : Blk), nodupN σ = true → σ[i]? = some x → bs[i]? = some b → b.own = true → bs'[i]? = some b' → x < H.length → (putBack τ σ bs bs' H)[x]? = some (b'.ren τ)
  | s :: σ, c :: bs, c' :: bs', H, i, x, b, b', hn, h1, h2, h3, h4, h5 => by
    rw [putBack]
    have hn' := hn
    simp only [nodupN, Bool.and_eq_true, Bool.not_eq_true'] at hn'
    cases i with
    | zero =>
      simp at h1 h2 h4
      subst h1; subst h2; subst h4
      rw [if_pos h3, putBack_off _ _ _ _ _ (fun e => by
        obtain ⟨i, c, g1, _, _⟩ := mem_ownsOf.1 e
        have : hasN σ s = true := hasN_iff.2 (List.mem_of_getElem? g1)
        rw [this] at hn'; cases hn'.1)]
      simp [h5]
    | succ i =>
      exact putBack_on σ bs bs' _ i x b b' hn'.2 (by simpa using h1) (by simpa using h2) h3 (by simpa using h4) (by split <;> simpa using h5)
  | [], _, _, _, i, x, _, _, _, h, _, _, _, _ => by simp at h
  | _ :: _, [], _, _, i, x, _, _, _, _, h, _, _, _ => by simp at h
  | _ :: _, _ :: _, [], _, i, x, _, _, _, _, _, _, h, _ => by simp at h

theorem okm_fwd {ρa ρb : Rho} {τ : Nat → Nat} (h : ∀ i b, ρa i = some b → ρb (τ i) = some b) {w : World} {b : Blk} {x : Option Base} (hb : b.ok ρa w x) : (b.ren τ).ok ρb w x := by
  cases x with
  | none => exact hb
  | some x =>
    cases x with
    | nil => obtain ⟨z, ow, e⟩ := hb; subst e; exact ⟨z, ow, rfl⟩
    | any => obtain ⟨z, e⟩ := hb; subst e; exact ⟨z, rfl⟩
    | mem k o z c =>
      cases b with
      | dead => exact ⟨trivial, hb.at0, trivial, hb.lt, fun i v hv => by simp [Blk.ren, Blk.cells] at hv, trivial⟩
      | row cs =>
        refine ⟨trivial, hb.at0, hb.own, hb.lt, fun i v hv => ?_, trivial⟩
        simp only [Blk.ren, Blk.cells, List.getElem?_map] at hv
        obtain ⟨u, hu, rfl⟩ := Option.map_eq_some_iff.1 hv
        obtain ⟨v', h1, h2⟩ := hb.cell i u hu
        exact ⟨v', h1, h2.ren h⟩
      | arr z' ow rows =>
        refine ⟨hb.zok, hb.at0, hb.own, hb.lt, fun i v hv => ?_, hb.gok⟩
        obtain ⟨v', h1, h2⟩ := hb.cell i v hv
        have hg : gnd1 v = true := by
          have hmem : v ∈ rows.flatten := List.mem_of_getElem? hv
          obtain ⟨r, hr1, hr2⟩ := List.mem_flatten.1 hmem
          exact List.all_eq_true.1 (hb.gok r hr1) v hr2
        exact ⟨v', h1, by rw [h2.eq hg]; exact .of_gnd hg⟩

theorem ok_ro {ρ : Rho} {w : World} {z : Nat} {ow : Ow} {rows : List (List Value)} {x : Option Base} (h : (Blk.arr z ow rows).ok ρ w x) : (Blk.arr z .ro rows).ok ρ w x := by
  cases x with
  | none => exact h
  | some x =>
    cases x with
    | nil => obtain ⟨z', ow', e⟩ := h; simp only [Blk.arr.injEq] at e; exact ⟨z, .ro, by rw [e.2.2]⟩
    | any => obtain ⟨z', e⟩ := h; simp only [Blk.arr.injEq] at e; exact ⟨z, by rw [e.2.2]⟩
    | mem k o z' c => exact ⟨h.zok, (fun e => by cases e), trivial, h.lt, h.cell, h.gok⟩

theorem run_callGo {P : Program} {f : FuncId} (he : Enters P f) (args : Array Value) (w : World) : (callFunc f args).run P w = .ok (.enter f args) w := by
  obtain ⟨fn, h1, h2, h3⟩ := he
  unfold callFunc
  simp only [Sem.run_bind, run_program, Result.andThen_ok, h1, h2, h3, Bool.false_eq_true, if_false]
  rfl

section
variable {P : Program} {T : Tabs} {env : Env} {H : List Blk} {v : Value} {d : Option Tmp} {ty : TypeId} {pos : String} {aft : Array Edge} {gd : Option (Nat × Bool)}

/-- A call of a function of the program's own. -/
theorem ok_call {f : FuncId} {xs : List Operand} {ats : Array TypeId} {args : List Value} {Hc Hc' : List Blk} (F : Fn P f args Hc v Hc') (σ : List Nat) (hev : evA env xs = some (args.map (ren (tauc σ H.length))))
    (hg : gives (tauc σ H.length) H σ Hc) (hn : (Hc.all fun b => !b.own) = true ∨ nodupN σ = true) (hlt : σ.all (fun s => Nat.blt s H.length) = true) :
    OpOK P ⟨d, .call { callee := .value (.func f), args := xs.toArray, argTypes := ats }, ty, pos, aft, gd⟩ env H (ren (tauc σ H.length) v) (putBack (tauc σ H.length) σ Hc Hc' H ++ (Hc'.drop Hc.length).map (Blk.ren (tauc σ H.length))) σ (ownsOf σ Hc) where
  len := by rw [List.length_append, putBack_len]; omega
  off j hj hw := by
    rw [List.getElem?_append_left (by rw [putBack_len]; exact hj)]
    exact putBack_off _ _ _ _ _ hw
  old j hj := by
    have hlt' : ∀ s ∈ σ, s < H.length := fun s hs => by have := List.all_eq_true.1 hlt s hs; rw [Nat.blt_eq] at this; exact this
    rcases List.mem_append.1 hj with hj | hj
    · exact hlt' j hj
    · obtain ⟨i, b, h1, _⟩ := mem_ownsOf.1 hj
      exact hlt' j (List.mem_of_getElem? h1)
  run ρ a w he hr hf K Q hk := by
    have hlt' : ∀ s ∈ σ, s < H.length := fun s hs => by have := List.all_eq_true.1 hlt s hs; rw [Nat.blt_eq] at this; exact this
    obtain ⟨hσl, hgv⟩ := gives_get hg
    have hall := evA_rel (ρ := ρ) (a := a) (fun x hx => he x (by simp only [Op.operands, Call.operands, List.append_toArray, List.mem_toArray]; simp [hx])) hev
    -- the call's names
    have hτ : ∀ (i s : Nat), σ[i]? = some s → tauc σ H.length i = s := fun i s hs => by unfold tauc; rw [hs]
    have hτn : ∀ i, Hc.length ≤ i → tauc σ H.length i = H.length + (i - Hc.length) := fun i hi => by unfold tauc; rw [List.getElem?_eq_none (by omega), hσl]
    have hseen : ∀ (i : Nat) (b : Blk), Hc[i]? = some b → ∃ s : Nat, σ[i]? = some s ∧ tauc σ H.length i = s ∧ s < H.length ∧ mask H.length (σ ++ ownsOf σ Hc) H s = H.getD s .dead ∧ (H[s]? = some (b.ren (tauc σ H.length)) ∨ ∃ z ow rows, b = .arr z .ro rows ∧ H[s]? = some (.arr z ow rows)) := fun i b hb => by
      obtain ⟨s, h1, h2⟩ := hgv i b hb
      have hs := hlt' s (List.mem_of_getElem? h1)
      have hmem : s ∈ σ ++ ownsOf σ Hc := List.mem_append_left _ (List.mem_of_getElem? h1)
      exact ⟨s, h1, hτ i s h1, hs, by unfold mask; rw [if_pos hs, if_pos hmem], h2⟩
    have hlive : ∀ (i : Nat) (b : Blk), Hc[i]? = some b → b.live = true := fun i b hb => List.all_eq_true.1 F.lv b (List.mem_of_getElem? hb)
    have hscb : ∀ (i : Nat) (b : Blk), Hc[i]? = some b → b.sc Hc.length = true := fun i b hb => List.all_eq_true.1 F.sch b (List.mem_of_getElem? hb)
    have hHc : ∀ (i : Nat) (b : Blk), Hc[i]? = some b → hp Hc i = b := fun i b hb => by unfold hp; rw [List.getD_eq_getElem?_getD, hb]; rfl
    have hHc0 : ∀ (i : Nat), (hp Hc i).live = true → ∃ b : Blk, Hc[i]? = some b := fun i hi => by
      unfold hp at hi
      rw [List.getD_eq_getElem?_getD] at hi
      cases hq : Hc[i]? with
      | none => rw [hq] at hi; simp [Blk.live] at hi
      | some b => exact ⟨b, rfl⟩
    -- an owned block of the call's is one of ours, equal
    have hownb : ∀ (i : Nat) (b : Blk), Hc[i]? = some b → b.own = true → ∃ s : Nat, σ[i]? = some s ∧ tauc σ H.length i = s ∧ s < H.length ∧ s ∈ ownsOf σ Hc ∧ mask H.length (σ ++ ownsOf σ Hc) H s = b.ren (tauc σ H.length) := fun i b hb ho => by
      obtain ⟨s, h1, h2, h3, h4, h5⟩ := hseen i b hb
      refine ⟨s, h1, h2, h3, mem_ownsOf.2 ⟨i, b, h1, hb, ho⟩, ?_⟩
      rw [h4, List.getD_eq_getElem?_getD]
      rcases h5 with h5 | ⟨z, ow, rows, rfl, h5⟩
      · rw [h5]; rfl
      · simp [Blk.own, Ow.own] at ho
    have hnd : ∀ (i j s : Nat), i ≠ j → (∃ b : Blk, Hc[i]? = some b ∧ b.own = true) → σ[i]? = some s → σ[j]? ≠ some s := fun i j s hne ⟨b, hb, ho⟩ h1 => by
      rcases hn with hn | hn
      · have := List.all_eq_true.1 hn b (List.mem_of_getElem? hb)
        rw [ho] at this; simp at this
      · exact nodupN_ne hn i j s hne h1
    let ρc : Rho := fun i => if i < Hc.length then ρ (tauc σ H.length i) else none
    have hρc : ∀ i, i < Hc.length → ρc i = ρ (tauc σ H.length i) := fun i hi => by simp only [ρc, if_pos hi]
    have hρc0 : ∀ i, Hc.length ≤ i → ρc i = none := fun i hi => by simp only [ρc, if_neg (Nat.not_lt.2 hi)]
    have hargs : All2 (VR ρc) args (xs.map a.eval) := by
      have key : ∀ {as : List Value} {bs : List Value}, as.all (sc Hc.length) = true → All2 (VR ρ) (as.map (ren (tauc σ H.length))) bs → All2 (VR ρc) as bs := fun {as} => by
        induction as with
        | nil => intro bs _ h; cases h; exact .nil
        | cons x as ih =>
          intro bs hs h
          simp only [List.all_cons, Bool.and_eq_true] at hs
          obtain ⟨y, ys, rfl, h1, h2⟩ := h.cons_left
          exact .cons (VR.back (n := Hc.length) hρc hs.1 h1) (ih hs.2 h2)
      exact key F.sca hall
    have hrc : HR ρc (hp Hc) w := by
      refine ⟨fun i hi => ?_, fun i j k hne hi hj hki hkj => ?_⟩
      · obtain ⟨b, hb⟩ := hHc0 i hi
        have hil : i < Hc.length := (List.getElem?_eq_some_iff.1 hb).1
        obtain ⟨s, h1, h2, h3, h4, h5⟩ := hseen i b hb
        rw [hHc i b hb, hρc i hil, h2]
        rcases h5 with h5 | ⟨z, ow, rows, rfl, h5⟩
        · have hms : mask H.length (σ ++ ownsOf σ Hc) H s = b.ren (tauc σ H.length) := by rw [h4, List.getD_eq_getElem?_getD, h5]; rfl
          have hok := hr.ok s (by rw [hms, Blk.ren_live]; exact hlive i b hb)
          rw [hms] at hok
          exact ok_back hρc (hscb i b hb) (hlive i b hb) hok
        · have hms : mask H.length (σ ++ ownsOf σ Hc) H s = .arr z ow rows := by rw [h4, List.getD_eq_getElem?_getD, h5]; rfl
          have hok := hr.ok s (by rw [hms]; rfl)
          rw [hms] at hok
          exact ok_back (τ := tauc σ H.length) (b := .arr z .ro rows) hρc rfl rfl (ok_ro hok)
      · obtain ⟨b, hb⟩ := hHc0 i (Blk.own_live hi)
        obtain ⟨c, hc⟩ := hHc0 j hj
        have hil : i < Hc.length := (List.getElem?_eq_some_iff.1 hb).1
        have hjl : j < Hc.length := (List.getElem?_eq_some_iff.1 hc).1
        rw [hHc i b hb] at hi
        rw [hρc i hil] at hki
        rw [hρc j hjl] at hkj
        obtain ⟨s, h1, h2, h3, h4, h5⟩ := hownb i b hb hi
        obtain ⟨s', g1, g2, g3, g4, g5⟩ := hseen j c hc
        rw [h2] at hki
        rw [g2] at hkj
        refine hr.sep s s' k (fun e => hnd i j s hne ⟨b, hb, hi⟩ h1 (by rw [e]; exact g1)) (by rw [h5, Blk.ren_own]; exact hi) ?_ hki hkj
        rw [g4, List.getD_eq_getElem?_getD]
        rcases g5 with g5 | ⟨z, ow, rows, rfl, g5⟩
        · rw [g5]; simp only [Option.getD_some, Blk.ren_live]; exact hlive j c hc
        · rw [g5]; rfl
    have howned : ∀ k, Owned ρc (hp Hc) k → Owned ρ (mask H.length (σ ++ ownsOf σ Hc) H) k ∧ ∃ s, s ∈ ownsOf σ Hc ∧ (mask H.length (σ ++ ownsOf σ Hc) H s).own = true ∧ (ρ s).bind Base.blk = some k := fun k ⟨i, h1, h2⟩ => by
      obtain ⟨b, hb⟩ := hHc0 i (Blk.own_live h1)
      have hil : i < Hc.length := (List.getElem?_eq_some_iff.1 hb).1
      rw [hHc i b hb] at h1
      rw [hρc i hil] at h2
      obtain ⟨s, g1, g2, g3, g4, g5⟩ := hownb i b hb h1
      rw [g2] at h2
      have ho : (mask H.length (σ ++ ownsOf σ Hc) H s).own = true := by rw [g5, Blk.ren_own]; exact h1
      exact ⟨⟨s, ho, h2⟩, s, g4, ho, h2⟩
    have hcall := F.run ρc w (xs.map a.eval) hρc0 hargs hrc
    have hrun : (execOp a.eval ⟨d, .call { callee := .value (.func f), args := xs.toArray, argTypes := ats }, ty, pos, aft, gd⟩).run P w = .ok (.enter f (xs.map a.eval).toArray) w := by
      have := execOp_call_go a d f xs.toArray ats ty pos aft gd
      rw [this]
      have e : (#[] ++ Array.map a.eval xs.toArray ++ #[] : Array Value) = (xs.map a.eval).toArray := by simp
      rw [e]
      exact run_callGo F.ent _ w
    unfold Oper.wp
    rw [hrun]
    unfold Oper.upon
    refine hcall.mono fun e w' ⟨cv, ρc', hcv, hv, hr', st', hno⟩ => ?_
    subst hcv
    -- the names behind the call
    let ρ' : Rho := fun j => if H.length ≤ j ∧ j < H.length + (Hc'.length - Hc.length) then ρc' (Hc.length + (j - H.length)) else ρ j
    have hlen1 : (putBack (tauc σ H.length) σ Hc Hc' H ++ (Hc'.drop Hc.length).map (Blk.ren (tauc σ H.length))).length = H.length + (Hc'.length - Hc.length) := by
      rw [List.length_append, putBack_len, List.length_map, List.length_drop]
    have hfr : ∀ j, H.length ≤ j → j < H.length + (Hc'.length - Hc.length) → ρ j = none := fun j h1 h2 => hf j h1 (by rw [hlen1]; exact h2)
    have hlen := F.len
    have hold' : ∀ i, i < Hc.length → ρc' i = ρ (tauc σ H.length i) := fun i hi => by
      have hb : Hc[i]? = some Hc[i] := List.getElem?_eq_getElem hi
      have hok := hrc.ok i (by rw [hHc i _ hb]; exact hlive i _ hb)
      cases hq : ρc i with
      | none => rw [hq] at hok; exact hok.elim
      | some x => rw [st'.ext i x hq, ← hρc i hi, hq]
    have hτlt : ∀ i, i < Hc.length → tauc σ H.length i < H.length := fun i hi => by
      have hs : σ[i]? = some (σ[i]'(by omega)) := List.getElem?_eq_getElem (by omega)
      rw [hτ i _ hs]; exact hlt' _ (List.getElem_mem _)
    have hρ'τ : ∀ i, i < Hc'.length → ρ' (tauc σ H.length i) = ρc' i := fun i hi => by
      rcases Nat.lt_or_ge i Hc.length with h | h
      · have := hτlt i h
        simp only [ρ']
        rw [if_neg (by omega), hold' i h]
      · rw [hτn i h]
        simp only [ρ']
        rw [if_pos (by omega)]
        congr 1; omega
    have hfwd : ∀ i b, ρc' i = some b → ρ' (tauc σ H.length i) = some b := fun i b hb => by
      rcases Nat.lt_or_ge i Hc'.length with h | h
      · rw [hρ'τ i h]; exact hb
      · rw [hno i h] at hb; cases hb
    have hρ'old : ∀ j, j < H.length → ρ' j = ρ j := fun j hj => by simp only [ρ']; rw [if_neg (by omega)]
    have hext : Rho.le ρ ρ' := fun j b hb => by
      simp only [ρ']
      split
      · rename_i h; rw [hfr j h.1 h.2] at hb; cases hb
      · exact hb
    have hwlt : ∀ x, x ∈ ownsOf σ Hc → x < H.length := fun x hx => by
      obtain ⟨i, b, h1, _⟩ := mem_ownsOf.1 hx
      exact hlt' x (List.mem_of_getElem? h1)
    -- the blocks behind the call: kept, or the call's
    have hcls : ∀ j, (mask H.length (σ ++ ownsOf σ Hc) (putBack (tauc σ H.length) σ Hc Hc' H ++ (Hc'.drop Hc.length).map (Blk.ren (tauc σ H.length))) j).live = true →
        (j < H.length ∧ j ∉ ownsOf σ Hc ∧ mask H.length (σ ++ ownsOf σ Hc) (putBack (tauc σ H.length) σ Hc Hc' H ++ (Hc'.drop Hc.length).map (Blk.ren (tauc σ H.length))) j = mask H.length (σ ++ ownsOf σ Hc) H j) ∨
        (∃ (i : Nat) (b' : Blk), i < Hc'.length ∧ tauc σ H.length i = j ∧ Hc'[i]? = some b' ∧ b'.live = true ∧ mask H.length (σ ++ ownsOf σ Hc) (putBack (tauc σ H.length) σ Hc Hc' H ++ (Hc'.drop Hc.length).map (Blk.ren (tauc σ H.length))) j = b'.ren (tauc σ H.length) ∧
          ((Hc.length ≤ i ∧ H.length ≤ j) ∨ (j < H.length ∧ ∃ b : Blk, Hc[i]? = some b ∧ b.own = true ∧ σ[i]? = some j))) := fun j hj => by
      by_cases h1 : j < H.length
      · by_cases h2 : j ∈ ownsOf σ Hc
        · right
          obtain ⟨i, b, g1, g2, g3⟩ := mem_ownsOf.1 h2
          have hil : i < Hc.length := (List.getElem?_eq_some_iff.1 g2).1
          have hb' : Hc'[i]? = some (Hc'[i]'(by omega)) := List.getElem?_eq_getElem (by omega)
          have hnds : nodupN σ = true := by
            rcases hn with hn | hn
            · have := List.all_eq_true.1 hn b (List.mem_of_getElem? g2)
              rw [g3] at this; simp at this
            · exact hn
          have hval : mask H.length (σ ++ ownsOf σ Hc) (putBack (tauc σ H.length) σ Hc Hc' H ++ (Hc'.drop Hc.length).map (Blk.ren (tauc σ H.length))) j = (Hc'[i]'(by omega)).ren (tauc σ H.length) := by
            unfold mask
            rw [if_pos h1, if_pos (List.mem_append_right _ h2), List.getD_eq_getElem?_getD, List.getElem?_append_left (by rw [putBack_len]; exact h1), putBack_on σ Hc Hc' H i j b _ hnds g1 g2 g3 hb' h1]
            rfl
          refine ⟨i, _, by omega, hτ i j g1, hb', ?_, hval, .inr ⟨h1, b, g2, g3, g1⟩⟩
          rw [hval, Blk.ren_live] at hj; exact hj
        · left
          refine ⟨h1, h2, ?_⟩
          unfold mask
          rw [if_pos h1, if_pos h1]
          split
          · rw [List.getD_eq_getElem?_getD, List.getElem?_append_left (by rw [putBack_len]; exact h1), putBack_off _ _ _ _ _ h2, List.getD_eq_getElem?_getD]
          · rfl
      · right
        have hval : ∀ b', Hc'[Hc.length + (j - H.length)]? = some b' → mask H.length (σ ++ ownsOf σ Hc) (putBack (tauc σ H.length) σ Hc Hc' H ++ (Hc'.drop Hc.length).map (Blk.ren (tauc σ H.length))) j = b'.ren (tauc σ H.length) := fun b' hb' => by
          unfold mask
          rw [if_neg h1, List.getD_eq_getElem?_getD, List.getElem?_append_right (by rw [putBack_len]; omega), putBack_len, List.getElem?_map, List.getElem?_drop, hb']
          rfl
        have hin : Hc.length + (j - H.length) < Hc'.length := by
          rcases Nat.lt_or_ge (Hc.length + (j - H.length)) Hc'.length with h | h
          · exact h
          · exfalso
            unfold mask at hj
            rw [if_neg h1, List.getD_eq_getElem?_getD, List.getElem?_eq_none (by rw [hlen1]; omega)] at hj
            simp [Blk.live] at hj
        have hb' := List.getElem?_eq_getElem hin
        refine ⟨Hc.length + (j - H.length), _, hin, by rw [hτn _ (by omega)]; omega, hb', ?_, hval _ hb', .inl ⟨by omega, by omega⟩⟩
        rw [hval _ hb', Blk.ren_live] at hj; exact hj
    have hHc' : ∀ (i : Nat) (b : Blk), Hc'[i]? = some b → hp Hc' i = b := fun i b hb => by unfold hp; rw [List.getD_eq_getElem?_getD, hb]; rfl
    -- where the memory of the call's blocks lies
    have hmem : ∀ (i : Nat) (b' : Blk) (k : Nat), Hc'[i]? = some b' → b'.live = true → (ρc' i).bind Base.blk = some k → ((Hc.length ≤ i) ∨ ∃ b : Blk, Hc[i]? = some b ∧ b.own = true) → w.heap.size ≤ k ∨ ∃ s, s ∈ ownsOf σ Hc ∧ (mask H.length (σ ++ ownsOf σ Hc) H s).own = true ∧ (ρ s).bind Base.blk = some k := fun i b' k hb' hl hk' hwho => by
      rcases st'.live i (by rw [hHc' i b' hb']; exact hl) with ⟨g1, g2, g3⟩ | ⟨g1, g2⟩
      · obtain ⟨b, hb⟩ := hHc0 i g1
        have hil : i < Hc.length := (List.getElem?_eq_some_iff.1 hb).1
        rcases hwho with h | ⟨b2, hb2, ho2⟩
        · omega
        · right
          obtain ⟨s, c1, c2, c3, c4, c5⟩ := hownb i b2 hb2 ho2
          refine ⟨s, c4, by rw [c5, Blk.ren_own]; exact ho2, ?_⟩
          rw [g2, hρc i hil, c2] at hk'; exact hk'
      · rcases g2 k hk' with h | h
        · exact .inl h
        · exact .inr (howned k h).2
    have hkeepblk : ∀ j, j ∉ ownsOf σ Hc → (mask H.length (σ ++ ownsOf σ Hc) H j).live = true → ∀ k, (ρ j).bind Base.blk = some k → k < w.heap.size ∧ (∀ s, s ∈ ownsOf σ Hc → (mask H.length (σ ++ ownsOf σ Hc) H s).own = true → (ρ s).bind Base.blk = some k → False) := fun j hjn hjl k hk' => by
      refine ⟨?_, fun s hs ho hks => hr.sep s j k (fun e => hjn (by rw [← e]; exact hs)) ho hjl hks hk'⟩
      have hok := hr.ok j hjl
      cases hq : ρ j with
      | none => rw [hq] at hok; exact hok.elim
      | some x =>
        rw [hq] at hok hk'
        cases x with
        | mem k' o z c => simp [Base.blk] at hk'; subst hk'; exact hok.lt
        | nil => simp [Base.blk] at hk'
        | any => simp [Base.blk] at hk'
    have hτne : ∀ i1 i2 j1 j2, i1 < Hc'.length → i2 < Hc'.length → tauc σ H.length i1 = j1 → tauc σ H.length i2 = j2 → j1 ≠ j2 → i1 ≠ i2 := fun i1 i2 j1 j2 _ _ e1 e2 hne e => hne (by rw [← e1, ← e2, e])
    refine hk ρ' cv w' (hv.ren hfwd) ⟨fun j hj => ?_, fun j1 j2 k hne h1 h2 hk1 hk2 => ?_⟩ ⟨st'.os, st'.tape, st'.output, st'.size, fun k hk' hno' => st'.keep k hk' fun ho => hno' (howned k ho).1, hext, fun j hj => ?_⟩ fun j hj => ?_
    · rcases hcls j hj with ⟨h1, h2, h3⟩ | ⟨i, b', h1, h2, h3, h4, h5, h6⟩
      · rw [h3] at hj ⊢
        rw [hρ'old j h1]
        refine Blk.ok_later (hr.ok j hj) hext st'.size fun k hk' => ?_
        obtain ⟨g1, g2⟩ := hkeepblk j h2 hj k hk'
        exact st'.keep k g1 fun ho => by
          obtain ⟨_, s, c1, c2, c3⟩ := howned k ho
          exact g2 s c1 c2 c3
      · rw [h5, ← h2, hρ'τ i h1]
        exact okm_fwd hfwd (by have := hr'.ok i (by rw [hHc' i b' h3]; exact h4); rw [hHc' i b' h3] at this; exact this)
    · rcases hcls j1 (Blk.own_live h1) with ⟨a1, a2, a3⟩ | ⟨i1, b1, a1, a2, a3, a4, a5, a6⟩
      · rw [hρ'old j1 a1] at hk1
        have hl1 : (mask H.length (σ ++ ownsOf σ Hc) H j1).live = true := by rw [← a3]; exact Blk.own_live h1
        obtain ⟨g1, g2⟩ := hkeepblk j1 a2 hl1 k hk1
        rcases hcls j2 h2 with ⟨c1, c2, c3⟩ | ⟨i2, b2, c1, c2, c3, c4, c5, c6⟩
        · rw [hρ'old j2 c1] at hk2
          exact hr.sep j1 j2 k hne (by rw [← a3]; exact h1) (by rw [← c3]; exact h2) hk1 hk2
        · rw [← c2, hρ'τ i2 c1] at hk2
          rcases hmem i2 b2 k c3 c4 hk2 (c6.imp (fun h => h.1) (fun ⟨_, b, e1, e2, _⟩ => ⟨b, e1, e2⟩)) with h | ⟨s, e1, e2, e3⟩
          · omega
          · exact g2 s e1 e2 e3
      · rw [← a2, hρ'τ i1 a1] at hk1
        rcases hcls j2 h2 with ⟨c1, c2, c3⟩ | ⟨i2, b2, c1, c2, c3, c4, c5, c6⟩
        · rw [hρ'old j2 c1] at hk2
          have hl2 : (mask H.length (σ ++ ownsOf σ Hc) H j2).live = true := by rw [← c3]; exact h2
          obtain ⟨g1, g2⟩ := hkeepblk j2 c2 hl2 k hk2
          rcases hmem i1 b1 k a3 a4 hk1 (a6.imp (fun h => h.1) (fun ⟨_, b, e1, e2, _⟩ => ⟨b, e1, e2⟩)) with h | ⟨s, e1, e2, e3⟩
          · omega
          · exact g2 s e1 e2 e3
        · rw [← c2, hρ'τ i2 c1] at hk2
          refine hr'.sep i1 i2 k (hτne i1 i2 j1 j2 a1 c1 a2 c2 hne) ?_ ?_ hk1 hk2
          · rw [hHc' i1 b1 a3]; rw [a5, Blk.ren_own] at h1; exact h1
          · rw [hHc' i2 b2 c3]; exact c4
    · rcases hcls j hj with ⟨h1, h2, h3⟩ | ⟨i, b', h1, h2, h3, h4, h5, h6⟩
      · rw [h3] at hj ⊢
        exact .inl ⟨hj, hρ'old j h1, id⟩
      · rcases h6 with ⟨h6, h7⟩ | ⟨h6, b, h7, h8, h9⟩
        · right
          refine ⟨hfr j h7 ?_, fun k hk' => ?_⟩
          · rw [← h2, hτn i h6]; omega
          · rw [← h2, hρ'τ i h1] at hk'
            rcases hmem i b' k h3 h4 hk' (.inl h6) with h | ⟨s, e1, e2, e3⟩
            · exact .inl h
            · exact .inr ⟨s, e2, e3⟩
        · left
          obtain ⟨s, c1, c2, c3, c4, c5⟩ := hownb i b h7 h8
          have hsj : s = j := by rw [← c2, h2]
          subst hsj
          exact ⟨by rw [c5, Blk.ren_live]; exact Blk.own_live h8, hρ'old s h6, fun _ => by rw [c5, Blk.ren_own]; exact h8⟩
    · simp only [ρ']
      rw [if_neg]
      rw [hlen1] at hj
      omega
end

/-! ### a function's contract out of its code -/

def argEnv : Nat → List Value → Env
  | _, [] => []
  | i, v :: vs => (i, v) :: argEnv (i + 1) vs

theorem argEnv_look : ∀ (vs : List Value) (i t : Nat) (u : Value), (argEnv i vs).look t = some u → i ≤ t ∧ vs[t - i]? = some u
  | [], i, t, u, h => by simp [argEnv, Env.look] at h
  | v :: vs, i, t, u, h => by
    simp only [argEnv, Env.look] at h
    split at h
    · rename_i hb
      have : i = t := Nat.eq_of_beq_eq_true hb
      subst this
      simp at h; subst h; simp
    · obtain ⟨h1, h2⟩ := argEnv_look vs (i + 1) t u h
      refine ⟨by omega, ?_⟩
      rw [show t - i = (t - (i + 1)) + 1 by omega]; simpa using h2

/-- What a variable in memory reads as. -/
def LoadsTo (T : Tabs) (H : List Blk) (ty j s : Nat) (sp : Option Nat) (u : Value) : Prop :=
  ∃ b z cs n zs, H[j]? = some b ∧ b.part sp z cs ∧ ((tlook T.ty ty = some (false, n, zs) ∧ seg cs s 1 = some [u]) ∨ ∃ r, tlook T.ty ty = some (true, n, zs) ∧ seg cs s n = some r ∧ u = .agg r.toArray)

theorem loads_run {P : Program} {T : Tabs} (hT : T.ok P) {ρ : Rho} {H : List Blk} {w : World} (hr : HR ρ (hp H) w) {ty j s : Nat} {sp : Option Nat} {u : Value} (h : LoadsTo T H ty j s sp u) {pv : Value} (hv : VR ρ (.pointer (some ⟨j, s, sp⟩)) pv) :
    ∃ ad cv, pv = .pointer (some ad) ∧ (loadVar ty ad).run P w = .ok cv w ∧ VR2 ρ u cv := by
  obtain ⟨b, z, cs, n, zs, h1, h2, h3⟩ := h
  obtain ⟨bb, o, zz, c, g1, rfl⟩ := hv.ptr_inv
  refine ⟨⟨bb, o + sp.getD 0 * zz + s, none⟩, ?_⟩
  -- the run itself
  rcases h3 with ⟨h3, h4⟩ | ⟨r, h3, h4, rfl⟩
  · obtain ⟨⟨dd, k1, k2⟩, _⟩ := tyChk_ok (hT.tyOf h3)
    have hm : hp H j = b := by unfold hp; rw [List.getD_eq_getElem?_getD, h1]; rfl
    have hl : b.live = true := by cases b <;> simp_all [Blk.part, Blk.live]
    have hok := hr.ok j (by rw [hm]; exact hl)
    rw [hm, g1] at hok
    obtain ⟨_, _, h5⟩ := seg_get h4
    have h6 : cs[s]? = some u := by simpa using h5 0 (by omega)
    obtain ⟨u', h7, h8⟩ := Blk.okm.part_cell hok h2 h6
    refine ⟨u', rfl, ?_, .one h8⟩
    cases dd <;> simp [TypeDesc.isRow] at k2 <;> simp [loadVar, isAgg, run_underlying k1, h7]
  · obtain ⟨⟨dd, k1, k2⟩, ii, zz', h9, h10, _, _⟩ := tyChk_ok (hT.tyOf h3)
    have hm : hp H j = b := by unfold hp; rw [List.getD_eq_getElem?_getD, h1]; rfl
    have hl : b.live = true := by cases b <;> simp_all [Blk.part, Blk.live]
    have hok := hr.ok j (by rw [hm]; exact hl)
    rw [hm, g1] at hok
    obtain ⟨h5, _, h6⟩ := seg_get h4
    have key : ∀ i, i < n → ∃ u', w.cell? ⟨bb, o + sp.getD 0 * zz + (s + i), none⟩ = some u' ∧ ∀ u, r[i]? = some u → VR1 ρ u u' := fun i hi => by
      have h7 : cs[s + i]? = some (r[i]'(by omega)) := by rw [h6 i hi]; exact List.getElem?_eq_getElem (by omega)
      obtain ⟨u', h8, h9⟩ := Blk.okm.part_cell hok h2 h7
      exact ⟨u', h8, fun u hu => by rw [List.getElem?_eq_getElem (by omega)] at hu; simp at hu; subst hu; exact h9⟩
    obtain ⟨f, hf⟩ := Go.Deep.choose_lt (n := n) (p := fun i u' => w.cell? ⟨bb, o + sp.getD 0 * zz + (s + i), none⟩ = some u' ∧ ∀ u, r[i]? = some u → VR1 ρ u u') key
    refine ⟨.agg ((List.range n).map f).toArray, rfl, run_loadVar_mid (P := P) w bb (o + sp.getD 0 * zz + s) ty ((List.range n).map f) dd (fun i v hv => by
        have hi : i < n := by simpa using (List.getElem?_eq_some_iff.1 hv).1
        rw [Nat.add_assoc, (hf i hi).1]
        simpa [List.getElem?_range hi] using hv) k1 k2 (by simp [h9, h10]), .agg ?_⟩
    refine All2.of_get (by simp [h5]) fun i u hu => ?_
    have hi : i < n := by
      have := (List.getElem?_eq_some_iff.1 hu).1
      simp at this; omega
    exact ⟨f i, by simp [List.getElem?_range hi], (hf i hi).2 u (by simpa using hu)⟩

/-- What the result variables hold. -/
def resE (T : Tabs) (env : Env) (H : List Blk) : List ResultVar → List Value → Prop
  | [], [] => True
  | .tmp t :: r, u :: us => env.look t = some u ∧ isV2 u = true ∧ resE T env H r us
  | .cell t ty :: r, u :: us => (∃ j s sp, env.look t = some (.pointer (some ⟨j, s, sp⟩)) ∧ LoadsTo T H ty j s sp u) ∧ resE T env H r us
  | _, _ => False

def resV : List Value → Value
  | [x] => x
  | xs => .tuple xs.toArray

def resS (a : Act) : ResultVar → Sem Value
  | .tmp t => pure (a.tmps.getD t undef)
  | .cell x t => do loadVar t (← asAddr (a.tmps.getD x undef))

theorem results_run {P : Program} {T : Tabs} (hT : T.ok P) {nt : Nat} {ρ : Rho} {env : Env} {H : List Blk} {a : Act} {w : World} (hr : Rel nt ρ env H a w) {fn : Func} {us : List Value} (h : resE T env H fn.results.toList us) :
    ∃ cv, (results fn a.tmps).run P w = .ok cv w ∧ VR ρ (resV us) cv := by
  have key : ∀ (l : List ResultVar) (us : List Value), resE T env H l us → ∃ cs : List Value, (l.mapM (resS a)).run P w = Result.ok cs w ∧ All2 (VR2 ρ) us cs := by
    intro l
    induction l with
    | nil => intro us h; cases us with
      | nil => exact ⟨[], by simp, .nil⟩
      | cons => exact h.elim
    | cons r l ih =>
      intro us h
      cases us with
      | nil => cases r <;> exact h.elim
      | cons u us =>
        cases r with
        | tmp t =>
          obtain ⟨h1, h2, h3⟩ := h
          obtain ⟨cs, h4, h5⟩ := ih us h3
          have hv := vr2_of h2 (hr.env t u h1)
          refine ⟨a.tmps.getD t undef :: cs, ?_, .cons hv h5⟩
          simp only [List.mapM_cons, resS, Sem.run_bind, Sem.run_pure, Result.andThen_ok, h4]
        | cell t ty =>
          obtain ⟨⟨j, s, sp, h1, h2⟩, h3⟩ := h
          obtain ⟨cs, h4, h5⟩ := ih us h3
          obtain ⟨ad, cv, h6, h7, h8⟩ := loads_run hT hr.hr h2 (hr.env t _ h1)
          refine ⟨cv :: cs, ?_, .cons h8 h5⟩
          have e1 : (asAddr (a.tmps.getD t undef) : Sem Addr).run P w = .ok ad w := by rw [h6]; rfl
          simp only [List.mapM_cons, resS, Sem.run_bind, e1, Sem.run_pure, Result.andThen_ok, h7, h4]
  obtain ⟨cs, h1, h2⟩ := key _ _ h
  have hrun : (results fn a.tmps).run P w = .ok (if h : cs.toArray.size = 1 then cs.toArray[0] else .tuple cs.toArray) w := by
    have e : results fn a.tmps = (do let vs ← fn.results.mapM (resS a); pure (if h : vs.size = 1 then vs[0] else .tuple vs)) := rfl
    rw [e, Array.mapM_eq_mapM_toList]
    simp only [map_eq_pure_bind, Sem.run_bind, Sem.run_pure]
    rw [h1]
    rfl
  refine ⟨_, hrun, ?_⟩
  have hl := h2.len
  match us, cs, h2, hl with
  | [], [], _, _ => exact .tup .nil
  | [x], [y], h2, _ => obtain ⟨y', ys, e, h3, _⟩ := h2.cons_left; simp at e; obtain ⟨rfl, _⟩ := e; exact .two h3
  | x1 :: x2 :: xs, y1 :: y2 :: ys, h2, _ =>
    have : ¬ ((y1 :: y2 :: ys).toArray.size = 1) := by simp
    rw [dif_neg this]
    exact .tup (by simpa using h2)

/-- The end of a function. -/
def Fin (T : Tabs) (fnres : List ResultVar) (H0 H' : List Blk) (v : Value) (e : Exit) (env2 : Env) (H2 : List Blk) : Prop :=
  (e = .ret ∨ e = .normal) ∧ ∃ us l, resE T env2 H2 fnres us ∧ resV us = ren (tau l H2.length) v ∧ blksOk (tau l H2.length) H2 l H' ∧ sc H'.length v = true ∧ H'.all (Blk.sc H'.length) = true ∧ tauOk H0.length l = true ∧ nodupN l = true

theorem Fn.intro {P : Program} {T : Tabs} (hT : T.ok P) {f : FuncId} {fn : Func} {c : Code} {nt : Nat} {rs : List ResultVar} {args : List Value} {H H' : List Blk} {v : Value} (hf : P.funcs[f]? = some fn) (hb : fn.body = some c) (hnm : (fn.name == "runtime.NumGoroutine") = false) (hnt : fn.ntmps = nt) (hrs : fn.results.toList = rs) (hle : Nat.ble args.length nt = true)
    (hlv : H.all Blk.live = true) (hsca : args.all (sc H.length) = true) (hsch : H.all (Blk.sc H.length) = true) (hlen0 : Nat.ble H.length H'.length = true)
    (h : AW P nt H.length c (Fin T rs H H' v) (argEnv 0 args) H) :
    Fn P f args H v H' where
  ent := ⟨fn, hf, hnm, by rw [hb]; rfl⟩
  len := Nat.le_of_ble_eq_true hlen0
  lv := hlv
  sca := hsca
  sch := hsch
  run ρ w cargs hno hargs hr := by
    have hl := hargs.len
    have hle := Nat.le_of_ble_eq_true hle
    have hlen : H.length ≤ H'.length := Nat.le_of_ble_eq_true hlen0
    refine calls_of_wp hf hb ?_
    have hrel : Rel nt ρ (argEnv 0 args) H { tmps := cargs.toArray ++ Array.replicate (fn.ntmps - cargs.toArray.size) undef, defers := [] } w := by
      refine ⟨fun t u hu => ?_, by simp [hnt]; omega, rfl, hr, hno⟩
      obtain ⟨_, h1⟩ := argEnv_look args 0 t u hu
      obtain ⟨y, h2, h3⟩ := hargs.get (t - 0) u h1
      have h2 : cargs[t]? = some y := by simpa using h2
      have hlt : t < cargs.length := (List.getElem?_eq_some_iff.1 h2).1
      rw [Array.getD_eq_getD_getElem?, Array.getElem?_append_left (by simpa using hlt)]
      rw [show cargs.toArray[t]? = some y by simpa using h2]
      exact h3
    refine wp_mono (h.run ρ (hp H) w hno ρ _ w hrel (Step.refl _ _ _)) fun e a' w' ⟨ρ', env', H2, ⟨he, us, l, h1, h2, h3, h4, h5, h6, h7⟩, h8, h9⟩ => ?_
    rw [← hrs] at h1
    obtain ⟨cv, g1, g2⟩ := results_run hT h8 h1
    rw [h2] at g2
    -- the blocks that go out
    have hsub := Sub.mk (nt := nt) (k := H.length) (env := env') (H := H2) (env2 := []) (H2 := H') l trivial h3 rfl h5 h6 h7 hlen
    obtain ⟨hll, hget⟩ := blksOk_get h3
    have hlv2 : ∀ j, (hp H' j).live = true → ∃ b, H'[j]? = some b ∧ hp H' j = b := fun j hj => by
      unfold hp at hj ⊢
      rw [List.getD_eq_getElem?_getD] at hj ⊢
      cases hq : H'[j]? with
      | none => rw [hq] at hj; simp [Blk.live] at hj
      | some b => exact ⟨b, rfl, rfl⟩
    have hdead : ∀ j, H'.length ≤ j → (hp H' j).live = false := fun j hj => by
      unfold hp; rw [List.getD_eq_getElem?_getD, List.getElem?_eq_none hj]; rfl
    have hs : ∀ j, (hp H' j).sc H'.length = true := fun j => by
      unfold hp; rw [List.getD_eq_getElem?_getD]
      cases hq : H'[j]? with
      | none => rfl
      | some b => exact List.all_eq_true.1 h5 b (List.mem_of_getElem? hq)
    have hee : ∀ j, j < H'.length → (hp H' j).live = true → hp H2 (tau l H2.length j) = (hp H' j).ren (tau l H2.length) := fun j hj hlive => by
      obtain ⟨b, h1, h2⟩ := hlv2 j hlive
      obtain ⟨x, h3, h4⟩ := hget j b h1
      rw [h2] at hlive ⊢
      have e : tau l H2.length j = x := by unfold tau; rw [h3]
      rcases h4 with h4 | h4
      · subst h4; simp [Blk.live] at hlive
      · rw [e]; unfold hp; rw [List.getD_eq_getElem?_getD, h4]; rfl
    have htau : ∀ j, j < l.length → tau l H2.length j = l.getD j 0 := fun j hj => by
      unfold tau; rw [List.getElem?_eq_getElem hj, List.getD_eq_getElem?_getD, List.getElem?_eq_getElem hj]; rfl
    have hall := List.all_eq_true.1 h6
    have hfix : ∀ j, j < H.length → tau l H2.length j = j := fun j hj => by
      have h1 := hall j (List.mem_range.2 (by omega))
      rw [if_pos (by rw [Nat.blt_eq]; exact hj)] at h1
      rw [htau j (by omega)]
      exact Nat.eq_of_beq_eq_true h1
    have hge : ∀ j, H.length ≤ j → j < H'.length → H.length ≤ tau l H2.length j := fun j hj hj2 => by
      have h1 := hall j (List.mem_range.2 (by omega))
      rw [if_neg (by rw [Nat.blt_eq]; omega)] at h1
      rw [htau j (by omega)]
      exact Nat.le_of_ble_eq_true h1
    have hinj : ∀ i j, i < H'.length → j < H'.length → (hp H' i).own = true → (hp H' j).live = true → i ≠ j → tau l H2.length i ≠ tau l H2.length j := fun i j hi hj _ _ hne he => by
      rw [htau i (by omega), htau j (by omega)] at he
      have h1 : l[i]? = some (l.getD i 0) := by rw [List.getD_eq_getElem?_getD, List.getElem?_eq_getElem (by omega)]; rfl
      have h2 : l[j]? = some (l.getD i 0) := by rw [he, List.getD_eq_getElem?_getD, List.getElem?_eq_getElem (by omega)]; rfl
      exact nodupN_ne h7 i j _ hne h1 h2
    have hfin : ∃ cv ρ2, (Ending.returned cv : Ending) = .returned cv ∧ VR ρ2 v cv ∧ (results fn a'.tmps).run P w' = .ok cv w' ∧ HR ρ2 (hp H') w' ∧ Step ρ (hp H) w ρ2 (hp H') w' ∧ ∀ j, H'.length ≤ j → ρ2 j = none :=
      ⟨cv, fun j => if j < H'.length then ρ' (tau l H2.length j) else none, rfl, VR.back (n := H'.length) (fun i hi => by simp [hi]) h4 g2, g1, HR.back _ _ h8.hr hdead hs hee hinj, h9.back hno hlen hfix hge hdead hee, fun j hj => by simp [Nat.not_lt.2 hj]⟩
    obtain ⟨cv, ρ2, _, k1, k2, k3, k4, k5⟩ := hfin
    rcases he with rfl | rfl
    · exact ⟨h8.defers, cv, k2, cv, ρ2, rfl, k1, k3, k4, k5⟩
    · exact ⟨h8.defers, cv, k2, cv, ρ2, rfl, k1, k3, k4, k5⟩

/-! ### a law in the world -/

/-- A slice that came in. -/
theorem in_slice {α : Type} {c : α → List Value} {z : Nat} (hz : ∀ x, (c x).length = z) (hg : ∀ x, (c x).all gnd1 = true) {w : World} {a : Option Addr} {l : List α} {cap : Nat} (hc : l.length ≤ cap) (hd : (l.flatMap c) = [] ∨ ∃ b o, a = some ⟨b, o, none⟩ ∧ b < w.heap.size ∧ ∀ i (h : i < (l.flatMap c).length), w.cell? ⟨b, o + i, none⟩ = some (l.flatMap c)[i]) (hz0 : 0 < z) :
    ∃ x, (∀ ρ, (Blk.arr z .ro (l.map c)).ok ρ w (some x)) ∧ (∀ ρ : Rho, ∀ j, ρ j = some x → VR1 ρ (.slice (some ⟨j, 0, some 0⟩) l.length l.length) (.slice a l.length cap)) := by
  have hfl : (l.map c).flatten = l.flatMap c := by rw [List.flatMap_def]
  rcases hd with h | ⟨b, o, rfl, h1, h2⟩
  · have hl : l = [] := by
      cases l with
      | nil => rfl
      | cons x l =>
        have := hz x
        rw [List.flatMap_cons] at h
        have h3 : c x = [] := (List.append_eq_nil_iff.1 h).1
        rw [h3] at this; simp at this; omega
    subst hl
    exact ⟨.any, fun ρ => ⟨z, rfl⟩, fun ρ j hj => .slany hj⟩
  · refine ⟨.mem b o z (cap * z), fun ρ => ⟨⟨rfl, fun r hr => by obtain ⟨x, _, rfl⟩ := List.mem_map.1 hr; exact hz x⟩, (fun h => by cases h), trivial, h1, fun i v hv => ?_, fun r hr => by obtain ⟨x, _, rfl⟩ := List.mem_map.1 hr; exact hg x⟩, fun ρ j hj => .sl hj hc (.inr ⟨by simp, by omega⟩)⟩
    simp only [Blk.cells, hfl] at hv
    have hi : i < (l.flatMap c).length := (List.getElem?_eq_some_iff.1 hv).1
    refine ⟨v, by rw [h2 i hi, ← hv, List.getElem?_eq_getElem hi], ?_⟩
    have hmem : v ∈ l.flatMap c := List.mem_of_getElem? hv
    obtain ⟨x, _, hx⟩ := List.mem_flatMap.1 hmem
    exact .of_gnd (List.all_eq_true.1 (hg x) v hx)

/-- A law over blocks that are only read: it hands back its Bool, and nothing old has turned. -/
theorem law_of {P : Program} {f : FuncId} {args : List Value} {H H' : List Blk} {b : Bool} (F : Fn P f args H (.bool b) H') (hro : (H.all fun x => !x.own) = true) {w : World} (bs : List Base) (hl : bs.length = H.length)
    (hok : ∀ (i : Nat) (x : Blk) (y : Base), H[i]? = some x → bs[i]? = some y → ∀ ρ, x.ok ρ w (some y)) {cargs : Array Value} (hargs : All2 (VR fun j => bs[j]?) args cargs.toList) :
    Calls P f cargs w fun e w' => e = .returned (.bool b) ∧ Below w.heap.size w w' := by
  have hnone : ∀ j, H.length ≤ j → (fun j => bs[j]?) j = none := fun j hj => List.getElem?_eq_none (by omega)
  have hnoown : ∀ j, (hp H j).own = false := fun j => by
    unfold hp; rw [List.getD_eq_getElem?_getD]
    cases hq : H[j]? with
    | none => rfl
    | some x => have := List.all_eq_true.1 hro x (List.mem_of_getElem? hq); simpa using this
  have hr : HR (fun j => bs[j]?) (hp H) w := by
    refine ⟨fun j hj => ?_, fun i j k _ hi => by rw [hnoown i] at hi; cases hi⟩
    unfold hp at hj ⊢
    rw [List.getD_eq_getElem?_getD] at hj ⊢
    cases hq : H[j]? with
    | none => rw [hq] at hj; simp [Blk.live] at hj
    | some x =>
      have hlt : j < bs.length := by rw [hl]; exact (List.getElem?_eq_some_iff.1 hq).1
      have hb : bs[j]? = some bs[j] := List.getElem?_eq_getElem hlt
      rw [hb]
      exact hok j x _ hq hb _
  have := F.run (fun j => bs[j]?) w cargs.toList hnone hargs hr
  rw [Array.toArray_toList] at this
  refine this.mono fun e w' ⟨cv, ρ', h1, h2, h3, st, _⟩ => ?_
  subst h1
  rw [h2.bool_inv]
  refine ⟨rfl, st.os, st.tape, st.output, st.size, fun k hk => st.keep k hk ?_⟩
  rintro ⟨j, h, _⟩
  rw [hnoown j] at h; cases h

end Go.Proofs.Ytgkedbhpeafbbaa

/-
  Structs and slices that are made; appends; texts and their bytes.
  Conditions: each law states its own.
-/
import Derived.Test.YtgkedbhpeafbbaaEngD
import Derived.Laws.IdiomStrings
import Derived.Laws.MakeOwn
set_option linter.unusedSimpArgs false
set_option linter.unusedVariables false
namespace Go.Proofs.Ytgkedbhpeafbbaa
open Go.RowKit

def isV2 : Value → Bool
  | .tuple _ => false
  | _ => true
theorem vr2_of {ρ : Rho} {v u : Value} (h : isV2 v = true) (k : VR ρ v u) : VR2 ρ v u := by
  cases k with
  | two k => exact k
  | tup k => simp [isV2] at h

/-! ### structs -/

def stChk (P : Program) (t : TypeId) : Option (List (Nat × Nat) × List Value) :=
  match P.info? t, P.underlying t with
  | some it, some (.struct fields) =>
    match it.zero, fields.toList.mapM (fun f => (P.info? f.type).map fun i => (f.offset, i.size)) with
    | some z, some places => some (places, z.cells.toList)
    | _, _ => none
  | _, _ => none

def fillL (places : List (Nat × Nat)) : List Value → List (Nat × List Value) → Option (List Value)
  | zs, [] => some zs
  | zs, (i, vs) :: r => match places[i]? with
    | some (off, size) => match Nat.beq vs.length size with
      | true => match splice zs off vs with
        | some zs' => fillL places zs' r
        | none => none
      | false => none
    | none => none

theorem fold_set (off : Nat) : ∀ (vs : List Value) (k : Nat) (C : Array Value), ((vs.zipIdx k).foldl (fun cs p => cs.setIfInBounds (off + p.2) p.1) C).size = C.size ∧
    (off + k + vs.length ≤ C.size → ∀ i, ((vs.zipIdx k).foldl (fun cs p => cs.setIfInBounds (off + p.2) p.1) C)[i]? = if off + k ≤ i ∧ i < off + k + vs.length then vs[i - off - k]? else C[i]?)
  | [], k, C => by
    refine ⟨rfl, fun _ i => ?_⟩
    rw [if_neg (by simp only [List.length_nil]; omega)]; rfl
  | v :: vs, k, C => by
    obtain ⟨h1, h2⟩ := fold_set off vs (k + 1) (C.setIfInBounds (off + k) v)
    simp only [List.zipIdx_cons, List.foldl_cons]
    refine ⟨by rw [h1]; simp, fun hb i => ?_⟩
    simp only [List.length_cons] at hb
    rw [h2 (by simp; omega) i]
    by_cases e : i = off + k
    · subst e
      rw [if_neg (by omega), if_pos (by simp)]
      rw [Array.getElem?_setIfInBounds]
      simp
      omega
    · by_cases hin : off + (k + 1) ≤ i ∧ i < off + (k + 1) + vs.length
      · rw [if_pos hin, if_pos (by simp; omega)]
        rw [show i - off - k = (i - off - (k + 1)) + 1 by omega]; simp
      · rw [if_neg hin, if_neg (by simp; omega)]
        rw [Array.getElem?_setIfInBounds]
        rw [if_neg fun e2 => e e2.symm]

theorem fill_rel {ρ : Rho} {places : List (Nat × Nat)} {place : Nat → Option (Nat × Nat)} (hp : ∀ i, place i = places[i]?) :
    ∀ {ps : List (Nat × List Value)} {qs : List (Nat × Value)} {zs r : List Value} {C : Array Value}, All2 (fun p q => p.1 = q.1 ∧ All2 (VR1 ρ) p.2 q.2.cells.toList) ps qs → All2 (VR1 ρ) zs C.toList → fillL places zs ps = some r →
      ∃ C', Instr.fill place C qs = some C' ∧ All2 (VR1 ρ) r C'.toList
  | [], [], zs, r, C, _, hz, h => by simp [fillL] at h; subst h; exact ⟨C, rfl, hz⟩
  | [], _ :: _, _, _, _, h, _, _ => by cases h
  | _ :: _, [], _, _, _, h, _, _ => by cases h
  | (i, vs) :: ps, (i', v) :: qs, zs, r, C, .cons ⟨h1, h2⟩ hps, hz, h => by
    simp only at h1 h2
    obtain rfl := h1
    simp only [fillL] at h
    split at h
    · rename_i off size he
      split at h
      · rename_i hb
        split at h
        · rename_i zs' hs
          have hsz : vs.length = size := by simpa using hb
          obtain ⟨g1, g2, g3⟩ := splice_get hs
          have hl2 := h2.len
          have hlz := hz.len
          have hcs : v.cells.size = vs.length := by rw [hl2]; simp
          have hCs : C.size = zs.length := by rw [hlz]; simp
          have hcond : ¬ (v.cells.size ≠ size ∨ C.size < off + v.cells.size) := by omega
          obtain ⟨f1, f2⟩ := fold_set off v.cells.toList 0 C
          have f3 := f2 (by simp; omega)
          have hz' : All2 (VR1 ρ) zs' ((v.cells.toList.zipIdx 0).foldl (fun cs p => cs.setIfInBounds (off + p.2) p.1) C).toList := by
            refine All2.of_get (by simp [f1]; omega) fun k x hx => ?_
            rw [g3 k] at hx
            simp only [Array.getElem?_toList, f3 k, Nat.add_zero]
            by_cases hin : off ≤ k ∧ k < off + vs.length
            · rw [if_pos hin] at hx
              rw [if_pos (by simp; omega)]
              obtain ⟨y, k1, k2⟩ := h2.get _ x hx
              exact ⟨y, by simpa using k1, k2⟩
            · rw [if_neg hin] at hx
              rw [if_neg (by simp; omega)]
              obtain ⟨y, k1, k2⟩ := hz.get _ x hx
              exact ⟨y, by simpa using k1, k2⟩
          obtain ⟨C', k1, k2⟩ := fill_rel hp hps hz' h
          refine ⟨C', ?_, k2⟩
          unfold Instr.fill
          rw [hp i, he]
          simp only [Bool.or_eq_true, bne_iff_ne, ne_eq, decide_eq_true_eq, gt_iff_lt]
          rw [if_neg (by omega)]
          rw [← k1]
          congr 1
          rw [← Array.foldl_toList, Array.toList_zipIdx]
        · cases h
      · cases h
    · cases h

/-- What the parts are. -/
def evP (env : Env) : List (Nat × Operand) → Option (List (Nat × List Value))
  | [] => some []
  | (i, x) :: r => match env.get x with
    | some v => match isV2 v, evP env r with
      | true, some l => some ((i, v.cells.toList) :: l)
      | _, _ => none
    | none => none

theorem evP_rel {ρ : Rho} {env : Env} {a : Act} : ∀ {ps : List (Nat × Operand)} {l : List (Nat × List Value)}, (∀ p ∈ ps, ∀ u, env.get p.2 = some u → VR ρ u (a.eval p.2)) → evP env ps = some l →
    All2 (fun p q => p.1 = q.1 ∧ All2 (VR1 ρ) p.2 q.2.cells.toList) l (ps.map fun p => (p.1, a.eval p.2))
  | [], l, _, h => by simp [evP] at h; subst h; exact .nil
  | (i, x) :: ps, l, he, h => by
    simp only [evP] at h
    split at h
    · rename_i v hv
      split at h
      · rename_i l' h1 h2
        simp at h; subst h
        exact .cons ⟨rfl, VR.cells (vr2_of h1 (he _ (by simp) v hv))⟩ (evP_rel (fun p hp => he p (by simp [hp])) h2)
      · cases h
    · cases h

section
variable {P : Program} {T : Tabs} {env : Env} {H : List Blk} {v : Value} {d : Option Tmp} {ty : TypeId} {pos : String} {aft : Array Edge} {gd : Option (Nat × Bool)}

theorem ok_build {t : TypeId} {ps : List (Nat × Operand)} {places : List (Nat × Nat)} {zs r : List Value} {l : List (Nat × List Value)} (hst : stChk P t = some (places, zs)) (hz : zs.all zeroOk = true) (he : evP env ps = some l) (hf : fillL places zs l = some r) :
    OpOK P ⟨d, .build t ps.toArray, ty, pos, aft, gd⟩ env H (.agg r.toArray) H [] [] :=
  .pure fun ρ a hev => by
    unfold stChk at hst
    split at hst
    · rename_i it fields h1 h2
      split at hst
      · rename_i z places' h3 h4
        simp only [Option.some.injEq, Prod.mk.injEq] at hst
        obtain ⟨rfl, rfl⟩ := hst
        have hrel := evP_rel (ρ := ρ) (a := a) (fun p hp => hev p.2 (by simp [Op.operands]; exact ⟨p.1, hp⟩)) he
        obtain ⟨C', k1, k2⟩ := fill_rel (place := (places'.toArray[·]?)) (C := z.cells) (fun i => by simp) hrel (All2.refl _ fun x hx => zeroOk_vr (List.all_eq_true.1 hz x hx)) hf
        refine ⟨.agg C', fun w => ?_, .two (.agg (by simpa using k2))⟩
        have hb : P.built t (ps.map fun p => (p.1, a.eval p.2)) = some C' := by
          unfold Program.built
          simp only [h1, h2, h3, h4]
          exact k1
        have := run_build (P := P) w t (ps.map fun p => (p.1, a.eval p.2)).toArray C' (by simpa using hb)
        simp only [execOp, Sem.run_bind, List.map_toArray]
        rw [this]; rfl
      · cases hst
    · cases hst

/-- Elements laid one behind the other. -/
theorem fill_rows {ρ : Rho} (z : Nat) : ∀ {ps : List (Nat × List Value)} {qs : List (Nat × Value)} {m : Nat} {C : Array Value}, All2 (fun p q => p.1 = q.1 ∧ All2 (VR1 ρ) p.2 q.2.cells.toList) ps qs →
    ps.map (·.1) = List.range' m ps.length → (∀ p ∈ ps, p.2.length = z) → (m + ps.length) * z ≤ C.size →
      ∃ C', Instr.fill (fun i => some (i * z, z)) C qs = some C' ∧ C'.size = C.size ∧ (∀ i, i < m * z → C'[i]? = C[i]?) ∧ ∀ i v, (ps.map (·.2)).flatten[i]? = some v → ∃ v', C'[m * z + i]? = some v' ∧ VR1 ρ v v'
  | [], [], m, C, _, _, _, _ => ⟨C, rfl, rfl, fun _ _ => rfl, fun i v h => by simp at h⟩
  | [], _ :: _, _, _, h, _, _, _ => by cases h
  | _ :: _, [], _, _, h, _, _, _ => by cases h
  | (i, vs) :: ps, (i', v) :: qs, m, C, .cons ⟨h1, h2⟩ hps, hidx, hz, hb => by
    simp only at h1 h2
    subst h1
    simp only [List.map_cons, List.length_cons, List.range'_succ, List.cons.injEq] at hidx
    obtain ⟨rfl, hidx⟩ := hidx
    have hvs : vs.length = z := hz (i, vs) (by simp)
    simp only [List.length_cons] at hb
    have hb2 : (i + 1 + ps.length) * z ≤ C.size := by rw [show i + 1 + ps.length = i + (ps.length + 1) by omega]; exact hb
    have hb3 : i * z + z ≤ C.size := by
      have : (i + 1) * z ≤ (i + 1 + ps.length) * z := Nat.mul_le_mul_right _ (by omega)
      rw [Nat.succ_mul] at this; omega
    have hl2 := h2.len
    have hcs : v.cells.size = z := by rw [← hvs, hl2]; simp
    obtain ⟨f1, f2⟩ := fold_set (i * z) v.cells.toList 0 C
    have f3 := f2 (by simp; omega)
    obtain ⟨C', k1, k2, k3, k4⟩ := fill_rows z (m := i + 1) (C := (v.cells.toList.zipIdx 0).foldl (fun cs p => cs.setIfInBounds (i * z + p.2) p.1) C) hps hidx (fun p hp => hz p (by simp [hp])) (by rw [f1]; exact hb2)
    refine ⟨C', ?_, by rw [k2, f1], fun j hj => ?_, fun j u hj => ?_⟩
    · unfold Instr.fill
      simp only [Bool.or_eq_true, bne_iff_ne, ne_eq, decide_eq_true_eq, gt_iff_lt]
      rw [if_neg (by omega)]
      rw [← k1]
      congr 1
      rw [← Array.foldl_toList, Array.toList_zipIdx]
    · rw [k3 j (by rw [Nat.succ_mul]; omega), f3 j, if_neg (by omega)]
    · simp only [List.map_cons, List.flatten_cons] at hj
      by_cases hjz : j < z
      · rw [List.getElem?_append_left (by omega)] at hj
        obtain ⟨y, g1, g2⟩ := h2.get _ u hj
        refine ⟨y, ?_, g2⟩
        rw [k3 _ (by rw [Nat.succ_mul]; omega), f3 _, if_pos (by simp; omega), show i * z + j - i * z - 0 = j by omega]
        exact g1
      · rw [List.getElem?_append_right (by omega)] at hj
        obtain ⟨y, g1, g2⟩ := k4 _ u hj
        refine ⟨y, ?_, g2⟩
        rw [← g1, Nat.succ_mul, hvs]
        congr 1; omega

/-- A slice that is written out. -/
theorem ok_buildSlice {t n : Nat} {ps : List (Nat × Operand)} {l : List (Nat × List Value)} {e z by' : Nat} {zs : List Value} (hT : T.ok P) (ht : tlook T.sl t = some (e, z, by', zs)) (he : evP env ps = some l)
    (hidx : l.map (·.1) = List.range' 0 n) (hlen : l.length = n) (hz : l.all (fun p => Nat.beq p.2.length z) = true) (hg : l.all (fun p => p.2.all gnd1) = true) (hsmall : n * z ≤ 16777216) :
    OpOK P ⟨d, .buildSlice t n ps.toArray, ty, pos, aft, gd⟩ env H (.slice (some ⟨H.length, 0, some 0⟩) n n) (H ++ [.arr z (.ap e) (l.map (·.2))]) [] [] :=
  .make (by simp) fun ρ a w hev hr hn => by
    obtain ⟨h1, h2, h3, ii, zz, h4, h5, h6, h7, h8⟩ := slChk_ok (hT.slOf ht)
    have hz2 : ∀ p ∈ l, p.2.length = z := fun p hp => by simpa using List.all_eq_true.1 hz p hp
    have hrel := evP_rel (ρ := ρ) (a := a) (fun p hp => hev p.2 (by simp [Op.operands]; exact ⟨p.1, hp⟩)) he
    obtain ⟨C0, hC0⟩ : ∃ C0 : Array Value, C0 = Array.map (fun i => zz.cells[i % zz.cells.size]!) (Array.range (n * z)) := ⟨_, rfl⟩
    have hC : C0.size = n * z := by rw [hC0]; simp
    obtain ⟨C', k1, k2, k3, k4⟩ := fill_rows (ρ := ρ) z (m := 0) (C := C0) hrel (by rw [hidx, hlen]) hz2 (by rw [hC, hlen]; simp)
    have hle : Rho.le ρ (ρ.set H.length (.mem w.heap.size 0 z C'.size)) := Rho.le_set hn
    refine ⟨.slice (some ⟨w.heap.size, 0, none⟩) n n, w.alloc (.cells C' e), .mem w.heap.size 0 z C'.size, ?_, WExt.alloc _ _, fun k hk => by simp [Base.blk] at hk; omega, ?_, ?_⟩
    · have hs : ¬ (n * z > 2 ^ 24) := by omega
      by_cases hn0 : n = 0
      · subst hn0
        have hl0 : l = [] := List.eq_nil_of_length_eq_zero hlen
        subst hl0
        have hps0 : ps = [] := by have := hrel.len; simpa using this.symm
        subst hps0
        have hC00 : C0 = #[] := by have : C0.size = 0 := by rw [hC]; simp
                                   simpa using this
        subst hC00
        simp [Instr.fill] at k1
        subst k1
        simp [execOp, Instr.buildSlice, run_underlying h1, sizeOf, typeInfo, h4, newRow, Instr.fill, Array.range_zero']
      · have hnz : ¬ n * z = 0 := by
          have : 0 < n * z := Nat.mul_pos (by omega) h2
          omega
        have hsz : (sizeOf e).run P w = .ok z w := by simp [sizeOf, typeInfo, h4, h5]
        have hzv : (zeroValue e).run P w = .ok zz w := by simp [zeroValue, typeInfo, h4, h7]
        have hb : (Instr.buildSlice t n (ps.toArray.map fun (i, x) => (i, a.eval x))).run P w = .ok (.slice (some ⟨w.heap.size, 0, none⟩) n n) (w.alloc (.cells C' e)) := by
          simp only [Instr.buildSlice, Sem.run_bind, run_underlying h1, Result.andThen_ok, hsz, if_neg hs, if_neg hnz, hzv, Sem.run_pure, List.map_toArray, ← hC0, k1]
          simp [newRow]
        simp only [execOp, Sem.run_bind, hb]; rfl
    · exact okm_new_arr (fun r hr => by obtain ⟨p, hp, rfl⟩ := List.mem_map.1 hr; exact hz2 p hp) (fun r hr => by obtain ⟨p, hp, rfl⟩ := List.mem_map.1 hr; exact List.all_eq_true.1 hg p hp) fun i u hu => by
        obtain ⟨v', g1, g2⟩ := k4 i u hu
        exact ⟨v', by simpa using g1, g2.mono hle⟩
    · refine .of1 (.sl (by simp [Rho.set]; exact ⟨rfl, rfl, rfl, rfl⟩) (Nat.le_refl _) (.inr ⟨by simp, ?_⟩))
      rw [k2, hC]; omega

/-- make. -/
theorem ok_makeSlice {t : TypeId} {x y : Operand} {n : Nat} {e z by' : Nat} {zs : List Value} (hT : T.ok P) (ht : tlook T.sl t = some (e, z, by', zs)) (hx : env.get x = some (.int .i64 (n : Int))) (hy : env.get y = some (.int .i64 (n : Int)))
    (hzs : zs.all gnd1 = true) (hb : by' * n ≤ 281474976710656) (h63 : n ≤ 9223372036854775807) :
    OpOK P ⟨d, .makeSlice t x y, ty, pos, aft, gd⟩ env H (.slice (some ⟨H.length, 0, some 0⟩) n n) (H ++ [.arr z (.ap e) (List.replicate n zs)]) [] [] :=
  .make (by simp) fun ρ a w hev hr hn => by
    obtain ⟨h1, h2, h3, ii, zz, h4, h5, h6, h7, h8⟩ := slChk_ok (hT.slOf ht)
    have e1 := (hev x (by simp [Op.operands]) _ hx).int_inv
    have e2 := (hev y (by simp [Op.operands]) _ hy).int_inv
    have hzc : zz.cells.size = z := by rw [← h3, ← h8]; simp
    have hb3 : (ii.bytes : Int) * (n : Int) ≤ 281474976710656 := by
      have h0 : ((by' * n : Nat) : Int) ≤ 281474976710656 := by omega
      rw [h6]; rwa [Int.natCast_mul] at h0
    have hrun := run_make (P := P) w t e ii zz h1 h4 h7 .i64 .i64 (n : Int) (n : Int) (by omega) (Int.le_refl _) (hb3) (by omega)
    simp only [Int.toNat_natCast] at hrun
    have hsz := size_madeCells zz.cells (n * ii.size)
    refine ⟨.slice (some ⟨w.heap.size, 0, none⟩) n n, w.alloc (.cells (madeCells zz.cells (n * ii.size)) e), .mem w.heap.size 0 z (madeCells zz.cells (n * ii.size)).size, ?_, WExt.alloc _ _, fun k hk => by simp [Base.blk] at hk; omega, ?_, ?_⟩
    · simp only [execOp, Sem.run_bind, e1, e2, hrun]; rfl
    · refine okm_new_arr (fun r hr => by rw [(List.mem_replicate.1 hr).2, h3]) (fun r hr => by rw [(List.mem_replicate.1 hr).2]; exact hzs) fun i u hu => ?_
      have hrz : ∀ r ∈ List.replicate n zs, r.length = z := fun r hr => by rw [(List.mem_replicate.1 hr).2, h3]
      have hlen : (List.replicate n zs).flatten.length = n * z := by simp [h3]
      have hi : i < n * z := by rw [← hlen]; exact (List.getElem?_eq_some_iff.1 hu).1
      have hq : i / z < n := Nat.div_lt_of_lt_mul (by rw [Nat.mul_comm]; exact hi)
      have hm : i % z < z := Nat.mod_lt _ h2
      have hie : i / z * z + i % z = i := by rw [Nat.mul_comm]; exact Nat.div_add_mod i z
      have h9 := flat_get (rows := List.replicate n zs) (k := i / z) (s := i % z) (r := zs) hrz (by simp [List.getElem?_replicate, hq]) hm
      rw [hie, hu] at h9
      have h10 : zz.cells[i % z]? = some u := by
        have : zz.cells.toList[i % z]? = some u := by rw [h8]; exact h9.symm
        simpa using this
      refine ⟨u, ?_, .of_gnd (List.all_eq_true.1 hzs u (List.mem_of_getElem? h9.symm))⟩
      have h11 : zz.cells[i % z]! = u := by simp [getElem!_def, h10]
      simp [madeCells, h5, hi, hzc, h11]
    · refine .of1 (.sl (by simp [Rho.set]; exact ⟨rfl, rfl, rfl, rfl⟩) (Nat.le_refl _) (.inr ⟨by simp, ?_⟩))
      rw [hsz, h5]; omega

/-! ### append -/

/-- One block has been given up, another stands under a new name, in the old one's memory or in new memory. -/
theorem HR.move {ρ : Rho} {S : Hp} {w w' : World} {j n : Nat} {b : Blk} {x : Base} (hr : HR ρ S w) (hj : (S j).own = true) (hn : ρ n = none) (hd : (S n).live = false)
    (hos : w'.os = w.os) (htape : w'.tape = w.tape) (hout : w'.output = w.output) (hsize : w.heap.size ≤ w'.heap.size)
    (hkeep : ∀ i, i < w.heap.size → (ρ j).bind Base.blk ≠ some i → w'.heap[i]? = w.heap[i]?)
    (hb : b.ok (ρ.set n x) w' (some x)) (hx : ∀ k, x.blk = some k → w.heap.size ≤ k ∨ (ρ j).bind Base.blk = some k) :
    HR (ρ.set n x) (fun i => if i = n then b else if i = j then .dead else S i) w' ∧ Step ρ S w (ρ.set n x) (fun i => if i = n then b else if i = j then .dead else S i) w' := by
  have hle := Rho.le_set (x := x) hn
  have hnj : n ≠ j := fun e => by subst e; rw [Blk.own_live hj] at hd; cases hd
  have hlt : ∀ j k, (S j).live = true → (ρ j).bind Base.blk = some k → k < w.heap.size := fun j k hj hk => by
    have hok := hr.ok j hj
    cases hq : ρ j with
    | none => rw [hq] at hok; exact hok.elim
    | some b =>
      rw [hq] at hok hk
      cases b with
      | mem k' o z c => simp [Base.blk] at hk; subst hk; exact hok.lt
      | nil => simp [Base.blk] at hk
      | any => simp [Base.blk] at hk
  have hset : ∀ i, i ≠ n → (ρ.set n x) i = ρ i := fun i hi => by simp [Rho.set, hi]
  have hself : (ρ.set n x) n = some x := by simp [Rho.set]
  refine ⟨⟨fun i hi => ?_, fun i1 i2 k hne h1 h2 h3 h4 => ?_⟩, ⟨hos, htape, hout, hsize, fun k hk hno => hkeep k hk fun e => hno ⟨j, hj, e⟩, hle, fun i hi => ?_⟩⟩
  · by_cases e : i = n
    · subst e; rw [hself]; simpa using hb
    · simp only [if_neg e] at hi ⊢
      by_cases e2 : i = j
      · subst e2; simp [Blk.live] at hi
      · simp only [if_neg e2] at hi ⊢
        rw [hset i e]
        exact Blk.ok_later (hr.ok i hi) hle hsize fun k hk => hkeep k (hlt i k hi hk) fun e3 => hr.sep j i k (fun e4 => e2 e4.symm) hj hi e3 hk
  · by_cases e1 : i1 = n
    · subst e1
      have e2 : i2 ≠ i1 := fun e => hne e.symm
      rw [hself] at h3
      rw [hset _ e2] at h4
      simp only [if_neg e2] at h2
      by_cases e3 : i2 = j
      · subst e3; simp [Blk.live] at h2
      · simp only [if_neg e3] at h2
        have hk := hlt i2 k h2 h4
        rcases hx k h3 with h5 | h5
        · omega
        · exact hr.sep j i2 k (fun e4 => e3 e4.symm) hj h2 h5 h4
    · simp only [if_neg e1] at h1
      rw [hset _ e1] at h3
      by_cases e3 : i1 = j
      · subst e3; simp [Blk.own] at h1
      · simp only [if_neg e3] at h1
        have hk := hlt i1 k (Blk.own_live h1) h3
        by_cases e2 : i2 = n
        · subst e2
          rw [hself] at h4
          rcases hx k h4 with h5 | h5
          · omega
          · exact hr.sep i1 j k e3 h1 (Blk.own_live hj) h3 h5
        · simp only [if_neg e2] at h2
          rw [hset _ e2] at h4
          by_cases e4 : i2 = j
          · subst e4; simp [Blk.live] at h2
          · simp only [if_neg e4] at h2
            exact hr.sep i1 i2 k hne h1 h2 h3 h4
  · by_cases e : i = n
    · subst e
      refine .inr ⟨hn, fun k hk => ?_⟩
      rw [hself] at hk
      rcases hx k hk with h5 | h5
      · exact .inl h5
      · exact .inr ⟨j, hj, h5⟩
    · simp only [if_neg e] at hi ⊢
      by_cases e2 : i = j
      · subst e2; simp [Blk.live] at hi
      · simp only [if_neg e2] at hi ⊢
        exact .inl ⟨hi, hset i e, id⟩

theorem mask_move {n : Nat} {L : List Nat} {H : List Blk} {b : Blk} {j : Nat} (hn : n = H.length) (hj : j < H.length) : mask n L (H.set j .dead ++ [b]) = fun i => if i = n then b else if i = j then .dead else mask n L H i := by
  subst hn
  funext i
  have h0 := mask_new (n := (H.set j .dead).length) (L := L) (H := H.set j .dead) (b := b) rfl
  simp only [List.length_set] at h0
  rw [h0]
  by_cases e : i = H.length
  · simp [e]
  · simp only [if_neg e]
    by_cases e2 : i = j
    · subst e2; simp [mask, hj, List.getD_eq_getElem?_getD]
    · simp only [if_neg e2]
      unfold mask
      simp only [List.getD_eq_getElem?_getD, List.getElem?_set]
      have : ¬ j = i := fun h => e2 h.symm
      simp [this]

/-- The elements that a slice shows. -/
def part (rows : List (List Value)) (k m : Nat) : List (List Value) := (rows.drop k).take m

theorem flat_len' {z : Nat} : ∀ (l : List (List Value)), (∀ r ∈ l, r.length = z) → l.flatten.length = l.length * z
  | [], _ => by simp
  | a :: l, h => by rw [List.flatten_cons, List.length_append, h a (by simp), flat_len' l fun r hr => h r (by simp [hr]), List.length_cons, Nat.succ_mul]; omega

/-- The cells behind a slice, in the world. -/
theorem sl_cells {ρ : Rho} {w : World} {j k m : Nat} {ad : Option Addr} {mc z : Nat} {ow : Ow} {rows : List (List Value)} (hs : SlOk ρ j k m ad mc) (hb : (Blk.arr z ow rows).ok ρ w (ρ j)) (hm : k + m ≤ rows.length) (hm0 : 0 < m) :
    ∃ b o, ad = some ⟨b, o, none⟩ ∧ ∃ news : List Value, news.length = m * z ∧ All2 (VR1 ρ) (part rows k m).flatten news ∧ ∀ i u, news[i]? = some u → w.cell? ⟨b, o + i, none⟩ = some u := by
  obtain ⟨h1, ⟨b, o, z', c, h2, h3⟩ | ⟨h2, h3⟩ | ⟨h2, h3⟩⟩ := hs
  · rw [h2] at hb
    obtain ⟨rfl, hz⟩ := hb.zok
    rcases h3 with h3 | ⟨h3, _⟩
    · omega
    · have hpz : ∀ r ∈ part rows k m, r.length = z := fun r hr => hz r (List.mem_of_mem_drop (List.mem_of_mem_take hr))
      have hpl : (part rows k m).length = m := by simp [part]; omega
      have hfl : (part rows k m).flatten.length = m * z := by rw [flat_len' _ hpz, hpl]
      have hz0 : 0 < z ∨ z = 0 := by omega
      have key : ∀ i, i < m * z → ∃ u', w.cell? ⟨b, o + k * z + i, none⟩ = some u' ∧ ∀ u, (part rows k m).flatten[i]? = some u → VR1 ρ u u' := fun i hi => by
        have hzp : 0 < z := by
          rcases hz0 with h | h
          · exact h
          · subst h; omega
        have hq : i / z < m := Nat.div_lt_of_lt_mul (by rw [Nat.mul_comm]; exact hi)
        have hr : i % z < z := Nat.mod_lt _ hzp
        have hie : i / z * z + i % z = i := by rw [Nat.mul_comm]; exact Nat.div_add_mod i z
        obtain ⟨r, hrr⟩ : ∃ r, rows[k + i / z]? = some r := ⟨_, List.getElem?_eq_getElem (by omega)⟩
        have h5 := flat_get (rows := rows) (k := k + i / z) (s := i % z) (r := r) hz hrr hr
        have h6 := flat_get (rows := part rows k m) (k := i / z) (s := i % z) (r := r) hpz (by simp [part, List.getElem?_take, hq, hrr]) hr
        rw [hie] at h6
        rw [show (k + i / z) * z + i % z = k * z + i by rw [Nat.add_mul]; omega] at h5
        have hlr : r.length = z := hz r (List.mem_of_getElem? hrr)
        have h7 : rows.flatten[k * z + i]? = some (r[i % z]'(by omega)) := by rw [h5]; exact List.getElem?_eq_getElem (by omega)
        obtain ⟨u', h8, h9⟩ := hb.cell _ _ h7
        refine ⟨u', by rw [Nat.add_assoc]; exact h8, fun u hu => ?_⟩
        rw [h6, List.getElem?_eq_getElem (by omega)] at hu
        simp at hu; subst hu; exact h9
      obtain ⟨f, hf⟩ := Go.Deep.choose_lt key
      refine ⟨b, o + k * z, h3, (List.range (m * z)).map f, by simp, ?_, fun i u hu => ?_⟩
      · refine All2.of_get (by simp [hfl]) fun i u hu => ?_
        have hi : i < m * z := by rw [← hfl]; exact (List.getElem?_eq_some_iff.1 hu).1
        exact ⟨f i, by simp [List.getElem?_range hi], (hf i hi).2 u hu⟩
      · have hi : i < m * z := by simpa using (List.getElem?_eq_some_iff.1 hu).1
        rw [(hf i hi).1]
        simpa [List.getElem?_range hi] using hu
  · omega
  · omega

theorem ok_append {t : TypeId} {x y : Operand} {j n j2 k2 m : Nat} {e z by' : Nat} {zs : List Value} {ow2 : Ow} {rows rows2 : List (List Value)} (hT : T.ok P) (ht : tlook T.sl t = some (e, z, by', zs))
    (hx : env.get x = some (.slice (some ⟨j, 0, some 0⟩) n n)) (hy : env.get y = some (.slice (some ⟨j2, 0, some k2⟩) m m))
    (hj : H[j]? = some (.arr z (.ap e) rows)) (hn : rows.length = n) (hj2 : H[j2]? = some (.arr z ow2 rows2)) (hm : k2 + m ≤ rows2.length) (hne : j2 ≠ j)
    (hb : (n + m) * by' ≤ 140737488355328) (h63 : n + m ≤ 9223372036854775807) :
    OpOK P ⟨d, .call { callee := .builtin .append, args := #[x, y], argTypes := #[t, t] }, ty, pos, aft, gd⟩ env H (.slice (some ⟨H.length, 0, some 0⟩) (n + m) (n + m)) (H.set j .dead ++ [.arr z (.ap e) (rows ++ part rows2 k2 m)]) [j2] [j] where
  len := by simp
  off i hi hni := by
    have : j ≠ i := fun e => hni (by simp [e])
    rw [List.getElem?_append_left (by simpa using hi)]
    simp [List.getElem?_set, this]
  old i hi := by
    simp at hi
    rcases hi with rfl | rfl
    · exact (List.getElem?_eq_some_iff.1 hj2).1
    · exact (List.getElem?_eq_some_iff.1 hj).1
  run ρ a w hev hr hf K Q hk := by
    have hlt : j < H.length := (List.getElem?_eq_some_iff.1 hj).1
    obtain ⟨h1, hzp, h3, ii, zz, h4, h5, h6, h7, h8⟩ := slChk_ok (hT.slOf ht)
    subst hn
    have hmj : mask H.length ([j2] ++ [j]) H j = .arr z (.ap e) rows := mask_at hj rfl (by simp)
    have hmj2 : mask H.length ([j2] ++ [j]) H j2 = .arr z ow2 rows2 := mask_at hj2 rfl (by simp)
    have hok := hr.ok j (by rw [hmj]; rfl)
    rw [hmj] at hok
    have hok2 := hr.ok j2 (by rw [hmj2]; rfl)
    rw [hmj2] at hok2
    obtain ⟨ax, cx, h9, hsx⟩ := (hev x (by simp [Op.operands, Call.operands]) _ hx).sl_inv
    obtain ⟨ay, cy, h10, hsy⟩ := (hev y (by simp [Op.operands, Call.operands]) _ hy).sl_inv
    have hfn : ρ H.length = none := hf _ (Nat.le_refl _) (by simp)
    have hzc : zz.cells.size = z := by rw [← h3, ← h8]; simp
    -- it is enough to run the append and to say where the new elements lie
    have fin : ∀ (cv : Value) (w' : World) (bx : Base), (Builtin.append_ #[t, t] ty #[.slice ax rows.length cx, .slice ay m cy]).run P w = .ok cv w' →
        w'.os = w.os → w'.tape = w.tape → w'.output = w.output → w.heap.size ≤ w'.heap.size → (∀ i, i < w.heap.size → (ρ j).bind Base.blk ≠ some i → w'.heap[i]? = w.heap[i]?) →
        (Blk.arr z (.ap e) (rows ++ part rows2 k2 m)).ok (ρ.set H.length bx) w' (some bx) → (∀ k, bx.blk = some k → w.heap.size ≤ k ∨ (ρ j).bind Base.blk = some k) →
        VR (ρ.set H.length bx) (.slice (some ⟨H.length, 0, some 0⟩) (rows.length + m) (rows.length + m)) cv → Oper.wp P ⟨d, .call { callee := .builtin .append, args := #[x, y], argTypes := #[t, t] }, ty, pos, aft, gd⟩ a w K Q := by
      intro cv w' bx hrun hos htp hou hsz hkp hbk hbx hcv
      obtain ⟨g1, g2⟩ := HR.move hr (by rw [hmj]; rfl) hfn (mask_dead rfl) hos htp hou hsz hkp hbk hbx
      rw [← mask_move rfl hlt] at g1 g2
      refine wp_val (w' := w') ?_ (hk _ cv w' hcv g1 g2 fun i hi => ?_)
      · simp [execOp, resolve, invoke, builtin, h9, h10, hrun]
      · have : i ≠ H.length := by
          rcases hi with hi | hi
          · omega
          · simp at hi; omega
        simp [Rho.set, this]
    have hprt0 : m = 0 → part rows2 k2 m = [] := fun h => by simp [part, h]
    have hpl : (part rows2 k2 m).length = m := by simp [part]; omega
    by_cases hm0 : m = 0
    · -- nothing is appended
      subst hm0
      have hrun : (Builtin.append_ #[t, t] ty #[.slice ax rows.length cx, .slice ay 0 cy]).run P w = .ok (.slice ax rows.length cx) w := by
        have hle : rows.length ≤ cx := hsx.1
        cases ay <;> cases ax <;> simp [Builtin.append_, run_underlying h1, sizeOf, typeInfo, h4, Builtin.lenOf, Builtin.firstCells, hle, storeCells, loadCells, loadCellsFrom]
      have hs2 := hsx
      obtain ⟨_, ⟨b, o, z', c, h13, h14⟩ | ⟨h13, h14⟩ | ⟨h13, h14⟩⟩ := hs2
      · rw [h13] at hok
        refine fin _ w (.mem b o z' c) hrun rfl rfl rfl (Nat.le_refl _) (fun _ _ _ => rfl) ?_ (fun k hk' => .inr (by rw [h13]; exact hk')) ?_
        · rw [hprt0 rfl, List.append_nil]
          exact Blk.ok_later (x := some (.mem b o z' c)) hok (Rho.le_set hfn) (Nat.le_refl _) fun _ _ => rfl
        · refine .of1 (SlOk.vr1 ⟨hsx.1, .inl ⟨b, o, z', c, by simp [Rho.set], h14⟩⟩)
      · rw [h13] at hok
        obtain ⟨z0, ow0, hnil⟩ := hok
        simp only [Blk.arr.injEq] at hnil
        refine fin _ w .nil hrun rfl rfl rfl (Nat.le_refl _) (fun _ _ _ => rfl) ⟨z, .ap e, by rw [hprt0 rfl, hnil.2.2]; rfl⟩ (fun k hk' => by simp [Base.blk] at hk') ?_
        refine .of1 (SlOk.vr1 ⟨hsx.1, .inr (.inl ⟨by simp [Rho.set], h14⟩)⟩)
      · rw [h13] at hok
        obtain ⟨z0, hnil⟩ := hok
        simp at hnil
    · have hmp : 0 < m := by omega
      obtain ⟨b2, o2, hay, news, hnl, hnr, hnc⟩ := sl_cells hsy hok2 hm hmp
      subst hay
      have hone := oneCell_of_vr hnr
      have hpz2 : ∀ r ∈ part rows2 k2 m, r.length = z := by
        intro r hr'
        have hmem : r ∈ rows2 := List.mem_of_mem_drop (List.mem_of_mem_take hr')
        cases hq : ρ j2 with
        | none => rw [hq] at hok2; exact hok2.elim
        | some xx =>
          rw [hq] at hok2
          cases xx with
          | mem => exact hok2.zok.1 ▸ hok2.zok.2 r hmem
          | nil => obtain ⟨_, _, hh⟩ := hok2; simp only [Blk.arr.injEq] at hh; rw [hh.2.2] at hmem; simp at hmem
          | any => obtain ⟨_, hh⟩ := hok2; simp only [Blk.arr.injEq] at hh; rw [hh.2.2] at hmem; simp at hmem
      have hpg2 : ∀ r ∈ part rows2 k2 m, r.all gnd1 = true := by
        intro r hr'
        have hmem : r ∈ rows2 := List.mem_of_mem_drop (List.mem_of_mem_take hr')
        cases hq : ρ j2 with
        | none => rw [hq] at hok2; exact hok2.elim
        | some xx =>
          rw [hq] at hok2
          cases xx with
          | mem => exact hok2.gok r hmem
          | nil => obtain ⟨_, _, hh⟩ := hok2; simp only [Blk.arr.injEq] at hh; rw [hh.2.2] at hmem; simp at hmem
          | any => obtain ⟨_, hh⟩ := hok2; simp only [Blk.arr.injEq] at hh; rw [hh.2.2] at hmem; simp at hmem
      have hnc' : ∀ i u, news[i]? = some u → w.cell? ((⟨b2, o2, none⟩ : Addr).add i) = some u := fun i u hu => by rw [add_at]; exact hnc i u hu
      -- a new block, whatever was there
      have grow : ∀ (olds : List Value), All2 (VR1 ρ) rows.flatten olds → (∀ r ∈ rows, r.length = z) → (∀ r ∈ rows, r.all gnd1 = true) → cx < rows.length + m →
          (Builtin.append_ #[t, t] ty #[.slice ax rows.length cx, .slice (some ⟨b2, o2, none⟩) m cy]).run P w =
            .ok (.slice (some ⟨w.heap.size, 0, none⟩) (rows.length + m) (grownCap w (rows.length + m) cx e)) (w.drew.alloc (.cells (olds.toArray ++ news.toArray ++ Builtin.zeroCells zz.cells (grownCap w (rows.length + m) cx e - (rows.length + m))) e)) →
          Oper.wp P ⟨d, .call { callee := .builtin .append, args := #[x, y], argTypes := #[t, t] }, ty, pos, aft, gd⟩ a w K Q := by
        intro olds hold hzr hgr hcx hrun
        have hge := grownCap_ge w (rows.length + m) cx e
        have hol := hold.len
        have hrf := flat_len' rows hzr
        have hsize : (olds.toArray ++ news.toArray ++ Builtin.zeroCells zz.cells (grownCap w (rows.length + m) cx e - (rows.length + m))).size = grownCap w (rows.length + m) cx e * z := by
          simp only [Array.size_append, List.size_toArray, size_zeroCells, hzc]
          rw [← hol, hrf, hnl, ← Nat.add_mul, ← Nat.add_mul]
          congr 1; omega
        have hle : Rho.le ρ (ρ.set H.length (.mem w.heap.size 0 z (olds.toArray ++ news.toArray ++ Builtin.zeroCells zz.cells (grownCap w (rows.length + m) cx e - (rows.length + m))).size)) := Rho.le_set hfn
        refine fin _ _ (.mem w.heap.size 0 z (olds.toArray ++ news.toArray ++ Builtin.zeroCells zz.cells (grownCap w (rows.length + m) cx e - (rows.length + m))).size) hrun rfl rfl rfl (by simp) (fun i hi _ => heap_alloc_old w.drew _ hi) ?_ (fun k hk' => by simp [Base.blk] at hk'; left; omega) ?_
        · refine okm_new_arr (w := w.drew) (fun r hr' => ?_) (fun r hr' => ?_) fun i u hu => ?_
          · rcases List.mem_append.1 hr' with hr' | hr'
            · exact hzr r hr'
            · exact hpz2 r hr'
          · rcases List.mem_append.1 hr' with hr' | hr'
            · exact hgr r hr'
            · exact hpg2 r hr'
          · rw [List.flatten_append] at hu
            have hall := (hold.append hnr)
            obtain ⟨y', g1, g2⟩ := hall.get i u hu
            refine ⟨y', ?_, g2.mono hle⟩
            have hlt2 : i < (olds ++ news).length := (List.getElem?_eq_some_iff.1 g1).1
            rw [Array.getElem?_append_left (by simpa using hlt2)]
            simpa using g1
        · refine .of1 (.sl (b := w.heap.size) (o := 0) (z := z) (c := (olds.toArray ++ news.toArray ++ Builtin.zeroCells zz.cells (grownCap w (rows.length + m) cx e - (rows.length + m))).size) (by simp only [Rho.set, if_pos]) hge (.inr ⟨by simp, ?_⟩))
          rw [hsize]; omega
      have hs2 := hsx
      obtain ⟨hle0, ⟨b, o, z', c, h13, h14⟩ | ⟨h13, h14⟩ | ⟨h13, h14⟩⟩ := hs2
      · rw [h13] at hok
        obtain ⟨hz', hzr⟩ := hok.zok
        subst hz'
        have ho : o = 0 := hok.at0 rfl
        subst ho
        obtain ⟨C, hC, hCs⟩ := hok.own
        have hrf := flat_len' rows hzr
        -- the old cells
        have hold : All2 (VR1 ρ) rows.flatten (C.toList.take (rows.length * z)) := by
          have hCl : rows.length * z ≤ C.size := by
            rcases Nat.eq_zero_or_pos (rows.length * z) with h | h
            · omega
            · have hlast : rows.length * z - 1 < rows.flatten.length := by omega
              obtain ⟨v', g1, _⟩ := hok.cell _ _ (List.getElem?_eq_getElem hlast)
              rw [cell_of_row w b _ C e _ hC] at g1
              have := (Array.getElem?_eq_some_iff.1 g1).1
              omega
          refine All2.of_get (by rw [hrf, List.length_take]; have hq : C.toList.length = C.size := Array.length_toList; omega) fun i u hu => ?_
          have hi : i < rows.length * z := by rw [← hrf]; exact (List.getElem?_eq_some_iff.1 hu).1
          obtain ⟨v', g1, g2⟩ := hok.cell i u hu
          rw [Nat.zero_add, cell_of_row w b i C e _ hC] at g1
          exact ⟨v', by rw [List.getElem?_take_of_lt hi]; simpa using g1, g2⟩
        by_cases hroom : rows.length + m ≤ cx
        · rcases h14 with h14 | ⟨h14, h15⟩
          · omega
          · simp only [Nat.zero_mul, Nat.add_zero, Nat.zero_add] at h14 h15
            subst h14
            have hfit : rows.length * ii.size + news.length ≤ C.size := by
              rw [hnl, h5, ← Nat.add_mul, hCs]
              exact Nat.le_trans (Nat.mul_le_mul_right _ hroom) h15
            have hrun := run_append_room (P := P) w t ty e ii h1 h4 b rows.length cx C hC ⟨b2, o2, none⟩ m cy news (by rw [hnl, h5]) hnc' hone hroom hfit
            rw [h5] at hrun hfit
            have hsz : (C.toList.take (rows.length * z) ++ news ++ C.toList.drop (rows.length * z + news.length)).toArray.size = c := by simp; omega
            have hle : Rho.le ρ (ρ.set H.length (.mem b 0 z c)) := Rho.le_set hfn
            have hblt : b < w.heap.size := hok.lt
            refine fin _ _ (.mem b 0 z c) hrun rfl rfl rfl (by simp) (fun i hi hni => setRow_other w b i _ (fun e2 => hni (by rw [h13]; simp [Base.blk, e2]))) ?_ (fun k hk' => .inr (by rw [h13]; exact hk')) ?_
            · refine ⟨⟨rfl, fun r hr' => ?_⟩, fun _ => rfl, ⟨_, setRow_heap w b C _ e _ hC, hsz⟩, by simpa using hblt, fun i u hu => ?_, fun r hr' => ?_⟩
              · rcases List.mem_append.1 hr' with hr' | hr'
                · exact hzr r hr'
                · exact hpz2 r hr'
              · simp only [Blk.cells, List.flatten_append] at hu
                obtain ⟨y', g1, g2⟩ := (hold.append hnr).get i u hu
                refine ⟨y', ?_, g2.mono hle⟩
                have hlt2 : i < (C.toList.take (rows.length * z) ++ news).length := (List.getElem?_eq_some_iff.1 g1).1
                rw [Nat.zero_add, cell_of_row _ b i _ e _ (setRow_heap w b C _ e _ hC)]
                rw [List.getElem?_toArray, List.getElem?_append_left hlt2]
                exact g1
              · rcases List.mem_append.1 hr' with hr' | hr'
                · exact hok.gok r hr'
                · exact hpg2 r hr'
            · exact .of1 (.sl (by simp [Rho.set]; exact ⟨rfl, rfl, rfl, rfl⟩) hroom (.inr ⟨by simp, by omega⟩))
        · have hcx : cx < rows.length + m := by omega
          refine grow _ hold hzr hok.gok hcx ?_
          rcases h14 with h14 | ⟨h14, h15⟩
          · -- nothing was there
            subst h14
            have hl0 : rows.length = 0 := by omega
            have hr0 : rows = [] := List.eq_nil_of_length_eq_zero hl0
            subst hr0
            cases ax with
            | none =>
              have := run_append_nil (P := P) w t ty e ii zz h1 h4 h7 ⟨b2, o2, none⟩ m cy news (by rw [hnl, h5]) hnc' hmp (by simp at h63; omega) (by simp at hb; rw [h6]; omega)
              simpa using this
            | some ad =>
              have := run_append_grow (P := P) w t ty e ii zz h1 h4 h7 ad 0 0 [] (by simp) (fun j v h => by simp at h) ⟨b2, o2, none⟩ m cy news (by rw [hnl, h5]) hnc' (by omega) (by simp at h63; omega) (growslice_fits (by omega) (by rw [h6]; simpa using hb))
              simpa using this
          · simp only [Nat.zero_mul, Nat.add_zero] at h14
            subst h14
            refine run_append_grow (P := P) w t ty e ii zz h1 h4 h7 ⟨b, 0, none⟩ rows.length cx _ (by rw [h5]; have := hold.len; omega) (fun i u hu => ?_) ⟨b2, o2, none⟩ m cy news (by rw [hnl, h5]) hnc' hcx (by omega) (growslice_fits hcx (by rw [h6]; exact hb))
            rw [add_at, Nat.zero_add, cell_of_row w b i C e _ hC]
            have hi : i < rows.length * z := by
              have := (List.getElem?_eq_some_iff.1 hu).1
              have h0 := hold.len
              omega
            rw [List.getElem?_take_of_lt hi] at hu
            simpa using hu
      · rw [h13] at hok
        obtain ⟨z0, ow0, hnil⟩ := hok
        simp only [Blk.arr.injEq] at hnil
        have hr0 : rows = [] := hnil.2.2
        subst hr0
        subst h14
        refine grow [] .nil (by simp) (by simp) (by simp; omega) ?_
        cases ax with
        | none =>
          have := run_append_nil (P := P) w t ty e ii zz h1 h4 h7 ⟨b2, o2, none⟩ m cy news (by rw [hnl, h5]) hnc' hmp (by simp at h63; omega) (by simp at hb; rw [h6]; omega)
          simpa using this
        | some ad =>
          have := run_append_grow (P := P) w t ty e ii zz h1 h4 h7 ad 0 0 [] (by simp) (fun j v h => by simp at h) ⟨b2, o2, none⟩ m cy news (by rw [hnl, h5]) hnc' (by omega) (by simp at h63; omega) (growslice_fits (by omega) (by rw [h6]; simpa using hb))
          simpa using this
      · rw [h13] at hok
        obtain ⟨z0, hnil⟩ := hok
        simp at hnil

/-! ### texts and bytes -/

/-- The cells of bytes, one to an element. -/
def bys (l : List UInt8) : List (List Value) := l.map fun b => [.int .u8 (b.toNat : Int)]
theorem bys_len (l : List UInt8) : (bys l).length = l.length := by simp [bys]
theorem bys_flat (l : List UInt8) : (bys l).flatten = l.map fun b => .int .u8 (b.toNat : Int) := by
  induction l with
  | nil => rfl
  | cons a l ih => simp only [bys, List.map_cons, List.flatten_cons] at ih ⊢; rw [ih]; rfl

theorem ok_bytes {src dst : TypeId} {x : Operand} {s : ByteArray} {e by' : Nat} {zs : List Value} (hT : T.ok P) (ht : tlook T.sl dst = some (e, 1, by', zs)) (hs : isStr P src = true) (hu : isInt P e = some .u8) (hx : env.get x = some (.string s)) :
    OpOK P ⟨d, .convert src dst x, ty, pos, aft, gd⟩ env H (.slice (some ⟨H.length, 0, some 0⟩) s.size s.size) (H ++ [.arr 1 .rw (bys s.data.toList)]) [] [] :=
  .make (by simp) fun ρ a w hev hr hn => by
    obtain ⟨h1, h2, h3, ii, zz, h4, h5, h6, h7, h8⟩ := slChk_ok (hT.slOf ht)
    have h9 : P.underlying e = some (.int .u8) := by unfold isInt at hu; split at hu <;> simp_all
    have h10 : P.underlying src = some .string := by unfold isStr at hs; split at hs <;> simp_all
    have e1 := (hev x (by simp [Op.operands]) _ hx).str_inv
    have hrun := run_bytes_of_string (P := P) w src dst e s h10 h1 h9
    have hge := grownCap_ge w s.size 0 e
    have hbs : (bytesRow s (grownCap w s.size 0 e)).size = grownCap w s.size 0 e := by simp [bytesRow]; omega
    refine ⟨.slice (some ⟨w.heap.size, 0, none⟩) s.size (grownCap w s.size 0 e), _, .mem w.heap.size 0 1 (bytesRow s (grownCap w s.size 0 e)).size, by simp only [execOp, Sem.run_bind, e1, hrun]; rfl, ((WExt.refl w).drew.trans (WExt.alloc w.drew _)), fun k hk => by simp [Base.blk] at hk; omega, ?_, ?_⟩
    · refine ⟨⟨rfl, fun r hr' => by obtain ⟨b, _, rfl⟩ := List.mem_map.1 hr'; rfl⟩, fun _ => rfl, ⟨_, e, _, heap_alloc_new w.drew _, .inr (Nat.le_refl _), rfl⟩, by simp, fun i u hi => ?_, fun r hr' => by obtain ⟨b, _, rfl⟩ := List.mem_map.1 hr'; rfl⟩
      simp only [Blk.cells, bys_flat] at hi
      have hl : i < s.data.toList.length := by simpa using (List.getElem?_eq_some_iff.1 hi).1
      refine ⟨u, ?_, ?_⟩
      · rw [Nat.zero_add, cell_of_row _ w.heap.size _ _ _ _ (heap_alloc_new w.drew _)]
        simp only [bytesRow]
        rw [Array.getElem?_append_left (by simpa using hl)]
        rw [← hi]; simp
      · rw [List.getElem?_map] at hi
        obtain ⟨b, _, rfl⟩ := Option.map_eq_some_iff.1 hi
        exact .int _ _
    · refine .of1 (.sl (by simp [Rho.set]; exact ⟨rfl, rfl, rfl, rfl⟩) hge (.inr ⟨by simp, ?_⟩))
      rw [hbs]; omega

theorem ok_string {src dst : TypeId} {x : Operand} {l : List UInt8} {j k m : Nat} {e by' : Nat} {zs : List Value} {ow : Ow} {rows : List (List Value)} (hT : T.ok P) (ht : tlook T.sl src = some (e, 1, by', zs)) (hd : isStr P dst = true) (hu : isInt P e = some .u8)
    (hx : env.get x = some (.slice (some ⟨j, 0, some k⟩) m m)) (hj : H[j]? = some (.arr 1 ow rows)) (hm : k + m ≤ rows.length) (hl : part rows k m = bys l) :
    OpOK P ⟨d, .convert src dst x, ty, pos, aft, gd⟩ env H (.string ⟨l.toArray⟩) H [j] [] :=
  .read (fun i hi => by simp at hi; subst hi; exact (List.getElem?_eq_some_iff.1 hj).1) fun ρ a w hev hr => by
    obtain ⟨h1, h2, h3, ii, zz, h4, h5, h6, h7, h8⟩ := slChk_ok (hT.slOf ht)
    have h9 : P.underlying e = some (.int .u8) := by unfold isInt at hu; split at hu <;> simp_all
    have h10 : P.underlying dst = some .string := by unfold isStr at hd; split at hd <;> simp_all
    have hmm : mask H.length ([j] ++ []) H j = .arr 1 ow rows := mask_at hj rfl (by simp)
    have hok := hr.ok j (by rw [hmm]; rfl)
    rw [hmm] at hok
    obtain ⟨ax, cx, h11, hsx⟩ := (hev x (by simp [Op.operands]) _ hx).sl_inv
    have hlm : l.length = m := by
      have := congrArg List.length hl
      rw [bys_len] at this
      simp [part] at this; omega
    refine ⟨.string ⟨l.toArray⟩, ?_, .of1 (.str _)⟩
    by_cases hm0 : m = 0
    · have hl0 : l = [] := List.eq_nil_of_length_eq_zero (by omega)
      subst hl0; subst hm0
      have : (convert src dst (.slice ax 0 cx)).run P w = .ok (.string ⟨([] : List UInt8).toArray⟩) w := by
        cases ax with
        | none => exact run_convert_bytes_nil w src e h1 h9 0 cx dst h10
        | some ad => exact run_convert_bytes_back w src dst e ad cx [] h1 h9 h10 (fun j hj => by simp at hj)
      simp only [execOp, Sem.run_bind, h11, this]; rfl
    · obtain ⟨b, o, rfl, news, hnl, hnr, hnc⟩ := sl_cells hsx hok hm (by omega)
      rw [hl, bys_flat] at hnr
      have hnews : news = l.map fun b => .int .u8 (b.toNat : Int) := by
        refine hnr.eq_of_mem fun x hx y hy => ?_
        obtain ⟨b', _, rfl⟩ := List.mem_map.1 hx
        exact hy.eq rfl
      have := run_convert_bytes_back (P := P) w src dst e ⟨b, o, none⟩ cx l h1 h9 h10 (fun i hi => by
        rw [add_at]
        refine hnc i _ ?_
        rw [hnews]; simp [List.getElem?_eq_getElem hi])
      rw [hlm] at this
      simp only [execOp, Sem.run_bind, h11, this]; rfl
end
end Go.Proofs.Ytgkedbhpeafbbaa

/-
  The operations that make memory or write into it: variables, structs, slices, appends.
  Conditions: each law states its own.
-/
import Derived.Test.YtgkedbhpeafbbaaEngC
set_option linter.unusedSimpArgs false
set_option linter.unusedVariables false
namespace Go.Proofs.Ytgkedbhpeafbbaa
open Go.RowKit

theorem oneCell_of_vr {ρ : Rho} {xs ys : List Value} (h : All2 (VR1 ρ) xs ys) : ∀ v ∈ ys, v.oneCell' = true := by
  intro v hv
  obtain ⟨i, hi⟩ := List.getElem?_of_mem hv
  have hlt : i < xs.length := by rw [h.len]; exact (List.getElem?_eq_some_iff.1 hi).1
  obtain ⟨y, h1, h2⟩ := h.get i xs[i] (List.getElem?_eq_getElem hlt)
  rw [hi] at h1; simp at h1; subst h1; exact h2.one

/-- A new row of memory. -/
theorem okm_new_row {ρ : Rho} {w : World} {cs cs' : List Value} {e : TypeId} {z : Nat} (h : All2 (VR1 ρ) cs cs') : (Blk.row cs).okm ρ (w.alloc (.cells cs'.toArray e)) w.heap.size 0 z cs'.length where
  zok := trivial
  at0 _ := rfl
  own := ⟨cs'.toArray, e, (0, 0), heap_alloc_new w _, .inl (Nat.le_refl _), by simp⟩
  lt := by simp
  cell i v hv := by
    obtain ⟨y, h1, h2⟩ := h.get i v hv
    exact ⟨y, by rw [Nat.zero_add, cell_of_row _ _ _ _ _ _ (heap_alloc_new w _)]; simpa using h1, h2⟩
  gok := trivial

theorem okm_new_arr {ρ : Rho} {w : World} {z : Nat} {rows : List (List Value)} {C : Array Value} {e : TypeId} (hz : ∀ r ∈ rows, r.length = z) (hg : ∀ r ∈ rows, r.all gnd1 = true)
    (h : ∀ (i : Nat) (v : Value), rows.flatten[i]? = some v → ∃ v' : Value, C[i]? = some v' ∧ VR1 ρ v v') : (Blk.arr z (.ap e) rows).okm ρ (w.alloc (.cells C e)) w.heap.size 0 z C.size where
  zok := ⟨rfl, hz⟩
  at0 _ := rfl
  own := ⟨C, heap_alloc_new w _, rfl⟩
  lt := by simp
  cell i v hv := by
    obtain ⟨y, h1, h2⟩ := h i v hv
    exact ⟨y, by rw [Nat.zero_add, cell_of_row _ _ _ _ _ _ (heap_alloc_new w _)]; exact h1, h2⟩
  gok := hg

def zeroOk : Value → Bool
  | .slice none 0 0 => true
  | .pointer none => true
  | v => gnd1 v
theorem zeroOk_vr {ρ : Rho} {v : Value} (h : zeroOk v = true) : VR1 ρ v v := by
  unfold zeroOk at h
  split at h
  · exact .nils
  · exact .nilp
  · exact .of_gnd h

section
variable {P : Program} {T : Tabs} {env : Env} {H : List Blk} {v : Value} {d : Option Tmp} {ty : TypeId} {pos : String} {aft : Array Edge} {gd : Option (Nat × Bool)}

theorem ok_alloc {t n : Nat} {r : Bool} {zs : List Value} (hT : T.ok P) (ht : tlook T.ty t = some (r, n, zs)) (hz : zs.all zeroOk = true) :
    OpOK P ⟨d, .alloc t, ty, pos, aft, gd⟩ env H (.pointer (some ⟨H.length, 0, none⟩)) (H ++ [.row zs]) [] [] :=
  .make (by simp) fun ρ a w he hr hn => by
    obtain ⟨_, i, z, h1, h2, h3, h4⟩ := tyChk_ok (hT.tyOf ht)
    have hv : All2 (VR1 (ρ.set H.length (.mem w.heap.size 0 0 zs.length))) zs zs := All2.refl _ fun x hx => zeroOk_vr (List.all_eq_true.1 hz x hx)
    refine ⟨.pointer (some ⟨w.heap.size, 0, none⟩), w.alloc (.cells zs.toArray t), .mem w.heap.size 0 0 zs.length, ?_, WExt.alloc _ _, fun k hk => by simp [Base.blk] at hk; omega, okm_new_row hv, ?_⟩
    · have : z.cells = zs.toArray := by rw [← h4]
      simp [execOp, Instr.alloc, zeroValue, typeInfo, h1, h3, newVar, newRow, this]
    · exact .of1 (by simpa using VR1.ptr (ρ := ρ.set H.length (.mem w.heap.size 0 0 zs.length)) (j := H.length) (s := 0) (sp := none) (b := w.heap.size) (o := 0) (z := 0) (c := zs.length) (by simp [Rho.set]))

theorem ok_box {t : TypeId} {x : Operand} {u : Value} {cs : List Value} (hx : env.get x = some u) (hc : u.cells.toList = cs) (hu : ∀ (ρ : Rho) (u' : Value), VR ρ u u' → VR2 ρ u u') :
    OpOK P ⟨d, .box t x, ty, pos, aft, gd⟩ env H (.pointer (some ⟨H.length, 0, none⟩)) (H ++ [.row cs]) [] [] :=
  .make (by simp) fun ρ a w he hr hn => by
    subst hc
    have h1 := he x (by simp [Op.operands]) _ hx
    have h2 := VR.cells (hu _ _ h1)
    have hle : Rho.le ρ (ρ.set H.length (.mem w.heap.size 0 0 (a.eval x).cells.size)) := Rho.le_set hn
    have h3 : All2 (VR1 (ρ.set H.length (.mem w.heap.size 0 0 (a.eval x).cells.size))) u.cells.toList (a.eval x).cells.toList := h2.mono fun _ _ => VR1.mono hle
    refine ⟨.pointer (some ⟨w.heap.size, 0, none⟩), w.alloc (.cells (a.eval x).cells t), .mem w.heap.size 0 0 (a.eval x).cells.size, ?_, WExt.alloc _ _, fun k hk => by simp [Base.blk] at hk; omega, ?_, ?_⟩
    · simp [execOp, Instr.box, newVar, newRow]
    · have := okm_new_row (w := w) (e := t) (z := 0) h3
      have e2 : (a.eval x).cells.toList.length = (a.eval x).cells.size := by simp
      rw [e2, Array.toArray_toList] at this
      exact this
    · exact .of1 (by simpa using VR1.ptr (ρ := ρ.set H.length (.mem w.heap.size 0 0 (a.eval x).cells.size)) (j := H.length) (s := 0) (sp := none) (b := w.heap.size) (o := 0) (z := 0) (c := (a.eval x).cells.size) (by simp [Rho.set]))

theorem vr2_agg {ρ : Rho} {cs : Array Value} {u : Value} (h : VR ρ (.agg cs) u) : VR2 ρ (.agg cs) u := by cases h with | two h => exact h
theorem vr2_int {ρ : Rho} {k : IntKind} {n : Int} {u : Value} (h : VR ρ (.int k n) u) : VR2 ρ (.int k n) u := by cases h with | two h => exact h
theorem vr2_bool {ρ : Rho} {b : Bool} {u : Value} (h : VR ρ (.bool b) u) : VR2 ρ (.bool b) u := by cases h with | two h => exact h
theorem vr2_str {ρ : Rho} {s : ByteArray} {u : Value} (h : VR ρ (.string s) u) : VR2 ρ (.string s) u := by cases h with | two h => exact h
theorem vr2_sl {ρ : Rho} {a : Option Addr} {n m : Nat} {u : Value} (h : VR ρ (.slice a n m) u) : VR2 ρ (.slice a n m) u := by cases h with | two h => exact h
theorem vr2_ptr {ρ : Rho} {a : Option Addr} {u : Value} (h : VR ρ (.pointer a) u) : VR2 ρ (.pointer a) u := by cases h with | two h => exact h

theorem add_at (b o n : Nat) : (⟨b, o, none⟩ : Addr).add n = ⟨b, o + n, none⟩ := Addr.add_mid b o n

theorem ok_fieldAddr {s f off : Nat} {x : Operand} {j c : Nat} {sp : Option Nat} (hT : T.ok P) (ht : flook T.fld s f = some off) (hx : env.get x = some (.pointer (some ⟨j, c, sp⟩))) :
    OpOK P ⟨d, .fieldAddr s x f, ty, pos, aft, gd⟩ env H (.pointer (some ⟨j, c + off, sp⟩)) H [] [] :=
  .pure fun ρ a he => by
    have hf := hT.fldOf ht
    obtain ⟨b, o, z, cc, h1, h2⟩ := (he x (by simp [Op.operands]) _ hx).ptr_inv
    refine ⟨.pointer (some ⟨b, o + sp.getD 0 * z + (c + off), none⟩), fun w => ?_, .of1 (.ptr h1)⟩
    unfold fldChk at hf
    split at hf
    · rename_i fs h3
      split at hf
      · rename_i fl h4
        split at hf
        · rename_i i h5
          split at hf
          · cases hf
          · rename_i h6
            simp only [Option.some.injEq] at hf
            subst hf
            simp [execOp, h2, Instr.fieldAt, run_underlying h3, h4, Instr.sureAddr, fieldPlace, sizeOf, typeInfo, h5, h6, add_at, Nat.add_assoc]
        · cases hf
      · cases hf
    · cases hf

/-- The element of a slice. -/
theorem ok_indexAddr {t : TypeId} {x i : Operand} {j k n : Nat} {kk : IntKind} {m : Nat} {e z by' : Nat} {zs : List Value} {ow : Ow} {rows : List (List Value)} (hT : T.ok P) (ht : tlook T.sl t = some (e, z, by', zs))
    (hx : env.get x = some (.slice (some ⟨j, 0, some k⟩) n n)) (hi : env.get i = some (.int kk (m : Int))) (hj : H[j]? = some (.arr z ow rows)) (hm : m < n) :
    OpOK P ⟨d, .indexAddr t x i, ty, pos, aft, gd⟩ env H (.pointer (some ⟨j, 0, some (k + m)⟩)) H [j] [] :=
  .read (fun i hi => by simp at hi; subst hi; exact (List.getElem?_eq_some_iff.1 hj).1) fun ρ a w he hr => by
    obtain ⟨h1, h2, h3, ii, zz, h4, h5, h6, h7, h8⟩ := slChk_ok (hT.slOf ht)
    obtain ⟨ad, mc, h9, h10, h11⟩ := (he x (by simp [Op.operands]) _ hx).sl_inv
    have h12 := (he i (by simp [Op.operands]) _ hi).int_inv
    have hmm : mask H.length ([j] ++ []) H j = .arr z ow rows := mask_at hj rfl (by simp)
    have hok := hr.ok j (by rw [hmm]; rfl)
    rw [hmm] at hok
    rcases h11 with ⟨b, o, z', c, h13, h14⟩ | ⟨h13, h14⟩ | ⟨h13, h14⟩
    · rw [h13] at hok
      obtain ⟨hz1, _⟩ := hok.zok
      subst hz1
      rcases h14 with h14 | ⟨h14, h15⟩
      · omega
      · subst h14
        refine ⟨.pointer (some ⟨b, o + (k + m) * z + 0, none⟩), ?_, .of1 (by simpa using VR1.ptr (ρ := ρ) (j := j) (s := 0) (sp := some (k + m)) h13)⟩
        have c1 : (0 : Int) ≤ (m : Int) ∧ (m : Int) < (n : Int) := by omega
        simp [execOp, h9, h12, Instr.indexAt, asIntOf, run_underlying h1, c1, hm, Nat.not_le.2 hm, sizeOf, typeInfo, h4, h5, add_at, Nat.add_mul, Nat.add_assoc]
    · omega
    · omega

/-- A part of a slice. -/
theorem ok_slice {t : TypeId} {x : Operand} {j k n : Nat} {lo hi : Option Operand} {l h : Nat} {e z by' : Nat} {zs : List Value} {ow : Ow} {rows : List (List Value)} (hT : T.ok P) (ht : tlook T.sl t = some (e, z, by', zs))
    (hx : env.get x = some (.slice (some ⟨j, 0, some k⟩) n n)) (hj : H[j]? = some (.arr z ow rows))
    (hlo : match lo with | some y => env.get y = some (.int .i64 (l : Int)) | none => l = 0) (hhi : match hi with | some y => env.get y = some (.int .i64 (h : Int)) | none => h = n) (hlh : l ≤ h) (hhn : h ≤ n) :
    OpOK P ⟨d, .slice t x lo hi none, ty, pos, aft, gd⟩ env H (.slice (some ⟨j, 0, some (k + l)⟩) (h - l) (h - l)) H [j] [] :=
  .read (fun i hi => by simp at hi; subst hi; exact (List.getElem?_eq_some_iff.1 hj).1) fun ρ a w he hr => by
    obtain ⟨h1, h2, h3, ii, zz, h4, h5, h6, h7, h8⟩ := slChk_ok (hT.slOf ht)
    obtain ⟨ad, mc, h9, h10, h11⟩ := (he x (by cases lo <;> cases hi <;> simp [Op.operands]) _ hx).sl_inv
    have hmm : mask H.length ([j] ++ []) H j = .arr z ow rows := mask_at hj rfl (by simp)
    have hok := hr.ok j (by rw [hmm]; rfl)
    rw [hmm] at hok
    have c0 : h ≤ mc := by omega
    have c1 : (0 : Int) ≤ (h : Int) ∧ (h : Int) ≤ (mc : Int) := by omega
    have c2 : (0 : Int) ≤ (l : Int) ∧ (l : Int) ≤ (h : Int) := by omega
    refine ⟨.slice (if mc = l then ad else ad.map (·.add (l * z))) (h - l) (mc - l), ?_, .of1 (SlOk.vr1 ⟨by omega, ?_⟩)⟩
    · cases lo with
      | none =>
        dsimp only at hlo; subst hlo
        cases hi with
        | none => dsimp only at hhi; subst hhi; simp [execOp, h9, Instr.sliceAt, Instr.slice, Instr.sliceBounds, run_underlying h1, sizeOf, typeInfo, h4, h5]
        | some y =>
          dsimp only at hhi
          have e2 := (he y (by simp [Op.operands]) _ hhi).int_inv
          simp [execOp, h9, e2, Instr.sliceAt, Instr.slice, Instr.sliceBounds, Instr.sliceBound, asIntOf, run_underlying h1, sizeOf, typeInfo, h4, h5, c1, c0, Nat.not_lt.2 c0]
      | some y' =>
        dsimp only at hlo
        have e3 := (he y' (by cases hi <;> simp [Op.operands]) _ hlo).int_inv
        cases hi with
        | none => dsimp only at hhi; subst hhi; simp [execOp, h9, e3, Instr.sliceAt, Instr.slice, Instr.sliceBounds, Instr.sliceBound, asIntOf, run_underlying h1, sizeOf, typeInfo, h4, h5, c2, hlh, Nat.not_lt.2 hlh]
        | some y =>
          dsimp only at hhi
          have e2 := (he y (by simp [Op.operands]) _ hhi).int_inv
          simp [execOp, h9, e2, e3, Instr.sliceAt, Instr.slice, Instr.sliceBounds, Instr.sliceBound, asIntOf, run_underlying h1, sizeOf, typeInfo, h4, h5, c1, c2, c0, hlh]
    · rcases h11 with ⟨b, o, z', c, h13, h14⟩ | ⟨h13, h14⟩ | ⟨h13, h14⟩
      · rw [h13] at hok
        obtain ⟨hz1, _⟩ := hok.zok
        subst hz1
        refine .inl ⟨b, o, z, c, h13, ?_⟩
        by_cases hml : mc = l
        · left; omega
        · right
          rw [if_neg hml]
          rcases h14 with h14 | ⟨h14, h15⟩
          · omega
          · subst h14
            refine ⟨by simp [add_at, Nat.add_mul, Nat.add_assoc], ?_⟩
            have : (k + l) * z + (mc - l) * z = k * z + mc * z := by
              rw [← Nat.add_mul, ← Nat.add_mul]; congr 1; omega
            omega
      · exact .inr (.inl ⟨h13, by omega⟩)
      · exact .inr (.inr ⟨h13, by omega⟩)

/-! ### stores -/

def Blk.upd (b : Blk) (sp : Option Nat) (cs : List Value) : Blk :=
  match b, sp with
  | .row _, none => .row cs
  | .arr z ow rows, some k => .arr z ow (rows.set k cs)
  | b, _ => b

theorem setCells_heap (b : Nat) : ∀ (vs : List Value) (o : Nat) (w : World) (i : Nat), i ≠ b → (w.setCells b o vs).heap[i]? = w.heap[i]?
  | [], _, _, _, _ => rfl
  | v :: vs, o, w, i, h => by
    rw [World.setCells, setCells_heap b vs (o + 1) _ i h]
    exact Below.heap_setCell w ⟨b, o, none⟩ v i h
theorem setCells_size (b : Nat) : ∀ (vs : List Value) (o : Nat) (w : World), (w.setCells b o vs).heap.size = w.heap.size
  | [], _, _ => rfl
  | v :: vs, o, w => by rw [World.setCells, setCells_size b vs]; simp [World.setCell]
theorem setCells_rest (b : Nat) : ∀ (vs : List Value) (o : Nat) (w : World), (w.setCells b o vs).os = w.os ∧ (w.setCells b o vs).tape = w.tape ∧ (w.setCells b o vs).output = w.output
  | [], _, _ => ⟨rfl, rfl, rfl⟩
  | v :: vs, o, w => by rw [World.setCells]; exact setCells_rest b vs (o + 1) _
theorem setCells_block (b : Nat) : ∀ (vs : List Value) (o : Nat) (w : World) (C : Array Value) (e : TypeId) (f : Nat × Nat), w.heap[b]? = some (.cells C e f) → ∃ C', (w.setCells b o vs).heap[b]? = some (.cells C' e f) ∧ C'.size = C.size
  | [], _, _, C, _, _, h => ⟨C, h, rfl⟩
  | v :: vs, o, w, C, e, f, h => by
    obtain ⟨C', h1, h2⟩ := setCells_block b vs (o + 1) (w.setCell ⟨b, o, none⟩ v) (C.setIfInBounds o v) e f (by simp [World.setCell, Array.getElem?_modify, h])
    exact ⟨C', h1, by simpa using h2⟩

theorem there_of {w : World} {k c : Nat} (h : OwnB w k c) {o n : Nat} (hn : o + n ≤ c) : w.there k o n := fun j hj => by
  obtain ⟨C, e, f, h1, h2, h3⟩ := h
  constructor
  · rw [cell_of_row w k (o + j) C e f h1]; simp [show o + j < C.size by omega]
  · unfold World.frozen?; simp only [h1]
    simp only [Bool.and_eq_false_imp, decide_eq_true_eq, decide_eq_false_iff_not]; omega

theorem run_storeAt_cells (w : World) (b o : Nat) (t : TypeId) (u : Value) (ht : w.there b o u.cells.size) (hi : (P.info? t).map (·.size) = some u.cells.size) (h1 : u.cells.all (·.oneCell') = true) :
    (Instr.storeAt t (.pointer (some ⟨b, o, none⟩)) u).run P w = .ok () (w.setCells b o u.cells.toList) := by
  have := run_storeVar_mid (P := P) w b o t u.cells ht hi h1
  simp only [Instr.storeAt, Instr.sureAddr, Sem.run_bind, Sem.run_pure, Result.andThen_ok]
  simp only [storeVar, Value.cells] at this ⊢
  exact this

theorem okm_ownB {ρ : Rho} {w : World} {b : Blk} {k o z c : Nat} (h : b.okm ρ w k o z c) (hb : b.own = true) : OwnB w k c := by
  have ho := h.own
  cases b with
  | dead => simp [Blk.own] at hb
  | row cs => exact ho
  | arr z' ow rows =>
    cases ow with
    | ro => simp [Blk.own, Ow.own] at hb
    | rw => exact ho
    | ap e => obtain ⟨C, h1, h2⟩ := ho; exact ⟨C, e, (0, 0), h1, .inl (Nat.le_refl _), h2⟩

theorem cell_bound {w : World} {k c : Nat} (h : OwnB w k c) {i : Nat} {u : Value} (hc : w.cell? ⟨k, i, none⟩ = some u) : i < c := by
  obtain ⟨C, e, f, h1, _, h3⟩ := h
  rw [cell_of_row w k i C e f h1] at hc
  have := (Array.getElem?_eq_some_iff.1 hc).1
  omega

/-- A store. -/
theorem ok_store {t : TypeId} {x y : Operand} {j s z n : Nat} {sp : Option Nat} {b : Blk} {cs cs' : List Value} {u : Value} {vs zs : List Value} {r : Bool} (hT : T.ok P) (ht : tlook T.ty t = some (r, n, zs))
    (hx : env.get x = some (.pointer (some ⟨j, s, sp⟩))) (hy : env.get y = some u) (hu : ∀ (ρ : Rho) (u' : Value), VR ρ u u' → VR2 ρ u u') (hvs : u.cells.toList = vs) (hn : vs.length = n)
    (hj : H[j]? = some b) (hb : b.own = true) (hp : b.part sp z cs) (hs : splice cs s vs = some cs') (hlen : 0 < vs.length) (hg : sp = none ∨ vs.all gnd1 = true) : OpOK P ⟨d, .store t x y, ty, pos, aft, gd⟩ env H undef (H.set j (b.upd sp cs')) [] [j] :=
  .write (by simp) hj hb (by cases b <;> cases sp <;> simp_all [Blk.upd, Blk.own, Blk.part]) (fun ρ a w he hr k o z2 c hq hok => by
    subst hvs
    obtain ⟨_, ii, zz, h9, h10, _, _⟩ := tyChk_ok (hT.tyOf ht)
    obtain ⟨k', o', z', c', h3, h4⟩ := (he x (by simp [Op.operands]) _ hx).ptr_inv
    rw [hq] at h3
    simp only [Option.some.injEq, Base.mem.injEq] at h3
    obtain ⟨rfl, rfl, rfl, rfl⟩ := h3
    have hu2 := VR.cells (hu _ _ (he y (by simp [Op.operands]) _ hy))
    have hl := hu2.len
    obtain ⟨g1, g2, g3⟩ := splice_get hs
    have hown := okm_ownB hok hb
    have ho : o = 0 := hok.at0 hb
    -- the last cell that is written is there
    have hbound : o + sp.getD 0 * z2 + s + (a.eval y).cells.size ≤ c := by
      have h5 : s + u.cells.toList.length - 1 < cs.length := by omega
      obtain ⟨u', h6, _⟩ := Blk.okm.part_cell hok hp (List.getElem?_eq_getElem h5)
      have := cell_bound hown h6
      have e : (a.eval y).cells.toList.length = (a.eval y).cells.size := by simp
      omega
    have hthere := there_of hown hbound
    have hone : (a.eval y).cells.all (·.oneCell') = true := Array.all_eq_true_iff_forall_mem.2 fun v hv => oneCell_of_vr hu2 v (by simpa using hv)
    have hsz : (P.info? t).map (·.size) = some (a.eval y).cells.size := by
      rw [h9]; simp only [Option.map_some, Option.some.injEq]; rw [h10, ← hn, hl]; simp
    have hrun := run_storeAt_cells (P := P) w k (o + sp.getD 0 * z2 + s) t (a.eval y) hthere hsz hone
    obtain ⟨r1, r2, r3⟩ := setCells_rest k (a.eval y).cells.toList (o + sp.getD 0 * z2 + s) w
    refine ⟨w.setCells k (o + sp.getD 0 * z2 + s) (a.eval y).cells.toList, ?_, r1, r2, r3, setCells_size _ _ _ _, fun i hi => setCells_heap k _ _ _ i hi, ?_⟩
    · simp only [execOp, h4, Sem.run_bind, hrun]; rfl
    -- the block behind the store
    have inn : ∀ i, i < (a.eval y).cells.toList.length → (w.setCells k (o + sp.getD 0 * z2 + s) (a.eval y).cells.toList).cell? ⟨k, o + sp.getD 0 * z2 + s + i, none⟩ = (a.eval y).cells.toList[i]? := fun i hi => by
      rw [World.cell?_setCells_in k _ _ _ (fun i hi => (hthere i (by simpa using hi)).1) i hi, List.getElem?_eq_getElem hi]
    have out : ∀ i, i < o + sp.getD 0 * z2 + s ∨ o + sp.getD 0 * z2 + s + (a.eval y).cells.toList.length ≤ i → (w.setCells k (o + sp.getD 0 * z2 + s) (a.eval y).cells.toList).cell? ⟨k, i, none⟩ = w.cell? ⟨k, i, none⟩ := fun i hi =>
      World.cell?_setCells_out k _ _ _ ⟨k, i, none⟩ fun _ _ => hi
    have part' : ∀ i u0, cs'[i]? = some u0 → ∃ v', (w.setCells k (o + sp.getD 0 * z2 + s) (a.eval y).cells.toList).cell? ⟨k, o + sp.getD 0 * z2 + i, none⟩ = some v' ∧ VR1 ρ u0 v' := fun i u0 hi => by
      rw [g3 i] at hi
      by_cases hin : s ≤ i ∧ i < s + u.cells.toList.length
      · rw [if_pos hin] at hi
        obtain ⟨v', h6, h7⟩ := hu2.get _ _ hi
        refine ⟨v', ?_, h7⟩
        have := inn (i - s) (by omega)
        rw [show o + sp.getD 0 * z2 + s + (i - s) = o + sp.getD 0 * z2 + i by omega] at this
        rw [this]; exact h6
      · rw [if_neg hin] at hi
        obtain ⟨v', h6, h7⟩ := Blk.okm.part_cell hok hp hi
        refine ⟨v', ?_, h7⟩
        rw [out _ (by omega)]; exact h6
    have hheap : ∀ C e f, w.heap[k]? = some (.cells C e f) → ∃ C', (w.setCells k (o + sp.getD 0 * z2 + s) (a.eval y).cells.toList).heap[k]? = some (.cells C' e f) ∧ C'.size = C.size := fun C e f h => setCells_block k _ _ _ C e f h
    cases b with
    | dead => simp [Blk.own] at hb
    | row cs0 =>
      cases sp with
      | some _ => simp [Blk.part] at hp
      | none =>
        simp only [Blk.part] at hp
        subst hp
        refine ⟨trivial, fun _ => ho, ?_, by rw [setCells_size]; exact hok.lt, fun i u0 hi => ?_, trivial⟩
        · obtain ⟨C, e, f, h1, h2, h3⟩ := hown
          obtain ⟨C', h5, h6⟩ := hheap C e f h1
          exact ⟨C', e, f, h5, by omega, by omega⟩
        · simpa using part' i u0 hi
    | arr z3 ow rows =>
      cases sp with
      | none => simp [Blk.part] at hp
      | some kk =>
        simp only [Blk.part] at hp
        obtain ⟨rfl, hrow⟩ := hp
        obtain ⟨rfl, hz⟩ := hok.zok
        have hlr : cs.length = z3 := hz cs (List.mem_of_getElem? hrow)
        have hkk : kk < rows.length := (List.getElem?_eq_some_iff.1 hrow).1
        have hz' : ∀ r ∈ rows.set kk cs', r.length = z3 := fun r hr => by
          rcases List.mem_or_eq_of_mem_set hr with hr | hr
          · exact hz r hr
          · rw [hr]; omega
        have hg' : ∀ r ∈ rows.set kk cs', r.all gnd1 = true := fun r hr => by
          rcases List.mem_or_eq_of_mem_set hr with hr | hr
          · exact hok.gok r hr
          · rw [hr]
            rcases hg with hg | hg
            · cases hg
            · refine List.all_eq_true.2 fun v hv => ?_
              obtain ⟨i, hi⟩ := List.getElem?_of_mem hv
              rw [g3 i] at hi
              split at hi
              · exact List.all_eq_true.1 hg v (List.mem_of_getElem? hi)
              · exact List.all_eq_true.1 (hok.gok cs (List.mem_of_getElem? hrow)) v (List.mem_of_getElem? hi)
        refine ⟨⟨rfl, hz'⟩, fun h => ho, ?_, by rw [setCells_size]; exact hok.lt, fun i u0 hi => ?_, hg'⟩
        · have ho2 := hok.own
          cases ow with
          | ro => trivial
          | rw =>
            obtain ⟨C, e, f, h1, h2, h3⟩ := ho2
            obtain ⟨C', h5, h6⟩ := hheap C e f h1
            exact ⟨C', e, f, h5, by omega, by omega⟩
          | ap e =>
            obtain ⟨C, h1, h2⟩ := ho2
            obtain ⟨C', h5, h6⟩ := hheap C e _ h1
            exact ⟨C', h5, by omega⟩
        · -- which element?
          replace hi : (rows.set kk cs').flatten[i]? = some u0 := hi
          have hfl : i < (rows.set kk cs').flatten.length := (List.getElem?_eq_some_iff.1 hi).1
          have hz0 : 0 < z3 := by
            rcases Nat.eq_zero_or_pos z3 with h | h
            · omega
            · exact h
          have hlen2 : (rows.set kk cs').flatten.length = rows.length * z3 := by
            have : ∀ (l : List (List Value)), (∀ r ∈ l, r.length = z3) → l.flatten.length = l.length * z3 := fun l hl => by
              induction l with
              | nil => simp
              | cons a l ih => simp [hl a (by simp), ih fun r hr => hl r (by simp [hr]), Nat.succ_mul]; omega
            rw [this _ hz']; simp
          have hq2 : i / z3 < rows.length := Nat.div_lt_of_lt_mul (by rw [Nat.mul_comm]; omega)
          have hr2 : i % z3 < z3 := Nat.mod_lt _ hz0
          have hie : i / z3 * z3 + i % z3 = i := by rw [Nat.mul_comm]; exact Nat.div_add_mod i z3
          by_cases hk2 : i / z3 = kk
          · have h6 := flat_get (rows := rows.set kk cs') (k := kk) (s := i % z3) (r := cs') hz' (by simp [hkk]) hr2
            rw [hk2] at hie
            rw [← hie] at hi ⊢
            rw [h6] at hi
            have := part' (i % z3) u0 hi
            simpa [Nat.add_assoc] using this
          · have hrow2 : (rows.set kk cs')[i / z3]? = rows[i / z3]? := List.getElem?_set_ne (fun e => hk2 e.symm)
            obtain ⟨r2, hr3⟩ : ∃ r2, rows[i / z3]? = some r2 := ⟨_, List.getElem?_eq_getElem hq2⟩
            have h6 := flat_get (rows := rows.set kk cs') (k := i / z3) (s := i % z3) (r := r2) hz' (by rw [hrow2, hr3]) hr2
            have h7 := flat_get (rows := rows) (k := i / z3) (s := i % z3) (r := r2) hz hr3 hr2
            rw [hie] at h6 h7
            rw [h6, ← h7] at hi
            obtain ⟨v', h8, h9⟩ := hok.cell i u0 hi
            refine ⟨v', ?_, h9⟩
            rw [out _ ?_]
            · exact h8
            · -- another element's cells
              simp only [Option.getD_some]
              rcases Nat.lt_or_gt_of_ne hk2 with hlt | hgt
              · left
                have : (i / z3 + 1) * z3 ≤ kk * z3 := Nat.mul_le_mul_right _ hlt
                rw [Nat.succ_mul] at this; omega
              · right
                have : (kk + 1) * z3 ≤ i / z3 * z3 := Nat.mul_le_mul_right _ hgt
                rw [Nat.succ_mul] at this
                omega) (fun z0 ow0 e0 => by
    subst e0
    cases sp with
    | none => simp [Blk.part] at hp
    | some kk => simp [Blk.part] at hp)
end
end Go.Proofs.Ytgkedbhpeafbbaa

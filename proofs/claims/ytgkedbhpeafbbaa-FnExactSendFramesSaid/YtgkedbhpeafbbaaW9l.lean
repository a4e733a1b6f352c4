/-
  The laws on FrameAll and SendFrames walked: they return true.
  Conditions: none.
-/
import Derived.Test.YtgkedbhpeafbbaaW9
import Derived.Test.YtgkedbhpeafbbaaOpen
set_option linter.unusedSimpArgs false
set_option linter.unusedVariables false
namespace Go.Proofs.Ytgkedbhpeafbbaa
open Go.RowKit

theorem left_le {n m : Int} (h : 0 ≤ n) : left n m ≤ n - m ∨ left n m = -1 := by unfold left; split <;> omega
theorem szGo_mem {α : Type} {f : α → Nat} : ∀ (l : List α) (n : Int), 0 ≤ n → 0 ≤ szGo (fun n x => left n (f x)) n l → ∀ x ∈ l, (f x : Int) ≤ n
  | [], _, _, _, x, hx => by simp at hx
  | y :: l, n, h0, h, x, hx => by
    unfold szGo at h
    split at h
    · omega
    · rename_i hh
      have h1 : left n (f y) = n - f y := by
        unfold left at hh ⊢
        split at hh <;> rename_i h3
        · omega
        · rw [if_neg h3]
      rcases List.mem_cons.1 hx with rfl | hx
      · omega
      · have := szGo_mem l (left n (f y)) (by omega) h x hx
        omega
theorem szAll_mem {α : Type} {f : α → Nat} {l : List α} {n : Int} (h : 0 ≤ szAll (fun n x => left n (f x)) n l) : ∀ x ∈ l, (f x : Int) ≤ n := by
  unfold szAll at h
  split at h
  · omega
  · intro x hx
    have := szGo_mem l (n - l.length) (by omega) h x hx
    omega

theorem mkEnd_le {g : Int → Int} {z : Int} (hg : ∀ k, g k ≤ k + z) : ∀ (n : Nat) (k : Int), mkEnd g k n ≤ k + z * n
  | 0, k => by simp [mkEnd]
  | n + 1, k => by
    have h1 := mkEnd_le hg n (g k)
    have h2 := hg k
    simp only [mkEnd]
    have e : z * ((n + 1 : Nat) : Int) = z * (n : Int) + z := by rw [Int.natCast_add, Int.mul_add]; simp
    omega
theorem szPacketS1 (p : Pk) {n : Int} (h1 : -1 ≤ n) (h2 : n ≤ 1048576) (hb : p.g.bd.size ≤ 9223372036854775807) : Fn Try.prog 39 [.agg (cPacket p).toArray, .int .i64 n] [] (.int .i64 (left n p.g.bd.size)) [] := szPacket_fn (x0 := p.dm) (x1 := p.sm) (x2 := p.vl) (x3 := p.ts) (x4 := p.id) (x5 := p.tt) (x6 := p.si) (x7 := p.di) (x8 := p.g.kd) (x9 := p.g.sp) (x10 := p.g.dp) (x11 := p.g.sq) (x12 := p.g.ak) (x13 := p.g.fl) (x14 := p.g.wn) (x15 := p.g.bd) h1 h2 hb
theorem cpPacketS1 (p : Pk) : Fn Try.prog 41 [.agg (cPacket p).toArray] [] (.agg (cPacket p).toArray) [] := cpPacket (x0 := p.dm) (x1 := p.sm) (x2 := p.vl) (x3 := p.ts) (x4 := p.id) (x5 := p.tt) (x6 := p.si) (x7 := p.di) (x8 := p.g.kd) (x9 := p.g.sp) (x10 := p.g.dp) (x11 := p.g.sq) (x12 := p.g.ak) (x13 := p.g.fl) (x14 := p.g.wn) (x15 := p.g.bd)
theorem splitL_321 (p : Pk) (z : Int) : (splitL p z).length ≤ 320 := by
  unfold splitL
  split
  · rename_i h
    split
    · have h1 := h.1.bd
      have h2 : pieces p.g.bd.size z.toNat ≤ p.g.bd.size := by
        rcases Nat.lt_or_ge p.g.bd.size (pieces p.g.bd.size z.toNat) with h3 | h3
        · have h4 := (pieces_lt (by omega)).1 h3
          have h5 : p.g.bd.size ≤ p.g.bd.size * z.toNat := Nat.le_mul_of_pos_right _ (by omega)
          omega
        · exact h3
      simp; omega
    · simp
  · simp

set_option maxHeartbeats 32000000 in
set_option maxRecDepth 100000 in
theorem fnExactFrameAll_fn (l0 : List Pk) (hl0 : l0.length ≤ 9223372036854775807) (hb0 : ∀ x ∈ l0, x.g.bd.size ≤ 9223372036854775807) : Fn Try.prog 23 [.slice (some ⟨0, 0, some 0⟩) l0.length l0.length] [.arr 16 .ro (l0.map cPacket)] (.bool true) [.arr 16 .ro (l0.map cPacket)] := by
  obtain ⟨T0, hT0⟩ : ∃ T, szAll (fun n (x : Pk) => left n x.g.bd.size) (1048576) l0 = T := ⟨_, rfl⟩
  by_cases hneg0 : T0 < 0
  rotate_left
  have hm0 := szAll_mem (f := fun (x : Pk) => x.g.bd.size) (l := l0) (n := 1048576) (by rw [hT0]; omega)
  have hle0 := szAll_le (l := l0) (fun (n : Int) (x : Pk) h => left_hi (m := x.g.bd.size) h (by omega)) (n := 1048576) (by rw [hT0]; omega)
  rw [hT0] at hle0
  have hn0 : l0.length ≤ 1048576 := by omega
  obtain ⟨R, hR⟩ : ∃ R, frames l0 = R := ⟨_, rfl⟩
  have hRl : R.length ≤ 400000000 := by rw [← hR]; have := frames_len l0; omega
  have hF_spec := frameall_spec l0 (by omega)
  rw [hR] at hF_spec
  have hF_impl := frameall_impl l0 (by omega)
  rw [hR] at hF_impl
  have hCp0 := cpPacketS l0 hn0
  obtain ⟨M0, hM0⟩ : ∃ M, mkGo mkPacket adPacket 1 l0.length = M := ⟨_, rfl⟩
  obtain ⟨F0, hF0⟩ : ∃ F, mkEnd adPacket 1 l0.length = F := ⟨_, rfl⟩
  have hFp0 : 1 ≤ F0 ∧ F0 ≤ 1 + 18 * 1048576 := by rw [← hF0]; exact ⟨mkEndPacket _ _ (by omega), by have := mkEnd_le (g := adPacket) (z := 18) (fun k => by unfold adPacket; omega) l0.length (1); omega⟩
  obtain ⟨TR, hTR⟩ : ∃ T, mkGo mkStr adStr 1 R.length = T := ⟨_, rfl⟩
  obtain ⟨ER, hER⟩ : ∃ E, mkEnd adStr 1 R.length = E := ⟨_, rfl⟩
  have hER1 : 1 ≤ ER := by rw [← hER]; exact mkEndStr _ _ (by omega)
  all_goals
    refine Fn.intro tabs_ok (nt := 69) (rs := [.tmp 2]) Try.func23 rfl rfl rfl rfl rfl rfl rfl rfl rfl ?_; (first | refine aw_in0 ?_ | refine aw_in1 ?_ | refine aw_in2 ?_ | refine aw_in3 ?_ | refine aw_in4 ?_ | refine aw_in5 ?_ | refine aw_in6 ?_)
    repeat' (first | refine so_open rfl (by simp only [Nat.reduceAdd]; exact rfl) ?_ | refine s_pass rfl rfl ?_ | (show SL _ _ _ (⟨_, .call _, _, _, _, _⟩ :: _) _ _ _ _; first | refine s_callR (szPacketS_fn l0 T0 (n := 1048576) (by omega) (by omega) hb0 hl0 hT0) [_] (by (repeat (apply evA_cons rfl)); exact evA_nil) rfl (by (repeat (first | refine And.intro ⟨_, rfl⟩ ?_ | refine And.intro rfl ?_)); exact trivial) rfl rfl rfl rfl rfl ?_ | refine s_callN (hCp0) [_] rfl rfl rfl (by (repeat (apply evA_cons rfl)); exact evA_nil) rfl (by (repeat (first | refine And.intro ⟨_, rfl⟩ ?_ | refine And.intro rfl ?_)); exact trivial) rfl rfl (by simp only [Nat.reduceAdd]; exact rfl) rfl rfl ?_ | refine s_callR (eqPacketS_any l0 (by omega)) [_, _] (by (repeat (apply evA_cons rfl)); exact evA_nil) rfl (by (repeat (first | refine And.intro ⟨_, rfl⟩ ?_ | refine And.intro rfl ?_)); exact trivial) rfl rfl rfl rfl rfl ?_ | refine s_callG (markPacketS_fn l0 1 l0.length M0 F0 rfl (by omega) (by omega) hM0 hF0) [_] (by (repeat (apply evA_cons rfl)); exact evA_nil) rfl (by (repeat (first | refine And.intro ⟨_, rfl⟩ ?_ | refine And.intro rfl ?_)); exact trivial) rfl rfl (by simp only [ren, ren2, ren1, tauc, Blk.ren, updS, addS, Blk.own, Ow.own, List.map_cons, List.map_nil, List.toList_toArray, List.getElem?_cons_zero, List.getElem?_cons_succ, List.getElem?_nil, List.length_cons, List.length_nil, List.drop_succ_cons, List.drop_zero, List.drop_nil, Nat.reduceAdd, Nat.reduceSub, Nat.zero_add, Nat.add_zero, Bool.false_eq_true, if_true, if_false, ite_true, ite_false, reduceIte]; exact rfl) (by simp only [ren, ren2, ren1, tauc, Blk.ren, updS, addS, Blk.own, Ow.own, List.map_cons, List.map_nil, List.toList_toArray, List.getElem?_cons_zero, List.getElem?_cons_succ, List.getElem?_nil, List.length_cons, List.length_nil, List.drop_succ_cons, List.drop_zero, List.drop_nil, Nat.reduceAdd, Nat.reduceSub, Nat.zero_add, Nat.add_zero, Bool.false_eq_true, if_true, if_false, ite_true, ite_false, reduceIte]; exact rfl) (by simp only [List.length_cons, List.length_nil, Nat.reduceAdd, Nat.reduceSub]; exact rfl) (by simp only [ownsOf, Blk.own, Ow.own, Bool.false_eq_true, if_true, if_false, reduceIte]; exact rfl) rfl rfl ?_ | refine s_callN (hF_spec) [_] rfl rfl rfl (by (repeat (apply evA_cons rfl)); exact evA_nil) rfl (by (repeat (first | refine And.intro ⟨_, rfl⟩ ?_ | refine And.intro rfl ?_)); exact trivial) rfl rfl (by simp only [Nat.reduceAdd]; exact rfl) rfl rfl ?_ | refine s_callN (hF_impl) [_] rfl rfl rfl (by (repeat (apply evA_cons rfl)); exact evA_nil) rfl (by (repeat (first | refine And.intro ⟨_, rfl⟩ ?_ | refine And.intro rfl ?_)); exact trivial) rfl rfl (by simp only [Nat.reduceAdd]; exact rfl) rfl rfl ?_ | refine s_callR (eqStringS_any R (by omega)) [_, _] (by (repeat (apply evA_cons rfl)); exact evA_nil) rfl (by (repeat (first | refine And.intro ⟨_, rfl⟩ ?_ | refine And.intro rfl ?_)); exact trivial) rfl rfl rfl rfl rfl ?_ | refine s_callR (heldStringS_fn TR 1 R.length ER (by omega) (by omega) hTR hER) [_] (by (repeat (apply evA_cons rfl)); exact evA_nil) rfl (by (repeat (first | refine And.intro ⟨_, rfl⟩ ?_ | refine And.intro rfl ?_)); exact trivial) rfl rfl rfl rfl rfl ?_ | refine s_callG (markStringS_fn R 1 R.length TR ER rfl (by omega) (by omega) hTR hER) [_] (by (repeat (apply evA_cons rfl)); exact evA_nil) rfl (by (repeat (first | refine And.intro ⟨_, rfl⟩ ?_ | refine And.intro rfl ?_)); exact trivial) rfl rfl (by simp only [ren, ren2, ren1, tauc, Blk.ren, updS, addS, Blk.own, Ow.own, List.map_cons, List.map_nil, List.toList_toArray, List.getElem?_cons_zero, List.getElem?_cons_succ, List.getElem?_nil, List.length_cons, List.length_nil, List.drop_succ_cons, List.drop_zero, List.drop_nil, Nat.reduceAdd, Nat.reduceSub, Nat.zero_add, Nat.add_zero, Bool.false_eq_true, if_true, if_false, ite_true, ite_false, reduceIte]; exact rfl) (by simp only [ren, ren2, ren1, tauc, Blk.ren, updS, addS, Blk.own, Ow.own, List.map_cons, List.map_nil, List.toList_toArray, List.getElem?_cons_zero, List.getElem?_cons_succ, List.getElem?_nil, List.length_cons, List.length_nil, List.drop_succ_cons, List.drop_zero, List.drop_nil, Nat.reduceAdd, Nat.reduceSub, Nat.zero_add, Nat.add_zero, Bool.false_eq_true, if_true, if_false, ite_true, ite_false, reduceIte]; exact rfl) (by simp only [List.length_cons, List.length_nil, Nat.reduceAdd, Nat.reduceSub]; exact rfl) (by simp only [ownsOf, Blk.own, Ow.own, Bool.false_eq_true, if_true, if_false, reduceIte]; exact rfl) rfl rfl ?_) | (show SL _ _ _ (⟨_, .move _, _, _, _, _⟩ :: _) _ _ _ _; first | refine s_move rfl rfl rfl ?_) | (show SL _ _ _ (⟨_, .assign _, _, _, _, _⟩ :: _) _ _ _ _; first | refine s_assign rfl rfl rfl ?_) | (show SL _ _ _ (⟨_, .pick _ _ _, _, _, _, _⟩ :: _) _ _ _ _; first | refine s_pickt rfl rfl rfl rfl ?_ | refine s_pickf rfl rfl rfl rfl ?_) | (show SL _ _ _ (⟨_, .unOp .not _ _, _, _, _, _⟩ :: _) _ _ _ _; first | refine s_not rfl rfl rfl ?_) | (show SL _ _ _ (⟨_, .binOp .lss _ _ _ _, _, _, _, _⟩ :: _) _ _ _ _; first | refine s_bin rfl rfl bin_lss rfl rfl ?_) | (show SL _ _ _ (⟨_, .binOp .neq _ _ _ _, _, _, _, _⟩ :: _) _ _ _ _; first | refine s_bin rfl rfl bin_neq rfl rfl ?_ | refine s_bin rfl rfl bin_sneq rfl rfl ?_ | refine s_bin rfl rfl (bin_bneq Try.underlying4) rfl rfl ?_) | refine so_nil rfl (hK _ _ _ ?_) | refine aw_seqSR Try.f23 rfl (fun K hK => ?_) | refine aw_endSR Try.f23 rfl (fun K hK => ?_) | refine AW.seq ?_ | refine AW.skip ?_ | refine AW.ret ?_ | refine AW.exit ?_ | refine AW.block ?_ | refine then_n ?_ | refine then_r ?_ | refine then_e ?_ | refine in_n ?_ | refine in_r ?_ | refine in_e rfl ?_ | refine in_o rfl ?_ | refine AW.cond_true rfl ?_ | refine AW.cond_false rfl ?_ | (refine AW.cond_dec rfl (fun hc => ?_) (fun hc => ?_) <;> (first | (exfalso; omega; done) | exact absurd rfl hc | skip)) | (refine AW.cond_ndec rfl (fun hc => ?_) (fun hc => ?_) <;> (first | (exfalso; omega; done) | exact absurd rfl hc | skip)) | (refine AW.cond rfl (fun hc => ?_) (fun hc => ?_)) | ((fail_if_success (refine s_ask (b := true) rfl rfl (fun _ => ?_) (fun _ => ?_))); (fail_if_success (refine s_ask (b := false) rfl rfl (fun _ => ?_) (fun _ => ?_))); (refine s_ask rfl rfl (fun hc => ?_) (fun hc => ?_) <;> (rw [hc]; try simp only [decide_eq_true_eq, decide_eq_false_iff_not, Bool.not_eq_true', Bool.not_eq_false', Bool.not_eq_true, Bool.not_eq_false] at hc) <;> (first | (exfalso; omega; done) | exact absurd rfl hc | skip))))
    all_goals (first | apply fin_ret [0] ?h1 ?h3 rfl rfl rfl rfl ?h2 | (refine fin_norm ?_; apply fin_ret [0] ?h1 ?h3 rfl rfl rfl rfl ?h2)); (case h1 => repeat (first | exact res_nil | apply res_tmp rfl rfl | apply res_cell rfl rfl rfl rfl rfl | apply res_cell1 rfl rfl rfl rfl rfl)); (case h3 => repeat (first | exact trivial | refine And.intro (Or.inr rfl) ?_ | refine And.intro (Or.inl rfl) ?_)); (case h2 => first | rfl | (simp only [ren, resV]; done))

theorem fnExactFrameAll_law (a0 : Option Addr) (c0 : Nat) (l0 : List Pk) (w : World) (hl0 : l0.length ≤ c0 ∧ l0.length ≤ maxLen) (hrd0 : Rd w a0 (l0.flatMap cPacket)) (hok0 : ∀ v ∈ l0, v.ok) :
    Calls Try.prog 23 #[.slice a0 l0.length c0] w fun e w' => e = .returned (.bool true) ∧ Below w.heap.size w w' := by
  have e : maxLen = 9223372036854775807 := rfl
  obtain ⟨b0, k0, q0⟩ := in_slice (c := cPacket) (z := 16) (fun _ => rfl) (fun _ => rfl) hl0.1 hrd0 (by omega)
  refine law_of (fnExactFrameAll_fn l0 (by omega) (fun v hv => by have := (hok0 v hv); unfold Pk.ok at this; omega)) rfl [b0] rfl (fun i x y g1 g2 ρ => by
    match i, g1, g2 with
    | 0, g1, g2 => simp at g1 g2; subst g1; subst g2; exact k0 ρ
    | (_ + 1), g1, g2 => simp at g1) (.cons (.of1 (q0 _ 0 rfl)) .nil)

set_option maxHeartbeats 32000000 in
set_option maxRecDepth 100000 in
theorem fnExactSendFrames_fn (p : Pk) (z : Int) (hbp : p.g.bd.size ≤ 9223372036854775807) : Fn Try.prog 21 [.agg (cPacket p).toArray, .int .i64 z] [] (.bool true) [] := by
  have hL1 := left_lo (n := 1048576) (m := p.g.bd.size)
  obtain ⟨R, hR⟩ : ∃ R, frames (splitL p z) = R := ⟨_, rfl⟩
  have hRl : R.length ≤ 400000000 := by rw [← hR]; have := frames_len (splitL p z); have := splitL_321 p z; omega
  have hF_spec := sendframes_spec p z (by have := splitL_321 p z; omega)
  rw [hR] at hF_spec
  have hF_impl := sendframes_impl p z (by have := splitL_321 p z; omega)
  rw [hR] at hF_impl
  obtain ⟨TR, hTR⟩ : ∃ T, mkGo mkStr adStr 1 R.length = T := ⟨_, rfl⟩
  obtain ⟨ER, hER⟩ : ∃ E, mkEnd adStr 1 R.length = E := ⟨_, rfl⟩
  have hER1 : 1 ≤ ER := by rw [← hER]; exact mkEndStr _ _ (by omega)
  all_goals
    refine Fn.intro tabs_ok (nt := 55) (rs := [.tmp 4]) Try.func21 rfl rfl rfl rfl rfl rfl rfl rfl rfl ?_; (first | refine aw_in0 ?_ | refine aw_in1 ?_ | refine aw_in2 ?_ | refine aw_in3 ?_ | refine aw_in4 ?_ | refine aw_in5 ?_ | refine aw_in6 ?_)
    repeat' (first | refine so_open rfl (by simp only [Nat.reduceAdd]; exact rfl) ?_ | (show SL _ _ _ (⟨_, .call _, _, _, _, _⟩ :: _) _ _ _ _; first | refine s_call0 (szPacketS1 p (n := 1048576) (by omega) (by omega) hbp) (by (repeat (apply evA_cons rfl)); exact evA_nil) rfl rfl rfl ?_ | refine s_call0 (cpPacketS1 p) (by (repeat (apply evA_cons rfl)); exact evA_nil) rfl rfl rfl ?_ | refine s_callN (hF_spec) [] rfl rfl rfl (by (repeat (apply evA_cons rfl)); exact evA_nil) rfl (by (repeat (first | refine And.intro ⟨_, rfl⟩ ?_ | refine And.intro rfl ?_)); exact trivial) rfl rfl (by simp only [Nat.reduceAdd]; exact rfl) rfl rfl ?_ | refine s_callN (hF_impl) [] rfl rfl rfl (by (repeat (apply evA_cons rfl)); exact evA_nil) rfl (by (repeat (first | refine And.intro ⟨_, rfl⟩ ?_ | refine And.intro rfl ?_)); exact trivial) rfl rfl (by simp only [Nat.reduceAdd]; exact rfl) rfl rfl ?_ | refine s_callR (eqStringS_any R (by omega)) [_, _] (by (repeat (apply evA_cons rfl)); exact evA_nil) rfl (by (repeat (first | refine And.intro ⟨_, rfl⟩ ?_ | refine And.intro rfl ?_)); exact trivial) rfl rfl rfl rfl rfl ?_ | refine s_callR (heldStringS_fn TR 1 R.length ER (by omega) (by omega) hTR hER) [_] (by (repeat (apply evA_cons rfl)); exact evA_nil) rfl (by (repeat (first | refine And.intro ⟨_, rfl⟩ ?_ | refine And.intro rfl ?_)); exact trivial) rfl rfl rfl rfl rfl ?_ | refine s_callG (markStringS_fn R 1 R.length TR ER rfl (by omega) (by omega) hTR hER) [_] (by (repeat (apply evA_cons rfl)); exact evA_nil) rfl (by (repeat (first | refine And.intro ⟨_, rfl⟩ ?_ | refine And.intro rfl ?_)); exact trivial) rfl rfl (by simp only [ren, ren2, ren1, tauc, Blk.ren, updS, addS, Blk.own, Ow.own, List.map_cons, List.map_nil, List.toList_toArray, List.getElem?_cons_zero, List.getElem?_cons_succ, List.getElem?_nil, List.length_cons, List.length_nil, List.drop_succ_cons, List.drop_zero, List.drop_nil, Nat.reduceAdd, Nat.reduceSub, Nat.zero_add, Nat.add_zero, Bool.false_eq_true, if_true, if_false, ite_true, ite_false, reduceIte]; exact rfl) (by simp only [ren, ren2, ren1, tauc, Blk.ren, updS, addS, Blk.own, Ow.own, List.map_cons, List.map_nil, List.toList_toArray, List.getElem?_cons_zero, List.getElem?_cons_succ, List.getElem?_nil, List.length_cons, List.length_nil, List.drop_succ_cons, List.drop_zero, List.drop_nil, Nat.reduceAdd, Nat.reduceSub, Nat.zero_add, Nat.add_zero, Bool.false_eq_true, if_true, if_false, ite_true, ite_false, reduceIte]; exact rfl) (by simp only [List.length_cons, List.length_nil, Nat.reduceAdd, Nat.reduceSub]; exact rfl) (by simp only [ownsOf, Blk.own, Ow.own, Bool.false_eq_true, if_true, if_false, reduceIte]; exact rfl) rfl rfl ?_) | (show SL _ _ _ (⟨_, .move _, _, _, _, _⟩ :: _) _ _ _ _; first | refine s_move rfl rfl rfl ?_) | (show SL _ _ _ (⟨_, .assign _, _, _, _, _⟩ :: _) _ _ _ _; first | refine s_assign rfl rfl rfl ?_) | (show SL _ _ _ (⟨_, .load _ _, _, _, _, _⟩ :: _) _ _ _ _; first | refine s_load tabs_ok rfl rfl rfl rfl rfl rfl rfl ?_ | refine s_aload tabs_ok rfl rfl rfl rfl (by assumption) rfl rfl rfl ?_ | refine s_loadW tabs_ok rfl rfl rfl rfl rfl rfl rfl ?_ | refine s_aloadW tabs_ok rfl rfl rfl rfl (by assumption) rfl rfl rfl ?_ | refine s_loadS tabs_ok rfl rfl rfl rfl (by simp only [seg, Option.map_some, Option.map_none]; exact rfl) rfl rfl ?_ | refine s_aloadS tabs_ok rfl rfl rfl rfl (by assumption) (by simp only [seg, Option.map_some, Option.map_none]; exact rfl) rfl rfl ?_ | refine s_aload2 tabs_ok rfl rfl rfl rfl (by assumption) rfl rfl rfl ?_) | (show SL _ _ _ (⟨_, .unOp .not _ _, _, _, _, _⟩ :: _) _ _ _ _; first | refine s_not rfl rfl rfl ?_) | (show SL _ _ _ (⟨_, .binOp .lss _ _ _ _, _, _, _, _⟩ :: _) _ _ _ _; first | refine s_bin rfl rfl bin_lss rfl rfl ?_) | (show SL _ _ _ (⟨_, .binOp .neq _ _ _ _, _, _, _, _⟩ :: _) _ _ _ _; first | refine s_bin rfl rfl bin_neq rfl rfl ?_ | refine s_bin rfl rfl bin_sneq rfl rfl ?_ | refine s_bin rfl rfl (bin_bneq Try.underlying4) rfl rfl ?_) | (show SL _ _ _ (⟨_, .box _ _, _, _, _, _⟩ :: _) _ _ _ _; first | refine s_boxS rfl (by simp only [Nat.reduceAdd]; exact rfl) rfl rfl ?_ | refine s_box1 rfl rfl (by simp only [Nat.reduceAdd]; exact rfl) rfl rfl ?_) | refine so_nil rfl (hK _ _ _ ?_) | refine aw_seqSR Try.f21 rfl (fun K hK => ?_) | refine aw_endSR Try.f21 rfl (fun K hK => ?_) | refine AW.seq ?_ | refine AW.skip ?_ | refine AW.ret ?_ | refine AW.exit ?_ | refine AW.block ?_ | refine then_n ?_ | refine then_r ?_ | refine then_e ?_ | refine in_n ?_ | refine in_r ?_ | refine in_e rfl ?_ | refine in_o rfl ?_ | refine AW.cond_true rfl ?_ | refine AW.cond_false rfl ?_ | (refine AW.cond_dec rfl (fun hc => ?_) (fun hc => ?_) <;> (first | (exfalso; omega; done) | exact absurd rfl hc | skip)) | (refine AW.cond_ndec rfl (fun hc => ?_) (fun hc => ?_) <;> (first | (exfalso; omega; done) | exact absurd rfl hc | skip)) | (refine AW.cond rfl (fun hc => ?_) (fun hc => ?_)))
    all_goals (first | apply fin_ret [] ?h1 ?h3 rfl rfl rfl rfl ?h2 | (refine fin_norm ?_; apply fin_ret [] ?h1 ?h3 rfl rfl rfl rfl ?h2)); (case h1 => repeat (first | exact res_nil | apply res_tmp rfl rfl | apply res_cell rfl rfl rfl rfl rfl | apply res_cell1 rfl rfl rfl rfl rfl)); (case h3 => repeat (first | exact trivial | refine And.intro (Or.inr rfl) ?_ | refine And.intro (Or.inl rfl) ?_)); (case h2 => first | rfl | (simp only [ren, resV]; done))

theorem fnExactSendFrames_walk (p : Pk) (hp : p.ok) (z : Int) (hz : I64 z) (w : World) :
    Calls Try.prog 21 #[.agg #[.int .i64 p.dm, .int .i64 p.sm, .int .i64 p.vl, .int .i64 p.ts, .int .i64 p.id, .int .i64 p.tt, .int .i64 p.si, .int .i64 p.di, .int .i64 p.g.kd, .int .i64 p.g.sp, .int .i64 p.g.dp, .int .i64 p.g.sq, .int .i64 p.g.ak, .int .i64 p.g.fl, .int .i64 p.g.wn, .string p.g.bd], .int .i64 z] w fun e w' => e = .returned (.bool true) ∧ Below w.heap.size w w' := by
  have e : maxLen = 9223372036854775807 := rfl
  have hb : p.g.bd.size ≤ 9223372036854775807 := by have h := hp; unfold Pk.ok at h; omega
  exact law_of (fnExactSendFrames_fn p z hb) rfl [] rfl (fun i x y h => by simp at h) (.cons (.two (by exact VR2.of_gnd rfl)) (.cons (.two (by exact VR2.of_gnd rfl)) .nil))
end Go.Proofs.Ytgkedbhpeafbbaa

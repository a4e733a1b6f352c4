/-
  The laws on Coalesce and Resegment walked: they return true.
  Conditions: none.
-/
import Derived.Test.YtgkedbhpeafbbaaW6
import Derived.Test.YtgkedbhpeafbbaaOpen
set_option linter.unusedSimpArgs false
set_option linter.unusedVariables false
namespace Go.Proofs.Ytgkedbhpeafbbaa
open Go.RowKit

theorem left_le {n m : Int} (h : 0 ≤ n) : left n m ≤ n - m ∨ left n m = -1 := by unfold left; split <;> omega
theorem szGo_mem {α : Type} {f : α → Nat} : ∀ (l : List α) (n : Int), 0 ≤ n → 0 ≤ szGo (fun n x => left n (f x)) n l → ∀ x ∈ l, (f x : Int) ≤ n
  | [], _, _, _, x, hx => by simp at hx
  | y :: l, n, h0, h, x, hx => by
    unfold szGo at h
    split at h
    · omega
    · rename_i hh
      have h1 : left n (f y) = n - f y := by
        unfold left at hh ⊢
        split at hh <;> rename_i h3
        · omega
        · rw [if_neg h3]
      rcases List.mem_cons.1 hx with rfl | hx
      · omega
      · have := szGo_mem l (left n (f y)) (by omega) h x hx
        omega
theorem szAll_mem {α : Type} {f : α → Nat} {l : List α} {n : Int} (h : 0 ≤ szAll (fun n x => left n (f x)) n l) : ∀ x ∈ l, (f x : Int) ≤ n := by
  unfold szAll at h
  split at h
  · omega
  · intro x hx
    have := szGo_mem l (n - l.length) (by omega) h x hx
    omega

theorem mkEnd_le {g : Int → Int} {z : Int} (hg : ∀ k, g k ≤ k + z) : ∀ (n : Nat) (k : Int), mkEnd g k n ≤ k + z * n
  | 0, k => by simp [mkEnd]
  | n + 1, k => by
    have h1 := mkEnd_le hg n (g k)
    have h2 := hg k
    simp only [mkEnd]
    have e : z * ((n + 1 : Nat) : Int) = z * (n : Int) + z := by rw [Int.natCast_add, Int.mul_add]; simp
    omega

theorem coalA_len : ∀ (l : List Pk) (acc : List Su), (coalA acc l).length ≤ acc.length + l.length
  | [], acc => by simp [coalA]
  | p :: l, acc => by
    have h1 := coalA_len l (coal1 acc p)
    have h2 := coal1_len acc p
    simp only [coalA, List.foldl_cons, List.length_cons] at h1 ⊢
    omega
theorem reseg_len : ∀ l : List Su, (reseg l).length ≤ 320 * l.length
  | [] => by simp [reseg]
  | s :: l => by
    have h1 := reseg_len l
    have h2 : (reseg1 s).length ≤ 320 := by
      unfold reseg1
      split
      · simp
      · exact splitL_320 _ _
    show (reseg1 s ++ reseg l).length ≤ _
    rw [List.length_append, List.length_cons]; omega

set_option maxHeartbeats 32000000 in
set_option maxRecDepth 100000 in
theorem fnExactCoalesce_fn (l0 : List Pk) (hl0 : l0.length ≤ 9223372036854775807) (hb0 : ∀ x ∈ l0, x.g.bd.size ≤ 9223372036854775807) : Fn Try.prog 19 [.slice (some ⟨0, 0, some 0⟩) l0.length l0.length] [.arr 16 .ro (l0.map cPacket)] (.bool true) [.arr 16 .ro (l0.map cPacket)] := by
  obtain ⟨T0, hT0⟩ : ∃ T, szAll (fun n (x : Pk) => left n x.g.bd.size) (1048576) l0 = T := ⟨_, rfl⟩
  by_cases hneg0 : T0 < 0
  rotate_left
  have hm0 := szAll_mem (f := fun (x : Pk) => x.g.bd.size) (l := l0) (n := 1048576) (by rw [hT0]; omega)
  have hle0 := szAll_le (l := l0) (fun (n : Int) (x : Pk) h => left_hi (m := x.g.bd.size) h (by omega)) (n := 1048576) (by rw [hT0]; omega)
  rw [hT0] at hle0
  have hn0 : l0.length ≤ 1048576 := by omega
  obtain ⟨R, hR⟩ : ∃ R, coal l0 = R := ⟨_, rfl⟩
  have hRl : R.length ≤ 400000000 := by rw [← hR]; have := coalA_len l0 []; simp only [List.length_nil] at this; unfold coal; omega
  have hF_spec := coalesce_spec l0 (by omega)
  rw [hR] at hF_spec
  have hF_impl := coalesce_impl l0 (by omega)
  rw [hR] at hF_impl
  have hCp0 := cpPacketS l0 hn0
  obtain ⟨M0, hM0⟩ : ∃ M, mkGo mkPacket adPacket 1 l0.length = M := ⟨_, rfl⟩
  obtain ⟨F0, hF0⟩ : ∃ F, mkEnd adPacket 1 l0.length = F := ⟨_, rfl⟩
  have hFp0 : 1 ≤ F0 ∧ F0 ≤ 1 + 18 * 1048576 := by rw [← hF0]; exact ⟨mkEndPacket _ _ (by omega), by have := mkEnd_le (g := adPacket) (z := 18) (fun k => by unfold adPacket; omega) l0.length (1); omega⟩
  obtain ⟨TR, hTR⟩ : ∃ T, mkGo mkSuper adSuper 1 R.length = T := ⟨_, rfl⟩
  obtain ⟨ER, hER⟩ : ∃ E, mkEnd adSuper 1 R.length = E := ⟨_, rfl⟩
  have hER1 : 1 ≤ ER := by rw [← hER]; exact mkEndSuper _ _ (by omega)
  all_goals
    refine Fn.intro tabs_ok (nt := 69) (rs := [.tmp 2]) Try.func19 rfl rfl rfl rfl rfl rfl rfl rfl rfl ?_; (first | refine aw_in0 ?_ | refine aw_in1 ?_ | refine aw_in2 ?_ | refine aw_in3 ?_ | refine aw_in4 ?_ | refine aw_in5 ?_ | refine aw_in6 ?_)
    repeat' (first | refine so_open rfl (by simp only [Nat.reduceAdd]; exact rfl) ?_ | refine s_pass rfl rfl ?_ | (show SL _ _ _ (⟨_, .call _, _, _, _, _⟩ :: _) _ _ _ _; first | refine s_callR (szPacketS_fn l0 T0 (n := 1048576) (by omega) (by omega) hb0 hl0 hT0) [_] (by (repeat (apply evA_cons rfl)); exact evA_nil) rfl (by (repeat (first | refine And.intro ⟨_, rfl⟩ ?_ | refine And.intro rfl ?_)); exact trivial) rfl rfl rfl rfl rfl ?_ | refine s_callN (hCp0) [_] rfl rfl rfl (by (repeat (apply evA_cons rfl)); exact evA_nil) rfl (by (repeat (first | refine And.intro ⟨_, rfl⟩ ?_ | refine And.intro rfl ?_)); exact trivial) rfl rfl (by simp only [Nat.reduceAdd]; exact rfl) rfl rfl ?_ | refine s_callR (eqPacketS_any l0 (by omega)) [_, _] (by (repeat (apply evA_cons rfl)); exact evA_nil) rfl (by (repeat (first | refine And.intro ⟨_, rfl⟩ ?_ | refine And.intro rfl ?_)); exact trivial) rfl rfl rfl rfl rfl ?_ | refine s_callG (markPacketS_fn l0 1 l0.length M0 F0 rfl (by omega) (by omega) hM0 hF0) [_] (by (repeat (apply evA_cons rfl)); exact evA_nil) rfl (by (repeat (first | refine And.intro ⟨_, rfl⟩ ?_ | refine And.intro rfl ?_)); exact trivial) rfl rfl (by simp only [ren, ren2, ren1, tauc, Blk.ren, updS, addS, Blk.own, Ow.own, List.map_cons, List.map_nil, List.toList_toArray, List.getElem?_cons_zero, List.getElem?_cons_succ, List.getElem?_nil, List.length_cons, List.length_nil, List.drop_succ_cons, List.drop_zero, List.drop_nil, Nat.reduceAdd, Nat.reduceSub, Nat.zero_add, Nat.add_zero, Bool.false_eq_true, if_true, if_false, ite_true, ite_false, reduceIte]; exact rfl) (by simp only [ren, ren2, ren1, tauc, Blk.ren, updS, addS, Blk.own, Ow.own, List.map_cons, List.map_nil, List.toList_toArray, List.getElem?_cons_zero, List.getElem?_cons_succ, List.getElem?_nil, List.length_cons, List.length_nil, List.drop_succ_cons, List.drop_zero, List.drop_nil, Nat.reduceAdd, Nat.reduceSub, Nat.zero_add, Nat.add_zero, Bool.false_eq_true, if_true, if_false, ite_true, ite_false, reduceIte]; exact rfl) (by simp only [List.length_cons, List.length_nil, Nat.reduceAdd, Nat.reduceSub]; exact rfl) (by simp only [ownsOf, Blk.own, Ow.own, Bool.false_eq_true, if_true, if_false, reduceIte]; exact rfl) rfl rfl ?_ | refine s_callN (hF_spec) [_] rfl rfl rfl (by (repeat (apply evA_cons rfl)); exact evA_nil) rfl (by (repeat (first | refine And.intro ⟨_, rfl⟩ ?_ | refine And.intro rfl ?_)); exact trivial) rfl rfl (by simp only [Nat.reduceAdd]; exact rfl) rfl rfl ?_ | refine s_callN (hF_impl) [_] rfl rfl rfl (by (repeat (apply evA_cons rfl)); exact evA_nil) rfl (by (repeat (first | refine And.intro ⟨_, rfl⟩ ?_ | refine And.intro rfl ?_)); exact trivial) rfl rfl (by simp only [Nat.reduceAdd]; exact rfl) rfl rfl ?_ | refine s_callR (eqSuperS_any R (by omega)) [_, _] (by (repeat (apply evA_cons rfl)); exact evA_nil) rfl (by (repeat (first | refine And.intro ⟨_, rfl⟩ ?_ | refine And.intro rfl ?_)); exact trivial) rfl rfl rfl rfl rfl ?_ | refine s_callR (heldSuperS_fn TR 1 R.length ER (by omega) (by omega) hTR hER) [_] (by (repeat (apply evA_cons rfl)); exact evA_nil) rfl (by (repeat (first | refine And.intro ⟨_, rfl⟩ ?_ | refine And.intro rfl ?_)); exact trivial) rfl rfl rfl rfl rfl ?_ | refine s_callG (markSuperS_fn R 1 R.length TR ER rfl (by omega) (by omega) hTR hER) [_] (by (repeat (apply evA_cons rfl)); exact evA_nil) rfl (by (repeat (first | refine And.intro ⟨_, rfl⟩ ?_ | refine And.intro rfl ?_)); exact trivial) rfl rfl (by simp only [ren, ren2, ren1, tauc, Blk.ren, updS, addS, Blk.own, Ow.own, List.map_cons, List.map_nil, List.toList_toArray, List.getElem?_cons_zero, List.getElem?_cons_succ, List.getElem?_nil, List.length_cons, List.length_nil, List.drop_succ_cons, List.drop_zero, List.drop_nil, Nat.reduceAdd, Nat.reduceSub, Nat.zero_add, Nat.add_zero, Bool.false_eq_true, if_true, if_false, ite_true, ite_false, reduceIte]; exact rfl) (by simp only [ren, ren2, ren1, tauc, Blk.ren, updS, addS, Blk.own, Ow.own, List.map_cons, List.map_nil, List.toList_toArray, List.getElem?_cons_zero, List.getElem?_cons_succ, List.getElem?_nil, List.length_cons, List.length_nil, List.drop_succ_cons, List.drop_zero, List.drop_nil, Nat.reduceAdd, Nat.reduceSub, Nat.zero_add, Nat.add_zero, Bool.false_eq_true, if_true, if_false, ite_true, ite_false, reduceIte]; exact rfl) (by simp only [List.length_cons, List.length_nil, Nat.reduceAdd, Nat.reduceSub]; exact rfl) (by simp only [ownsOf, Blk.own, Ow.own, Bool.false_eq_true, if_true, if_false, reduceIte]; exact rfl) rfl rfl ?_) | (show SL _ _ _ (⟨_, .move _, _, _, _, _⟩ :: _) _ _ _ _; first | refine s_move rfl rfl rfl ?_) | (show SL _ _ _ (⟨_, .assign _, _, _, _, _⟩ :: _) _ _ _ _; first | refine s_assign rfl rfl rfl ?_) | (show SL _ _ _ (⟨_, .pick _ _ _, _, _, _, _⟩ :: _) _ _ _ _; first | refine s_pickt rfl rfl rfl rfl ?_ | refine s_pickf rfl rfl rfl rfl ?_) | (show SL _ _ _ (⟨_, .unOp .not _ _, _, _, _, _⟩ :: _) _ _ _ _; first | refine s_not rfl rfl rfl ?_) | (show SL _ _ _ (⟨_, .binOp .lss _ _ _ _, _, _, _, _⟩ :: _) _ _ _ _; first | refine s_bin rfl rfl bin_lss rfl rfl ?_) | (show SL _ _ _ (⟨_, .binOp .neq _ _ _ _, _, _, _, _⟩ :: _) _ _ _ _; first | refine s_bin rfl rfl bin_neq rfl rfl ?_ | refine s_bin rfl rfl bin_sneq rfl rfl ?_ | refine s_bin rfl rfl (bin_bneq Try.underlying4) rfl rfl ?_) | refine so_nil rfl (hK _ _ _ ?_) | refine aw_seqSR Try.f19 rfl (fun K hK => ?_) | refine aw_endSR Try.f19 rfl (fun K hK => ?_) | refine AW.seq ?_ | refine AW.skip ?_ | refine AW.ret ?_ | refine AW.exit ?_ | refine AW.block ?_ | refine then_n ?_ | refine then_r ?_ | refine then_e ?_ | refine in_n ?_ | refine in_r ?_ | refine in_e rfl ?_ | refine in_o rfl ?_ | refine AW.cond_true rfl ?_ | refine AW.cond_false rfl ?_ | (refine AW.cond_dec rfl (fun hc => ?_) (fun hc => ?_) <;> (first | (exfalso; omega; done) | exact absurd rfl hc | skip)) | (refine AW.cond_ndec rfl (fun hc => ?_) (fun hc => ?_) <;> (first | (exfalso; omega; done) | exact absurd rfl hc | skip)) | (refine AW.cond rfl (fun hc => ?_) (fun hc => ?_)) | ((fail_if_success (refine s_ask (b := true) rfl rfl (fun _ => ?_) (fun _ => ?_))); (fail_if_success (refine s_ask (b := false) rfl rfl (fun _ => ?_) (fun _ => ?_))); (refine s_ask rfl rfl (fun hc => ?_) (fun hc => ?_) <;> (rw [hc]; try simp only [decide_eq_true_eq, decide_eq_false_iff_not, Bool.not_eq_true', Bool.not_eq_false', Bool.not_eq_true, Bool.not_eq_false] at hc) <;> (first | (exfalso; omega; done) | exact absurd rfl hc | skip))))
    all_goals (first | apply fin_ret [0] ?h1 ?h3 rfl rfl rfl rfl ?h2 | (refine fin_norm ?_; apply fin_ret [0] ?h1 ?h3 rfl rfl rfl rfl ?h2)); (case h1 => repeat (first | exact res_nil | apply res_tmp rfl rfl | apply res_cell rfl rfl rfl rfl rfl | apply res_cell1 rfl rfl rfl rfl rfl)); (case h3 => repeat (first | exact trivial | refine And.intro (Or.inr rfl) ?_ | refine And.intro (Or.inl rfl) ?_)); (case h2 => first | rfl | (simp only [ren, resV]; done))

theorem fnExactCoalesce_law (a0 : Option Addr) (c0 : Nat) (l0 : List Pk) (w : World) (hl0 : l0.length ≤ c0 ∧ l0.length ≤ maxLen) (hrd0 : Rd w a0 (l0.flatMap cPacket)) (hok0 : ∀ v ∈ l0, v.ok) :
    Calls Try.prog 19 #[.slice a0 l0.length c0] w fun e w' => e = .returned (.bool true) ∧ Below w.heap.size w w' := by
  have e : maxLen = 9223372036854775807 := rfl
  obtain ⟨b0, k0, q0⟩ := in_slice (c := cPacket) (z := 16) (fun _ => rfl) (fun _ => rfl) hl0.1 hrd0 (by omega)
  refine law_of (fnExactCoalesce_fn l0 (by omega) (fun v hv => by have := (hok0 v hv); unfold Pk.ok at this; omega)) rfl [b0] rfl (fun i x y g1 g2 ρ => by
    match i, g1, g2 with
    | 0, g1, g2 => simp at g1 g2; subst g1; subst g2; exact k0 ρ
    | (_ + 1), g1, g2 => simp at g1) (.cons (.of1 (q0 _ 0 rfl)) .nil)

set_option maxHeartbeats 32000000 in
set_option maxRecDepth 100000 in
theorem fnExactResegment_fn (l0 : List Su) (hl0 : l0.length ≤ 9223372036854775807) (hb0 : ∀ x ∈ l0, x.p.g.bd.size ≤ 9223372036854775807) : Fn Try.prog 18 [.slice (some ⟨0, 0, some 0⟩) l0.length l0.length] [.arr 18 .ro (l0.map cSuper)] (.bool true) [.arr 18 .ro (l0.map cSuper)] := by
  obtain ⟨T0, hT0⟩ : ∃ T, szAll (fun n (x : Su) => left n x.p.g.bd.size) (1048576) l0 = T := ⟨_, rfl⟩
  by_cases hneg0 : T0 < 0
  rotate_left
  have hm0 := szAll_mem (f := fun (x : Su) => x.p.g.bd.size) (l := l0) (n := 1048576) (by rw [hT0]; omega)
  have hle0 := szAll_le (l := l0) (fun (n : Int) (x : Su) h => left_hi (m := x.p.g.bd.size) h (by omega)) (n := 1048576) (by rw [hT0]; omega)
  rw [hT0] at hle0
  have hn0 : l0.length ≤ 1048576 := by omega
  obtain ⟨R, hR⟩ : ∃ R, reseg l0 = R := ⟨_, rfl⟩
  have hRl : R.length ≤ 400000000 := by rw [← hR]; have := reseg_len l0; omega
  have hF_spec := reseg_spec l0 (by omega)
  rw [hR] at hF_spec
  have hF_impl := reseg_impl l0 (by omega)
  rw [hR] at hF_impl
  have hCp0 := cpSuperS l0 hn0
  obtain ⟨M0, hM0⟩ : ∃ M, mkGo mkSuper adSuper 1 l0.length = M := ⟨_, rfl⟩
  obtain ⟨F0, hF0⟩ : ∃ F, mkEnd adSuper 1 l0.length = F := ⟨_, rfl⟩
  have hFp0 : 1 ≤ F0 ∧ F0 ≤ 1 + 18 * 1048576 := by rw [← hF0]; exact ⟨mkEndSuper _ _ (by omega), by have := mkEnd_le (g := adSuper) (z := 18) (fun k => by unfold adSuper; omega) l0.length (1); omega⟩
  obtain ⟨TR, hTR⟩ : ∃ T, mkGo mkPacket adPacket 1 R.length = T := ⟨_, rfl⟩
  obtain ⟨ER, hER⟩ : ∃ E, mkEnd adPacket 1 R.length = E := ⟨_, rfl⟩
  have hER1 : 1 ≤ ER := by rw [← hER]; exact mkEndPacket _ _ (by omega)
  all_goals
    refine Fn.intro tabs_ok (nt := 69) (rs := [.tmp 2]) Try.func18 rfl rfl rfl rfl rfl rfl rfl rfl rfl ?_; (first | refine aw_in0 ?_ | refine aw_in1 ?_ | refine aw_in2 ?_ | refine aw_in3 ?_ | refine aw_in4 ?_ | refine aw_in5 ?_ | refine aw_in6 ?_)
    repeat' (first | refine so_open rfl (by simp only [Nat.reduceAdd]; exact rfl) ?_ | refine s_pass rfl rfl ?_ | (show SL _ _ _ (⟨_, .call _, _, _, _, _⟩ :: _) _ _ _ _; first | refine s_callR (szSuperS_fn l0 T0 (n := 1048576) (by omega) (by omega) hb0 hl0 hT0) [_] (by (repeat (apply evA_cons rfl)); exact evA_nil) rfl (by (repeat (first | refine And.intro ⟨_, rfl⟩ ?_ | refine And.intro rfl ?_)); exact trivial) rfl rfl rfl rfl rfl ?_ | refine s_callN (hCp0) [_] rfl rfl rfl (by (repeat (apply evA_cons rfl)); exact evA_nil) rfl (by (repeat (first | refine And.intro ⟨_, rfl⟩ ?_ | refine And.intro rfl ?_)); exact trivial) rfl rfl (by simp only [Nat.reduceAdd]; exact rfl) rfl rfl ?_ | refine s_callR (eqSuperS_any l0 (by omega)) [_, _] (by (repeat (apply evA_cons rfl)); exact evA_nil) rfl (by (repeat (first | refine And.intro ⟨_, rfl⟩ ?_ | refine And.intro rfl ?_)); exact trivial) rfl rfl rfl rfl rfl ?_ | refine s_callG (markSuperS_fn l0 1 l0.length M0 F0 rfl (by omega) (by omega) hM0 hF0) [_] (by (repeat (apply evA_cons rfl)); exact evA_nil) rfl (by (repeat (first | refine And.intro ⟨_, rfl⟩ ?_ | refine And.intro rfl ?_)); exact trivial) rfl rfl (by simp only [ren, ren2, ren1, tauc, Blk.ren, updS, addS, Blk.own, Ow.own, List.map_cons, List.map_nil, List.toList_toArray, List.getElem?_cons_zero, List.getElem?_cons_succ, List.getElem?_nil, List.length_cons, List.length_nil, List.drop_succ_cons, List.drop_zero, List.drop_nil, Nat.reduceAdd, Nat.reduceSub, Nat.zero_add, Nat.add_zero, Bool.false_eq_true, if_true, if_false, ite_true, ite_false, reduceIte]; exact rfl) (by simp only [ren, ren2, ren1, tauc, Blk.ren, updS, addS, Blk.own, Ow.own, List.map_cons, List.map_nil, List.toList_toArray, List.getElem?_cons_zero, List.getElem?_cons_succ, List.getElem?_nil, List.length_cons, List.length_nil, List.drop_succ_cons, List.drop_zero, List.drop_nil, Nat.reduceAdd, Nat.reduceSub, Nat.zero_add, Nat.add_zero, Bool.false_eq_true, if_true, if_false, ite_true, ite_false, reduceIte]; exact rfl) (by simp only [List.length_cons, List.length_nil, Nat.reduceAdd, Nat.reduceSub]; exact rfl) (by simp only [ownsOf, Blk.own, Ow.own, Bool.false_eq_true, if_true, if_false, reduceIte]; exact rfl) rfl rfl ?_ | refine s_callN (hF_spec) [_] rfl rfl rfl (by (repeat (apply evA_cons rfl)); exact evA_nil) rfl (by (repeat (first | refine And.intro ⟨_, rfl⟩ ?_ | refine And.intro rfl ?_)); exact trivial) rfl rfl (by simp only [Nat.reduceAdd]; exact rfl) rfl rfl ?_ | refine s_callN (hF_impl) [_] rfl rfl rfl (by (repeat (apply evA_cons rfl)); exact evA_nil) rfl (by (repeat (first | refine And.intro ⟨_, rfl⟩ ?_ | refine And.intro rfl ?_)); exact trivial) rfl rfl (by simp only [Nat.reduceAdd]; exact rfl) rfl rfl ?_ | refine s_callR (eqPacketS_any R (by omega)) [_, _] (by (repeat (apply evA_cons rfl)); exact evA_nil) rfl (by (repeat (first | refine And.intro ⟨_, rfl⟩ ?_ | refine And.intro rfl ?_)); exact trivial) rfl rfl rfl rfl rfl ?_ | refine s_callR (heldPacketS_fn TR 1 R.length ER (by omega) (by omega) hTR hER) [_] (by (repeat (apply evA_cons rfl)); exact evA_nil) rfl (by (repeat (first | refine And.intro ⟨_, rfl⟩ ?_ | refine And.intro rfl ?_)); exact trivial) rfl rfl rfl rfl rfl ?_ | refine s_callG (markPacketS_fn R 1 R.length TR ER rfl (by omega) (by omega) hTR hER) [_] (by (repeat (apply evA_cons rfl)); exact evA_nil) rfl (by (repeat (first | refine And.intro ⟨_, rfl⟩ ?_ | refine And.intro rfl ?_)); exact trivial) rfl rfl (by simp only [ren, ren2, ren1, tauc, Blk.ren, updS, addS, Blk.own, Ow.own, List.map_cons, List.map_nil, List.toList_toArray, List.getElem?_cons_zero, List.getElem?_cons_succ, List.getElem?_nil, List.length_cons, List.length_nil, List.drop_succ_cons, List.drop_zero, List.drop_nil, Nat.reduceAdd, Nat.reduceSub, Nat.zero_add, Nat.add_zero, Bool.false_eq_true, if_true, if_false, ite_true, ite_false, reduceIte]; exact rfl) (by simp only [ren, ren2, ren1, tauc, Blk.ren, updS, addS, Blk.own, Ow.own, List.map_cons, List.map_nil, List.toList_toArray, List.getElem?_cons_zero, List.getElem?_cons_succ, List.getElem?_nil, List.length_cons, List.length_nil, List.drop_succ_cons, List.drop_zero, List.drop_nil, Nat.reduceAdd, Nat.reduceSub, Nat.zero_add, Nat.add_zero, Bool.false_eq_true, if_true, if_false, ite_true, ite_false, reduceIte]; exact rfl) (by simp only [List.length_cons, List.length_nil, Nat.reduceAdd, Nat.reduceSub]; exact rfl) (by simp only [ownsOf, Blk.own, Ow.own, Bool.false_eq_true, if_true, if_false, reduceIte]; exact rfl) rfl rfl ?_) | (show SL _ _ _ (⟨_, .move _, _, _, _, _⟩ :: _) _ _ _ _; first | refine s_move rfl rfl rfl ?_) | (show SL _ _ _ (⟨_, .assign _, _, _, _, _⟩ :: _) _ _ _ _; first | refine s_assign rfl rfl rfl ?_) | (show SL _ _ _ (⟨_, .pick _ _ _, _, _, _, _⟩ :: _) _ _ _ _; first | refine s_pickt rfl rfl rfl rfl ?_ | refine s_pickf rfl rfl rfl rfl ?_) | (show SL _ _ _ (⟨_, .unOp .not _ _, _, _, _, _⟩ :: _) _ _ _ _; first | refine s_not rfl rfl rfl ?_) | (show SL _ _ _ (⟨_, .binOp .lss _ _ _ _, _, _, _, _⟩ :: _) _ _ _ _; first | refine s_bin rfl rfl bin_lss rfl rfl ?_) | (show SL _ _ _ (⟨_, .binOp .neq _ _ _ _, _, _, _, _⟩ :: _) _ _ _ _; first | refine s_bin rfl rfl bin_neq rfl rfl ?_ | refine s_bin rfl rfl bin_sneq rfl rfl ?_ | refine s_bin rfl rfl (bin_bneq Try.underlying4) rfl rfl ?_) | refine so_nil rfl (hK _ _ _ ?_) | refine aw_seqSR Try.f18 rfl (fun K hK => ?_) | refine aw_endSR Try.f18 rfl (fun K hK => ?_) | refine AW.seq ?_ | refine AW.skip ?_ | refine AW.ret ?_ | refine AW.exit ?_ | refine AW.block ?_ | refine then_n ?_ | refine then_r ?_ | refine then_e ?_ | refine in_n ?_ | refine in_r ?_ | refine in_e rfl ?_ | refine in_o rfl ?_ | refine AW.cond_true rfl ?_ | refine AW.cond_false rfl ?_ | (refine AW.cond_dec rfl (fun hc => ?_) (fun hc => ?_) <;> (first | (exfalso; omega; done) | exact absurd rfl hc | skip)) | (refine AW.cond_ndec rfl (fun hc => ?_) (fun hc => ?_) <;> (first | (exfalso; omega; done) | exact absurd rfl hc | skip)) | (refine AW.cond rfl (fun hc => ?_) (fun hc => ?_)) | ((fail_if_success (refine s_ask (b := true) rfl rfl (fun _ => ?_) (fun _ => ?_))); (fail_if_success (refine s_ask (b := false) rfl rfl (fun _ => ?_) (fun _ => ?_))); (refine s_ask rfl rfl (fun hc => ?_) (fun hc => ?_) <;> (rw [hc]; try simp only [decide_eq_true_eq, decide_eq_false_iff_not, Bool.not_eq_true', Bool.not_eq_false', Bool.not_eq_true, Bool.not_eq_false] at hc) <;> (first | (exfalso; omega; done) | exact absurd rfl hc | skip))))
    all_goals (first | apply fin_ret [0] ?h1 ?h3 rfl rfl rfl rfl ?h2 | (refine fin_norm ?_; apply fin_ret [0] ?h1 ?h3 rfl rfl rfl rfl ?h2)); (case h1 => repeat (first | exact res_nil | apply res_tmp rfl rfl | apply res_cell rfl rfl rfl rfl rfl | apply res_cell1 rfl rfl rfl rfl rfl)); (case h3 => repeat (first | exact trivial | refine And.intro (Or.inr rfl) ?_ | refine And.intro (Or.inl rfl) ?_)); (case h2 => first | rfl | (simp only [ren, resV]; done))

theorem fnExactResegment_law (a0 : Option Addr) (c0 : Nat) (l0 : List Su) (w : World) (hl0 : l0.length ≤ c0 ∧ l0.length ≤ maxLen) (hrd0 : Rd w a0 (l0.flatMap cSuper)) (hok0 : ∀ v ∈ l0, v.ok) :
    Calls Try.prog 18 #[.slice a0 l0.length c0] w fun e w' => e = .returned (.bool true) ∧ Below w.heap.size w w' := by
  have e : maxLen = 9223372036854775807 := rfl
  obtain ⟨b0, k0, q0⟩ := in_slice (c := cSuper) (z := 18) (fun _ => rfl) (fun _ => rfl) hl0.1 hrd0 (by omega)
  refine law_of (fnExactResegment_fn l0 (by omega) (fun v hv => by have := (hok0 v hv); unfold Su.ok at this; omega)) rfl [b0] rfl (fun i x y g1 g2 ρ => by
    match i, g1, g2 with
    | 0, g1, g2 => simp at g1 g2; subst g1; subst g2; exact k0 ρ
    | (_ + 1), g1, g2 => simp at g1) (.cons (.of1 (q0 _ 0 rfl)) .nil)

end Go.Proofs.Ytgkedbhpeafbbaa

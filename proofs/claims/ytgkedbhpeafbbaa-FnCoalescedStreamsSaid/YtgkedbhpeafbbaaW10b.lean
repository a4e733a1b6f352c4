/-
  The law FnCoalescedStreams walked: it returns true, whatever the bytes.
  Conditions: none.
-/
import Derived.Test.YtgkedbhpeafbbaaW6
import Derived.Test.YtgkedbhpeafbbaaW6d
import Derived.Test.YtgkedbhpeafbbaaD9
import Derived.Test.YtgkedbhpeafbbaaOpen
set_option linter.unusedSimpArgs false
set_option linter.unusedVariables false
namespace Go.Proofs.Ytgkedbhpeafbbaa
open Go.RowKit

section
variable {P : Program} {t : TypeId} {k : IntKind} {a b : Int}
theorem bin_lssT (h : a < b) : BinR P .lss t (.int k a) (.int k b) (.bool true) := by have := bin_lss (P := P) (t := t) (k := k) (a := a) (b := b); rwa [decide_eq_true h] at this
theorem bin_lssF (h : ¬ a < b) : BinR P .lss t (.int k a) (.int k b) (.bool false) := by have := bin_lss (P := P) (t := t) (k := k) (a := a) (b := b); rwa [decide_eq_false h] at this
theorem bin_geqT (h : a ≥ b) : BinR P .geq t (.int k a) (.int k b) (.bool true) := by have := bin_geq (P := P) (t := t) (k := k) (a := a) (b := b); rwa [decide_eq_true h] at this
theorem bin_geqF (h : ¬ a ≥ b) : BinR P .geq t (.int k a) (.int k b) (.bool false) := by have := bin_geq (P := P) (t := t) (k := k) (a := a) (b := b); rwa [decide_eq_false h] at this
theorem bin_leqT (h : a ≤ b) : BinR P .leq t (.int k a) (.int k b) (.bool true) := by have := bin_leq (P := P) (t := t) (k := k) (a := a) (b := b); rwa [decide_eq_true h] at this
theorem bin_leqF (h : ¬ a ≤ b) : BinR P .leq t (.int k a) (.int k b) (.bool false) := by have := bin_leq (P := P) (t := t) (k := k) (a := a) (b := b); rwa [decide_eq_false h] at this
theorem bin_gtrT (h : b < a) : BinR P .gtr t (.int k a) (.int k b) (.bool true) := by have := bin_gtr (P := P) (t := t) (k := k) (a := a) (b := b); rwa [decide_eq_true h] at this
theorem bin_gtrF (h : ¬ b < a) : BinR P .gtr t (.int k a) (.int k b) (.bool false) := by have := bin_gtr (P := P) (t := t) (k := k) (a := a) (b := b); rwa [decide_eq_false h] at this
end
set_option maxHeartbeats 64000000 in
set_option maxRecDepth 100000 in
theorem big_fn (cd : List UInt8) (hc : cd.length ≤ 9223372036854775807) : Fn Try.prog 24 [.slice (some ⟨0, 0, some 0⟩) cd.length cd.length] [.arr 1 .ro (bys cd)] (.bool (decide ((cd.length : Int) > 1048576))) [.arr 1 .ro (bys cd)] := by
  refine Fn.intro tabs_ok (nt := 6) (rs := [.tmp 2]) Try.func24 rfl rfl rfl rfl rfl rfl rfl rfl rfl ?_; (first | refine aw_in0 ?_ | refine aw_in1 ?_ | refine aw_in2 ?_ | refine aw_in3 ?_ | refine aw_in4 ?_ | refine aw_in5 ?_ | refine aw_in6 ?_)
  repeat' (first | refine so_open rfl (by simp only [Nat.reduceAdd]; exact rfl) ?_ | (show SL _ _ _ (⟨_, .move _, _, _, _, _⟩ :: _) _ _ _ _; first | refine s_move rfl rfl rfl ?_) | (show SL _ _ _ (⟨_, .assign _, _, _, _, _⟩ :: _) _ _ _ _; first | refine s_assign rfl rfl rfl ?_) | (show SL _ _ _ (⟨_, .call _, _, _, _, _⟩ :: _) _ _ _ _; first | refine s_lenS tabs_ok rfl rfl rfl rfl ?_ | refine s_lenT (by first | exact str_9) rfl rfl rfl ?_) | (show SL _ _ _ (⟨_, .binOp .gtr _ _ _ _, _, _, _, _⟩ :: _) _ _ _ _; first | refine s_bin rfl rfl bin_gtr rfl rfl ?_) | refine so_nil rfl (hK _ _ _ ?_) | refine aw_seqSR Try.f24 rfl (fun K hK => ?_) | refine aw_endSR Try.f24 rfl (fun K hK => ?_) | refine AW.seq ?_ | refine AW.skip ?_ | refine AW.ret ?_ | refine AW.exit ?_ | refine AW.block ?_ | refine then_n ?_ | refine then_r ?_ | refine then_e ?_ | refine in_n ?_ | refine in_r ?_ | refine in_e rfl ?_ | refine in_o rfl ?_ | refine AW.cond_true rfl ?_ | refine AW.cond_false rfl ?_ | (refine AW.cond_dec rfl (fun hc => ?_) (fun hc => ?_) <;> (first | (exfalso; omega; done) | exact absurd rfl hc | skip)) | (refine AW.cond_ndec rfl (fun hc => ?_) (fun hc => ?_) <;> (first | (exfalso; omega; done) | exact absurd rfl hc | skip)) | (refine AW.cond rfl (fun hc => ?_) (fun hc => ?_)))
  all_goals (first | apply fin_ret [0] ?h1 ?h3 rfl rfl rfl rfl ?h2 | (refine fin_norm ?_; apply fin_ret [0] ?h1 ?h3 rfl rfl rfl rfl ?h2)); (case h1 => repeat (first | exact res_nil | apply res_tmp rfl rfl | apply res_cell rfl rfl rfl rfl rfl | apply res_cell1 rfl rfl rfl rfl rfl)); (case h3 => repeat (first | exact trivial | refine And.intro (Or.inr rfl) ?_ | refine And.intro (Or.inl rfl) ?_)); (case h2 => first | rfl | (simp only [ren, resV]; done))

theorem dlvs_len1 : ∀ (ps : List Pk) (l : List Sm), (dlvs l ps).length ≤ l.length + ps.length
  | [], l => Nat.le_refl _
  | p :: ps, l => by
    have h1 := dlvs_len1 ps (dlv l p)
    have h2 := dlv_len1 l p
    rw [dlvs_cons, List.length_cons]; omega

set_option maxHeartbeats 64000000 in
set_option maxRecDepth 100000 in
theorem fnCoalescedStreams_fn (cd : List UInt8) (hc0 : cd.length ≤ 9223372036854775807) : Fn Try.prog 4 [.slice (some ⟨0, 0, some 0⟩) cd.length cd.length] [.arr 1 .ro (bys cd)] (.bool true) [.arr 1 .ro (bys cd)] := by
  have hB := big_fn cd hc0
  by_cases hbig : (cd.length : Int) > 1048576
  rw [decide_eq_true hbig] at hB
  rotate_left
  rw [decide_eq_false hbig] at hB
  obtain ⟨ls, l, hl1, hl10, hg, hls, hd, FO⟩ := drawstreams_fn cd (by omega)
  have hone : ∀ p ∈ l, p.one := fun p hp => (hg p hp).one
  have hlen := (coal_len hone).1
  have hdl := dlvs_len l ls
  have hdc := dlvs_coal hone ls
  have hC := coalesce_impl l (by omega)
  have hA := deliverAll_impl ls l (by omega) (by omega) (fun y hy => by have := hd y hy; omega)
  have hS := deliverSupers_impl ls (coal l) (by omega) (by omega) (fun y hy => by have := hd y hy; omega)
  rw [hdc] at hS
  obtain ⟨R, hRR⟩ : ∃ R, coal l = R := ⟨_, rfl⟩
  rw [hRR] at hC hS hlen
  have hdu : (dlvs ls l).length ≤ ls.length + l.length := dlvs_len1 l ls
  obtain ⟨D, hDD⟩ : ∃ D, dlvs ls l = D := ⟨_, rfl⟩
  rw [hDD] at hA hS hdl hdu
  have hE := sameStreams_any D (by omega)
  clear hRR hone hg hdc hDD hd
  rotate_left
  all_goals
    refine Fn.intro tabs_ok (nt := 31) (rs := [.tmp 2]) Try.func4 rfl rfl rfl rfl rfl rfl rfl rfl rfl ?_; (first | refine aw_in0 ?_ | refine aw_in1 ?_ | refine aw_in2 ?_ | refine aw_in3 ?_ | refine aw_in4 ?_ | refine aw_in5 ?_ | refine aw_in6 ?_)
    repeat' (first | refine so_open rfl (by simp only [Nat.reduceAdd]; exact rfl) ?_ | refine s_pass rfl rfl ?_ | (show SL _ _ _ (⟨_, .call _, _, _, _, _⟩ :: _) _ _ _ _; first | refine s_callR (hB) [_] (by (repeat (apply evA_cons rfl)); exact evA_nil) rfl (by (repeat (first | refine And.intro ⟨_, rfl⟩ ?_ | refine And.intro rfl ?_)); exact trivial) rfl rfl rfl rfl rfl ?_ | refine s_callG (FO) [_] (by (repeat (apply evA_cons rfl)); exact evA_nil) rfl (by (repeat (first | refine And.intro ⟨_, rfl⟩ ?_ | refine And.intro rfl ?_)); exact trivial) rfl rfl (by simp only [ren, ren2, ren1, tauc, Blk.ren, updS, addS, Blk.own, Ow.own, List.map_cons, List.map_nil, List.toList_toArray, List.getElem?_cons_zero, List.getElem?_cons_succ, List.getElem?_nil, List.length_cons, List.length_nil, List.drop_succ_cons, List.drop_zero, List.drop_nil, Nat.reduceAdd, Nat.reduceSub, Nat.zero_add, Nat.add_zero, Bool.false_eq_true, if_true, if_false, ite_true, ite_false, reduceIte]; exact rfl) (by simp only [ren, ren2, ren1, tauc, Blk.ren, updS, addS, Blk.own, Ow.own, List.map_cons, List.map_nil, List.toList_toArray, List.getElem?_cons_zero, List.getElem?_cons_succ, List.getElem?_nil, List.length_cons, List.length_nil, List.drop_succ_cons, List.drop_zero, List.drop_nil, Nat.reduceAdd, Nat.reduceSub, Nat.zero_add, Nat.add_zero, Bool.false_eq_true, if_true, if_false, ite_true, ite_false, reduceIte]; exact rfl) (by simp only [List.length_cons, List.length_nil, Nat.reduceAdd, Nat.reduceSub]; exact rfl) (by simp only [ownsOf, Blk.own, Ow.own, Bool.false_eq_true, if_true, if_false, reduceIte]; exact rfl) rfl rfl ?_ | refine s_callG (hC) [_] (by (repeat (apply evA_cons rfl)); exact evA_nil) rfl (by (repeat (first | refine And.intro ⟨_, rfl⟩ ?_ | refine And.intro rfl ?_)); exact trivial) rfl rfl (by simp only [ren, ren2, ren1, tauc, Blk.ren, updS, addS, Blk.own, Ow.own, List.map_cons, List.map_nil, List.toList_toArray, List.getElem?_cons_zero, List.getElem?_cons_succ, List.getElem?_nil, List.length_cons, List.length_nil, List.drop_succ_cons, List.drop_zero, List.drop_nil, Nat.reduceAdd, Nat.reduceSub, Nat.zero_add, Nat.add_zero, Bool.false_eq_true, if_true, if_false, ite_true, ite_false, reduceIte]; exact rfl) (by simp only [ren, ren2, ren1, tauc, Blk.ren, updS, addS, Blk.own, Ow.own, List.map_cons, List.map_nil, List.toList_toArray, List.getElem?_cons_zero, List.getElem?_cons_succ, List.getElem?_nil, List.length_cons, List.length_nil, List.drop_succ_cons, List.drop_zero, List.drop_nil, Nat.reduceAdd, Nat.reduceSub, Nat.zero_add, Nat.add_zero, Bool.false_eq_true, if_true, if_false, ite_true, ite_false, reduceIte]; exact rfl) (by simp only [List.length_cons, List.length_nil, Nat.reduceAdd, Nat.reduceSub]; exact rfl) (by simp only [ownsOf, Blk.own, Ow.own, Bool.false_eq_true, if_true, if_false, reduceIte]; exact rfl) rfl rfl ?_ | refine s_callG (hA) [_, _] (by (repeat (apply evA_cons rfl)); exact evA_nil) rfl (by (repeat (first | refine And.intro ⟨_, rfl⟩ ?_ | refine And.intro rfl ?_)); exact trivial) rfl rfl (by simp only [ren, ren2, ren1, tauc, Blk.ren, updS, addS, Blk.own, Ow.own, List.map_cons, List.map_nil, List.toList_toArray, List.getElem?_cons_zero, List.getElem?_cons_succ, List.getElem?_nil, List.length_cons, List.length_nil, List.drop_succ_cons, List.drop_zero, List.drop_nil, Nat.reduceAdd, Nat.reduceSub, Nat.zero_add, Nat.add_zero, Bool.false_eq_true, if_true, if_false, ite_true, ite_false, reduceIte]; exact rfl) (by simp only [ren, ren2, ren1, tauc, Blk.ren, updS, addS, Blk.own, Ow.own, List.map_cons, List.map_nil, List.toList_toArray, List.getElem?_cons_zero, List.getElem?_cons_succ, List.getElem?_nil, List.length_cons, List.length_nil, List.drop_succ_cons, List.drop_zero, List.drop_nil, Nat.reduceAdd, Nat.reduceSub, Nat.zero_add, Nat.add_zero, Bool.false_eq_true, if_true, if_false, ite_true, ite_false, reduceIte]; exact rfl) (by simp only [List.length_cons, List.length_nil, Nat.reduceAdd, Nat.reduceSub]; exact rfl) (by simp only [ownsOf, Blk.own, Ow.own, Bool.false_eq_true, if_true, if_false, reduceIte]; exact rfl) rfl rfl ?_ | refine s_callG (hS) [_, _] (by (repeat (apply evA_cons rfl)); exact evA_nil) rfl (by (repeat (first | refine And.intro ⟨_, rfl⟩ ?_ | refine And.intro rfl ?_)); exact trivial) rfl rfl (by simp only [ren, ren2, ren1, tauc, Blk.ren, updS, addS, Blk.own, Ow.own, List.map_cons, List.map_nil, List.toList_toArray, List.getElem?_cons_zero, List.getElem?_cons_succ, List.getElem?_nil, List.length_cons, List.length_nil, List.drop_succ_cons, List.drop_zero, List.drop_nil, Nat.reduceAdd, Nat.reduceSub, Nat.zero_add, Nat.add_zero, Bool.false_eq_true, if_true, if_false, ite_true, ite_false, reduceIte]; exact rfl) (by simp only [ren, ren2, ren1, tauc, Blk.ren, updS, addS, Blk.own, Ow.own, List.map_cons, List.map_nil, List.toList_toArray, List.getElem?_cons_zero, List.getElem?_cons_succ, List.getElem?_nil, List.length_cons, List.length_nil, List.drop_succ_cons, List.drop_zero, List.drop_nil, Nat.reduceAdd, Nat.reduceSub, Nat.zero_add, Nat.add_zero, Bool.false_eq_true, if_true, if_false, ite_true, ite_false, reduceIte]; exact rfl) (by simp only [List.length_cons, List.length_nil, Nat.reduceAdd, Nat.reduceSub]; exact rfl) (by simp only [ownsOf, Blk.own, Ow.own, Bool.false_eq_true, if_true, if_false, reduceIte]; exact rfl) rfl rfl ?_ | refine s_callR (hE) [_, _] (by (repeat (apply evA_cons rfl)); exact evA_nil) rfl (by (repeat (first | refine And.intro ⟨_, rfl⟩ ?_ | refine And.intro rfl ?_)); exact trivial) rfl rfl rfl rfl rfl ?_ | refine s_lenS tabs_ok rfl rfl rfl rfl ?_ | refine s_lenT (by first | exact str_9) rfl rfl rfl ?_) | (show SL _ _ _ (⟨_, .binOp .lss _ _ _ _, _, _, _, _⟩ :: _) _ _ _ _; first | refine s_bin (op := .lss) rfl rfl (bin_lssT (by omega)) rfl rfl ?_ | refine s_bin (op := .lss) rfl rfl (bin_lssF (by omega)) rfl rfl ?_) | (show SL _ _ _ (⟨_, .binOp .geq _ _ _ _, _, _, _, _⟩ :: _) _ _ _ _; first | refine s_bin (op := .geq) rfl rfl (bin_geqT (by omega)) rfl rfl ?_ | refine s_bin (op := .geq) rfl rfl (bin_geqF (by omega)) rfl rfl ?_ | refine s_bin rfl rfl bin_geq rfl rfl ?_) | (show SL _ _ _ (⟨_, .binOp .leq _ _ _ _, _, _, _, _⟩ :: _) _ _ _ _; first | refine s_bin (op := .leq) rfl rfl (bin_leqT (by omega)) rfl rfl ?_ | refine s_bin (op := .leq) rfl rfl (bin_leqF (by omega)) rfl rfl ?_) | (show SL _ _ _ (⟨_, .binOp .gtr _ _ _ _, _, _, _, _⟩ :: _) _ _ _ _; first | refine s_bin (op := .gtr) rfl rfl (bin_gtrT (by omega)) rfl rfl ?_ | refine s_bin (op := .gtr) rfl rfl (bin_gtrF (by omega)) rfl rfl ?_) | (show SL _ _ _ (⟨_, .move _, _, _, _, _⟩ :: _) _ _ _ _; first | refine s_move rfl rfl rfl ?_) | (show SL _ _ _ (⟨_, .assign _, _, _, _, _⟩ :: _) _ _ _ _; first | refine s_assign rfl rfl rfl ?_) | (show SL _ _ _ (⟨_, .pick _ _ _, _, _, _, _⟩ :: _) _ _ _ _; first | refine s_pickt rfl rfl rfl rfl ?_ | refine s_pickf rfl rfl rfl rfl ?_) | (show SL _ _ _ (⟨_, .extract _ _, _, _, _, _⟩ :: _) _ _ _ _; first | refine s_extract rfl rfl rfl rfl ?_) | refine so_nil rfl (hK _ _ _ ?_) | refine aw_seqSR Try.f4 rfl (fun K hK => ?_) | refine aw_endSR Try.f4 rfl (fun K hK => ?_) | refine AW.seq ?_ | refine AW.skip ?_ | refine AW.ret ?_ | refine AW.exit ?_ | refine AW.block ?_ | refine then_n ?_ | refine then_r ?_ | refine then_e ?_ | refine in_n ?_ | refine in_r ?_ | refine in_e rfl ?_ | refine in_o rfl ?_ | refine AW.cond_true rfl ?_ | refine AW.cond_false rfl ?_ | (refine AW.cond_dec rfl (fun hc => ?_) (fun hc => ?_) <;> (first | (exfalso; omega; done) | exact absurd rfl hc | skip)) | (refine AW.cond_ndec rfl (fun hc => ?_) (fun hc => ?_) <;> (first | (exfalso; omega; done) | exact absurd rfl hc | skip)) | (refine AW.cond rfl (fun hc => ?_) (fun hc => ?_)) | ((fail_if_success (refine s_ask (b := true) rfl rfl (fun _ => ?_) (fun _ => ?_))); (fail_if_success (refine s_ask (b := false) rfl rfl (fun _ => ?_) (fun _ => ?_))); (refine s_ask rfl rfl (fun hc => ?_) (fun hc => ?_) <;> (rw [hc]; try simp only [decide_eq_true_eq, decide_eq_false_iff_not, Bool.not_eq_true', Bool.not_eq_false', Bool.not_eq_true, Bool.not_eq_false] at hc) <;> (first | (exfalso; omega; done) | exact absurd rfl hc | skip))))
    all_goals (first | apply fin_ret [0] ?h1 ?h3 rfl rfl rfl rfl ?h2 | (refine fin_norm ?_; apply fin_ret [0] ?h1 ?h3 rfl rfl rfl rfl ?h2)); (case h1 => repeat (first | exact res_nil | apply res_tmp rfl rfl | apply res_cell rfl rfl rfl rfl rfl | apply res_cell1 rfl rfl rfl rfl rfl)); (case h3 => repeat (first | exact trivial | refine And.intro (Or.inr rfl) ?_ | refine And.intro (Or.inl rfl) ?_)); (case h2 => first | rfl | (refine congrArg Value.bool ?_; first | rfl | exact decide_eq_true (by omega) | exact decide_eq_false (by omega) | (simp only [Bool.not_eq_true', Bool.not_eq_false', decide_eq_true_eq, decide_eq_false_iff_not]; omega)))

theorem fnCoalescedStreams_law (a : Option Addr) (c : Nat) (l : List UInt8) (w : World) (hl : l.length ≤ c ∧ l.length ≤ maxLen) (hrd : Rd w a (l.flatMap fun v => [.int .u8 (v.toNat : Int)])) :
    Calls Try.prog 4 #[.slice a l.length c] w fun e w' => e = .returned (.bool true) ∧ Below w.heap.size w w' := by
  have e : maxLen = 9223372036854775807 := rfl
  obtain ⟨b0, k0, q0⟩ := in_slice (c := fun v : UInt8 => [Value.int .u8 (v.toNat : Int)]) (z := 1) (fun _ => rfl) (fun _ => rfl) hl.1 hrd (by omega)
  refine law_of (fnCoalescedStreams_fn l (by omega)) rfl [b0] rfl (fun i x y g1 g2 ρ => by
    match i, g1, g2 with
    | 0, g1, g2 => simp at g1 g2; subst g1; subst g2; exact k0 ρ
    | (_ + 1), g1, g2 => simp at g1) (.cons (.of1 (q0 _ 0 rfl)) .nil)

end Go.Proofs.Ytgkedbhpeafbbaa

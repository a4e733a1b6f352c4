/-
  RuleMatches of the reference and of the program.
  Conditions: none.
-/
import Derived.Test.YtncciafldmoklaaW2Sup
import Derived.Test.YtncciafldmoklaaRuleCov
import Derived.Test.YtncciafldmoklaaS3Rule
import Derived.Test.YtncciafldmoklaaEngQ
set_option linter.unusedSimpArgs false
set_option linter.unusedVariables false
namespace Go.Proofs.Ytncciafldmoklaa
open Go.RowKit

theorem ruleok_spec (r : Ru) : Fn Try.prog 49 [.agg [.int .i64 r.pr, .int .i64 r.kd, .int .i64 r.ip, .int .i64 r.bt, .int .i64 r.fp, .int .i64 r.lp, .int .i64 r.vl, .int .i64 r.ac, .int .i64 r.qu].toArray] [] (.bool r.good) [] :=
  Fn.of_below ⟨_, Try.func49, rfl, rfl⟩ rfl rfl fun w => ruleOk_spec r w
theorem ruleok_impl (r : Ru) : Fn Try.prog 51 [.agg [.int .i64 r.pr, .int .i64 r.kd, .int .i64 r.ip, .int .i64 r.bt, .int .i64 r.fp, .int .i64 r.lp, .int .i64 r.vl, .int .i64 r.ac, .int .i64 r.qu].toArray] [] (.bool r.good) [] :=
  Fn.of_below ⟨_, Try.func51, rfl, rfl⟩ rfl rfl fun w => ruleOk_impl r w
theorem covers_specF (a b : Ru) : Fn Try.prog 52 [.agg [.int .i64 a.pr, .int .i64 a.kd, .int .i64 a.ip, .int .i64 a.bt, .int .i64 a.fp, .int .i64 a.lp, .int .i64 a.vl, .int .i64 a.ac, .int .i64 a.qu].toArray, .agg [.int .i64 b.pr, .int .i64 b.kd, .int .i64 b.ip, .int .i64 b.bt, .int .i64 b.fp, .int .i64 b.lp, .int .i64 b.vl, .int .i64 b.ac, .int .i64 b.qu].toArray] [] (.bool (covers a b)) [] :=
  Fn.of_below ⟨_, Try.func52, rfl, rfl⟩ rfl rfl fun w => covers_spec a b w
theorem covers_implF (a b : Ru) : Fn Try.prog 53 [.agg [.int .i64 a.pr, .int .i64 a.kd, .int .i64 a.ip, .int .i64 a.bt, .int .i64 a.fp, .int .i64 a.lp, .int .i64 a.vl, .int .i64 a.ac, .int .i64 a.qu].toArray, .agg [.int .i64 b.pr, .int .i64 b.kd, .int .i64 b.ip, .int .i64 b.bt, .int .i64 b.fp, .int .i64 b.lp, .int .i64 b.vl, .int .i64 b.ac, .int .i64 b.qu].toArray] [] (.bool (covers a b)) [] :=
  Fn.of_below ⟨_, Try.func53, rfl, rfl⟩ rfl rfl fun w => covers_impl a b w
theorem samepre_fn (a b k : Int) (hk : 0 ≤ k ∧ k ≤ 32) : Fn Try.prog 95 [.int .i64 a, .int .i64 b, .int .i64 k] [] (.bool (preEq a b k)) [] :=
  Fn.of_below ⟨_, Try.func95, rfl, rfl⟩ rfl rfl fun w => samePre_any a b k hk w

abbrev cPacket (p : Pk) : List Value := [.int .i64 p.dm, .int .i64 p.sm, .int .i64 p.vl, .int .i64 p.ts, .int .i64 p.id, .int .i64 p.tt, .int .i64 p.si, .int .i64 p.di, .int .i64 p.g.kd, .int .i64 p.g.sp, .int .i64 p.g.dp, .int .i64 p.g.sq, .int .i64 p.g.ak, .int .i64 p.g.fl, .int .i64 p.g.wn, .string p.g.bd]
def Pk.sup (p : Pk) : Prop := SupOk p.dm p.sm p.vl p.ts p.id p.tt p.si p.di p.g.kd p.g.sp p.g.dp p.g.sq p.g.ak p.g.fl p.g.wn p.g.bd.size
instance {p : Pk} : Decidable p.sup := by unfold Pk.sup; infer_instance
theorem supokP_spec (p : Pk) : Fn Try.prog 98 [.agg (cPacket p).toArray] [] (.bool (decide p.sup)) [] := supok_spec (x0 := p.dm) (x1 := p.sm) (x2 := p.vl) (x3 := p.ts) (x4 := p.id) (x5 := p.tt) (x6 := p.si) (x7 := p.di) (x8 := p.g.kd) (x9 := p.g.sp) (x10 := p.g.dp) (x11 := p.g.sq) (x12 := p.g.ak) (x13 := p.g.fl) (x14 := p.g.wn) (x15 := p.g.bd)
theorem supokP_impl (p : Pk) : Fn Try.prog 101 [.agg (cPacket p).toArray] [] (.bool (decide p.sup)) [] := supok_impl (x0 := p.dm) (x1 := p.sm) (x2 := p.vl) (x3 := p.ts) (x4 := p.id) (x5 := p.tt) (x6 := p.si) (x7 := p.di) (x8 := p.g.kd) (x9 := p.g.sp) (x10 := p.g.dp) (x11 := p.g.sq) (x12 := p.g.ak) (x13 := p.g.fl) (x14 := p.g.wn) (x15 := p.g.bd)

/-- The rule fits the packet. -/
def Ru.fits (r : Ru) (p : Pk) : Prop := (r.kd = 0 ∨ r.kd = p.g.kd) ∧ r.ip / (2 : Int) ^ (32 - r.bt).toNat = p.si / (2 : Int) ^ (32 - r.bt).toNat ∧ (r.fp ≤ p.g.dp ∧ p.g.dp ≤ r.lp) ∧ (r.vl = -2 ∨ r.vl = p.vl)
instance {r : Ru} {p : Pk} : Decidable (r.fits p) := by unfold Ru.fits; infer_instance
/-- RuleMatches. -/
def Ru.hits (r : Ru) (p : Pk) : Prop := r.good = true ∧ p.sup ∧ r.fits p
instance {r : Ru} {p : Pk} : Decidable (r.hits p) := by unfold Ru.hits; infer_instance

set_option maxHeartbeats 64000000 in
set_option maxRecDepth 100000 in
theorem matchesL (r : Ru) (p : Pk) (hbt : 0 ≤ r.bt ∧ r.bt ≤ 32) : Fn Try.prog 99 [.agg [.int .i64 r.pr, .int .i64 r.kd, .int .i64 r.ip, .int .i64 r.bt, .int .i64 r.fp, .int .i64 r.lp, .int .i64 r.vl, .int .i64 r.ac, .int .i64 r.qu].toArray, .agg (cPacket p).toArray] [] (.bool (decide (r.fits p))) [] := by
  obtain ⟨D, hD⟩ : ∃ D, (2 : Int) ^ (32 - r.bt).toNat = D := ⟨_, rfl⟩
  obtain ⟨A, hA⟩ : ∃ A, r.ip / D = A := ⟨_, rfl⟩
  obtain ⟨B, hB⟩ : ∃ B, p.si / D = B := ⟨_, rfl⟩
  have hQ : r.fits p ↔ ((r.kd = 0 ∨ r.kd = p.g.kd) ∧ A = B ∧ (r.fp ≤ p.g.dp ∧ p.g.dp ≤ r.lp) ∧ (r.vl = -2 ∨ r.vl = p.vl)) := by
    unfold Ru.fits; rw [hD, hA, hB]
  have hbA : BinR Try.prog .shr 3 (.int .i64 r.ip) (.int .i64 (32 - r.bt)) (.int .i64 A) := by rw [← hA]; exact bin_shrC (by omega) (by omega) hD
  have hbB : BinR Try.prog .shr 3 (.int .i64 p.si) (.int .i64 (32 - r.bt)) (.int .i64 B) := by rw [← hB]; exact bin_shrC (by omega) (by omega) hD
  by_cases hm : r.fits p
  rw [decide_eq_true hm]
  rw [hQ] at hm
  rotate_left
  rw [decide_eq_false hm]
  rw [hQ] at hm
  all_goals try clear hQ
  all_goals
    refine Fn.intro tabs_ok (nt := 53) (rs := [.tmp 4]) Try.func99 rfl rfl rfl rfl rfl rfl rfl rfl rfl ?_; (first | refine aw_in0 ?_ | refine aw_in1 ?_ | refine aw_in2 ?_ | refine aw_in3 ?_ | refine aw_in4 ?_ | refine aw_in5 ?_ | refine aw_in6 ?_)
    repeat' (first | refine so_open rfl (by simp only [Nat.reduceAdd]; exact rfl) ?_ | refine s_pass rfl rfl ?_ | (show SL _ _ _ (⟨_, .binOp .shr _ _ _ _, _, _, _, _⟩ :: _) _ _ _ _; first | refine s_bin (op := .shr) rfl rfl (hbA) rfl rfl ?_ | refine s_bin (op := .shr) rfl rfl (hbB) rfl rfl ?_) | (show SL _ _ _ (⟨_, .call _, _, _, _, _⟩ :: _) _ _ _ _; first | refine s_call0 (in_fn) (by (repeat (apply evA_cons rfl)); exact evA_nil) rfl rfl rfl ?_) | (show SL _ _ _ (⟨_, .move _, _, _, _, _⟩ :: _) _ _ _ _; first | refine s_move rfl rfl rfl ?_) | (show SL _ _ _ (⟨_, .assign _, _, _, _, _⟩ :: _) _ _ _ _; first | refine s_assign rfl rfl rfl ?_) | (show SL _ _ _ (⟨_, .fieldAddr _ _ _, _, _, _, _⟩ :: _) _ _ _ _; first | refine s_fld tabs_ok rfl rfl rfl rfl ?_) | (show SL _ _ _ (⟨_, .load _ _, _, _, _, _⟩ :: _) _ _ _ _; first | refine s_load tabs_ok rfl rfl rfl rfl rfl rfl rfl ?_ | refine s_aload tabs_ok rfl rfl rfl rfl (by assumption) rfl rfl rfl ?_ | refine s_loadW tabs_ok rfl rfl rfl rfl rfl rfl rfl ?_ | refine s_aloadW tabs_ok rfl rfl rfl rfl (by assumption) rfl rfl rfl ?_ | refine s_loadS tabs_ok rfl rfl rfl rfl (by simp only [seg, Option.map_some, Option.map_none]; exact rfl) rfl rfl ?_ | refine s_aloadS tabs_ok rfl rfl rfl rfl (by assumption) (by simp only [seg, Option.map_some, Option.map_none]; exact rfl) rfl rfl ?_ | refine s_aload2 tabs_ok rfl rfl rfl rfl (by assumption) rfl rfl rfl ?_) | (show SL _ _ _ (⟨_, .pick _ _ _, _, _, _, _⟩ :: _) _ _ _ _; first | refine s_pickt rfl rfl rfl rfl ?_ | refine s_pickf rfl rfl rfl rfl ?_) | (show SL _ _ _ (⟨_, .binOp .eql _ _ _ _, _, _, _, _⟩ :: _) _ _ _ _; first | refine s_bin rfl rfl bin_eql rfl rfl ?_ | refine s_bin rfl rfl bin_seql rfl rfl ?_ | refine s_bin rfl rfl (bin_beql Try.underlying4) rfl rfl ?_) | (show SL _ _ _ (⟨_, .binOp .sub _ _ _ _, _, _, _, _⟩ :: _) _ _ _ _; first | refine s_bin rfl rfl (bin_sub64 (by omega) (by omega)) rfl rfl ?_) | (show SL _ _ _ (⟨_, .box _ _, _, _, _, _⟩ :: _) _ _ _ _; first | refine s_boxS rfl (by simp only [Nat.reduceAdd]; exact rfl) rfl rfl ?_ | refine s_box1 rfl rfl (by simp only [Nat.reduceAdd]; exact rfl) rfl rfl ?_) | refine do_open rfl (by simp only [Nat.reduceAdd]; exact rfl) ?_ | refine d_pass rfl rfl ?_ | (show DL _ _ _ (⟨_, .binOp .shr _ _ _ _, _, _, _, _⟩ :: _) _ _ _ _ _; first | refine d_bin (op := .shr) rfl rfl (hbA) rfl rfl ?_ | refine d_bin (op := .shr) rfl rfl (hbB) rfl rfl ?_) | (show DL _ _ _ (⟨_, .call _, _, _, _, _⟩ :: _) _ _ _ _ _; first | refine d_call0 (in_fn) (by (repeat (apply evA_cons rfl)); exact evA_nil) rfl rfl rfl ?_) | (show DL _ _ _ (⟨_, .move _, _, _, _, _⟩ :: _) _ _ _ _ _; first | refine d_move rfl rfl rfl ?_) | (show DL _ _ _ (⟨_, .assign _, _, _, _, _⟩ :: _) _ _ _ _ _; first | refine d_assign rfl rfl rfl ?_) | (show DL _ _ _ (⟨_, .fieldAddr _ _ _, _, _, _, _⟩ :: _) _ _ _ _ _; first | refine d_fld tabs_ok rfl rfl rfl rfl ?_) | (show DL _ _ _ (⟨_, .load _ _, _, _, _, _⟩ :: _) _ _ _ _ _; first | refine d_load tabs_ok rfl rfl rfl rfl rfl rfl rfl ?_ | refine d_aload tabs_ok rfl rfl rfl rfl (by assumption) rfl rfl rfl ?_ | refine d_loadW tabs_ok rfl rfl rfl rfl rfl rfl rfl ?_ | refine d_aloadW tabs_ok rfl rfl rfl rfl (by assumption) rfl rfl rfl ?_ | refine d_loadS tabs_ok rfl rfl rfl rfl (by simp only [seg, Option.map_some, Option.map_none]; exact rfl) rfl rfl ?_ | refine d_aloadS tabs_ok rfl rfl rfl rfl (by assumption) (by simp only [seg, Option.map_some, Option.map_none]; exact rfl) rfl rfl ?_ | refine d_aload2 tabs_ok rfl rfl rfl rfl (by assumption) rfl rfl rfl ?_) | (show DL _ _ _ (⟨_, .pick _ _ _, _, _, _, _⟩ :: _) _ _ _ _ _; first | refine d_pickt rfl rfl rfl rfl ?_ | refine d_pickf rfl rfl rfl rfl ?_) | (show DL _ _ _ (⟨_, .binOp .eql _ _ _ _, _, _, _, _⟩ :: _) _ _ _ _ _; first | refine d_bin rfl rfl bin_eql rfl rfl ?_ | refine d_bin rfl rfl bin_seql rfl rfl ?_ | refine d_bin rfl rfl (bin_beql Try.underlying4) rfl rfl ?_) | (show DL _ _ _ (⟨_, .binOp .sub _ _ _ _, _, _, _, _⟩ :: _) _ _ _ _ _; first | refine d_bin rfl rfl (bin_sub64 (by omega) (by omega)) rfl rfl ?_) | (show DL _ _ _ (⟨_, .box _ _, _, _, _, _⟩ :: _) _ _ _ _ _; first | refine d_boxS rfl (by simp only [Nat.reduceAdd]; exact rfl) rfl rfl ?_ | refine d_box1 rfl rfl (by simp only [Nat.reduceAdd]; exact rfl) rfl rfl ?_) | refine so_nil rfl (hK _ _ _ ?_) | refine aw_seqSR Try.f99 rfl (fun K hK => ?_) | refine aw_endSR Try.f99 rfl (fun K hK => ?_) | refine do_nil rfl (hK _ _ _ _ (by kernel_rfl) ?_) | refine aw_seqDR Try.f99 rfl mixed_ok (fun K hK => ?_) | refine aw_endDR Try.f99 rfl mixed_ok (fun K hK => ?_) | refine AW.seq ?_ | refine AW.skip ?_ | refine AW.ret ?_ | refine AW.exit ?_ | refine AW.block ?_ | refine then_n ?_ | refine then_r ?_ | refine then_e ?_ | refine in_n ?_ | refine in_r ?_ | refine in_e rfl ?_ | refine in_o rfl ?_ | refine AW.cond_true rfl ?_ | refine AW.cond_false rfl ?_ | (refine AW.cond_dec rfl (fun hc => ?_) (fun hc => ?_) <;> (first | (exfalso; omega; done) | exact absurd rfl hc | skip)) | (refine AW.cond_ndec rfl (fun hc => ?_) (fun hc => ?_) <;> (first | (exfalso; omega; done) | exact absurd rfl hc | skip)) | (refine AW.cond rfl (fun hc => ?_) (fun hc => ?_)) | ((fail_if_success (refine s_ask (b := true) rfl rfl (fun _ => ?_) (fun _ => ?_))); (fail_if_success (refine s_ask (b := false) rfl rfl (fun _ => ?_) (fun _ => ?_))); (refine s_ask rfl rfl (fun hc => ?_) (fun hc => ?_) <;> (rw [hc]; try simp only [decide_eq_true_eq, decide_eq_false_iff_not, Bool.not_eq_true', Bool.not_eq_false', Bool.not_eq_true, Bool.not_eq_false] at hc) <;> (first | (exfalso; omega; done) | exact absurd rfl hc | skip))) | ((fail_if_success (refine d_ask (b := true) rfl rfl (fun _ => ?_) (fun _ => ?_))); (fail_if_success (refine d_ask (b := false) rfl rfl (fun _ => ?_) (fun _ => ?_))); (refine d_ask rfl rfl (fun hc => ?_) (fun hc => ?_) <;> (rw [hc]; try simp only [decide_eq_true_eq, decide_eq_false_iff_not, Bool.not_eq_true', Bool.not_eq_false', Bool.not_eq_true, Bool.not_eq_false] at hc) <;> (first | (exfalso; omega; done) | exact absurd rfl hc | skip))))
    all_goals (first | apply fin_ret [] ?h1 ?h3 rfl rfl rfl rfl ?h2 | (refine fin_norm ?_; apply fin_ret [] ?h1 ?h3 rfl rfl rfl rfl ?h2)); (case h1 => repeat (first | exact res_nil | apply res_tmp rfl rfl | apply res_cell rfl rfl rfl rfl rfl | apply res_cell1 rfl rfl rfl rfl rfl)); (case h3 => repeat (first | exact trivial | refine And.intro (Or.inr rfl) ?_ | refine And.intro (Or.inl rfl) ?_)); (case h2 => first | rfl | (refine congrArg Value.bool ?_; first | rfl | exact decide_eq_true (by omega) | exact decide_eq_false (by omega) | (simp only [Bool.not_eq_true', Bool.not_eq_false', decide_eq_true_eq, decide_eq_false_iff_not]; omega)))

set_option maxHeartbeats 64000000 in
set_option maxRecDepth 100000 in
theorem hits_spec (r : Ru) (p : Pk) : Fn Try.prog 60 [.agg [.int .i64 r.pr, .int .i64 r.kd, .int .i64 r.ip, .int .i64 r.bt, .int .i64 r.fp, .int .i64 r.lp, .int .i64 r.vl, .int .i64 r.ac, .int .i64 r.qu].toArray, .agg (cPacket p).toArray] [] (.bool (decide (r.hits p))) [] := by
  have hR := ruleok_spec r
  have hS := supokP_spec p
  by_cases hg : ¬ r.good = true
  have hg' : r.good = false := by simpa using hg
  rw [hg'] at hR
  rw [show decide (r.hits p) = false from decide_eq_false (fun h => hg h.1)]
  rotate_left
  replace hg := Decidable.not_not.1 hg
  rw [hg] at hR
  by_cases hs : ¬ p.sup
  rw [decide_eq_false hs] at hS
  rw [show decide (r.hits p) = false from decide_eq_false (fun h => hs h.2.1)]
  rotate_left
  replace hs := Decidable.not_not.1 hs
  rw [decide_eq_true hs] at hS
  have hM := matchesL r p (good_bits hg)
  rw [show decide (r.hits p) = decide (r.fits p) from decide_eq_decide.2 ⟨fun h => h.2.2, fun h => ⟨hg, hs, h⟩⟩]
  obtain ⟨b, hb⟩ : ∃ b, decide (r.fits p) = b := ⟨_, rfl⟩
  rw [hb] at hM ⊢
  clear hb
  cases b
  all_goals
    refine Fn.intro tabs_ok (nt := 16) (rs := [.tmp 4]) Try.func60 rfl rfl rfl rfl rfl rfl rfl rfl rfl ?_; (first | refine aw_in0 ?_ | refine aw_in1 ?_ | refine aw_in2 ?_ | refine aw_in3 ?_ | refine aw_in4 ?_ | refine aw_in5 ?_ | refine aw_in6 ?_)
    repeat' (first | refine so_open rfl (by simp only [Nat.reduceAdd]; exact rfl) ?_ | refine s_pass rfl rfl ?_ | (show SL _ _ _ (⟨_, .call _, _, _, _, _⟩ :: _) _ _ _ _; first | refine s_call0 (hR) (by (repeat (apply evA_cons rfl)); exact evA_nil) rfl rfl rfl ?_ | refine s_call0 (hS) (by (repeat (apply evA_cons rfl)); exact evA_nil) rfl rfl rfl ?_ | refine s_call0 (hM) (by (repeat (apply evA_cons rfl)); exact evA_nil) rfl rfl rfl ?_) | (show SL _ _ _ (⟨_, .move _, _, _, _, _⟩ :: _) _ _ _ _; first | refine s_move rfl rfl rfl ?_) | (show SL _ _ _ (⟨_, .assign _, _, _, _, _⟩ :: _) _ _ _ _; first | refine s_assign rfl rfl rfl ?_) | (show SL _ _ _ (⟨_, .load _ _, _, _, _, _⟩ :: _) _ _ _ _; first | refine s_load tabs_ok rfl rfl rfl rfl rfl rfl rfl ?_ | refine s_aload tabs_ok rfl rfl rfl rfl (by assumption) rfl rfl rfl ?_ | refine s_loadW tabs_ok rfl rfl rfl rfl rfl rfl rfl ?_ | refine s_aloadW tabs_ok rfl rfl rfl rfl (by assumption) rfl rfl rfl ?_ | refine s_loadS tabs_ok rfl rfl rfl rfl (by simp only [seg, Option.map_some, Option.map_none]; exact rfl) rfl rfl ?_ | refine s_aloadS tabs_ok rfl rfl rfl rfl (by assumption) (by simp only [seg, Option.map_some, Option.map_none]; exact rfl) rfl rfl ?_ | refine s_aload2 tabs_ok rfl rfl rfl rfl (by assumption) rfl rfl rfl ?_) | (show SL _ _ _ (⟨_, .pick _ _ _, _, _, _, _⟩ :: _) _ _ _ _; first | refine s_pickt rfl rfl rfl rfl ?_ | refine s_pickf rfl rfl rfl rfl ?_) | (show SL _ _ _ (⟨_, .box _ _, _, _, _, _⟩ :: _) _ _ _ _; first | refine s_boxS rfl (by simp only [Nat.reduceAdd]; exact rfl) rfl rfl ?_ | refine s_box1 rfl rfl (by simp only [Nat.reduceAdd]; exact rfl) rfl rfl ?_) | refine so_nil rfl (hK _ _ _ ?_) | refine aw_seqSR Try.f60 rfl (fun K hK => ?_) | refine aw_endSR Try.f60 rfl (fun K hK => ?_) | refine AW.seq ?_ | refine AW.skip ?_ | refine AW.ret ?_ | refine AW.exit ?_ | refine AW.block ?_ | refine then_n ?_ | refine then_r ?_ | refine then_e ?_ | refine in_n ?_ | refine in_r ?_ | refine in_e rfl ?_ | refine in_o rfl ?_ | refine AW.cond_true rfl ?_ | refine AW.cond_false rfl ?_ | (refine AW.cond_dec rfl (fun hc => ?_) (fun hc => ?_) <;> (first | (exfalso; omega; done) | exact absurd rfl hc | skip)) | (refine AW.cond_ndec rfl (fun hc => ?_) (fun hc => ?_) <;> (first | (exfalso; omega; done) | exact absurd rfl hc | skip)) | (refine AW.cond rfl (fun hc => ?_) (fun hc => ?_)) | ((fail_if_success (refine s_ask (b := true) rfl rfl (fun _ => ?_) (fun _ => ?_))); (fail_if_success (refine s_ask (b := false) rfl rfl (fun _ => ?_) (fun _ => ?_))); (refine s_ask rfl rfl (fun hc => ?_) (fun hc => ?_) <;> (rw [hc]; try simp only [decide_eq_true_eq, decide_eq_false_iff_not, Bool.not_eq_true', Bool.not_eq_false', Bool.not_eq_true, Bool.not_eq_false] at hc) <;> (first | (exfalso; omega; done) | exact absurd rfl hc | skip))))
    all_goals (first | apply fin_ret [] ?h1 ?h3 rfl rfl rfl rfl ?h2 | (refine fin_norm ?_; apply fin_ret [] ?h1 ?h3 rfl rfl rfl rfl ?h2)); (case h1 => repeat (first | exact res_nil | apply res_tmp rfl rfl | apply res_cell rfl rfl rfl rfl rfl | apply res_cell1 rfl rfl rfl rfl rfl)); (case h3 => repeat (first | exact trivial | refine And.intro (Or.inr rfl) ?_ | refine And.intro (Or.inl rfl) ?_)); (case h2 => first | rfl | (simp only [ren, resV]; done))

set_option maxHeartbeats 64000000 in
set_option maxRecDepth 100000 in
theorem hits_impl (r : Ru) (p : Pk) : Fn Try.prog 62 [.agg [.int .i64 r.pr, .int .i64 r.kd, .int .i64 r.ip, .int .i64 r.bt, .int .i64 r.fp, .int .i64 r.lp, .int .i64 r.vl, .int .i64 r.ac, .int .i64 r.qu].toArray, .agg (cPacket p).toArray] [] (.bool (decide (r.hits p))) [] := by
  by_cases hg : ¬ r.good = true
  have hg' : r.good = false := by simpa using hg
  have hR := ruleok_impl r
  rw [hg'] at hR
  rw [show decide (r.hits p) = false from decide_eq_false (fun h => hg h.1)]
  rotate_left
  replace hg := Decidable.not_not.1 hg
  have hR := ruleok_impl r
  rw [hg] at hR
  by_cases hs : ¬ p.sup
  have hS := supokP_impl p
  rw [decide_eq_false hs] at hS
  rw [show decide (r.hits p) = false from decide_eq_false (fun h => hs h.2.1)]
  rotate_left
  replace hs := Decidable.not_not.1 hs
  have hS := supokP_impl p
  rw [decide_eq_true hs] at hS
  have hbt := good_bits hg
  obtain ⟨D, hD⟩ : ∃ D, (2 : Int) ^ (32 - r.bt).toNat = D := ⟨_, rfl⟩
  obtain ⟨A, hA⟩ : ∃ A, r.ip / D = A := ⟨_, rfl⟩
  obtain ⟨B, hB⟩ : ∃ B, p.si / D = B := ⟨_, rfl⟩
  have hQ : r.hits p ↔ ((r.kd = 0 ∨ r.kd = p.g.kd) ∧ A = B ∧ (r.fp ≤ p.g.dp ∧ p.g.dp ≤ r.lp) ∧ (r.vl = -2 ∨ r.vl = p.vl)) := by
    unfold Ru.hits Ru.fits; rw [hD, hA, hB]; simp only [hg, hs, true_and]
  have hP := samepre_fn r.ip p.si r.bt hbt
  have hpe : preEq r.ip p.si r.bt = decide (A = B) := by unfold preEq; rw [hD, hA, hB]; rfl
  rw [hpe] at hP
  by_cases hm : r.hits p
  rw [decide_eq_true hm]
  rw [hQ] at hm
  rotate_left
  rw [decide_eq_false hm]
  rw [hQ] at hm
  all_goals try clear hQ
  all_goals
    refine Fn.intro tabs_ok (nt := 55) (rs := [.tmp 4]) Try.func62 rfl rfl rfl rfl rfl rfl rfl rfl rfl ?_; (first | refine aw_in0 ?_ | refine aw_in1 ?_ | refine aw_in2 ?_ | refine aw_in3 ?_ | refine aw_in4 ?_ | refine aw_in5 ?_ | refine aw_in6 ?_)
    repeat' (first | refine so_open rfl (by simp only [Nat.reduceAdd]; exact rfl) ?_ | refine s_pass rfl rfl ?_ | (show SL _ _ _ (⟨_, .call _, _, _, _, _⟩ :: _) _ _ _ _; first | refine s_call0 (hR) (by (repeat (apply evA_cons rfl)); exact evA_nil) rfl rfl rfl ?_ | refine s_call0 (hS) (by (repeat (apply evA_cons rfl)); exact evA_nil) rfl rfl rfl ?_ | refine s_call0 (hP) (by (repeat (apply evA_cons rfl)); exact evA_nil) rfl rfl rfl ?_ | refine s_call0 (between_fn) (by (repeat (apply evA_cons rfl)); exact evA_nil) rfl rfl rfl ?_) | (show SL _ _ _ (⟨_, .move _, _, _, _, _⟩ :: _) _ _ _ _; first | refine s_move rfl rfl rfl ?_) | (show SL _ _ _ (⟨_, .assign _, _, _, _, _⟩ :: _) _ _ _ _; first | refine s_assign rfl rfl rfl ?_) | (show SL _ _ _ (⟨_, .fieldAddr _ _ _, _, _, _, _⟩ :: _) _ _ _ _; first | refine s_fld tabs_ok rfl rfl rfl rfl ?_) | (show SL _ _ _ (⟨_, .load _ _, _, _, _, _⟩ :: _) _ _ _ _; first | refine s_load tabs_ok rfl rfl rfl rfl rfl rfl rfl ?_ | refine s_aload tabs_ok rfl rfl rfl rfl (by assumption) rfl rfl rfl ?_ | refine s_loadW tabs_ok rfl rfl rfl rfl rfl rfl rfl ?_ | refine s_aloadW tabs_ok rfl rfl rfl rfl (by assumption) rfl rfl rfl ?_ | refine s_loadS tabs_ok rfl rfl rfl rfl (by simp only [seg, Option.map_some, Option.map_none]; exact rfl) rfl rfl ?_ | refine s_aloadS tabs_ok rfl rfl rfl rfl (by assumption) (by simp only [seg, Option.map_some, Option.map_none]; exact rfl) rfl rfl ?_ | refine s_aload2 tabs_ok rfl rfl rfl rfl (by assumption) rfl rfl rfl ?_) | (show SL _ _ _ (⟨_, .pick _ _ _, _, _, _, _⟩ :: _) _ _ _ _; first | refine s_pickt rfl rfl rfl rfl ?_ | refine s_pickf rfl rfl rfl rfl ?_) | (show SL _ _ _ (⟨_, .binOp .eql _ _ _ _, _, _, _, _⟩ :: _) _ _ _ _; first | refine s_bin rfl rfl bin_eql rfl rfl ?_ | refine s_bin rfl rfl bin_seql rfl rfl ?_ | refine s_bin rfl rfl (bin_beql Try.underlying4) rfl rfl ?_) | (show SL _ _ _ (⟨_, .box _ _, _, _, _, _⟩ :: _) _ _ _ _; first | refine s_boxS rfl (by simp only [Nat.reduceAdd]; exact rfl) rfl rfl ?_ | refine s_box1 rfl rfl (by simp only [Nat.reduceAdd]; exact rfl) rfl rfl ?_) | refine so_nil rfl (hK _ _ _ ?_) | refine aw_seqSR Try.f62 rfl (fun K hK => ?_) | refine aw_endSR Try.f62 rfl (fun K hK => ?_) | refine AW.seq ?_ | refine AW.skip ?_ | refine AW.ret ?_ | refine AW.exit ?_ | refine AW.block ?_ | refine then_n ?_ | refine then_r ?_ | refine then_e ?_ | refine in_n ?_ | refine in_r ?_ | refine in_e rfl ?_ | refine in_o rfl ?_ | refine AW.cond_true rfl ?_ | refine AW.cond_false rfl ?_ | (refine AW.cond_dec rfl (fun hc => ?_) (fun hc => ?_) <;> (first | (exfalso; omega; done) | exact absurd rfl hc | skip)) | (refine AW.cond_ndec rfl (fun hc => ?_) (fun hc => ?_) <;> (first | (exfalso; omega; done) | exact absurd rfl hc | skip)) | (refine AW.cond rfl (fun hc => ?_) (fun hc => ?_)) | ((fail_if_success (refine s_ask (b := true) rfl rfl (fun _ => ?_) (fun _ => ?_))); (fail_if_success (refine s_ask (b := false) rfl rfl (fun _ => ?_) (fun _ => ?_))); (refine s_ask rfl rfl (fun hc => ?_) (fun hc => ?_) <;> (rw [hc]; try simp only [decide_eq_true_eq, decide_eq_false_iff_not, Bool.not_eq_true', Bool.not_eq_false', Bool.not_eq_true, Bool.not_eq_false] at hc) <;> (first | (exfalso; omega; done) | exact absurd rfl hc | skip))))
    all_goals (first | apply fin_ret [] ?h1 ?h3 rfl rfl rfl rfl ?h2 | (refine fin_norm ?_; apply fin_ret [] ?h1 ?h3 rfl rfl rfl rfl ?h2)); (case h1 => repeat (first | exact res_nil | apply res_tmp rfl rfl | apply res_cell rfl rfl rfl rfl rfl | apply res_cell1 rfl rfl rfl rfl rfl)); (case h3 => repeat (first | exact trivial | refine And.intro (Or.inr rfl) ?_ | refine And.intro (Or.inl rfl) ?_)); (case h2 => first | rfl | (refine congrArg Value.bool ?_; first | rfl | exact decide_eq_true (by omega) | exact decide_eq_false (by omega) | (simp only [Bool.not_eq_true', Bool.not_eq_false', decide_eq_true_eq, decide_eq_false_iff_not]; omega)))

end Go.Proofs.Ytncciafldmoklaa

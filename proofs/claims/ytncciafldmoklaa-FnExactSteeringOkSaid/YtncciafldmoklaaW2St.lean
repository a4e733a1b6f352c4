/-
  SpreadOk and SteeringOk, of the reference and of the program; steerings copied, measured, compared.
  Conditions: each states its own.
-/
import Derived.Test.YtncciafldmoklaaW2Fr
import Derived.Test.YtncciafldmoklaaW2Tok
import Derived.Test.YtncciafldmoklaaS3Int
set_option linter.unusedSimpArgs false
set_option linter.unusedVariables false
namespace Go.Proofs.Ytncciafldmoklaa
open Go.RowKit

/-- Sizes that a table may have. -/
def SzOk (n : Int) : Prop := n = 1 ∨ n = 2 ∨ n = 4 ∨ n = 8 ∨ n = 16
instance {n : Int} : Decidable (SzOk n) := by unfold SzOk; infer_instance
def SprH (key : ByteArray) (t : List Int) (z : Int) : Prop := (1 ≤ z ∧ z ≤ 4) ∧ key.size = 16 ∧ SzOk (t.length : Int)
def SprB (t : List Int) (z : Int) : Bool := t.all fun v => decide (0 ≤ v ∧ v ≤ z - 1)
instance {key : ByteArray} {t : List Int} {z : Int} : Decidable (SprH key t z) := by unfold SprH; infer_instance
def sprOk (key : ByteArray) (t : List Int) (z : Int) : Bool := decide (SprH key t z) && SprB t z

set_option maxHeartbeats 64000000 in
set_option maxRecDepth 100000 in
theorem size_spec {n : Int} : Fn Try.prog 122 [.int .i64 n] [] (.bool (decide (SzOk n))) [] := by
  by_cases h : SzOk n
  rw [decide_eq_true h]
  rotate_left
  rw [decide_eq_false h]
  all_goals unfold SzOk at h
  all_goals
    refine Fn.intro tabs_ok (nt := 21) (rs := [.tmp 2]) Try.func122 rfl rfl rfl rfl rfl rfl rfl rfl rfl ?_; (first | refine aw_in0 ?_ | refine aw_in1 ?_ | refine aw_in2 ?_ | refine aw_in3 ?_ | refine aw_in4 ?_ | refine aw_in5 ?_ | refine aw_in6 ?_)
    repeat' (first | refine so_open rfl (by simp only [Nat.reduceAdd]; exact rfl) ?_ | refine s_pass rfl rfl ?_ | (show SL _ _ _ (⟨_, .move _, _, _, _, _⟩ :: _) _ _ _ _; first | refine s_move rfl rfl rfl ?_) | (show SL _ _ _ (⟨_, .assign _, _, _, _, _⟩ :: _) _ _ _ _; first | refine s_assign rfl rfl rfl ?_) | (show SL _ _ _ (⟨_, .pick _ _ _, _, _, _, _⟩ :: _) _ _ _ _; first | refine s_pickt rfl rfl rfl rfl ?_ | refine s_pickf rfl rfl rfl rfl ?_) | (show SL _ _ _ (⟨_, .binOp .eql _ _ _ _, _, _, _, _⟩ :: _) _ _ _ _; first | refine s_bin rfl rfl bin_eql rfl rfl ?_ | refine s_bin rfl rfl bin_seql rfl rfl ?_ | refine s_bin rfl rfl (bin_beql Try.underlying4) rfl rfl ?_) | refine so_nil rfl (hK _ _ _ ?_) | refine aw_seqSR Try.f122 rfl (fun K hK => ?_) | refine aw_endSR Try.f122 rfl (fun K hK => ?_) | refine AW.seq ?_ | refine AW.skip ?_ | refine AW.ret ?_ | refine AW.exit ?_ | refine AW.block ?_ | refine then_n ?_ | refine then_r ?_ | refine then_e ?_ | refine in_n ?_ | refine in_r ?_ | refine in_e rfl ?_ | refine in_o rfl ?_ | refine AW.cond_true rfl ?_ | refine AW.cond_false rfl ?_ | (refine AW.cond_dec rfl (fun hc => ?_) (fun hc => ?_) <;> (first | (exfalso; omega; done) | exact absurd rfl hc | skip)) | (refine AW.cond_ndec rfl (fun hc => ?_) (fun hc => ?_) <;> (first | (exfalso; omega; done) | exact absurd rfl hc | skip)) | (refine AW.cond rfl (fun hc => ?_) (fun hc => ?_)) | ((fail_if_success (refine s_ask (b := true) rfl rfl (fun _ => ?_) (fun _ => ?_))); (fail_if_success (refine s_ask (b := false) rfl rfl (fun _ => ?_) (fun _ => ?_))); (refine s_ask rfl rfl (fun hc => ?_) (fun hc => ?_) <;> (rw [hc]; try simp only [decide_eq_true_eq, decide_eq_false_iff_not, Bool.not_eq_true', Bool.not_eq_false', Bool.not_eq_true, Bool.not_eq_false] at hc) <;> (first | (exfalso; omega; done) | exact absurd rfl hc | skip))))
    all_goals (first | apply fin_ret [] ?h1 ?h3 rfl rfl rfl rfl ?h2 | (refine fin_norm ?_; apply fin_ret [] ?h1 ?h3 rfl rfl rfl rfl ?h2)); (case h1 => repeat (first | exact res_nil | apply res_tmp rfl rfl | apply res_cell rfl rfl rfl rfl rfl | apply res_cell1 rfl rfl rfl rfl rfl)); (case h3 => repeat (first | exact trivial | refine And.intro (Or.inr rfl) ?_ | refine And.intro (Or.inl rfl) ?_)); (case h2 => first | rfl | (refine congrArg Value.bool ?_; first | rfl | exact decide_eq_true (by omega) | exact decide_eq_false (by omega) | (simp only [Bool.not_eq_true', Bool.not_eq_false', decide_eq_true_eq, decide_eq_false_iff_not]; omega)))

set_option maxHeartbeats 64000000 in
set_option maxRecDepth 100000 in
theorem size_impl {n : Int} : Fn Try.prog 124 [.int .i64 n] [] (.bool (decide (SzOk n))) [] := by
  by_cases h : SzOk n
  rw [decide_eq_true h]
  rotate_left
  rw [decide_eq_false h]
  all_goals unfold SzOk at h
  all_goals
    refine Fn.intro tabs_ok (nt := 21) (rs := [.tmp 2]) Try.func124 rfl rfl rfl rfl rfl rfl rfl rfl rfl ?_; (first | refine aw_in0 ?_ | refine aw_in1 ?_ | refine aw_in2 ?_ | refine aw_in3 ?_ | refine aw_in4 ?_ | refine aw_in5 ?_ | refine aw_in6 ?_)
    repeat' (first | refine so_open rfl (by simp only [Nat.reduceAdd]; exact rfl) ?_ | refine s_pass rfl rfl ?_ | (show SL _ _ _ (⟨_, .move _, _, _, _, _⟩ :: _) _ _ _ _; first | refine s_move rfl rfl rfl ?_) | (show SL _ _ _ (⟨_, .assign _, _, _, _, _⟩ :: _) _ _ _ _; first | refine s_assign rfl rfl rfl ?_) | (show SL _ _ _ (⟨_, .pick _ _ _, _, _, _, _⟩ :: _) _ _ _ _; first | refine s_pickt rfl rfl rfl rfl ?_ | refine s_pickf rfl rfl rfl rfl ?_) | (show SL _ _ _ (⟨_, .binOp .eql _ _ _ _, _, _, _, _⟩ :: _) _ _ _ _; first | refine s_bin rfl rfl bin_eql rfl rfl ?_ | refine s_bin rfl rfl bin_seql rfl rfl ?_ | refine s_bin rfl rfl (bin_beql Try.underlying4) rfl rfl ?_) | refine so_nil rfl (hK _ _ _ ?_) | refine aw_seqSR Try.f124 rfl (fun K hK => ?_) | refine aw_endSR Try.f124 rfl (fun K hK => ?_) | refine AW.seq ?_ | refine AW.skip ?_ | refine AW.ret ?_ | refine AW.exit ?_ | refine AW.block ?_ | refine then_n ?_ | refine then_r ?_ | refine then_e ?_ | refine in_n ?_ | refine in_r ?_ | refine in_e rfl ?_ | refine in_o rfl ?_ | refine AW.cond_true rfl ?_ | refine AW.cond_false rfl ?_ | (refine AW.cond_dec rfl (fun hc => ?_) (fun hc => ?_) <;> (first | (exfalso; omega; done) | exact absurd rfl hc | skip)) | (refine AW.cond_ndec rfl (fun hc => ?_) (fun hc => ?_) <;> (first | (exfalso; omega; done) | exact absurd rfl hc | skip)) | (refine AW.cond rfl (fun hc => ?_) (fun hc => ?_)) | ((fail_if_success (refine s_ask (b := true) rfl rfl (fun _ => ?_) (fun _ => ?_))); (fail_if_success (refine s_ask (b := false) rfl rfl (fun _ => ?_) (fun _ => ?_))); (refine s_ask rfl rfl (fun hc => ?_) (fun hc => ?_) <;> (rw [hc]; try simp only [decide_eq_true_eq, decide_eq_false_iff_not, Bool.not_eq_true', Bool.not_eq_false', Bool.not_eq_true, Bool.not_eq_false] at hc) <;> (first | (exfalso; omega; done) | exact absurd rfl hc | skip))))
    all_goals (first | apply fin_ret [] ?h1 ?h3 rfl rfl rfl rfl ?h2 | (refine fin_norm ?_; apply fin_ret [] ?h1 ?h3 rfl rfl rfl rfl ?h2)); (case h1 => repeat (first | exact res_nil | apply res_tmp rfl rfl | apply res_cell rfl rfl rfl rfl rfl | apply res_cell1 rfl rfl rfl rfl rfl)); (case h3 => repeat (first | exact trivial | refine And.intro (Or.inr rfl) ?_ | refine And.intro (Or.inl rfl) ?_)); (case h2 => first | rfl | (refine congrArg Value.bool ?_; first | rfl | exact decide_eq_true (by omega) | exact decide_eq_false (by omega) | (simp only [Bool.not_eq_true', Bool.not_eq_false', decide_eq_true_eq, decide_eq_false_iff_not]; omega)))

set_option maxHeartbeats 64000000 in
set_option maxRecDepth 100000 in
theorem spreadok_spec (key : ByteArray) (t : List Int) (z : Int) (hn : t.length ≤ 1048576) : Fn Try.prog 105 [.agg [.string key, .slice (some ⟨0, 0, some 0⟩) t.length t.length].toArray, .int .i64 z] [.arr 1 .ro (t.map cInt)] (.bool (sprOk key t z)) [.arr 1 .ro (t.map cInt)] := by
  obtain ⟨R, hR⟩ : ∃ R, sprOk key t z = R := ⟨_, rfl⟩
  rw [hR]
  unfold sprOk at hR
  have hZ := size_spec (n := (t.length : Int))
  obtain ⟨Z, hZZ⟩ : ∃ Z, decide (SzOk (t.length : Int)) = Z := ⟨_, rfl⟩
  rw [hZZ] at hZ
  by_cases hh : ¬ SprH key t z
  obtain rfl : R = false := by rw [← hR, decide_eq_false hh]; rfl
  rotate_left
  replace hh := Decidable.not_not.1 hh
  rw [decide_eq_true hh, Bool.true_and] at hR
  unfold SprB at hR
  obtain rfl : Z = true := by rw [← hZZ]; exact decide_eq_true hh.2.2
  obtain ⟨hz, hk16, _⟩ := hh
  clear hZZ
  rotate_left
  have hh2 : Z = false ∨ ¬ ((1 ≤ z ∧ z ≤ 4) ∧ key.size = 16) := by
    cases Z
    · exact .inl rfl
    · exact .inr fun h => hh ⟨h.1, h.2, of_decide_eq_true hZZ⟩
  clear hZZ hh
  rcases hh2 with rfl | hh2
  rotate_left
  cases Z
  rotate_left
  rotate_left
  rotate_left
  all_goals
    refine Fn.intro tabs_ok (nt := 38) (rs := [.tmp 4]) Try.func105 rfl rfl rfl rfl rfl rfl rfl rfl rfl ?_; (first | refine aw_in0 ?_ | refine aw_in1 ?_ | refine aw_in2 ?_ | refine aw_in3 ?_ | refine aw_in4 ?_ | refine aw_in5 ?_ | refine aw_in6 ?_)
    repeat' (first | refine so_open rfl (by simp only [Nat.reduceAdd]; exact rfl) ?_ | refine s_pass rfl rfl ?_ | (show SL _ _ _ (⟨_, .call _, _, _, _, _⟩ :: _) _ _ _ _; first | refine s_call0 (in_fn) (by (repeat (apply evA_cons rfl)); exact evA_nil) rfl rfl rfl ?_ | refine s_call0 (hZ) (by (repeat (apply evA_cons rfl)); exact evA_nil) rfl rfl rfl ?_ | refine s_lenS tabs_ok rfl rfl rfl rfl ?_ | refine s_lenT (by first | exact str_9) rfl rfl rfl ?_) | (show SL _ _ _ (⟨_, .move _, _, _, _, _⟩ :: _) _ _ _ _; first | refine s_move rfl rfl rfl ?_) | (show SL _ _ _ (⟨_, .assign _, _, _, _, _⟩ :: _) _ _ _ _; first | refine s_assign rfl rfl rfl ?_) | (show SL _ _ _ (⟨_, .fieldAddr _ _ _, _, _, _, _⟩ :: _) _ _ _ _; first | refine s_fld tabs_ok rfl rfl rfl rfl ?_) | (show SL _ _ _ (⟨_, .load _ _, _, _, _, _⟩ :: _) _ _ _ _; first | refine s_load tabs_ok rfl rfl rfl rfl rfl rfl rfl ?_ | refine s_aload tabs_ok rfl rfl rfl rfl (by assumption) rfl rfl rfl ?_ | refine s_loadW tabs_ok rfl rfl rfl rfl rfl rfl rfl ?_ | refine s_aloadW tabs_ok rfl rfl rfl rfl (by assumption) rfl rfl rfl ?_ | refine s_loadS tabs_ok rfl rfl rfl rfl (by simp only [seg, Option.map_some, Option.map_none]; exact rfl) rfl rfl ?_ | refine s_aloadS tabs_ok rfl rfl rfl rfl (by assumption) (by simp only [seg, Option.map_some, Option.map_none]; exact rfl) rfl rfl ?_ | refine s_aload2 tabs_ok rfl rfl rfl rfl (by assumption) rfl rfl rfl ?_) | (show SL _ _ _ (⟨_, .pick _ _ _, _, _, _, _⟩ :: _) _ _ _ _; first | refine s_pickt rfl rfl rfl rfl ?_ | refine s_pickf rfl rfl rfl rfl ?_) | (show SL _ _ _ (⟨_, .unOp .not _ _, _, _, _, _⟩ :: _) _ _ _ _; first | refine s_not rfl rfl rfl ?_) | (show SL _ _ _ (⟨_, .binOp .lss _ _ _ _, _, _, _, _⟩ :: _) _ _ _ _; first | refine s_bin rfl rfl bin_lss rfl rfl ?_) | (show SL _ _ _ (⟨_, .binOp .neq _ _ _ _, _, _, _, _⟩ :: _) _ _ _ _; first | refine s_bin rfl rfl bin_neq rfl rfl ?_ | refine s_bin rfl rfl bin_sneq rfl rfl ?_ | refine s_bin rfl rfl (bin_bneq Try.underlying4) rfl rfl ?_) | (show SL _ _ _ (⟨_, .binOp .add _ _ _ _, _, _, _, _⟩ :: _) _ _ _ _; first | refine s_bin rfl rfl (bin_add64 (by omega) (by omega)) rfl rfl ?_) | (show SL _ _ _ (⟨_, .binOp .sub _ _ _ _, _, _, _, _⟩ :: _) _ _ _ _; first | refine s_bin rfl rfl (bin_sub64 (by omega) (by omega)) rfl rfl ?_) | (show SL _ _ _ (⟨_, .indexAddr _ _ _, _, _, _, _⟩ :: _) _ _ _ _; first | refine s_at0 tabs_ok rfl rfl rfl rfl rfl (by omega) rfl rfl ?_) | (show SL _ _ _ (⟨_, .box _ _, _, _, _, _⟩ :: _) _ _ _ _; first | refine s_boxS rfl (by simp only [Nat.reduceAdd]; exact rfl) rfl rfl ?_ | refine s_box1 rfl rfl (by simp only [Nat.reduceAdd]; exact rfl) rfl rfl ?_) | refine so_nil rfl (hK _ _ _ ?_) | refine aw_seqSR Try.f105 rfl (fun K hK => ?_) | refine aw_endSR Try.f105 rfl (fun K hK => ?_) | refine AW.seq ?_ | refine AW.skip ?_ | refine AW.ret ?_ | refine AW.exit ?_ | refine AW.block ?_ | refine then_n ?_ | refine then_r ?_ | refine then_e ?_ | refine in_n ?_ | refine in_r ?_ | refine in_e rfl ?_ | refine in_o rfl ?_ | refine AW.cond_true rfl ?_ | refine AW.cond_false rfl ?_ | (refine AW.cond_dec rfl (fun hc => ?_) (fun hc => ?_) <;> (first | (exfalso; omega; done) | exact absurd rfl hc | skip)) | (refine AW.cond_ndec rfl (fun hc => ?_) (fun hc => ?_) <;> (first | (exfalso; omega; done) | exact absurd rfl hc | skip)) | (refine AW.cond rfl (fun hc => ?_) (fun hc => ?_)) | ((fail_if_success (refine s_ask (b := true) rfl rfl (fun _ => ?_) (fun _ => ?_))); (fail_if_success (refine s_ask (b := false) rfl rfl (fun _ => ?_) (fun _ => ?_))); (refine s_ask rfl rfl (fun hc => ?_) (fun hc => ?_) <;> (rw [hc]; try simp only [decide_eq_true_eq, decide_eq_false_iff_not, Bool.not_eq_true', Bool.not_eq_false', Bool.not_eq_true, Bool.not_eq_false] at hc) <;> (first | (exfalso; omega; done) | exact absurd rfl hc | skip))))
    all_goals try (first | apply fin_ret [0] ?h1 ?h3 rfl rfl rfl rfl ?h2 | (refine fin_norm ?_; apply fin_ret [0] ?h1 ?h3 rfl rfl rfl rfl ?h2)); (case h1 => repeat (first | exact res_nil | apply res_tmp rfl rfl | apply res_cell rfl rfl rfl rfl rfl | apply res_cell1 rfl rfl rfl rfl rfl)); (case h3 => repeat (first | exact trivial | refine And.intro (Or.inr rfl) ?_ | refine And.intro (Or.inl rfl) ?_)); (case h2 => first | rfl | (simp only [ren, resV]; done))
  refine aw_loop (ι := Nat) (E := fun k => [(2, .pointer (some ⟨1, 0, none⟩)), (1, .int .i64 z), (5, .int .i64 (k : Int))]) (B := fun k => [.arr 1 .ro (t.map cInt), .row [.string key, .slice (some ⟨0, 0, some 0⟩) t.length t.length]]) (fun k => k ≤ t.length ∧ ((t.drop k).all fun v => decide (0 ≤ v ∧ v ≤ z - 1)) = R) (fun k => t.length - k) 0 ⟨Nat.zero_le _, hR⟩ (sub_tb [0, 1] (by repeat (first | exact trivial | refine And.intro rfl ?_)) (by refine ⟨.inr rfl, .inr rfl, trivial⟩) rfl rfl rfl rfl rfl) ?_
  rintro k ⟨hk, hkR⟩
  refine aw_in2 ?_
  by_cases hlt : ¬ k < t.length
  have hkl : k = t.length := by omega
  rw [hkl, List.drop_length, List.all_nil] at hkR
  subst hkR
  rotate_left
  replace hlt := Decidable.not_not.1 hlt
  have hrow := rows_get (c := cInt) hlt
  rw [drop_cons hlt, List.all_cons] at hkR
  obtain ⟨v, hv⟩ : ∃ v, t[k] = v := ⟨_, rfl⟩
  rw [hv] at hrow hkR
  by_cases hg : 0 ≤ v ∧ v ≤ z - 1
  rw [decide_eq_true hg, Bool.true_and] at hkR
  rotate_left
  rw [decide_eq_false hg, Bool.false_and] at hkR
  subst hkR
  all_goals
    repeat' (first | refine so_open rfl (by simp only [Nat.reduceAdd]; exact rfl) ?_ | refine s_pass rfl rfl ?_ | (show SL _ _ _ (⟨_, .call _, _, _, _, _⟩ :: _) _ _ _ _; first | refine s_call0 (in_fn) (by (repeat (apply evA_cons rfl)); exact evA_nil) rfl rfl rfl ?_ | refine s_lenS tabs_ok rfl rfl rfl rfl ?_ | refine s_lenT (by first | exact str_9) rfl rfl rfl ?_) | (show SL _ _ _ (⟨_, .move _, _, _, _, _⟩ :: _) _ _ _ _; first | refine s_move rfl rfl rfl ?_) | (show SL _ _ _ (⟨_, .assign _, _, _, _, _⟩ :: _) _ _ _ _; first | refine s_assign rfl rfl rfl ?_) | (show SL _ _ _ (⟨_, .fieldAddr _ _ _, _, _, _, _⟩ :: _) _ _ _ _; first | refine s_fld tabs_ok rfl rfl rfl rfl ?_) | (show SL _ _ _ (⟨_, .load _ _, _, _, _, _⟩ :: _) _ _ _ _; first | refine s_load tabs_ok rfl rfl rfl rfl rfl rfl rfl ?_ | refine s_aload tabs_ok rfl rfl rfl rfl (by assumption) rfl rfl rfl ?_ | refine s_loadW tabs_ok rfl rfl rfl rfl rfl rfl rfl ?_ | refine s_aloadW tabs_ok rfl rfl rfl rfl (by assumption) rfl rfl rfl ?_ | refine s_loadS tabs_ok rfl rfl rfl rfl (by simp only [seg, Option.map_some, Option.map_none]; exact rfl) rfl rfl ?_ | refine s_aloadS tabs_ok rfl rfl rfl rfl (by assumption) (by simp only [seg, Option.map_some, Option.map_none]; exact rfl) rfl rfl ?_ | refine s_aload2 tabs_ok rfl rfl rfl rfl (by assumption) rfl rfl rfl ?_) | (show SL _ _ _ (⟨_, .pick _ _ _, _, _, _, _⟩ :: _) _ _ _ _; first | refine s_pickt rfl rfl rfl rfl ?_ | refine s_pickf rfl rfl rfl rfl ?_) | (show SL _ _ _ (⟨_, .unOp .not _ _, _, _, _, _⟩ :: _) _ _ _ _; first | refine s_not rfl rfl rfl ?_) | (show SL _ _ _ (⟨_, .binOp .lss _ _ _ _, _, _, _, _⟩ :: _) _ _ _ _; first | refine s_bin rfl rfl bin_lss rfl rfl ?_) | (show SL _ _ _ (⟨_, .binOp .neq _ _ _ _, _, _, _, _⟩ :: _) _ _ _ _; first | refine s_bin rfl rfl bin_neq rfl rfl ?_ | refine s_bin rfl rfl bin_sneq rfl rfl ?_ | refine s_bin rfl rfl (bin_bneq Try.underlying4) rfl rfl ?_) | (show SL _ _ _ (⟨_, .binOp .add _ _ _ _, _, _, _, _⟩ :: _) _ _ _ _; first | refine s_bin rfl rfl (bin_add64 (by omega) (by omega)) rfl rfl ?_) | (show SL _ _ _ (⟨_, .binOp .sub _ _ _ _, _, _, _, _⟩ :: _) _ _ _ _; first | refine s_bin rfl rfl (bin_sub64 (by omega) (by omega)) rfl rfl ?_) | (show SL _ _ _ (⟨_, .indexAddr _ _ _, _, _, _, _⟩ :: _) _ _ _ _; first | refine s_at0 tabs_ok rfl rfl rfl rfl rfl (by omega) rfl rfl ?_) | (show SL _ _ _ (⟨_, .box _ _, _, _, _, _⟩ :: _) _ _ _ _; first | refine s_boxS rfl (by simp only [Nat.reduceAdd]; exact rfl) rfl rfl ?_ | refine s_box1 rfl rfl (by simp only [Nat.reduceAdd]; exact rfl) rfl rfl ?_) | refine so_nil rfl (hK _ _ _ ?_) | refine aw_seqSR Try.f105 rfl (fun K hK => ?_) | refine aw_endSR Try.f105 rfl (fun K hK => ?_) | refine AW.seq ?_ | refine AW.skip ?_ | refine AW.ret ?_ | refine AW.exit ?_ | refine AW.block ?_ | refine then_n ?_ | refine then_r ?_ | refine then_e ?_ | refine in_n ?_ | refine in_r ?_ | refine in_e rfl ?_ | refine in_o rfl ?_ | refine AW.cond_true rfl ?_ | refine AW.cond_false rfl ?_ | (refine AW.cond_dec rfl (fun hc => ?_) (fun hc => ?_) <;> (first | (exfalso; omega; done) | exact absurd rfl hc | skip)) | (refine AW.cond_ndec rfl (fun hc => ?_) (fun hc => ?_) <;> (first | (exfalso; omega; done) | exact absurd rfl hc | skip)) | (refine AW.cond rfl (fun hc => ?_) (fun hc => ?_)) | ((fail_if_success (refine s_ask (b := true) rfl rfl (fun _ => ?_) (fun _ => ?_))); (fail_if_success (refine s_ask (b := false) rfl rfl (fun _ => ?_) (fun _ => ?_))); (refine s_ask rfl rfl (fun hc => ?_) (fun hc => ?_) <;> (rw [hc]; try simp only [decide_eq_true_eq, decide_eq_false_iff_not, Bool.not_eq_true', Bool.not_eq_false', Bool.not_eq_true, Bool.not_eq_false] at hc) <;> (first | (exfalso; omega; done) | exact absurd rfl hc | skip))))
    all_goals first
      | refine rnd_tb (k + 1) ⟨by omega, hkR⟩ (by omega) (sub_tb [0, 1] (by repeat (first | exact trivial | refine And.intro rfl ?_)) (by refine ⟨.inr rfl, .inr rfl, trivial⟩) rfl rfl rfl rfl rfl)
      | (first | apply fin_ret [0] ?h1 ?h3 rfl rfl rfl rfl ?h2 | (refine fin_norm ?_; apply fin_ret [0] ?h1 ?h3 rfl rfl rfl rfl ?h2)); (case h1 => repeat (first | exact res_nil | apply res_tmp rfl rfl | apply res_cell rfl rfl rfl rfl rfl | apply res_cell1 rfl rfl rfl rfl rfl)); (case h3 => repeat (first | exact trivial | refine And.intro (Or.inr rfl) ?_ | refine And.intro (Or.inl rfl) ?_)); (case h2 => first | rfl | (simp only [ren, resV]; done))

set_option maxHeartbeats 64000000 in
set_option maxRecDepth 100000 in
theorem spreadok_impl (key : ByteArray) (t : List Int) (z : Int) (hn : t.length ≤ 1048576) : Fn Try.prog 107 [.agg [.string key, .slice (some ⟨0, 0, some 0⟩) t.length t.length].toArray, .int .i64 z] [.arr 1 .ro (t.map cInt)] (.bool (sprOk key t z)) [.arr 1 .ro (t.map cInt)] := by
  obtain ⟨R, hR⟩ : ∃ R, sprOk key t z = R := ⟨_, rfl⟩
  rw [hR]
  unfold sprOk at hR
  have hZ := size_impl (n := (t.length : Int))
  obtain ⟨Z, hZZ⟩ : ∃ Z, decide (SzOk (t.length : Int)) = Z := ⟨_, rfl⟩
  rw [hZZ] at hZ
  by_cases hh : ¬ SprH key t z
  obtain rfl : R = false := by rw [← hR, decide_eq_false hh]; rfl
  rotate_left
  replace hh := Decidable.not_not.1 hh
  rw [decide_eq_true hh, Bool.true_and] at hR
  unfold SprB at hR
  obtain rfl : Z = true := by rw [← hZZ]; exact decide_eq_true hh.2.2
  obtain ⟨hz, hk16, _⟩ := hh
  clear hZZ
  rotate_left
  have hh2 : Z = false ∨ ¬ ((1 ≤ z ∧ z ≤ 4) ∧ key.size = 16) := by
    cases Z
    · exact .inl rfl
    · exact .inr fun h => hh ⟨h.1, h.2, of_decide_eq_true hZZ⟩
  clear hZZ hh
  rcases hh2 with rfl | hh2
  rotate_left
  cases Z
  rotate_left
  rotate_left
  rotate_left
  all_goals
    refine Fn.intro tabs_ok (nt := 36) (rs := [.tmp 4]) Try.func107 rfl rfl rfl rfl rfl rfl rfl rfl rfl ?_; (first | refine aw_in0 ?_ | refine aw_in1 ?_ | refine aw_in2 ?_ | refine aw_in3 ?_ | refine aw_in4 ?_ | refine aw_in5 ?_ | refine aw_in6 ?_)
    repeat' (first | refine so_open rfl (by simp only [Nat.reduceAdd]; exact rfl) ?_ | refine s_pass rfl rfl ?_ | (show SL _ _ _ (⟨_, .call _, _, _, _, _⟩ :: _) _ _ _ _; first | refine s_call0 (between_fn) (by (repeat (apply evA_cons rfl)); exact evA_nil) rfl rfl rfl ?_ | refine s_call0 (hZ) (by (repeat (apply evA_cons rfl)); exact evA_nil) rfl rfl rfl ?_ | refine s_lenS tabs_ok rfl rfl rfl rfl ?_ | refine s_lenT (by first | exact str_9) rfl rfl rfl ?_) | (show SL _ _ _ (⟨_, .move _, _, _, _, _⟩ :: _) _ _ _ _; first | refine s_move rfl rfl rfl ?_) | (show SL _ _ _ (⟨_, .assign _, _, _, _, _⟩ :: _) _ _ _ _; first | refine s_assign rfl rfl rfl ?_) | (show SL _ _ _ (⟨_, .fieldAddr _ _ _, _, _, _, _⟩ :: _) _ _ _ _; first | refine s_fld tabs_ok rfl rfl rfl rfl ?_) | (show SL _ _ _ (⟨_, .load _ _, _, _, _, _⟩ :: _) _ _ _ _; first | refine s_load tabs_ok rfl rfl rfl rfl rfl rfl rfl ?_ | refine s_aload tabs_ok rfl rfl rfl rfl (by assumption) rfl rfl rfl ?_ | refine s_loadW tabs_ok rfl rfl rfl rfl rfl rfl rfl ?_ | refine s_aloadW tabs_ok rfl rfl rfl rfl (by assumption) rfl rfl rfl ?_ | refine s_loadS tabs_ok rfl rfl rfl rfl (by simp only [seg, Option.map_some, Option.map_none]; exact rfl) rfl rfl ?_ | refine s_aloadS tabs_ok rfl rfl rfl rfl (by assumption) (by simp only [seg, Option.map_some, Option.map_none]; exact rfl) rfl rfl ?_ | refine s_aload2 tabs_ok rfl rfl rfl rfl (by assumption) rfl rfl rfl ?_) | (show SL _ _ _ (⟨_, .pick _ _ _, _, _, _, _⟩ :: _) _ _ _ _; first | refine s_pickt rfl rfl rfl rfl ?_ | refine s_pickf rfl rfl rfl rfl ?_) | (show SL _ _ _ (⟨_, .unOp .not _ _, _, _, _, _⟩ :: _) _ _ _ _; first | refine s_not rfl rfl rfl ?_) | (show SL _ _ _ (⟨_, .binOp .lss _ _ _ _, _, _, _, _⟩ :: _) _ _ _ _; first | refine s_bin rfl rfl bin_lss rfl rfl ?_) | (show SL _ _ _ (⟨_, .binOp .neq _ _ _ _, _, _, _, _⟩ :: _) _ _ _ _; first | refine s_bin rfl rfl bin_neq rfl rfl ?_ | refine s_bin rfl rfl bin_sneq rfl rfl ?_ | refine s_bin rfl rfl (bin_bneq Try.underlying4) rfl rfl ?_) | (show SL _ _ _ (⟨_, .binOp .add _ _ _ _, _, _, _, _⟩ :: _) _ _ _ _; first | refine s_bin rfl rfl (bin_add64 (by omega) (by omega)) rfl rfl ?_) | (show SL _ _ _ (⟨_, .binOp .sub _ _ _ _, _, _, _, _⟩ :: _) _ _ _ _; first | refine s_bin rfl rfl (bin_sub64 (by omega) (by omega)) rfl rfl ?_) | (show SL _ _ _ (⟨_, .indexAddr _ _ _, _, _, _, _⟩ :: _) _ _ _ _; first | refine s_at0 tabs_ok rfl rfl rfl rfl rfl (by omega) rfl rfl ?_) | (show SL _ _ _ (⟨_, .box _ _, _, _, _, _⟩ :: _) _ _ _ _; first | refine s_boxS rfl (by simp only [Nat.reduceAdd]; exact rfl) rfl rfl ?_ | refine s_box1 rfl rfl (by simp only [Nat.reduceAdd]; exact rfl) rfl rfl ?_) | refine so_nil rfl (hK _ _ _ ?_) | refine aw_seqSR Try.f107 rfl (fun K hK => ?_) | refine aw_endSR Try.f107 rfl (fun K hK => ?_) | refine AW.seq ?_ | refine AW.skip ?_ | refine AW.ret ?_ | refine AW.exit ?_ | refine AW.block ?_ | refine then_n ?_ | refine then_r ?_ | refine then_e ?_ | refine in_n ?_ | refine in_r ?_ | refine in_e rfl ?_ | refine in_o rfl ?_ | refine AW.cond_true rfl ?_ | refine AW.cond_false rfl ?_ | (refine AW.cond_dec rfl (fun hc => ?_) (fun hc => ?_) <;> (first | (exfalso; omega; done) | exact absurd rfl hc | skip)) | (refine AW.cond_ndec rfl (fun hc => ?_) (fun hc => ?_) <;> (first | (exfalso; omega; done) | exact absurd rfl hc | skip)) | (refine AW.cond rfl (fun hc => ?_) (fun hc => ?_)) | ((fail_if_success (refine s_ask (b := true) rfl rfl (fun _ => ?_) (fun _ => ?_))); (fail_if_success (refine s_ask (b := false) rfl rfl (fun _ => ?_) (fun _ => ?_))); (refine s_ask rfl rfl (fun hc => ?_) (fun hc => ?_) <;> (rw [hc]; try simp only [decide_eq_true_eq, decide_eq_false_iff_not, Bool.not_eq_true', Bool.not_eq_false', Bool.not_eq_true, Bool.not_eq_false] at hc) <;> (first | (exfalso; omega; done) | exact absurd rfl hc | skip))))
    all_goals try (first | apply fin_ret [0] ?h1 ?h3 rfl rfl rfl rfl ?h2 | (refine fin_norm ?_; apply fin_ret [0] ?h1 ?h3 rfl rfl rfl rfl ?h2)); (case h1 => repeat (first | exact res_nil | apply res_tmp rfl rfl | apply res_cell rfl rfl rfl rfl rfl | apply res_cell1 rfl rfl rfl rfl rfl)); (case h3 => repeat (first | exact trivial | refine And.intro (Or.inr rfl) ?_ | refine And.intro (Or.inl rfl) ?_)); (case h2 => first | rfl | (simp only [ren, resV]; done))
  refine aw_loop (ι := Nat) (E := fun k => [(2, .pointer (some ⟨1, 0, none⟩)), (1, .int .i64 z), (24, .slice (some ⟨0, 0, some 0⟩) t.length t.length), (25, .int .i64 (t.length : Int)), (26, .int .i64 (k : Int))]) (B := fun k => [.arr 1 .ro (t.map cInt), .row [.string key, .slice (some ⟨0, 0, some 0⟩) t.length t.length]]) (fun k => k ≤ t.length ∧ ((t.drop k).all fun v => decide (0 ≤ v ∧ v ≤ z - 1)) = R) (fun k => t.length - k) 0 ⟨Nat.zero_le _, hR⟩ (sub_tb [0, 1] (by repeat (first | exact trivial | refine And.intro rfl ?_)) (by refine ⟨.inr rfl, .inr rfl, trivial⟩) rfl rfl rfl rfl rfl) ?_
  rintro k ⟨hk, hkR⟩
  refine aw_in2 ?_
  by_cases hlt : ¬ k < t.length
  have hkl : k = t.length := by omega
  rw [hkl, List.drop_length, List.all_nil] at hkR
  subst hkR
  rotate_left
  replace hlt := Decidable.not_not.1 hlt
  have hrow := rows_get (c := cInt) hlt
  rw [drop_cons hlt, List.all_cons] at hkR
  obtain ⟨v, hv⟩ : ∃ v, t[k] = v := ⟨_, rfl⟩
  rw [hv] at hrow hkR
  by_cases hg : 0 ≤ v ∧ v ≤ z - 1
  rw [decide_eq_true hg, Bool.true_and] at hkR
  rotate_left
  rw [decide_eq_false hg, Bool.false_and] at hkR
  subst hkR
  all_goals
    repeat' (first | refine so_open rfl (by simp only [Nat.reduceAdd]; exact rfl) ?_ | refine s_pass rfl rfl ?_ | (show SL _ _ _ (⟨_, .call _, _, _, _, _⟩ :: _) _ _ _ _; first | refine s_call0 (between_fn) (by (repeat (apply evA_cons rfl)); exact evA_nil) rfl rfl rfl ?_ | refine s_lenS tabs_ok rfl rfl rfl rfl ?_ | refine s_lenT (by first | exact str_9) rfl rfl rfl ?_) | (show SL _ _ _ (⟨_, .move _, _, _, _, _⟩ :: _) _ _ _ _; first | refine s_move rfl rfl rfl ?_) | (show SL _ _ _ (⟨_, .assign _, _, _, _, _⟩ :: _) _ _ _ _; first | refine s_assign rfl rfl rfl ?_) | (show SL _ _ _ (⟨_, .fieldAddr _ _ _, _, _, _, _⟩ :: _) _ _ _ _; first | refine s_fld tabs_ok rfl rfl rfl rfl ?_) | (show SL _ _ _ (⟨_, .load _ _, _, _, _, _⟩ :: _) _ _ _ _; first | refine s_load tabs_ok rfl rfl rfl rfl rfl rfl rfl ?_ | refine s_aload tabs_ok rfl rfl rfl rfl (by assumption) rfl rfl rfl ?_ | refine s_loadW tabs_ok rfl rfl rfl rfl rfl rfl rfl ?_ | refine s_aloadW tabs_ok rfl rfl rfl rfl (by assumption) rfl rfl rfl ?_ | refine s_loadS tabs_ok rfl rfl rfl rfl (by simp only [seg, Option.map_some, Option.map_none]; exact rfl) rfl rfl ?_ | refine s_aloadS tabs_ok rfl rfl rfl rfl (by assumption) (by simp only [seg, Option.map_some, Option.map_none]; exact rfl) rfl rfl ?_ | refine s_aload2 tabs_ok rfl rfl rfl rfl (by assumption) rfl rfl rfl ?_) | (show SL _ _ _ (⟨_, .pick _ _ _, _, _, _, _⟩ :: _) _ _ _ _; first | refine s_pickt rfl rfl rfl rfl ?_ | refine s_pickf rfl rfl rfl rfl ?_) | (show SL _ _ _ (⟨_, .unOp .not _ _, _, _, _, _⟩ :: _) _ _ _ _; first | refine s_not rfl rfl rfl ?_) | (show SL _ _ _ (⟨_, .binOp .lss _ _ _ _, _, _, _, _⟩ :: _) _ _ _ _; first | refine s_bin rfl rfl bin_lss rfl rfl ?_) | (show SL _ _ _ (⟨_, .binOp .neq _ _ _ _, _, _, _, _⟩ :: _) _ _ _ _; first | refine s_bin rfl rfl bin_neq rfl rfl ?_ | refine s_bin rfl rfl bin_sneq rfl rfl ?_ | refine s_bin rfl rfl (bin_bneq Try.underlying4) rfl rfl ?_) | (show SL _ _ _ (⟨_, .binOp .add _ _ _ _, _, _, _, _⟩ :: _) _ _ _ _; first | refine s_bin rfl rfl (bin_add64 (by omega) (by omega)) rfl rfl ?_) | (show SL _ _ _ (⟨_, .binOp .sub _ _ _ _, _, _, _, _⟩ :: _) _ _ _ _; first | refine s_bin rfl rfl (bin_sub64 (by omega) (by omega)) rfl rfl ?_) | (show SL _ _ _ (⟨_, .indexAddr _ _ _, _, _, _, _⟩ :: _) _ _ _ _; first | refine s_at0 tabs_ok rfl rfl rfl rfl rfl (by omega) rfl rfl ?_) | (show SL _ _ _ (⟨_, .box _ _, _, _, _, _⟩ :: _) _ _ _ _; first | refine s_boxS rfl (by simp only [Nat.reduceAdd]; exact rfl) rfl rfl ?_ | refine s_box1 rfl rfl (by simp only [Nat.reduceAdd]; exact rfl) rfl rfl ?_) | refine so_nil rfl (hK _ _ _ ?_) | refine aw_seqSR Try.f107 rfl (fun K hK => ?_) | refine aw_endSR Try.f107 rfl (fun K hK => ?_) | refine AW.seq ?_ | refine AW.skip ?_ | refine AW.ret ?_ | refine AW.exit ?_ | refine AW.block ?_ | refine then_n ?_ | refine then_r ?_ | refine then_e ?_ | refine in_n ?_ | refine in_r ?_ | refine in_e rfl ?_ | refine in_o rfl ?_ | refine AW.cond_true rfl ?_ | refine AW.cond_false rfl ?_ | (refine AW.cond_dec rfl (fun hc => ?_) (fun hc => ?_) <;> (first | (exfalso; omega; done) | exact absurd rfl hc | skip)) | (refine AW.cond_ndec rfl (fun hc => ?_) (fun hc => ?_) <;> (first | (exfalso; omega; done) | exact absurd rfl hc | skip)) | (refine AW.cond rfl (fun hc => ?_) (fun hc => ?_)) | ((fail_if_success (refine s_ask (b := true) rfl rfl (fun _ => ?_) (fun _ => ?_))); (fail_if_success (refine s_ask (b := false) rfl rfl (fun _ => ?_) (fun _ => ?_))); (refine s_ask rfl rfl (fun hc => ?_) (fun hc => ?_) <;> (rw [hc]; try simp only [decide_eq_true_eq, decide_eq_false_iff_not, Bool.not_eq_true', Bool.not_eq_false', Bool.not_eq_true, Bool.not_eq_false] at hc) <;> (first | (exfalso; omega; done) | exact absurd rfl hc | skip))))
    all_goals first
      | refine rnd_tb (k + 1) ⟨by omega, hkR⟩ (by omega) (sub_tb [0, 1] (by repeat (first | exact trivial | refine And.intro rfl ?_)) (by refine ⟨.inr rfl, .inr rfl, trivial⟩) rfl rfl rfl rfl rfl)
      | (first | apply fin_ret [0] ?h1 ?h3 rfl rfl rfl rfl ?h2 | (refine fin_norm ?_; apply fin_ret [0] ?h1 ?h3 rfl rfl rfl rfl ?h2)); (case h1 => repeat (first | exact res_nil | apply res_tmp rfl rfl | apply res_cell rfl rfl rfl rfl rfl | apply res_cell1 rfl rfl rfl rfl rfl)); (case h3 => repeat (first | exact trivial | refine And.intro (Or.inr rfl) ?_ | refine And.intro (Or.inl rfl) ?_)); (case h2 => first | rfl | (simp only [ren, resV]; done))

/-- SteeringOk. -/
noncomputable def stOk (rs : List Ru) (ss : List Sl) (key : ByteArray) (t : List Int) (z : Int) : Bool := rOk rs && (tok ss && (sprOk key t z && ((rs.all fun r => decide (r.qu < z)) && (ss.all fun s => decide (s.qu < z)))))
theorem good_qu {r : Ru} (h : r.good = true) : r.ac = 0 ∨ (r.ac = 1 ∧ r.qu = 0) := by
  simp [Ru.good, inB] at h
  omega
theorem spr_z {key : ByteArray} {t : List Int} {z : Int} (h : sprOk key t z = true) : 1 ≤ z := by
  unfold sprOk at h
  simp only [Bool.and_eq_true, decide_eq_true_eq] at h
  exact h.1.1.1
theorem rok_good {rs : List Ru} (h : rOk rs = true) : ∀ k (hk : k < rs.length), rs[k].good = true := fun k hk => by
  unfold rOk at h
  simp only [Bool.and_eq_true, List.all_eq_true] at h
  exact h.1 _ (List.getElem_mem hk)
theorem tok_slot {ss : List Sl} (h : tok ss = true) : ∀ k (hk : k < ss.length), ss[k].st = 1 ∨ ss[k].qu = 0 := fun k hk => by
  have h1 := tok_true.1 h
  have h2 := (h1.2 k (by have := h1.1; omega)).1
  rw [sAt_get hk] at h2
  unfold SlotB at h2
  omega

set_option maxHeartbeats 64000000 in
set_option maxRecDepth 100000 in
theorem steeringok_spec (rs : List Ru) (ss : List Sl) (key : ByteArray) (t : List Int) (z : Int) (hn1 : rs.length ≤ 1048576) (hn2 : ss.length ≤ 1048576) (hn3 : t.length ≤ 1048576) : Fn Try.prog 74 [.agg [.slice (some ⟨0, 0, some 0⟩) rs.length rs.length, .slice (some ⟨1, 0, some 0⟩) ss.length ss.length, .string key, .slice (some ⟨2, 0, some 0⟩) t.length t.length].toArray, .int .i64 z] [.arr 9 .ro (rs.map cRule), .arr 7 .ro (ss.map cSlot), .arr 1 .ro (t.map cInt)] (.bool (stOk rs ss key t z)) [.arr 9 .ro (rs.map cRule), .arr 7 .ro (ss.map cSlot), .arr 1 .ro (t.map cInt)] := by
  obtain ⟨R, hR⟩ : ∃ R, stOk rs ss key t z = R := ⟨_, rfl⟩
  rw [hR]
  unfold stOk at hR
  have hK1 := rulesok_spec rs hn1
  have hK2 := tableok_spec ss hn2
  have hK3 := spreadok_spec key t z hn3
  by_cases h1 : ¬ rOk rs = true
  have h1' : rOk rs = false := by simpa using h1
  rw [h1'] at hK1 hR
  rw [Bool.false_and] at hR
  subst hR
  rotate_left
  replace h1 := Decidable.not_not.1 h1
  rw [h1] at hK1 hR
  rw [Bool.true_and] at hR
  by_cases h2 : ¬ tok ss = true
  have h2' : tok ss = false := by simpa using h2
  rw [h2'] at hK2 hR
  rw [Bool.false_and] at hR
  subst hR
  rotate_left
  replace h2 := Decidable.not_not.1 h2
  rw [h2] at hK2 hR
  rw [Bool.true_and] at hR
  by_cases h3 : ¬ sprOk key t z = true
  have h3' : sprOk key t z = false := by simpa using h3
  rw [h3'] at hK3 hR
  rw [Bool.false_and] at hR
  subst hR
  rotate_left
  replace h3 := Decidable.not_not.1 h3
  rw [h3] at hK3 hR
  rw [Bool.true_and] at hR
  have hz1 := spr_z h3
  have hG := rok_good h1
  have hT := tok_slot h2
  rotate_left
  rotate_left
  rotate_left
  all_goals
    refine Fn.intro tabs_ok (nt := 56) (rs := [.tmp 4]) Try.func74 rfl rfl rfl rfl rfl rfl rfl rfl rfl ?_; (first | refine aw_in0 ?_ | refine aw_in1 ?_ | refine aw_in2 ?_ | refine aw_in3 ?_ | refine aw_in4 ?_ | refine aw_in5 ?_ | refine aw_in6 ?_)
    repeat' (first | refine so_open rfl (by simp only [Nat.reduceAdd]; exact rfl) ?_ | refine s_pass rfl rfl ?_ | (show SL _ _ _ (⟨_, .call _, _, _, _, _⟩ :: _) _ _ _ _; first | refine s_callR (hK1) [_] (by (repeat (apply evA_cons rfl)); exact evA_nil) rfl (by (repeat (first | refine And.intro ⟨_, rfl⟩ ?_ | refine And.intro rfl ?_)); exact trivial) rfl rfl rfl rfl rfl ?_ | refine s_callR (hK2) [_] (by (repeat (apply evA_cons rfl)); exact evA_nil) rfl (by (repeat (first | refine And.intro ⟨_, rfl⟩ ?_ | refine And.intro rfl ?_)); exact trivial) rfl rfl rfl rfl rfl ?_ | refine s_callR (hK3) [_] (by (repeat (apply evA_cons rfl)); exact evA_nil) rfl (by (repeat (first | refine And.intro ⟨_, rfl⟩ ?_ | refine And.intro rfl ?_)); exact trivial) rfl rfl rfl rfl rfl ?_ | refine s_lenS tabs_ok rfl rfl rfl rfl ?_ | refine s_lenT (by first | exact str_9) rfl rfl rfl ?_) | (show SL _ _ _ (⟨_, .move _, _, _, _, _⟩ :: _) _ _ _ _; first | refine s_move rfl rfl rfl ?_) | (show SL _ _ _ (⟨_, .assign _, _, _, _, _⟩ :: _) _ _ _ _; first | refine s_assign rfl rfl rfl ?_) | (show SL _ _ _ (⟨_, .fieldAddr _ _ _, _, _, _, _⟩ :: _) _ _ _ _; first | refine s_fld tabs_ok rfl rfl rfl rfl ?_) | (show SL _ _ _ (⟨_, .load _ _, _, _, _, _⟩ :: _) _ _ _ _; first | refine s_load tabs_ok rfl rfl rfl rfl rfl rfl rfl ?_ | refine s_aload tabs_ok rfl rfl rfl rfl (by assumption) rfl rfl rfl ?_ | refine s_loadW tabs_ok rfl rfl rfl rfl rfl rfl rfl ?_ | refine s_aloadW tabs_ok rfl rfl rfl rfl (by assumption) rfl rfl rfl ?_ | refine s_loadS tabs_ok rfl rfl rfl rfl (by simp only [seg, Option.map_some, Option.map_none]; exact rfl) rfl rfl ?_ | refine s_aloadS tabs_ok rfl rfl rfl rfl (by assumption) (by simp only [seg, Option.map_some, Option.map_none]; exact rfl) rfl rfl ?_ | refine s_aload2 tabs_ok rfl rfl rfl rfl (by assumption) rfl rfl rfl ?_) | (show SL _ _ _ (⟨_, .pick _ _ _, _, _, _, _⟩ :: _) _ _ _ _; first | refine s_pickt rfl rfl rfl rfl ?_ | refine s_pickf rfl rfl rfl rfl ?_) | (show SL _ _ _ (⟨_, .unOp .not _ _, _, _, _, _⟩ :: _) _ _ _ _; first | refine s_not rfl rfl rfl ?_) | (show SL _ _ _ (⟨_, .binOp .lss _ _ _ _, _, _, _, _⟩ :: _) _ _ _ _; first | refine s_bin rfl rfl bin_lss rfl rfl ?_) | (show SL _ _ _ (⟨_, .binOp .geq _ _ _ _, _, _, _, _⟩ :: _) _ _ _ _; first | refine s_bin rfl rfl bin_geq rfl rfl ?_) | (show SL _ _ _ (⟨_, .binOp .add _ _ _ _, _, _, _, _⟩ :: _) _ _ _ _; first | refine s_bin rfl rfl (bin_add64 (by omega) (by omega)) rfl rfl ?_) | (show SL _ _ _ (⟨_, .indexAddr _ _ _, _, _, _, _⟩ :: _) _ _ _ _; first | refine s_at0 tabs_ok rfl rfl rfl rfl rfl (by omega) rfl rfl ?_) | (show SL _ _ _ (⟨_, .box _ _, _, _, _, _⟩ :: _) _ _ _ _; first | refine s_boxS rfl (by simp only [Nat.reduceAdd]; exact rfl) rfl rfl ?_ | refine s_box1 rfl rfl (by simp only [Nat.reduceAdd]; exact rfl) rfl rfl ?_) | refine so_nil rfl (hK _ _ _ ?_) | refine aw_seqSR Try.f74 rfl (fun K hK => ?_) | refine aw_endSR Try.f74 rfl (fun K hK => ?_) | refine AW.seq ?_ | refine AW.skip ?_ | refine AW.ret ?_ | refine AW.exit ?_ | refine AW.block ?_ | refine then_n ?_ | refine then_r ?_ | refine then_e ?_ | refine in_n ?_ | refine in_r ?_ | refine in_e rfl ?_ | refine in_o rfl ?_ | refine AW.cond_true rfl ?_ | refine AW.cond_false rfl ?_ | (refine AW.cond_dec rfl (fun hc => ?_) (fun hc => ?_) <;> (first | (exfalso; omega; done) | exact absurd rfl hc | skip)) | (refine AW.cond_ndec rfl (fun hc => ?_) (fun hc => ?_) <;> (first | (exfalso; omega; done) | exact absurd rfl hc | skip)) | (refine AW.cond rfl (fun hc => ?_) (fun hc => ?_)) | ((fail_if_success (refine s_ask (b := true) rfl rfl (fun _ => ?_) (fun _ => ?_))); (fail_if_success (refine s_ask (b := false) rfl rfl (fun _ => ?_) (fun _ => ?_))); (refine s_ask rfl rfl (fun hc => ?_) (fun hc => ?_) <;> (rw [hc]; try simp only [decide_eq_true_eq, decide_eq_false_iff_not, Bool.not_eq_true', Bool.not_eq_false', Bool.not_eq_true, Bool.not_eq_false] at hc) <;> (first | (exfalso; omega; done) | exact absurd rfl hc | skip))))
    all_goals try (first | apply fin_ret [0, 1, 2] ?h1 ?h3 rfl rfl rfl rfl ?h2 | (refine fin_norm ?_; apply fin_ret [0, 1, 2] ?h1 ?h3 rfl rfl rfl rfl ?h2)); (case h1 => repeat (first | exact res_nil | apply res_tmp rfl rfl | apply res_cell rfl rfl rfl rfl rfl | apply res_cell1 rfl rfl rfl rfl rfl)); (case h3 => repeat (first | exact trivial | refine And.intro (Or.inr rfl) ?_ | refine And.intro (Or.inl rfl) ?_)); (case h2 => first | rfl | (simp only [ren, resV]; done))
  clear hK1 hK2 hK3 h1 h2 h3
  refine aw_loop (ι := Nat) (E := fun k => [(2, .pointer (some ⟨3, 0, none⟩)), (1, .int .i64 z), (5, .int .i64 (k : Int))]) (B := fun k => [.arr 9 .ro (rs.map cRule), .arr 7 .ro (ss.map cSlot), .arr 1 .ro (t.map cInt), .row [.slice (some ⟨0, 0, some 0⟩) rs.length rs.length, .slice (some ⟨1, 0, some 0⟩) ss.length ss.length, .string key, .slice (some ⟨2, 0, some 0⟩) t.length t.length]]) (fun k => k ≤ rs.length ∧ (((rs.drop k).all fun r => decide (r.qu < z)) && (ss.all fun s => decide (s.qu < z))) = R) (fun k => rs.length - k) 0 ⟨Nat.zero_le _, hR⟩ (sub_tb [0, 1, 2, 3] (by repeat (first | exact trivial | refine And.intro rfl ?_)) (by refine ⟨.inr rfl, .inr rfl, .inr rfl, .inr rfl, trivial⟩) rfl rfl rfl rfl rfl) ?_
  rintro k ⟨hk, hkR⟩
  refine aw_in4 ?_
  by_cases hlt : ¬ k < rs.length
  have hkl : k = rs.length := by omega
  rw [hkl, List.drop_length, List.all_nil, Bool.true_and] at hkR
  rotate_left
  replace hlt := Decidable.not_not.1 hlt
  have hrow := rows_get (c := cRule) hlt
  have hgq := good_qu (hG k hlt)
  rw [drop_cons hlt, List.all_cons, Bool.and_assoc] at hkR
  obtain ⟨v, hv⟩ : ∃ v, rs[k] = v := ⟨_, rfl⟩
  rw [hv] at hrow hkR hgq
  by_cases hg : v.qu < z
  rw [decide_eq_true hg, Bool.true_and] at hkR
  rotate_left
  rw [decide_eq_false hg, Bool.false_and] at hkR
  subst hkR
  rotate_left
  rotate_left
  all_goals clear hG
  all_goals
    repeat' (first | refine so_open rfl (by simp only [Nat.reduceAdd]; exact rfl) ?_ | refine s_pass rfl rfl ?_ | (show SL _ _ _ (⟨_, .move _, _, _, _, _⟩ :: _) _ _ _ _; first | refine s_move rfl rfl rfl ?_) | (show SL _ _ _ (⟨_, .assign _, _, _, _, _⟩ :: _) _ _ _ _; first | refine s_assign rfl rfl rfl ?_) | (show SL _ _ _ (⟨_, .fieldAddr _ _ _, _, _, _, _⟩ :: _) _ _ _ _; first | refine s_fld tabs_ok rfl rfl rfl rfl ?_) | (show SL _ _ _ (⟨_, .load _ _, _, _, _, _⟩ :: _) _ _ _ _; first | refine s_load tabs_ok rfl rfl rfl rfl rfl rfl rfl ?_ | refine s_aload tabs_ok rfl rfl rfl rfl (by assumption) rfl rfl rfl ?_ | refine s_loadW tabs_ok rfl rfl rfl rfl rfl rfl rfl ?_ | refine s_aloadW tabs_ok rfl rfl rfl rfl (by assumption) rfl rfl rfl ?_ | refine s_loadS tabs_ok rfl rfl rfl rfl (by simp only [seg, Option.map_some, Option.map_none]; exact rfl) rfl rfl ?_ | refine s_aloadS tabs_ok rfl rfl rfl rfl (by assumption) (by simp only [seg, Option.map_some, Option.map_none]; exact rfl) rfl rfl ?_ | refine s_aload2 tabs_ok rfl rfl rfl rfl (by assumption) rfl rfl rfl ?_) | (show SL _ _ _ (⟨_, .pick _ _ _, _, _, _, _⟩ :: _) _ _ _ _; first | refine s_pickt rfl rfl rfl rfl ?_ | refine s_pickf rfl rfl rfl rfl ?_) | (show SL _ _ _ (⟨_, .unOp .not _ _, _, _, _, _⟩ :: _) _ _ _ _; first | refine s_not rfl rfl rfl ?_) | (show SL _ _ _ (⟨_, .call _, _, _, _, _⟩ :: _) _ _ _ _; first | refine s_lenS tabs_ok rfl rfl rfl rfl ?_ | refine s_lenT (by first | exact str_9) rfl rfl rfl ?_) | (show SL _ _ _ (⟨_, .binOp .lss _ _ _ _, _, _, _, _⟩ :: _) _ _ _ _; first | refine s_bin rfl rfl bin_lss rfl rfl ?_) | (show SL _ _ _ (⟨_, .binOp .geq _ _ _ _, _, _, _, _⟩ :: _) _ _ _ _; first | refine s_bin rfl rfl bin_geq rfl rfl ?_) | (show SL _ _ _ (⟨_, .binOp .add _ _ _ _, _, _, _, _⟩ :: _) _ _ _ _; first | refine s_bin rfl rfl (bin_add64 (by omega) (by omega)) rfl rfl ?_) | (show SL _ _ _ (⟨_, .indexAddr _ _ _, _, _, _, _⟩ :: _) _ _ _ _; first | refine s_at0 tabs_ok rfl rfl rfl rfl rfl (by omega) rfl rfl ?_) | (show SL _ _ _ (⟨_, .box _ _, _, _, _, _⟩ :: _) _ _ _ _; first | refine s_boxS rfl (by simp only [Nat.reduceAdd]; exact rfl) rfl rfl ?_ | refine s_box1 rfl rfl (by simp only [Nat.reduceAdd]; exact rfl) rfl rfl ?_) | refine so_nil rfl (hK _ _ _ ?_) | refine aw_seqSR Try.f74 rfl (fun K hK => ?_) | refine aw_endSR Try.f74 rfl (fun K hK => ?_) | refine AW.seq ?_ | refine AW.skip ?_ | refine AW.ret ?_ | refine AW.exit ?_ | refine AW.block ?_ | refine then_n ?_ | refine then_r ?_ | refine then_e ?_ | refine in_n ?_ | refine in_r ?_ | refine in_e rfl ?_ | refine in_o rfl ?_ | refine AW.cond_true rfl ?_ | refine AW.cond_false rfl ?_ | (refine AW.cond_dec rfl (fun hc => ?_) (fun hc => ?_) <;> (first | (exfalso; omega; done) | exact absurd rfl hc | skip)) | (refine AW.cond_ndec rfl (fun hc => ?_) (fun hc => ?_) <;> (first | (exfalso; omega; done) | exact absurd rfl hc | skip)) | (refine AW.cond rfl (fun hc => ?_) (fun hc => ?_)) | ((fail_if_success (refine s_ask (b := true) rfl rfl (fun _ => ?_) (fun _ => ?_))); (fail_if_success (refine s_ask (b := false) rfl rfl (fun _ => ?_) (fun _ => ?_))); (refine s_ask rfl rfl (fun hc => ?_) (fun hc => ?_) <;> (rw [hc]; try simp only [decide_eq_true_eq, decide_eq_false_iff_not, Bool.not_eq_true', Bool.not_eq_false', Bool.not_eq_true, Bool.not_eq_false] at hc) <;> (first | (exfalso; omega; done) | exact absurd rfl hc | skip))))
    all_goals try first
      | refine rnd_tb (k + 1) ⟨by omega, hkR⟩ (by omega) (sub_tb [0, 1, 2, 3] (by repeat (first | exact trivial | refine And.intro rfl ?_)) (by refine ⟨.inr rfl, .inr rfl, .inr rfl, .inr rfl, trivial⟩) rfl rfl rfl rfl rfl)
      | (first | apply fin_ret [0, 1, 2] ?h1 ?h3 rfl rfl rfl rfl ?h2 | (refine fin_norm ?_; apply fin_ret [0, 1, 2] ?h1 ?h3 rfl rfl rfl rfl ?h2)); (case h1 => repeat (first | exact res_nil | apply res_tmp rfl rfl | apply res_cell rfl rfl rfl rfl rfl | apply res_cell1 rfl rfl rfl rfl rfl)); (case h3 => repeat (first | exact trivial | refine And.intro (Or.inr rfl) ?_ | refine And.intro (Or.inl rfl) ?_)); (case h2 => first | rfl | (simp only [ren, resV]; done))
  refine aw_loop (ι := Nat) (E := fun k => [(2, .pointer (some ⟨3, 0, none⟩)), (1, .int .i64 z), (6, .int .i64 (k : Int))]) (B := fun k => [.arr 9 .ro (rs.map cRule), .arr 7 .ro (ss.map cSlot), .arr 1 .ro (t.map cInt), .row [.slice (some ⟨0, 0, some 0⟩) rs.length rs.length, .slice (some ⟨1, 0, some 0⟩) ss.length ss.length, .string key, .slice (some ⟨2, 0, some 0⟩) t.length t.length]]) (fun k => k ≤ ss.length ∧ ((ss.drop k).all fun s => decide (s.qu < z)) = R) (fun k => ss.length - k) 0 ⟨Nat.zero_le _, hkR⟩ (sub_tb [0, 1, 2, 3] (by repeat (first | exact trivial | refine And.intro rfl ?_)) (by refine ⟨.inr rfl, .inr rfl, .inr rfl, .inr rfl, trivial⟩) rfl rfl rfl rfl rfl) ?_
  rintro k ⟨hk, hkR⟩
  refine aw_in4 ?_
  by_cases hlt : ¬ k < ss.length
  have hkl : k = ss.length := by omega
  rw [hkl, List.drop_length, List.all_nil] at hkR
  subst hkR
  rotate_left
  replace hlt := Decidable.not_not.1 hlt
  have hrow := rows_get (c := cSlot) hlt
  have hgq := hT k hlt
  rw [drop_cons hlt, List.all_cons] at hkR
  obtain ⟨v, hv⟩ : ∃ v, ss[k] = v := ⟨_, rfl⟩
  rw [hv] at hrow hkR hgq
  by_cases hg : v.qu < z
  rw [decide_eq_true hg, Bool.true_and] at hkR
  rotate_left
  rw [decide_eq_false hg, Bool.false_and] at hkR
  subst hkR
  all_goals try clear hT
  all_goals
    repeat' (first | refine so_open rfl (by simp only [Nat.reduceAdd]; exact rfl) ?_ | refine s_pass rfl rfl ?_ | (show SL _ _ _ (⟨_, .move _, _, _, _, _⟩ :: _) _ _ _ _; first | refine s_move rfl rfl rfl ?_) | (show SL _ _ _ (⟨_, .assign _, _, _, _, _⟩ :: _) _ _ _ _; first | refine s_assign rfl rfl rfl ?_) | (show SL _ _ _ (⟨_, .fieldAddr _ _ _, _, _, _, _⟩ :: _) _ _ _ _; first | refine s_fld tabs_ok rfl rfl rfl rfl ?_) | (show SL _ _ _ (⟨_, .load _ _, _, _, _, _⟩ :: _) _ _ _ _; first | refine s_load tabs_ok rfl rfl rfl rfl rfl rfl rfl ?_ | refine s_aload tabs_ok rfl rfl rfl rfl (by assumption) rfl rfl rfl ?_ | refine s_loadW tabs_ok rfl rfl rfl rfl rfl rfl rfl ?_ | refine s_aloadW tabs_ok rfl rfl rfl rfl (by assumption) rfl rfl rfl ?_ | refine s_loadS tabs_ok rfl rfl rfl rfl (by simp only [seg, Option.map_some, Option.map_none]; exact rfl) rfl rfl ?_ | refine s_aloadS tabs_ok rfl rfl rfl rfl (by assumption) (by simp only [seg, Option.map_some, Option.map_none]; exact rfl) rfl rfl ?_ | refine s_aload2 tabs_ok rfl rfl rfl rfl (by assumption) rfl rfl rfl ?_) | (show SL _ _ _ (⟨_, .pick _ _ _, _, _, _, _⟩ :: _) _ _ _ _; first | refine s_pickt rfl rfl rfl rfl ?_ | refine s_pickf rfl rfl rfl rfl ?_) | (show SL _ _ _ (⟨_, .unOp .not _ _, _, _, _, _⟩ :: _) _ _ _ _; first | refine s_not rfl rfl rfl ?_) | (show SL _ _ _ (⟨_, .call _, _, _, _, _⟩ :: _) _ _ _ _; first | refine s_lenS tabs_ok rfl rfl rfl rfl ?_ | refine s_lenT (by first | exact str_9) rfl rfl rfl ?_) | (show SL _ _ _ (⟨_, .binOp .lss _ _ _ _, _, _, _, _⟩ :: _) _ _ _ _; first | refine s_bin rfl rfl bin_lss rfl rfl ?_) | (show SL _ _ _ (⟨_, .binOp .geq _ _ _ _, _, _, _, _⟩ :: _) _ _ _ _; first | refine s_bin rfl rfl bin_geq rfl rfl ?_) | (show SL _ _ _ (⟨_, .binOp .add _ _ _ _, _, _, _, _⟩ :: _) _ _ _ _; first | refine s_bin rfl rfl (bin_add64 (by omega) (by omega)) rfl rfl ?_) | (show SL _ _ _ (⟨_, .indexAddr _ _ _, _, _, _, _⟩ :: _) _ _ _ _; first | refine s_at0 tabs_ok rfl rfl rfl rfl rfl (by omega) rfl rfl ?_) | (show SL _ _ _ (⟨_, .box _ _, _, _, _, _⟩ :: _) _ _ _ _; first | refine s_boxS rfl (by simp only [Nat.reduceAdd]; exact rfl) rfl rfl ?_ | refine s_box1 rfl rfl (by simp only [Nat.reduceAdd]; exact rfl) rfl rfl ?_) | refine so_nil rfl (hK _ _ _ ?_) | refine aw_seqSR Try.f74 rfl (fun K hK => ?_) | refine aw_endSR Try.f74 rfl (fun K hK => ?_) | refine AW.seq ?_ | refine AW.skip ?_ | refine AW.ret ?_ | refine AW.exit ?_ | refine AW.block ?_ | refine then_n ?_ | refine then_r ?_ | refine then_e ?_ | refine in_n ?_ | refine in_r ?_ | refine in_e rfl ?_ | refine in_o rfl ?_ | refine AW.cond_true rfl ?_ | refine AW.cond_false rfl ?_ | (refine AW.cond_dec rfl (fun hc => ?_) (fun hc => ?_) <;> (first | (exfalso; omega; done) | exact absurd rfl hc | skip)) | (refine AW.cond_ndec rfl (fun hc => ?_) (fun hc => ?_) <;> (first | (exfalso; omega; done) | exact absurd rfl hc | skip)) | (refine AW.cond rfl (fun hc => ?_) (fun hc => ?_)) | ((fail_if_success (refine s_ask (b := true) rfl rfl (fun _ => ?_) (fun _ => ?_))); (fail_if_success (refine s_ask (b := false) rfl rfl (fun _ => ?_) (fun _ => ?_))); (refine s_ask rfl rfl (fun hc => ?_) (fun hc => ?_) <;> (rw [hc]; try simp only [decide_eq_true_eq, decide_eq_false_iff_not, Bool.not_eq_true', Bool.not_eq_false', Bool.not_eq_true, Bool.not_eq_false] at hc) <;> (first | (exfalso; omega; done) | exact absurd rfl hc | skip))))
    all_goals first
      | refine rnd_tb (k + 1) ⟨by omega, hkR⟩ (by omega) (sub_tb [0, 1, 2, 3] (by repeat (first | exact trivial | refine And.intro rfl ?_)) (by refine ⟨.inr rfl, .inr rfl, .inr rfl, .inr rfl, trivial⟩) rfl rfl rfl rfl rfl)
      | (first | apply fin_ret [0, 1, 2] ?h1 ?h3 rfl rfl rfl rfl ?h2 | (refine fin_norm ?_; apply fin_ret [0, 1, 2] ?h1 ?h3 rfl rfl rfl rfl ?h2)); (case h1 => repeat (first | exact res_nil | apply res_tmp rfl rfl | apply res_cell rfl rfl rfl rfl rfl | apply res_cell1 rfl rfl rfl rfl rfl)); (case h3 => repeat (first | exact trivial | refine And.intro (Or.inr rfl) ?_ | refine And.intro (Or.inl rfl) ?_)); (case h2 => first | rfl | (simp only [ren, resV]; done))

set_option maxHeartbeats 64000000 in
set_option maxRecDepth 100000 in
theorem steeringok_impl (rs : List Ru) (ss : List Sl) (key : ByteArray) (t : List Int) (z : Int) (hn1 : rs.length ≤ 1048576) (hn2 : ss.length ≤ 1048576) (hn3 : t.length ≤ 1048576) : Fn Try.prog 76 [.agg [.slice (some ⟨0, 0, some 0⟩) rs.length rs.length, .slice (some ⟨1, 0, some 0⟩) ss.length ss.length, .string key, .slice (some ⟨2, 0, some 0⟩) t.length t.length].toArray, .int .i64 z] [.arr 9 .ro (rs.map cRule), .arr 7 .ro (ss.map cSlot), .arr 1 .ro (t.map cInt)] (.bool (stOk rs ss key t z)) [.arr 9 .ro (rs.map cRule), .arr 7 .ro (ss.map cSlot), .arr 1 .ro (t.map cInt)] := by
  obtain ⟨R, hR⟩ : ∃ R, stOk rs ss key t z = R := ⟨_, rfl⟩
  rw [hR]
  unfold stOk at hR
  have hK1 := rulesok_impl rs hn1
  have hK2 := tableok_impl ss hn2
  have hK3 := spreadok_impl key t z hn3
  by_cases h1 : ¬ rOk rs = true
  have h1' : rOk rs = false := by simpa using h1
  rw [h1'] at hK1 hR
  rw [Bool.false_and] at hR
  subst hR
  rotate_left
  replace h1 := Decidable.not_not.1 h1
  rw [h1] at hK1 hR
  rw [Bool.true_and] at hR
  by_cases h2 : ¬ tok ss = true
  have h2' : tok ss = false := by simpa using h2
  rw [h2'] at hK2 hR
  rw [Bool.false_and] at hR
  subst hR
  rotate_left
  replace h2 := Decidable.not_not.1 h2
  rw [h2] at hK2 hR
  rw [Bool.true_and] at hR
  by_cases h3 : ¬ sprOk key t z = true
  have h3' : sprOk key t z = false := by simpa using h3
  rw [h3'] at hK3 hR
  rw [Bool.false_and] at hR
  subst hR
  rotate_left
  replace h3 := Decidable.not_not.1 h3
  rw [h3] at hK3 hR
  rw [Bool.true_and] at hR
  have hz1 := spr_z h3
  have hG := rok_good h1
  have hT := tok_slot h2
  rotate_left
  rotate_left
  rotate_left
  all_goals
    refine Fn.intro tabs_ok (nt := 61) (rs := [.tmp 4]) Try.func76 rfl rfl rfl rfl rfl rfl rfl rfl rfl ?_; (first | refine aw_in0 ?_ | refine aw_in1 ?_ | refine aw_in2 ?_ | refine aw_in3 ?_ | refine aw_in4 ?_ | refine aw_in5 ?_ | refine aw_in6 ?_)
    repeat' (first | refine so_open rfl (by simp only [Nat.reduceAdd]; exact rfl) ?_ | refine s_pass rfl rfl ?_ | (show SL _ _ _ (⟨_, .call _, _, _, _, _⟩ :: _) _ _ _ _; first | refine s_callR (hK1) [_] (by (repeat (apply evA_cons rfl)); exact evA_nil) rfl (by (repeat (first | refine And.intro ⟨_, rfl⟩ ?_ | refine And.intro rfl ?_)); exact trivial) rfl rfl rfl rfl rfl ?_ | refine s_callR (hK2) [_] (by (repeat (apply evA_cons rfl)); exact evA_nil) rfl (by (repeat (first | refine And.intro ⟨_, rfl⟩ ?_ | refine And.intro rfl ?_)); exact trivial) rfl rfl rfl rfl rfl ?_ | refine s_callR (hK3) [_] (by (repeat (apply evA_cons rfl)); exact evA_nil) rfl (by (repeat (first | refine And.intro ⟨_, rfl⟩ ?_ | refine And.intro rfl ?_)); exact trivial) rfl rfl rfl rfl rfl ?_ | refine s_lenS tabs_ok rfl rfl rfl rfl ?_ | refine s_lenT (by first | exact str_9) rfl rfl rfl ?_) | (show SL _ _ _ (⟨_, .move _, _, _, _, _⟩ :: _) _ _ _ _; first | refine s_move rfl rfl rfl ?_) | (show SL _ _ _ (⟨_, .assign _, _, _, _, _⟩ :: _) _ _ _ _; first | refine s_assign rfl rfl rfl ?_) | (show SL _ _ _ (⟨_, .fieldAddr _ _ _, _, _, _, _⟩ :: _) _ _ _ _; first | refine s_fld tabs_ok rfl rfl rfl rfl ?_) | (show SL _ _ _ (⟨_, .load _ _, _, _, _, _⟩ :: _) _ _ _ _; first | refine s_load tabs_ok rfl rfl rfl rfl rfl rfl rfl ?_ | refine s_aload tabs_ok rfl rfl rfl rfl (by assumption) rfl rfl rfl ?_ | refine s_loadW tabs_ok rfl rfl rfl rfl rfl rfl rfl ?_ | refine s_aloadW tabs_ok rfl rfl rfl rfl (by assumption) rfl rfl rfl ?_ | refine s_loadS tabs_ok rfl rfl rfl rfl (by simp only [seg, Option.map_some, Option.map_none]; exact rfl) rfl rfl ?_ | refine s_aloadS tabs_ok rfl rfl rfl rfl (by assumption) (by simp only [seg, Option.map_some, Option.map_none]; exact rfl) rfl rfl ?_ | refine s_aload2 tabs_ok rfl rfl rfl rfl (by assumption) rfl rfl rfl ?_) | (show SL _ _ _ (⟨_, .pick _ _ _, _, _, _, _⟩ :: _) _ _ _ _; first | refine s_pickt rfl rfl rfl rfl ?_ | refine s_pickf rfl rfl rfl rfl ?_) | (show SL _ _ _ (⟨_, .unOp .not _ _, _, _, _, _⟩ :: _) _ _ _ _; first | refine s_not rfl rfl rfl ?_) | (show SL _ _ _ (⟨_, .binOp .lss _ _ _ _, _, _, _, _⟩ :: _) _ _ _ _; first | refine s_bin rfl rfl bin_lss rfl rfl ?_) | (show SL _ _ _ (⟨_, .binOp .geq _ _ _ _, _, _, _, _⟩ :: _) _ _ _ _; first | refine s_bin rfl rfl bin_geq rfl rfl ?_) | (show SL _ _ _ (⟨_, .binOp .eql _ _ _ _, _, _, _, _⟩ :: _) _ _ _ _; first | refine s_bin rfl rfl bin_eql rfl rfl ?_ | refine s_bin rfl rfl bin_seql rfl rfl ?_ | refine s_bin rfl rfl (bin_beql Try.underlying4) rfl rfl ?_) | (show SL _ _ _ (⟨_, .binOp .add _ _ _ _, _, _, _, _⟩ :: _) _ _ _ _; first | refine s_bin rfl rfl (bin_add64 (by omega) (by omega)) rfl rfl ?_) | (show SL _ _ _ (⟨_, .indexAddr _ _ _, _, _, _, _⟩ :: _) _ _ _ _; first | refine s_at0 tabs_ok rfl rfl rfl rfl rfl (by omega) rfl rfl ?_) | (show SL _ _ _ (⟨_, .box _ _, _, _, _, _⟩ :: _) _ _ _ _; first | refine s_boxS rfl (by simp only [Nat.reduceAdd]; exact rfl) rfl rfl ?_ | refine s_box1 rfl rfl (by simp only [Nat.reduceAdd]; exact rfl) rfl rfl ?_) | (show SL _ _ _ (⟨_, .alloc _, _, _, _, _⟩ :: _) _ _ _ _; first | refine s_alloc tabs_ok rfl rfl (by simp only [Nat.reduceAdd]; exact rfl) rfl rfl ?_) | (show SL _ _ _ (⟨_, .store _ _ _, _, _, _, _⟩ :: _) _ _ _ _; first | refine s_storeW tabs_ok rfl rfl rfl rfl rfl rfl rfl rfl rfl ?_ | refine s_store tabs_ok rfl rfl rfl rfl rfl rfl rfl (by simp only [splice, Option.map_some, Option.map_none]; exact rfl) rfl ?_ | refine s_storeS tabs_ok rfl rfl rfl rfl rfl rfl rfl (by simp only [splice, Option.map_some, Option.map_none]; exact rfl) rfl ?_ | refine s_astore tabs_ok rfl rfl rfl rfl rfl rfl rfl rfl (by assumption) (by simp only [splice, Option.map_some, Option.map_none]; exact rfl) rfl ?_ | refine s_astoreW tabs_ok rfl rfl rfl rfl rfl rfl rfl rfl rfl (by assumption) rfl rfl ?_ | refine s_astore2 tabs_ok rfl rfl rfl rfl rfl rfl rfl rfl (by assumption) (by simp only [splice, Option.map_some, Option.map_none]; exact rfl) rfl ?_) | refine so_nil rfl (hK _ _ _ ?_) | refine aw_seqSR Try.f76 rfl (fun K hK => ?_) | refine aw_endSR Try.f76 rfl (fun K hK => ?_) | refine AW.seq ?_ | refine AW.skip ?_ | refine AW.ret ?_ | refine AW.exit ?_ | refine AW.block ?_ | refine then_n ?_ | refine then_r ?_ | refine then_e ?_ | refine in_n ?_ | refine in_r ?_ | refine in_e rfl ?_ | refine in_o rfl ?_ | refine AW.cond_true rfl ?_ | refine AW.cond_false rfl ?_ | (refine AW.cond_dec rfl (fun hc => ?_) (fun hc => ?_) <;> (first | (exfalso; omega; done) | exact absurd rfl hc | skip)) | (refine AW.cond_ndec rfl (fun hc => ?_) (fun hc => ?_) <;> (first | (exfalso; omega; done) | exact absurd rfl hc | skip)) | (refine AW.cond rfl (fun hc => ?_) (fun hc => ?_)) | ((fail_if_success (refine s_ask (b := true) rfl rfl (fun _ => ?_) (fun _ => ?_))); (fail_if_success (refine s_ask (b := false) rfl rfl (fun _ => ?_) (fun _ => ?_))); (refine s_ask rfl rfl (fun hc => ?_) (fun hc => ?_) <;> (rw [hc]; try simp only [decide_eq_true_eq, decide_eq_false_iff_not, Bool.not_eq_true', Bool.not_eq_false', Bool.not_eq_true, Bool.not_eq_false] at hc) <;> (first | (exfalso; omega; done) | exact absurd rfl hc | skip))))
    all_goals try (first | apply fin_ret [0, 1, 2] ?h1 ?h3 rfl rfl rfl rfl ?h2 | (refine fin_norm ?_; apply fin_ret [0, 1, 2] ?h1 ?h3 rfl rfl rfl rfl ?h2)); (case h1 => repeat (first | exact res_nil | apply res_tmp rfl rfl | apply res_cell rfl rfl rfl rfl rfl | apply res_cell1 rfl rfl rfl rfl rfl)); (case h3 => repeat (first | exact trivial | refine And.intro (Or.inr rfl) ?_ | refine And.intro (Or.inl rfl) ?_)); (case h2 => first | rfl | (simp only [ren, resV]; done))
  clear hK1 hK2 hK3 h1 h2 h3
  refine aw_loop (ι := Nat) (E := fun k => [(2, .pointer (some ⟨3, 0, none⟩)), (1, .int .i64 z), (27, .slice (some ⟨0, 0, some 0⟩) rs.length rs.length), (28, .int .i64 (rs.length : Int)), (29, .int .i64 (k : Int))]) (B := fun k => [.arr 9 .ro (rs.map cRule), .arr 7 .ro (ss.map cSlot), .arr 1 .ro (t.map cInt), .row [.slice (some ⟨0, 0, some 0⟩) rs.length rs.length, .slice (some ⟨1, 0, some 0⟩) ss.length ss.length, .string key, .slice (some ⟨2, 0, some 0⟩) t.length t.length]]) (fun k => k ≤ rs.length ∧ (((rs.drop k).all fun r => decide (r.qu < z)) && (ss.all fun s => decide (s.qu < z))) = R) (fun k => rs.length - k) 0 ⟨Nat.zero_le _, hR⟩ (sub_tb [0, 1, 2, 3] (by repeat (first | exact trivial | refine And.intro rfl ?_)) (by refine ⟨.inr rfl, .inr rfl, .inr rfl, .inr rfl, trivial⟩) rfl rfl rfl rfl rfl) ?_
  rintro k ⟨hk, hkR⟩
  refine aw_in4 ?_
  by_cases hlt : ¬ k < rs.length
  have hkl : k = rs.length := by omega
  rw [hkl, List.drop_length, List.all_nil, Bool.true_and] at hkR
  rotate_left
  replace hlt := Decidable.not_not.1 hlt
  have hrow := rows_get (c := cRule) hlt
  have hgq := good_qu (hG k hlt)
  rw [drop_cons hlt, List.all_cons, Bool.and_assoc] at hkR
  obtain ⟨v, hv⟩ : ∃ v, rs[k] = v := ⟨_, rfl⟩
  rw [hv] at hrow hkR hgq
  by_cases hg : v.qu < z
  rw [decide_eq_true hg, Bool.true_and] at hkR
  rotate_left
  rw [decide_eq_false hg, Bool.false_and] at hkR
  subst hkR
  rotate_left
  rotate_left
  all_goals clear hG
  all_goals
    repeat' (first | refine so_open rfl (by simp only [Nat.reduceAdd]; exact rfl) ?_ | refine s_pass rfl rfl ?_ | (show SL _ _ _ (⟨_, .move _, _, _, _, _⟩ :: _) _ _ _ _; first | refine s_move rfl rfl rfl ?_) | (show SL _ _ _ (⟨_, .assign _, _, _, _, _⟩ :: _) _ _ _ _; first | refine s_assign rfl rfl rfl ?_) | (show SL _ _ _ (⟨_, .fieldAddr _ _ _, _, _, _, _⟩ :: _) _ _ _ _; first | refine s_fld tabs_ok rfl rfl rfl rfl ?_) | (show SL _ _ _ (⟨_, .load _ _, _, _, _, _⟩ :: _) _ _ _ _; first | refine s_load tabs_ok rfl rfl rfl rfl rfl rfl rfl ?_ | refine s_aload tabs_ok rfl rfl rfl rfl (by assumption) rfl rfl rfl ?_ | refine s_loadW tabs_ok rfl rfl rfl rfl rfl rfl rfl ?_ | refine s_aloadW tabs_ok rfl rfl rfl rfl (by assumption) rfl rfl rfl ?_ | refine s_loadS tabs_ok rfl rfl rfl rfl (by simp only [seg, Option.map_some, Option.map_none]; exact rfl) rfl rfl ?_ | refine s_aloadS tabs_ok rfl rfl rfl rfl (by assumption) (by simp only [seg, Option.map_some, Option.map_none]; exact rfl) rfl rfl ?_ | refine s_aload2 tabs_ok rfl rfl rfl rfl (by assumption) rfl rfl rfl ?_) | (show SL _ _ _ (⟨_, .pick _ _ _, _, _, _, _⟩ :: _) _ _ _ _; first | refine s_pickt rfl rfl rfl rfl ?_ | refine s_pickf rfl rfl rfl rfl ?_) | (show SL _ _ _ (⟨_, .unOp .not _ _, _, _, _, _⟩ :: _) _ _ _ _; first | refine s_not rfl rfl rfl ?_) | (show SL _ _ _ (⟨_, .call _, _, _, _, _⟩ :: _) _ _ _ _; first | refine s_lenS tabs_ok rfl rfl rfl rfl ?_ | refine s_lenT (by first | exact str_9) rfl rfl rfl ?_) | (show SL _ _ _ (⟨_, .binOp .lss _ _ _ _, _, _, _, _⟩ :: _) _ _ _ _; first | refine s_bin rfl rfl bin_lss rfl rfl ?_) | (show SL _ _ _ (⟨_, .binOp .geq _ _ _ _, _, _, _, _⟩ :: _) _ _ _ _; first | refine s_bin rfl rfl bin_geq rfl rfl ?_) | (show SL _ _ _ (⟨_, .binOp .eql _ _ _ _, _, _, _, _⟩ :: _) _ _ _ _; first | refine s_bin rfl rfl bin_eql rfl rfl ?_ | refine s_bin rfl rfl bin_seql rfl rfl ?_ | refine s_bin rfl rfl (bin_beql Try.underlying4) rfl rfl ?_) | (show SL _ _ _ (⟨_, .binOp .add _ _ _ _, _, _, _, _⟩ :: _) _ _ _ _; first | refine s_bin rfl rfl (bin_add64 (by omega) (by omega)) rfl rfl ?_) | (show SL _ _ _ (⟨_, .indexAddr _ _ _, _, _, _, _⟩ :: _) _ _ _ _; first | refine s_at0 tabs_ok rfl rfl rfl rfl rfl (by omega) rfl rfl ?_) | (show SL _ _ _ (⟨_, .box _ _, _, _, _, _⟩ :: _) _ _ _ _; first | refine s_boxS rfl (by simp only [Nat.reduceAdd]; exact rfl) rfl rfl ?_ | refine s_box1 rfl rfl (by simp only [Nat.reduceAdd]; exact rfl) rfl rfl ?_) | (show SL _ _ _ (⟨_, .alloc _, _, _, _, _⟩ :: _) _ _ _ _; first | refine s_alloc tabs_ok rfl rfl (by simp only [Nat.reduceAdd]; exact rfl) rfl rfl ?_) | (show SL _ _ _ (⟨_, .store _ _ _, _, _, _, _⟩ :: _) _ _ _ _; first | refine s_storeW tabs_ok rfl rfl rfl rfl rfl rfl rfl rfl rfl ?_ | refine s_store tabs_ok rfl rfl rfl rfl rfl rfl rfl (by simp only [splice, Option.map_some, Option.map_none]; exact rfl) rfl ?_ | refine s_storeS tabs_ok rfl rfl rfl rfl rfl rfl rfl (by simp only [splice, Option.map_some, Option.map_none]; exact rfl) rfl ?_ | refine s_astore tabs_ok rfl rfl rfl rfl rfl rfl rfl rfl (by assumption) (by simp only [splice, Option.map_some, Option.map_none]; exact rfl) rfl ?_ | refine s_astoreW tabs_ok rfl rfl rfl rfl rfl rfl rfl rfl rfl (by assumption) rfl rfl ?_ | refine s_astore2 tabs_ok rfl rfl rfl rfl rfl rfl rfl rfl (by assumption) (by simp only [splice, Option.map_some, Option.map_none]; exact rfl) rfl ?_) | refine so_nil rfl (hK _ _ _ ?_) | refine aw_seqSR Try.f76 rfl (fun K hK => ?_) | refine aw_endSR Try.f76 rfl (fun K hK => ?_) | refine AW.seq ?_ | refine AW.skip ?_ | refine AW.ret ?_ | refine AW.exit ?_ | refine AW.block ?_ | refine then_n ?_ | refine then_r ?_ | refine then_e ?_ | refine in_n ?_ | refine in_r ?_ | refine in_e rfl ?_ | refine in_o rfl ?_ | refine AW.cond_true rfl ?_ | refine AW.cond_false rfl ?_ | (refine AW.cond_dec rfl (fun hc => ?_) (fun hc => ?_) <;> (first | (exfalso; omega; done) | exact absurd rfl hc | skip)) | (refine AW.cond_ndec rfl (fun hc => ?_) (fun hc => ?_) <;> (first | (exfalso; omega; done) | exact absurd rfl hc | skip)) | (refine AW.cond rfl (fun hc => ?_) (fun hc => ?_)) | ((fail_if_success (refine s_ask (b := true) rfl rfl (fun _ => ?_) (fun _ => ?_))); (fail_if_success (refine s_ask (b := false) rfl rfl (fun _ => ?_) (fun _ => ?_))); (refine s_ask rfl rfl (fun hc => ?_) (fun hc => ?_) <;> (rw [hc]; try simp only [decide_eq_true_eq, decide_eq_false_iff_not, Bool.not_eq_true', Bool.not_eq_false', Bool.not_eq_true, Bool.not_eq_false] at hc) <;> (first | (exfalso; omega; done) | exact absurd rfl hc | skip))))
    all_goals try first
      | refine rnd_tb (k + 1) ⟨by omega, hkR⟩ (by omega) (sub_tb [0, 1, 2, 3] (by repeat (first | exact trivial | refine And.intro rfl ?_)) (by refine ⟨.inr rfl, .inr rfl, .inr rfl, .inr rfl, trivial⟩) rfl rfl rfl rfl rfl)
      | (first | apply fin_ret [0, 1, 2] ?h1 ?h3 rfl rfl rfl rfl ?h2 | (refine fin_norm ?_; apply fin_ret [0, 1, 2] ?h1 ?h3 rfl rfl rfl rfl ?h2)); (case h1 => repeat (first | exact res_nil | apply res_tmp rfl rfl | apply res_cell rfl rfl rfl rfl rfl | apply res_cell1 rfl rfl rfl rfl rfl)); (case h3 => repeat (first | exact trivial | refine And.intro (Or.inr rfl) ?_ | refine And.intro (Or.inl rfl) ?_)); (case h2 => first | rfl | (simp only [ren, resV]; done))
  refine aw_loop (ι := Nat) (E := fun k => [(2, .pointer (some ⟨3, 0, none⟩)), (1, .int .i64 z), (45, .slice (some ⟨1, 0, some 0⟩) ss.length ss.length), (46, .int .i64 (ss.length : Int)), (47, .int .i64 (k : Int))]) (B := fun k => [.arr 9 .ro (rs.map cRule), .arr 7 .ro (ss.map cSlot), .arr 1 .ro (t.map cInt), .row [.slice (some ⟨0, 0, some 0⟩) rs.length rs.length, .slice (some ⟨1, 0, some 0⟩) ss.length ss.length, .string key, .slice (some ⟨2, 0, some 0⟩) t.length t.length]]) (fun k => k ≤ ss.length ∧ ((ss.drop k).all fun s => decide (s.qu < z)) = R) (fun k => ss.length - k) 0 ⟨Nat.zero_le _, hkR⟩ (sub_tb [0, 1, 2, 3] (by repeat (first | exact trivial | refine And.intro rfl ?_)) (by refine ⟨.inr rfl, .inr rfl, .inr rfl, .inr rfl, trivial⟩) rfl rfl rfl rfl rfl) ?_
  rintro k ⟨hk, hkR⟩
  refine aw_in4 ?_
  by_cases hlt : ¬ k < ss.length
  have hkl : k = ss.length := by omega
  rw [hkl, List.drop_length, List.all_nil] at hkR
  subst hkR
  rotate_left
  replace hlt := Decidable.not_not.1 hlt
  have hrow := rows_get (c := cSlot) hlt
  have hgq := hT k hlt
  rw [drop_cons hlt, List.all_cons] at hkR
  obtain ⟨v, hv⟩ : ∃ v, ss[k] = v := ⟨_, rfl⟩
  rw [hv] at hrow hkR hgq
  by_cases hg : v.qu < z
  rw [decide_eq_true hg, Bool.true_and] at hkR
  rotate_left
  rw [decide_eq_false hg, Bool.false_and] at hkR
  subst hkR
  all_goals try clear hT
  all_goals
    repeat' (first | refine so_open rfl (by simp only [Nat.reduceAdd]; exact rfl) ?_ | refine s_pass rfl rfl ?_ | (show SL _ _ _ (⟨_, .move _, _, _, _, _⟩ :: _) _ _ _ _; first | refine s_move rfl rfl rfl ?_) | (show SL _ _ _ (⟨_, .assign _, _, _, _, _⟩ :: _) _ _ _ _; first | refine s_assign rfl rfl rfl ?_) | (show SL _ _ _ (⟨_, .fieldAddr _ _ _, _, _, _, _⟩ :: _) _ _ _ _; first | refine s_fld tabs_ok rfl rfl rfl rfl ?_) | (show SL _ _ _ (⟨_, .load _ _, _, _, _, _⟩ :: _) _ _ _ _; first | refine s_load tabs_ok rfl rfl rfl rfl rfl rfl rfl ?_ | refine s_aload tabs_ok rfl rfl rfl rfl (by assumption) rfl rfl rfl ?_ | refine s_loadW tabs_ok rfl rfl rfl rfl rfl rfl rfl ?_ | refine s_aloadW tabs_ok rfl rfl rfl rfl (by assumption) rfl rfl rfl ?_ | refine s_loadS tabs_ok rfl rfl rfl rfl (by simp only [seg, Option.map_some, Option.map_none]; exact rfl) rfl rfl ?_ | refine s_aloadS tabs_ok rfl rfl rfl rfl (by assumption) (by simp only [seg, Option.map_some, Option.map_none]; exact rfl) rfl rfl ?_ | refine s_aload2 tabs_ok rfl rfl rfl rfl (by assumption) rfl rfl rfl ?_) | (show SL _ _ _ (⟨_, .pick _ _ _, _, _, _, _⟩ :: _) _ _ _ _; first | refine s_pickt rfl rfl rfl rfl ?_ | refine s_pickf rfl rfl rfl rfl ?_) | (show SL _ _ _ (⟨_, .unOp .not _ _, _, _, _, _⟩ :: _) _ _ _ _; first | refine s_not rfl rfl rfl ?_) | (show SL _ _ _ (⟨_, .call _, _, _, _, _⟩ :: _) _ _ _ _; first | refine s_lenS tabs_ok rfl rfl rfl rfl ?_ | refine s_lenT (by first | exact str_9) rfl rfl rfl ?_) | (show SL _ _ _ (⟨_, .binOp .lss _ _ _ _, _, _, _, _⟩ :: _) _ _ _ _; first | refine s_bin rfl rfl bin_lss rfl rfl ?_) | (show SL _ _ _ (⟨_, .binOp .geq _ _ _ _, _, _, _, _⟩ :: _) _ _ _ _; first | refine s_bin rfl rfl bin_geq rfl rfl ?_) | (show SL _ _ _ (⟨_, .binOp .eql _ _ _ _, _, _, _, _⟩ :: _) _ _ _ _; first | refine s_bin rfl rfl bin_eql rfl rfl ?_ | refine s_bin rfl rfl bin_seql rfl rfl ?_ | refine s_bin rfl rfl (bin_beql Try.underlying4) rfl rfl ?_) | (show SL _ _ _ (⟨_, .binOp .add _ _ _ _, _, _, _, _⟩ :: _) _ _ _ _; first | refine s_bin rfl rfl (bin_add64 (by omega) (by omega)) rfl rfl ?_) | (show SL _ _ _ (⟨_, .indexAddr _ _ _, _, _, _, _⟩ :: _) _ _ _ _; first | refine s_at0 tabs_ok rfl rfl rfl rfl rfl (by omega) rfl rfl ?_) | (show SL _ _ _ (⟨_, .box _ _, _, _, _, _⟩ :: _) _ _ _ _; first | refine s_boxS rfl (by simp only [Nat.reduceAdd]; exact rfl) rfl rfl ?_ | refine s_box1 rfl rfl (by simp only [Nat.reduceAdd]; exact rfl) rfl rfl ?_) | (show SL _ _ _ (⟨_, .alloc _, _, _, _, _⟩ :: _) _ _ _ _; first | refine s_alloc tabs_ok rfl rfl (by simp only [Nat.reduceAdd]; exact rfl) rfl rfl ?_) | (show SL _ _ _ (⟨_, .store _ _ _, _, _, _, _⟩ :: _) _ _ _ _; first | refine s_storeW tabs_ok rfl rfl rfl rfl rfl rfl rfl rfl rfl ?_ | refine s_store tabs_ok rfl rfl rfl rfl rfl rfl rfl (by simp only [splice, Option.map_some, Option.map_none]; exact rfl) rfl ?_ | refine s_storeS tabs_ok rfl rfl rfl rfl rfl rfl rfl (by simp only [splice, Option.map_some, Option.map_none]; exact rfl) rfl ?_ | refine s_astore tabs_ok rfl rfl rfl rfl rfl rfl rfl rfl (by assumption) (by simp only [splice, Option.map_some, Option.map_none]; exact rfl) rfl ?_ | refine s_astoreW tabs_ok rfl rfl rfl rfl rfl rfl rfl rfl rfl (by assumption) rfl rfl ?_ | refine s_astore2 tabs_ok rfl rfl rfl rfl rfl rfl rfl rfl (by assumption) (by simp only [splice, Option.map_some, Option.map_none]; exact rfl) rfl ?_) | refine so_nil rfl (hK _ _ _ ?_) | refine aw_seqSR Try.f76 rfl (fun K hK => ?_) | refine aw_endSR Try.f76 rfl (fun K hK => ?_) | refine AW.seq ?_ | refine AW.skip ?_ | refine AW.ret ?_ | refine AW.exit ?_ | refine AW.block ?_ | refine then_n ?_ | refine then_r ?_ | refine then_e ?_ | refine in_n ?_ | refine in_r ?_ | refine in_e rfl ?_ | refine in_o rfl ?_ | refine AW.cond_true rfl ?_ | refine AW.cond_false rfl ?_ | (refine AW.cond_dec rfl (fun hc => ?_) (fun hc => ?_) <;> (first | (exfalso; omega; done) | exact absurd rfl hc | skip)) | (refine AW.cond_ndec rfl (fun hc => ?_) (fun hc => ?_) <;> (first | (exfalso; omega; done) | exact absurd rfl hc | skip)) | (refine AW.cond rfl (fun hc => ?_) (fun hc => ?_)) | ((fail_if_success (refine s_ask (b := true) rfl rfl (fun _ => ?_) (fun _ => ?_))); (fail_if_success (refine s_ask (b := false) rfl rfl (fun _ => ?_) (fun _ => ?_))); (refine s_ask rfl rfl (fun hc => ?_) (fun hc => ?_) <;> (rw [hc]; try simp only [decide_eq_true_eq, decide_eq_false_iff_not, Bool.not_eq_true', Bool.not_eq_false', Bool.not_eq_true, Bool.not_eq_false] at hc) <;> (first | (exfalso; omega; done) | exact absurd rfl hc | skip))))
    all_goals first
      | refine rnd_tb (k + 1) ⟨by omega, hkR⟩ (by omega) (sub_tb [0, 1, 2, 3] (by repeat (first | exact trivial | refine And.intro rfl ?_)) (by refine ⟨.inr rfl, .inr rfl, .inr rfl, .inr rfl, trivial⟩) rfl rfl rfl rfl rfl)
      | (first | apply fin_ret [0, 1, 2] ?h1 ?h3 rfl rfl rfl rfl ?h2 | (refine fin_norm ?_; apply fin_ret [0, 1, 2] ?h1 ?h3 rfl rfl rfl rfl ?h2)); (case h1 => repeat (first | exact res_nil | apply res_tmp rfl rfl | apply res_cell rfl rfl rfl rfl rfl | apply res_cell1 rfl rfl rfl rfl rfl)); (case h3 => repeat (first | exact trivial | refine And.intro (Or.inr rfl) ?_ | refine And.intro (Or.inl rfl) ?_)); (case h2 => first | rfl | (simp only [ren, resV]; done))

end Go.Proofs.Ytncciafldmoklaa

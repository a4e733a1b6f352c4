/-
  A packet delivered to streams: the reference's and the program's Deliver by the same law.
  Conditions: the list is not longer, the texts not larger than memory holds.
-/
import Derived.Test.YtgkedbhpeafbbaaW3Split
import Derived.Test.YtgkedbhpeafbbaaS3Stream
import Derived.Test.YtgkedbhpeafbbaaW3Idx
import Derived.Test.YtgkedbhpeafbbaaEngR
set_option linter.unusedSimpArgs false
set_option linter.unusedVariables false
namespace Go.Proofs.Ytgkedbhpeafbbaa
open Go.RowKit

theorem fl_eq {x f : Fl} : (x.k = f.k ∧ x.s = f.s ∧ x.d = f.d ∧ x.p = f.p ∧ x.q = f.q) ↔ x = f := by
  constructor
  · rintro ⟨h1, h2, h3, h4, h5⟩
    obtain ⟨a, b, c, d, e⟩ := x
    obtain ⟨a', b', c', d', e'⟩ := f
    simp_all
  · rintro rfl; exact ⟨rfl, rfl, rfl, rfl, rfl⟩

theorem sIdx_none {f : Fl} : ∀ (l : List Sm) (k : Nat), sIdx f k l = -1 → l.any (fIs f) = false
  | [], _, _ => rfl
  | x :: l, k, h => by
    unfold sIdx at h
    split at h
    · omega
    · rename_i hx
      have := sIdx_none l (k + 1) h
      rw [fl_eq] at hx
      simp [fIs, hx, this]
theorem sIdx_some {f : Fl} : ∀ (l : List Sm) (k j : Nat) (hj : j < l.length), sIdx f k l = ((k + j : Nat) : Int) → l.any (fIs f) = true ∧ ∀ g, modF f g l = l.set j (g l[j])
  | x :: l, k, j, hj, h => by
    unfold sIdx at h
    split at h
    · rename_i hx
      obtain rfl : j = 0 := by omega
      rw [fl_eq] at hx
      exact ⟨by simp [fIs, hx], fun g => by simp [modF, hx]⟩
    · rename_i hx
      rw [fl_eq] at hx
      have hj0 : j ≠ 0 := fun h0 => by
        subst h0
        rcases sIdx_lt f l (k + 1) with h1 | ⟨i, _, h1⟩ <;> omega
      obtain ⟨i, rfl⟩ : ∃ i, j = i + 1 := ⟨j - 1, by omega⟩
      obtain ⟨h1, h2⟩ := sIdx_some l (k + 1) i (by simpa using hj) (by rw [h]; congr 1; omega)
      refine ⟨by simp [h1], fun g => ?_⟩
      simp only [modF, if_neg hx, h2 g, List.set_cons_succ, List.getElem_cons_succ]

theorem w16_impl_fn {v : Int} : Fn Try.prog 106 [.int .i64 v] [] (.string (word16 v)) [] := Fn.of_below ⟨_, Try.func106, rfl, rfl⟩ rfl rfl fun w => word16_impl v w
theorem w16_spec_fn {v : Int} : Fn Try.prog 110 [.int .i64 v] [] (.string (word16 v)) [] := Fn.of_below ⟨_, Try.func110, rfl, rfl⟩ rfl rfl fun w => word16_spec v w

set_option maxHeartbeats 32000000 in
set_option maxRecDepth 100000 in
theorem copyStreams_fn (l : List Sm) (hn : l.length ≤ 1000000000) : Fn Try.prog 91 [.slice (some ⟨0, 0, some 0⟩) l.length l.length] [.arr 8 .ro (l.map cStream)] (.slice (some ⟨1, 0, some 0⟩) l.length l.length) [.arr 8 .ro (l.map cStream), .arr 8 (.ap 73) (l.map cStream)] := by
  refine Fn.intro tabs_ok (nt := 6) (rs := [.tmp 2]) Try.func91 rfl rfl rfl rfl rfl rfl rfl rfl rfl ?_; (first | refine aw_in0 ?_ | refine aw_in1 ?_ | refine aw_in2 ?_ | refine aw_in3 ?_ | refine aw_in4 ?_ | refine aw_in5 ?_ | refine aw_in6 ?_)
  repeat' (first | refine so_open rfl (by simp only [Nat.reduceAdd]; exact rfl) ?_ | (show SL _ _ _ (⟨_, .move _, _, _, _, _⟩ :: _) _ _ _ _; first | refine s_move rfl rfl rfl ?_) | (show SL _ _ _ (⟨_, .assign _, _, _, _, _⟩ :: _) _ _ _ _; first | refine s_assign rfl rfl rfl ?_) | (show SL _ _ _ (⟨_, .buildSlice _ _ _, _, _, _, _⟩ :: _) _ _ _ _; first | refine s_lit tabs_ok rfl (by (repeat (first | apply evP_agg rfl | apply evP_one rfl rfl rfl)); exact evP_nil) rfl rfl rfl rfl rfl rfl (by simp only [Nat.reduceAdd]; exact rfl) rfl rfl ?_) | (show SL _ _ _ (⟨_, .call _, _, _, _, _⟩ :: _) _ _ _ _; first | refine s_appX tabs_ok rfl rfl rfl rfl rfl rfl rfl rfl (by first | rfl | (simp; done) | (simp; omega) | omega) (by first | rfl | (simp; done) | (simp; omega) | omega) (by omega) (by omega) (by first | exact part_map | exact part_all | rfl) (by first | exact List.nil_append _ | rfl) (by first | exact Nat.zero_add _ | rfl) (by simp only [Nat.reduceAdd]; exact rfl) rfl rfl ?_) | refine so_nil rfl (hK _ _ _ ?_) | refine aw_seqSR Try.f91 rfl (fun K hK => ?_) | refine aw_endSR Try.f91 rfl (fun K hK => ?_) | refine AW.seq ?_ | refine AW.skip ?_ | refine AW.ret ?_ | refine AW.exit ?_ | refine AW.block ?_ | refine then_n ?_ | refine then_r ?_ | refine then_e ?_ | refine in_n ?_ | refine in_r ?_ | refine in_e rfl ?_ | refine in_o rfl ?_ | refine AW.cond_true rfl ?_ | refine AW.cond_false rfl ?_ | (refine AW.cond_dec rfl (fun hc => ?_) (fun hc => ?_) <;> (first | (exfalso; omega; done) | exact absurd rfl hc | skip)) | (refine AW.cond_ndec rfl (fun hc => ?_) (fun hc => ?_) <;> (first | (exfalso; omega; done) | exact absurd rfl hc | skip)) | (refine AW.cond rfl (fun hc => ?_) (fun hc => ?_)))
  all_goals (first | apply fin_ret [0, 2] ?h1 ?h3 rfl rfl rfl rfl ?h2 | (refine fin_norm ?_; apply fin_ret [0, 2] ?h1 ?h3 rfl rfl rfl rfl ?h2)); (case h1 => repeat (first | exact res_nil | apply res_tmp rfl rfl | apply res_cell rfl rfl rfl rfl rfl | apply res_cell1 rfl rfl rfl rfl rfl)); (case h3 => repeat (first | exact trivial | refine And.intro (Or.inr rfl) ?_ | refine And.intro (Or.inl rfl) ?_)); (case h2 => first | rfl | (simp only [ren, resV]; done))

set_option maxHeartbeats 32000000 in
set_option maxRecDepth 100000 in
theorem deliver_spec (l : List Sm) {x0 : Int} {x1 : Int} {x2 : Int} {x3 : Int} {x4 : Int} {x5 : Int} {x6 : Int} {x7 : Int} {x8 : Int} {x9 : Int} {x10 : Int} {x11 : Int} {x12 : Int} {x13 : Int} {x14 : Int} {x15 : ByteArray} (hn : l.length ≤ 1000000000) (hd : ∀ y ∈ l, y.dt.size ≤ 1099511627776) : Fn Try.prog 62 [.slice (some ⟨0, 0, some 0⟩) l.length l.length, .agg [.int .i64 x0, .int .i64 x1, .int .i64 x2, .int .i64 x3, .int .i64 x4, .int .i64 x5, .int .i64 x6, .int .i64 x7, .int .i64 x8, .int .i64 x9, .int .i64 x10, .int .i64 x11, .int .i64 x12, .int .i64 x13, .int .i64 x14, .string x15].toArray] [.arr 8 .ro (l.map cStream)] (.slice (some ⟨1, 0, some 0⟩) (dlv l (⟨x0, x1, x2, x3, x4, x5, x6, x7, (⟨x8, x9, x10, x11, x12, x13, x14, x15⟩ : Sg)⟩ : Pk)).length (dlv l (⟨x0, x1, x2, x3, x4, x5, x6, x7, (⟨x8, x9, x10, x11, x12, x13, x14, x15⟩ : Sg)⟩ : Pk)).length) [.arr 8 .ro (l.map cStream), .arr 8 (.ap 73) ((dlv l (⟨x0, x1, x2, x3, x4, x5, x6, x7, (⟨x8, x9, x10, x11, x12, x13, x14, x15⟩ : Sg)⟩ : Pk)).map cStream)] := by
  have hF := supok_spec (x0 := x0) (x1 := x1) (x2 := x2) (x3 := x3) (x4 := x4) (x5 := x5) (x6 := x6) (x7 := x7) (x8 := x8) (x9 := x9) (x10 := x10) (x11 := x11) (x12 := x12) (x13 := x13) (x14 := x14) (x15 := x15)
  by_cases hs : ¬ SupOk x0 x1 x2 x3 x4 x5 x6 x7 x8 x9 x10 x11 x12 x13 x14 x15.size
  rw [decide_eq_false hs] at hF
  rw [show dlv l (⟨x0, x1, x2, x3, x4, x5, x6, x7, (⟨x8, x9, x10, x11, x12, x13, x14, x15⟩ : Sg)⟩ : Pk) = l by unfold dlv; rw [if_neg hs]]
  rotate_left
  replace hs := Decidable.not_not.1 hs
  rw [decide_eq_true hs] at hF
  have hbd : x15.size ≤ 320 := Pk.sup.bd (p := (⟨x0, x1, x2, x3, x4, x5, x6, x7, (⟨x8, x9, x10, x11, x12, x13, x14, x15⟩ : Sg)⟩ : Pk)) hs
  have hsq : 0 ≤ x11 ∧ x11 ≤ 4294967295 := Pk.sup.sq (p := (⟨x0, x1, x2, x3, x4, x5, x6, x7, (⟨x8, x9, x10, x11, x12, x13, x14, x15⟩ : Sg)⟩ : Pk)) hs
  have hw : (word16 (x15.size : Int)).size ≤ 2 := word16_size _
  have hkd : x8 = 6 ∨ x8 = 17 := Pk.sup.kd (p := (⟨x0, x1, x2, x3, x4, x5, x6, x7, (⟨x8, x9, x10, x11, x12, x13, x14, x15⟩ : Sg)⟩ : Pk)) hs
  have h0 : (ByteArray.mk #[]).size = 0 := rfl
  rcases sIdx_lt (⟨x8, x6, x7, x9, x10⟩ : Fl) l 0 with hT | ⟨j, hj, hT⟩
  have hI := sidx_spec l (⟨x8, x6, x7, x9, x10⟩ : Fl) (-1) (by omega) hT
  have hany := sIdx_none l 0 hT
  by_cases hk : x8 = 17
  have hR : dlv l (⟨x0, x1, x2, x3, x4, x5, x6, x7, (⟨x8, x9, x10, x11, x12, x13, x14, x15⟩ : Sg)⟩ : Pk) = l ++ [⟨(⟨x8, x6, x7, x9, x10⟩ : Fl), 0, (⟨#[]⟩ ++ word16 (x15.size : Int) ++ x15), false⟩] := by
    unfold dlv newM
    rw [if_pos hs, if_neg (by simp [Pk.flow, hany]), if_pos hk]
    simp only [Pk.flow, Pk.udp, show (ByteArray.mk #[]) = ByteArray.empty from rfl, ByteArray.empty_append]
  rw [hR, List.length_append, List.map_append]
  have hnew := end_get (A := l.map cStream) (x := [.int .i64 17, .int .i64 x6, .int .i64 x7, .int .i64 x9, .int .i64 x10, .int .i64 0, .string ⟨#[]⟩, .bool false]) (n := l.length) (by simp)
  have hset := end_set (A := l.map cStream) (x := [.int .i64 17, .int .i64 x6, .int .i64 x7, .int .i64 x9, .int .i64 x10, .int .i64 0, .string ⟨#[]⟩, .bool false]) (y := cStream ⟨(⟨x8, x6, x7, x9, x10⟩ : Fl), 0, (⟨#[]⟩ ++ word16 (x15.size : Int) ++ x15), false⟩) (n := l.length) (by simp)
  rw [show (l.map cStream ++ [⟨(⟨x8, x6, x7, x9, x10⟩ : Fl), 0, (⟨#[]⟩ ++ word16 (x15.size : Int) ++ x15), false⟩].map cStream) = _ from hset.symm]
  clear hset hR
  subst hk
  rotate_left
  have hk6 : x8 = 6 := by omega
  subst hk6
  by_cases hsyn : bitsOf .i64 .and x13 2 = 0
  have hR : dlv l (⟨x0, x1, x2, x3, x4, x5, x6, x7, (⟨6, x9, x10, x11, x12, x13, x14, x15⟩ : Sg)⟩ : Pk) = l := by
    unfold dlv newM Pk.syn
    rw [if_pos hs, if_neg (by simp [Pk.flow, hany]), if_neg (by simp), if_neg (by simp [hsyn]), List.append_nil]
  rw [hR]
  clear hR
  rotate_left
  have hR : dlv l (⟨x0, x1, x2, x3, x4, x5, x6, x7, (⟨6, x9, x10, x11, x12, x13, x14, x15⟩ : Sg)⟩ : Pk) = l ++ [⟨(⟨6, x6, x7, x9, x10⟩ : Fl), (x11 + 1) % 4294967296, ⟨#[]⟩, false⟩] := by
    unfold dlv newM Pk.syn
    rw [if_pos hs, if_neg (by simp [Pk.flow, hany]), if_neg (by simp), if_pos (by simp [hsyn])]
    rfl
  rw [hR, List.length_append, List.map_append]
  clear hR
  rotate_left
  rw [Nat.zero_add] at hT
  have hI := sidx_spec l (⟨x8, x6, x7, x9, x10⟩ : Fl) (j : Int) (by omega) hT
  obtain ⟨hany, hmod⟩ := sIdx_some l 0 j hj (by rw [hT, Nat.zero_add])
  have hdt : l[j].dt.size ≤ 1099511627776 := hd _ (List.getElem_mem hj)
  have hjl : j < (l.map cStream).length := by simpa using hj
  have hD : dlv l (⟨x0, x1, x2, x3, x4, x5, x6, x7, (⟨x8, x9, x10, x11, x12, x13, x14, x15⟩ : Sg)⟩ : Pk) = l.set j (updM (⟨x0, x1, x2, x3, x4, x5, x6, x7, (⟨x8, x9, x10, x11, x12, x13, x14, x15⟩ : Sg)⟩ : Pk) l[j]) := by
    unfold dlv
    rw [if_pos hs, if_pos (by exact hany)]
    exact hmod _
  have hrow := rows_get (c := cStream) hj
  by_cases hk : x8 = 17
  have hR : dlv l (⟨x0, x1, x2, x3, x4, x5, x6, x7, (⟨x8, x9, x10, x11, x12, x13, x14, x15⟩ : Sg)⟩ : Pk) = l.set j { l[j] with dt := l[j].dt ++ word16 (x15.size : Int) ++ x15 } := by
    rw [hD]; unfold updM
    rw [if_pos hk]
    simp only [Pk.udp, ByteArray.append_assoc]
  rw [hR, List.length_set, List.map_set]
  clear hR hD
  subst hk
  rotate_left
  have hk6 : x8 = 6 := by omega
  subst hk6
  by_cases hsyn : ¬ bitsOf .i64 .and x13 2 = 0
  have hR : dlv l (⟨x0, x1, x2, x3, x4, x5, x6, x7, (⟨6, x9, x10, x11, x12, x13, x14, x15⟩ : Sg)⟩ : Pk) = l := by
    rw [hD]; unfold updM Pk.syn
    rw [if_neg (by simp), if_pos (by simp [hsyn])]
    simp
  rw [hR]
  clear hR hD
  rotate_left
  replace hsyn := Decidable.not_not.1 hsyn
  by_cases hdn : l[j].dn = true
  have hR : dlv l (⟨x0, x1, x2, x3, x4, x5, x6, x7, (⟨6, x9, x10, x11, x12, x13, x14, x15⟩ : Sg)⟩ : Pk) = l := by
    rw [hD]; unfold updM Pk.syn
    rw [if_neg (by simp), if_neg (by simp [hsyn]), if_pos (.inl hdn)]
    simp
  rw [hR]
  clear hR hD
  have hrow2 : (l.map cStream)[j]? = some [.int .i64 l[j].f.k, .int .i64 l[j].f.s, .int .i64 l[j].f.d, .int .i64 l[j].f.p, .int .i64 l[j].f.q, .int .i64 l[j].nx, .string l[j].dt, .bool true] := by rw [hrow, ← hdn]
  clear hrow
  rotate_left
  replace hdn : l[j].dn = false := by simpa using hdn
  have hrow2 : (l.map cStream)[j]? = some [.int .i64 l[j].f.k, .int .i64 l[j].f.s, .int .i64 l[j].f.d, .int .i64 l[j].f.p, .int .i64 l[j].f.q, .int .i64 l[j].nx, .string l[j].dt, .bool false] := by rw [hrow, ← hdn]
  clear hrow
  by_cases hrst : ¬ bitsOf .i64 .and x13 4 = 0
  have hR : dlv l (⟨x0, x1, x2, x3, x4, x5, x6, x7, (⟨6, x9, x10, x11, x12, x13, x14, x15⟩ : Sg)⟩ : Pk) = l := by
    rw [hD]; unfold updM Pk.syn Pk.rst
    rw [if_neg (by simp), if_neg (by simp [hsyn]), if_pos (.inr (by simp [hrst]))]
    simp
  rw [hR]
  clear hR hD
  rotate_left
  replace hrst := Decidable.not_not.1 hrst
  obtain ⟨o, ho⟩ : ∃ o : Nat, (l[j].nx - x11) % 4294967296 = (o : Int) := ⟨((l[j].nx - x11) % 4294967296).toNat, by omega⟩
  have ho2 : (o : Int) < 4294967296 := by omega
  have hm1 : bitsOf .i64 .and (IntKind.i64.wrap (l[j].nx - x11)) 4294967295 = (o : Int) := by rw [and32, wrap_mod32, ho]
  have hm2 : bitsOf .i64 .and l[j].nx 4294967295 = l[j].nx % 4294967296 := and32 _
  have hm3 : o ≤ x15.size → BinR Try.prog .rem 3 (.int .i64 (l[j].nx % 4294967296 + (x15.size : Int) - (o : Int))) (.int .i64 4294967296) (.int .i64 ((l[j].nx + x15.size - (o : Int)) % 4294967296)) := fun hle => by
    have := bin_rem0 (P := Try.prog) (t := 3) (a := l[j].nx % 4294967296 + (x15.size : Int) - (o : Int)) (b := 4294967296) (by omega) (by omega)
    rwa [show (l[j].nx % 4294967296 + (x15.size : Int) - (o : Int)) % 4294967296 = (l[j].nx + x15.size - (o : Int)) % 4294967296 by omega] at this
  by_cases hle : (o : Int) ≤ x15.size
  have hR : dlv l (⟨x0, x1, x2, x3, x4, x5, x6, x7, (⟨6, x9, x10, x11, x12, x13, x14, x15⟩ : Sg)⟩ : Pk) = l.set j { l[j] with dt := l[j].dt ++ x15.extract o x15.size, nx := (l[j].nx + x15.size - (o : Int)) % 4294967296, dn := !decide (bitsOf .i64 .and x13 1 = 0) } := by
    rw [hD]; unfold updM Pk.syn Pk.rst Pk.fin
    rw [if_neg (by simp), if_neg (by simp [hsyn]), if_neg (by simp [hdn, hrst])]
    dsimp only
    rw [ho, if_pos hle, Int.toNat_natCast]
  have hex : (x15.extract o x15.size).size ≤ 320 := by rw [ByteArray.size_extract]; omega
  rw [hR, List.length_set, List.map_set]
  clear hR hD
  rotate_left
  have hR : dlv l (⟨x0, x1, x2, x3, x4, x5, x6, x7, (⟨6, x9, x10, x11, x12, x13, x14, x15⟩ : Sg)⟩ : Pk) = l := by
    rw [hD]; unfold updM Pk.syn Pk.rst
    rw [if_neg (by simp), if_neg (by simp [hsyn]), if_neg (by simp [hdn, hrst])]
    dsimp only
    rw [ho, if_neg hle]
    simp
  rw [hR]
  clear hR hD
  all_goals
    refine Fn.intro tabs_ok (nt := 140) (rs := [.tmp 4]) Try.func62 rfl rfl rfl rfl rfl rfl rfl rfl rfl ?_; (first | refine aw_in0 ?_ | refine aw_in1 ?_ | refine aw_in2 ?_ | refine aw_in3 ?_ | refine aw_in4 ?_ | refine aw_in5 ?_ | refine aw_in6 ?_)
    repeat' (first | refine so_open rfl (by simp only [Nat.reduceAdd]; exact rfl) ?_ | refine s_pass rfl rfl ?_ | (show SL _ _ _ (⟨_, .binOp .sub _ _ _ _, _, _, _, _⟩ :: _) _ _ _ _; first | refine s_bin (op := .sub) rfl rfl (bin_sub (a := l[j].nx) (b := x11)) rfl rfl ?_ | refine s_bin rfl rfl (bin_sub64 (by omega) (by omega)) rfl rfl ?_) | (show SL _ _ _ (⟨_, .binOp .and _ _ _ _, _, _, _, _⟩ :: _) _ _ _ _; first | refine s_bin (op := .and) rfl rfl (bin_ad hm1) rfl rfl ?_ | refine s_bin (op := .and) rfl rfl (bin_ad hm2) rfl rfl ?_ | refine s_bin rfl rfl bin_and rfl rfl ?_) | (show SL _ _ _ (⟨_, .binOp .rem _ _ _ _, _, _, _, _⟩ :: _) _ _ _ _; first | refine s_bin (op := .rem) rfl rfl (hm3 (by omega)) rfl rfl ?_ | refine s_bin rfl rfl (bin_rem0 (by omega) (by omega)) rfl rfl ?_) | (show SL _ _ _ (⟨_, .call _, _, _, _, _⟩ :: _) _ _ _ _; first | refine s_call0 (hF) (by (repeat (apply evA_cons rfl)); exact evA_nil) rfl rfl rfl ?_ | refine s_call0 (flowof_spec) (by (repeat (apply evA_cons rfl)); exact evA_nil) rfl rfl rfl ?_ | refine s_call0 (w16_spec_fn) (by (repeat (apply evA_cons rfl)); exact evA_nil) rfl rfl rfl ?_ | refine s_callR (hI) [_] (by (repeat (apply evA_cons rfl)); exact evA_nil) rfl (by (repeat (first | refine And.intro ⟨_, rfl⟩ ?_ | refine And.intro rfl ?_)); exact trivial) rfl rfl rfl rfl rfl ?_ | refine s_lenS tabs_ok rfl rfl rfl rfl ?_ | refine s_lenT (by first | exact str_9) rfl rfl rfl ?_ | refine s_appX tabs_ok rfl rfl rfl rfl rfl rfl rfl rfl (by first | rfl | (simp; done) | (simp; omega) | omega) (by first | rfl | (simp; done) | (simp; omega) | omega) (by omega) (by omega) (by first | exact part_map | exact part_all | rfl) (by first | exact List.nil_append _ | rfl) (by first | exact Nat.zero_add _ | rfl) (by simp only [Nat.reduceAdd]; exact rfl) rfl rfl ?_) | (show SL _ _ _ (⟨_, .binOp .add _ _ _ _, _, _, _, _⟩ :: _) _ _ _ _; first | refine s_bin (op := .add) rfl rfl (bin_cat (by first | omega | (simp only [ByteArray.size_append]; omega))) rfl rfl ?_ | refine s_bin rfl rfl (bin_add64 (by omega) (by omega)) rfl rfl ?_) | (show SL _ _ _ (⟨_, .move _, _, _, _, _⟩ :: _) _ _ _ _; first | refine s_move rfl rfl rfl ?_) | (show SL _ _ _ (⟨_, .assign _, _, _, _, _⟩ :: _) _ _ _ _; first | refine s_assign rfl rfl rfl ?_) | (show SL _ _ _ (⟨_, .fieldAddr _ _ _, _, _, _, _⟩ :: _) _ _ _ _; first | refine s_fld tabs_ok rfl rfl rfl rfl ?_) | (show SL _ _ _ (⟨_, .load _ _, _, _, _, _⟩ :: _) _ _ _ _; first | refine s_load tabs_ok rfl rfl rfl rfl rfl rfl rfl ?_ | refine s_aload tabs_ok rfl rfl rfl rfl (by assumption) rfl rfl rfl ?_ | refine s_loadW tabs_ok rfl rfl rfl rfl rfl rfl rfl ?_ | refine s_aloadW tabs_ok rfl rfl rfl rfl (by assumption) rfl rfl rfl ?_ | refine s_loadS tabs_ok rfl rfl rfl rfl (by simp only [seg, Option.map_some, Option.map_none]; exact rfl) rfl rfl ?_ | refine s_aloadS tabs_ok rfl rfl rfl rfl (by assumption) (by simp only [seg, Option.map_some, Option.map_none]; exact rfl) rfl rfl ?_ | refine s_aload2 tabs_ok rfl rfl rfl rfl (by assumption) rfl rfl rfl ?_) | (show SL _ _ _ (⟨_, .pick _ _ _, _, _, _, _⟩ :: _) _ _ _ _; first | refine s_pickt rfl rfl rfl rfl ?_ | refine s_pickf rfl rfl rfl rfl ?_) | (show SL _ _ _ (⟨_, .unOp .not _ _, _, _, _, _⟩ :: _) _ _ _ _; first | refine s_not rfl rfl rfl ?_) | (show SL _ _ _ (⟨_, .binOp .lss _ _ _ _, _, _, _, _⟩ :: _) _ _ _ _; first | refine s_bin rfl rfl bin_lss rfl rfl ?_) | (show SL _ _ _ (⟨_, .binOp .leq _ _ _ _, _, _, _, _⟩ :: _) _ _ _ _; first | refine s_bin rfl rfl bin_leq rfl rfl ?_) | (show SL _ _ _ (⟨_, .binOp .eql _ _ _ _, _, _, _, _⟩ :: _) _ _ _ _; first | refine s_bin rfl rfl bin_eql rfl rfl ?_ | refine s_bin rfl rfl bin_seql rfl rfl ?_ | refine s_bin rfl rfl (bin_beql Try.underlying4) rfl rfl ?_) | (show SL _ _ _ (⟨_, .binOp .neq _ _ _ _, _, _, _, _⟩ :: _) _ _ _ _; first | refine s_bin rfl rfl bin_neq rfl rfl ?_ | refine s_bin rfl rfl bin_sneq rfl rfl ?_ | refine s_bin rfl rfl (bin_bneq Try.underlying4) rfl rfl ?_) | (show SL _ _ _ (⟨_, .indexAddr _ _ _, _, _, _, _⟩ :: _) _ _ _ _; first | refine s_at0 tabs_ok rfl rfl rfl rfl rfl (by omega) rfl rfl ?_) | (show SL _ _ _ (⟨_, .box _ _, _, _, _, _⟩ :: _) _ _ _ _; first | refine s_boxS rfl (by simp only [Nat.reduceAdd]; exact rfl) rfl rfl ?_ | refine s_box1 rfl rfl (by simp only [Nat.reduceAdd]; exact rfl) rfl rfl ?_) | (show SL _ _ _ (⟨_, .alloc _, _, _, _, _⟩ :: _) _ _ _ _; first | refine s_alloc tabs_ok rfl rfl (by simp only [Nat.reduceAdd]; exact rfl) rfl rfl ?_) | (show SL _ _ _ (⟨_, .store _ _ _, _, _, _, _⟩ :: _) _ _ _ _; first | refine s_storeW tabs_ok rfl rfl rfl rfl rfl rfl rfl rfl rfl ?_ | refine s_store tabs_ok rfl rfl rfl rfl rfl rfl rfl (by simp only [splice, Option.map_some, Option.map_none]; exact rfl) rfl ?_ | refine s_storeS tabs_ok rfl rfl rfl rfl rfl rfl rfl (by simp only [splice, Option.map_some, Option.map_none]; exact rfl) rfl ?_ | refine s_astore tabs_ok rfl rfl rfl rfl rfl rfl rfl rfl (by assumption) (by simp only [splice, Option.map_some, Option.map_none]; exact rfl) rfl ?_ | refine s_astoreW tabs_ok rfl rfl rfl rfl rfl rfl rfl rfl rfl (by assumption) rfl rfl ?_ | refine s_astore2 tabs_ok rfl rfl rfl rfl rfl rfl rfl rfl (by assumption) (by simp only [splice, Option.map_some, Option.map_none]; exact rfl) rfl ?_) | (show SL _ _ _ (⟨_, .build _ _, _, _, _, _⟩ :: _) _ _ _ _; first | refine s_build (by first | exact st_42 | exact st_50 | exact st_52 | exact st_54 | exact st_73 | exact st_126 | exact st_136 | exact st_139) rfl (by (repeat (first | apply evP_agg rfl | apply evP_one rfl rfl rfl)); exact evP_nil) (by simp only [fillL, splice, List.getElem?_cons_zero, List.getElem?_cons_succ, List.length_cons, List.length_nil, Nat.reduceAdd, Nat.beq_refl, Option.map_some]; exact rfl) rfl rfl ?_) | (show SL _ _ _ (⟨_, .buildSlice _ _ _, _, _, _, _⟩ :: _) _ _ _ _; first | refine s_lit tabs_ok rfl (by (repeat (first | apply evP_agg rfl | apply evP_one rfl rfl rfl)); exact evP_nil) rfl rfl rfl rfl rfl rfl (by simp only [Nat.reduceAdd]; exact rfl) rfl rfl ?_) | (show SL _ _ _ (⟨_, .slice _ _ _ _ _, _, _, _, _⟩ :: _) _ _ _ _; first | refine s_sliceT (by first | exact str_9) rfl rfl rfl (by omega) (by omega) rfl rfl ?_ | refine s_slice tabs_ok rfl rfl rfl rfl rfl rfl (by omega) (by omega) rfl rfl ?_) | refine do_open rfl (by simp only [Nat.reduceAdd]; exact rfl) ?_ | refine d_pass rfl rfl ?_ | (show DL _ _ _ (⟨_, .binOp .sub _ _ _ _, _, _, _, _⟩ :: _) _ _ _ _ _; first | refine d_bin (op := .sub) rfl rfl (bin_sub (a := l[j].nx) (b := x11)) rfl rfl ?_ | refine d_bin rfl rfl (bin_sub64 (by omega) (by omega)) rfl rfl ?_) | (show DL _ _ _ (⟨_, .binOp .and _ _ _ _, _, _, _, _⟩ :: _) _ _ _ _ _; first | refine d_bin (op := .and) rfl rfl (bin_ad hm1) rfl rfl ?_ | refine d_bin (op := .and) rfl rfl (bin_ad hm2) rfl rfl ?_ | refine d_bin rfl rfl bin_and rfl rfl ?_) | (show DL _ _ _ (⟨_, .binOp .rem _ _ _ _, _, _, _, _⟩ :: _) _ _ _ _ _; first | refine d_bin (op := .rem) rfl rfl (hm3 (by omega)) rfl rfl ?_ | refine d_bin rfl rfl (bin_rem0 (by omega) (by omega)) rfl rfl ?_) | (show DL _ _ _ (⟨_, .call _, _, _, _, _⟩ :: _) _ _ _ _ _; first | refine d_call0 (hF) (by (repeat (apply evA_cons rfl)); exact evA_nil) rfl rfl rfl ?_ | refine d_call0 (flowof_spec) (by (repeat (apply evA_cons rfl)); exact evA_nil) rfl rfl rfl ?_ | refine d_call0 (w16_spec_fn) (by (repeat (apply evA_cons rfl)); exact evA_nil) rfl rfl rfl ?_ | refine d_callR (hI) [_] (by (repeat (apply evA_cons rfl)); exact evA_nil) rfl (by (repeat (first | refine And.intro ⟨_, rfl⟩ ?_ | refine And.intro rfl ?_)); exact trivial) rfl rfl rfl rfl rfl ?_ | refine d_lenS tabs_ok rfl rfl rfl rfl ?_ | refine d_lenT (by first | exact str_9) rfl rfl rfl ?_ | refine d_appX tabs_ok rfl rfl rfl rfl rfl rfl rfl rfl (by first | rfl | (simp; done) | (simp; omega) | omega) (by first | rfl | (simp; done) | (simp; omega) | omega) (by omega) (by omega) (by first | exact part_map | exact part_all | rfl) (by first | exact List.nil_append _ | rfl) (by first | exact Nat.zero_add _ | rfl) (by simp only [Nat.reduceAdd]; exact rfl) rfl rfl ?_) | (show DL _ _ _ (⟨_, .binOp .add _ _ _ _, _, _, _, _⟩ :: _) _ _ _ _ _; first | refine d_bin (op := .add) rfl rfl (bin_cat (by first | omega | (simp only [ByteArray.size_append]; omega))) rfl rfl ?_ | refine d_bin rfl rfl (bin_add64 (by omega) (by omega)) rfl rfl ?_) | (show DL _ _ _ (⟨_, .move _, _, _, _, _⟩ :: _) _ _ _ _ _; first | refine d_move rfl rfl rfl ?_) | (show DL _ _ _ (⟨_, .assign _, _, _, _, _⟩ :: _) _ _ _ _ _; first | refine d_assign rfl rfl rfl ?_) | (show DL _ _ _ (⟨_, .fieldAddr _ _ _, _, _, _, _⟩ :: _) _ _ _ _ _; first | refine d_fld tabs_ok rfl rfl rfl rfl ?_) | (show DL _ _ _ (⟨_, .load _ _, _, _, _, _⟩ :: _) _ _ _ _ _; first | refine d_load tabs_ok rfl rfl rfl rfl rfl rfl rfl ?_ | refine d_aload tabs_ok rfl rfl rfl rfl (by assumption) rfl rfl rfl ?_ | refine d_loadW tabs_ok rfl rfl rfl rfl rfl rfl rfl ?_ | refine d_aloadW tabs_ok rfl rfl rfl rfl (by assumption) rfl rfl rfl ?_ | refine d_loadS tabs_ok rfl rfl rfl rfl (by simp only [seg, Option.map_some, Option.map_none]; exact rfl) rfl rfl ?_ | refine d_aloadS tabs_ok rfl rfl rfl rfl (by assumption) (by simp only [seg, Option.map_some, Option.map_none]; exact rfl) rfl rfl ?_ | refine d_aload2 tabs_ok rfl rfl rfl rfl (by assumption) rfl rfl rfl ?_) | (show DL _ _ _ (⟨_, .pick _ _ _, _, _, _, _⟩ :: _) _ _ _ _ _; first | refine d_pickt rfl rfl rfl rfl ?_ | refine d_pickf rfl rfl rfl rfl ?_) | (show DL _ _ _ (⟨_, .unOp .not _ _, _, _, _, _⟩ :: _) _ _ _ _ _; first | refine d_not rfl rfl rfl ?_) | (show DL _ _ _ (⟨_, .binOp .lss _ _ _ _, _, _, _, _⟩ :: _) _ _ _ _ _; first | refine d_bin rfl rfl bin_lss rfl rfl ?_) | (show DL _ _ _ (⟨_, .binOp .leq _ _ _ _, _, _, _, _⟩ :: _) _ _ _ _ _; first | refine d_bin rfl rfl bin_leq rfl rfl ?_) | (show DL _ _ _ (⟨_, .binOp .eql _ _ _ _, _, _, _, _⟩ :: _) _ _ _ _ _; first | refine d_bin rfl rfl bin_eql rfl rfl ?_ | refine d_bin rfl rfl bin_seql rfl rfl ?_ | refine d_bin rfl rfl (bin_beql Try.underlying4) rfl rfl ?_) | (show DL _ _ _ (⟨_, .binOp .neq _ _ _ _, _, _, _, _⟩ :: _) _ _ _ _ _; first | refine d_bin rfl rfl bin_neq rfl rfl ?_ | refine d_bin rfl rfl bin_sneq rfl rfl ?_ | refine d_bin rfl rfl (bin_bneq Try.underlying4) rfl rfl ?_) | (show DL _ _ _ (⟨_, .indexAddr _ _ _, _, _, _, _⟩ :: _) _ _ _ _ _; first | refine d_at0 tabs_ok rfl rfl rfl rfl rfl (by omega) rfl rfl ?_) | (show DL _ _ _ (⟨_, .box _ _, _, _, _, _⟩ :: _) _ _ _ _ _; first | refine d_boxS rfl (by simp only [Nat.reduceAdd]; exact rfl) rfl rfl ?_ | refine d_box1 rfl rfl (by simp only [Nat.reduceAdd]; exact rfl) rfl rfl ?_) | (show DL _ _ _ (⟨_, .alloc _, _, _, _, _⟩ :: _) _ _ _ _ _; first | refine d_alloc tabs_ok rfl rfl (by simp only [Nat.reduceAdd]; exact rfl) rfl rfl ?_) | (show DL _ _ _ (⟨_, .store _ _ _, _, _, _, _⟩ :: _) _ _ _ _ _; first | refine d_storeW tabs_ok rfl rfl rfl rfl rfl rfl rfl rfl rfl ?_ | refine d_store tabs_ok rfl rfl rfl rfl rfl rfl rfl (by simp only [splice, Option.map_some, Option.map_none]; exact rfl) rfl ?_ | refine d_storeS tabs_ok rfl rfl rfl rfl rfl rfl rfl (by simp only [splice, Option.map_some, Option.map_none]; exact rfl) rfl ?_ | refine d_astore tabs_ok rfl rfl rfl rfl rfl rfl rfl rfl (by assumption) (by simp only [splice, Option.map_some, Option.map_none]; exact rfl) rfl ?_ | refine d_astoreW tabs_ok rfl rfl rfl rfl rfl rfl rfl rfl rfl (by assumption) rfl rfl ?_ | refine d_astore2 tabs_ok rfl rfl rfl rfl rfl rfl rfl rfl (by assumption) (by simp only [splice, Option.map_some, Option.map_none]; exact rfl) rfl ?_) | (show DL _ _ _ (⟨_, .build _ _, _, _, _, _⟩ :: _) _ _ _ _ _; first | refine d_build (by first | exact st_42 | exact st_50 | exact st_52 | exact st_54 | exact st_73 | exact st_126 | exact st_136 | exact st_139) rfl (by (repeat (first | apply evP_agg rfl | apply evP_one rfl rfl rfl)); exact evP_nil) (by simp only [fillL, splice, List.getElem?_cons_zero, List.getElem?_cons_succ, List.length_cons, List.length_nil, Nat.reduceAdd, Nat.beq_refl, Option.map_some]; exact rfl) rfl rfl ?_) | (show DL _ _ _ (⟨_, .buildSlice _ _ _, _, _, _, _⟩ :: _) _ _ _ _ _; first | refine d_lit tabs_ok rfl (by (repeat (first | apply evP_agg rfl | apply evP_one rfl rfl rfl)); exact evP_nil) rfl rfl rfl rfl rfl rfl (by simp only [Nat.reduceAdd]; exact rfl) rfl rfl ?_) | (show DL _ _ _ (⟨_, .slice _ _ _ _ _, _, _, _, _⟩ :: _) _ _ _ _ _; first | refine d_sliceT (by first | exact str_9) rfl rfl rfl (by omega) (by omega) rfl rfl ?_ | refine d_slice tabs_ok rfl rfl rfl rfl rfl rfl (by omega) (by omega) rfl rfl ?_) | refine so_nil rfl (hK _ _ _ ?_) | refine aw_seqSR Try.f62 rfl (fun K hK => ?_) | refine aw_endSR Try.f62 rfl (fun K hK => ?_) | refine do_nil rfl (hK _ _ _ _ (by kernel_rfl) ?_) | refine aw_seqDR Try.f62 rfl mixed_ok (fun K hK => ?_) | refine aw_endDR Try.f62 rfl mixed_ok (fun K hK => ?_) | refine AW.seq ?_ | refine AW.skip ?_ | refine AW.ret ?_ | refine AW.exit ?_ | refine AW.block ?_ | refine then_n ?_ | refine then_r ?_ | refine then_e ?_ | refine in_n ?_ | refine in_r ?_ | refine in_e rfl ?_ | refine in_o rfl ?_ | refine AW.cond_true rfl ?_ | refine AW.cond_false rfl ?_ | (refine AW.cond_dec rfl (fun hc => ?_) (fun hc => ?_) <;> (first | (exfalso; omega; done) | exact absurd rfl hc | skip)) | (refine AW.cond_ndec rfl (fun hc => ?_) (fun hc => ?_) <;> (first | (exfalso; omega; done) | exact absurd rfl hc | skip)) | (refine AW.cond rfl (fun hc => ?_) (fun hc => ?_)) | ((fail_if_success (refine s_ask (b := true) rfl rfl (fun _ => ?_) (fun _ => ?_))); (fail_if_success (refine s_ask (b := false) rfl rfl (fun _ => ?_) (fun _ => ?_))); (refine s_ask rfl rfl (fun hc => ?_) (fun hc => ?_) <;> (rw [hc]; try simp only [decide_eq_true_eq, decide_eq_false_iff_not, Bool.not_eq_true', Bool.not_eq_false', Bool.not_eq_true, Bool.not_eq_false] at hc) <;> (first | (exfalso; omega; done) | exact absurd rfl hc | skip))) | ((fail_if_success (refine d_ask (b := true) rfl rfl (fun _ => ?_) (fun _ => ?_))); (fail_if_success (refine d_ask (b := false) rfl rfl (fun _ => ?_) (fun _ => ?_))); (refine d_ask rfl rfl (fun hc => ?_) (fun hc => ?_) <;> (rw [hc]; try simp only [decide_eq_true_eq, decide_eq_false_iff_not, Bool.not_eq_true', Bool.not_eq_false', Bool.not_eq_true, Bool.not_eq_false] at hc) <;> (first | (exfalso; omega; done) | exact absurd rfl hc | skip))))
    all_goals (first | (first | apply fin_ret [0, 3] ?h1 ?h3 rfl rfl rfl rfl ?h2 | (refine fin_norm ?_; apply fin_ret [0, 3] ?h1 ?h3 rfl rfl rfl rfl ?h2)); (case h1 => repeat (first | exact res_nil | apply res_tmp rfl rfl | apply res_cell rfl rfl rfl rfl rfl | apply res_cell1 rfl rfl rfl rfl rfl)); (case h3 => repeat (first | exact trivial | refine And.intro (Or.inr rfl) ?_ | refine And.intro (Or.inl rfl) ?_)); (case h2 => first | rfl | (simp only [ren, resV]; done)) | (first | apply fin_ret [0, 7] ?h1 ?h3 rfl rfl rfl rfl ?h2 | (refine fin_norm ?_; apply fin_ret [0, 7] ?h1 ?h3 rfl rfl rfl rfl ?h2)); (case h1 => repeat (first | exact res_nil | apply res_tmp rfl rfl | apply res_cell rfl rfl rfl rfl rfl | apply res_cell1 rfl rfl rfl rfl rfl)); (case h3 => repeat (first | exact trivial | refine And.intro (Or.inr rfl) ?_ | refine And.intro (Or.inl rfl) ?_)); (case h2 => first | rfl | (simp only [ren, resV]; done)))

set_option maxHeartbeats 32000000 in
set_option maxRecDepth 100000 in
theorem deliver_impl (l : List Sm) {x0 : Int} {x1 : Int} {x2 : Int} {x3 : Int} {x4 : Int} {x5 : Int} {x6 : Int} {x7 : Int} {x8 : Int} {x9 : Int} {x10 : Int} {x11 : Int} {x12 : Int} {x13 : Int} {x14 : Int} {x15 : ByteArray} (hn : l.length ≤ 1000000000) (hd : ∀ y ∈ l, y.dt.size ≤ 1099511627776) : Fn Try.prog 55 [.slice (some ⟨0, 0, some 0⟩) l.length l.length, .agg [.int .i64 x0, .int .i64 x1, .int .i64 x2, .int .i64 x3, .int .i64 x4, .int .i64 x5, .int .i64 x6, .int .i64 x7, .int .i64 x8, .int .i64 x9, .int .i64 x10, .int .i64 x11, .int .i64 x12, .int .i64 x13, .int .i64 x14, .string x15].toArray] [.arr 8 .ro (l.map cStream)] (.slice (some ⟨1, 0, some 0⟩) (dlv l (⟨x0, x1, x2, x3, x4, x5, x6, x7, (⟨x8, x9, x10, x11, x12, x13, x14, x15⟩ : Sg)⟩ : Pk)).length (dlv l (⟨x0, x1, x2, x3, x4, x5, x6, x7, (⟨x8, x9, x10, x11, x12, x13, x14, x15⟩ : Sg)⟩ : Pk)).length) [.arr 8 .ro (l.map cStream), .arr 8 (.ap 73) ((dlv l (⟨x0, x1, x2, x3, x4, x5, x6, x7, (⟨x8, x9, x10, x11, x12, x13, x14, x15⟩ : Sg)⟩ : Pk)).map cStream)] := by
  have hF := supok_impl (x0 := x0) (x1 := x1) (x2 := x2) (x3 := x3) (x4 := x4) (x5 := x5) (x6 := x6) (x7 := x7) (x8 := x8) (x9 := x9) (x10 := x10) (x11 := x11) (x12 := x12) (x13 := x13) (x14 := x14) (x15 := x15)
  by_cases hs : ¬ SupOk x0 x1 x2 x3 x4 x5 x6 x7 x8 x9 x10 x11 x12 x13 x14 x15.size
  rw [decide_eq_false hs] at hF
  rw [show dlv l (⟨x0, x1, x2, x3, x4, x5, x6, x7, (⟨x8, x9, x10, x11, x12, x13, x14, x15⟩ : Sg)⟩ : Pk) = l by unfold dlv; rw [if_neg hs]]
  rotate_left
  replace hs := Decidable.not_not.1 hs
  rw [decide_eq_true hs] at hF
  have hbd : x15.size ≤ 320 := Pk.sup.bd (p := (⟨x0, x1, x2, x3, x4, x5, x6, x7, (⟨x8, x9, x10, x11, x12, x13, x14, x15⟩ : Sg)⟩ : Pk)) hs
  have hsq : 0 ≤ x11 ∧ x11 ≤ 4294967295 := Pk.sup.sq (p := (⟨x0, x1, x2, x3, x4, x5, x6, x7, (⟨x8, x9, x10, x11, x12, x13, x14, x15⟩ : Sg)⟩ : Pk)) hs
  have hw : (word16 (x15.size : Int)).size ≤ 2 := word16_size _
  have hkd : x8 = 6 ∨ x8 = 17 := Pk.sup.kd (p := (⟨x0, x1, x2, x3, x4, x5, x6, x7, (⟨x8, x9, x10, x11, x12, x13, x14, x15⟩ : Sg)⟩ : Pk)) hs
  have h0 : (ByteArray.mk #[]).size = 0 := rfl
  rcases sIdx_lt (⟨x8, x6, x7, x9, x10⟩ : Fl) l 0 with hT | ⟨j, hj, hT⟩
  have hI := sidx_impl l (⟨x8, x6, x7, x9, x10⟩ : Fl) (-1) (by omega) hT
  have hany := sIdx_none l 0 hT
  by_cases hk : x8 = 17
  have hR : dlv l (⟨x0, x1, x2, x3, x4, x5, x6, x7, (⟨x8, x9, x10, x11, x12, x13, x14, x15⟩ : Sg)⟩ : Pk) = l ++ [⟨(⟨x8, x6, x7, x9, x10⟩ : Fl), 0, (⟨#[]⟩ ++ (word16 (x15.size : Int) ++ x15)), false⟩] := by
    unfold dlv newM
    rw [if_pos hs, if_neg (by simp [Pk.flow, hany]), if_pos hk]
    simp only [Pk.flow, Pk.udp, show (ByteArray.mk #[]) = ByteArray.empty from rfl, ByteArray.empty_append]
  rw [hR, List.length_append, List.map_append]
  have hnew := end_get (A := l.map cStream) (x := [.int .i64 17, .int .i64 x6, .int .i64 x7, .int .i64 x9, .int .i64 x10, .int .i64 0, .string ⟨#[]⟩, .bool false]) (n := l.length) (by simp)
  have hset := end_set (A := l.map cStream) (x := [.int .i64 17, .int .i64 x6, .int .i64 x7, .int .i64 x9, .int .i64 x10, .int .i64 0, .string ⟨#[]⟩, .bool false]) (y := cStream ⟨(⟨x8, x6, x7, x9, x10⟩ : Fl), 0, (⟨#[]⟩ ++ (word16 (x15.size : Int) ++ x15)), false⟩) (n := l.length) (by simp)
  rw [show (l.map cStream ++ [⟨(⟨x8, x6, x7, x9, x10⟩ : Fl), 0, (⟨#[]⟩ ++ (word16 (x15.size : Int) ++ x15)), false⟩].map cStream) = _ from hset.symm]
  clear hset hR
  subst hk
  rotate_left
  have hk6 : x8 = 6 := by omega
  subst hk6
  by_cases hsyn : bitsOf .i64 .and x13 2 = 0
  have hR : dlv l (⟨x0, x1, x2, x3, x4, x5, x6, x7, (⟨6, x9, x10, x11, x12, x13, x14, x15⟩ : Sg)⟩ : Pk) = l := by
    unfold dlv newM Pk.syn
    rw [if_pos hs, if_neg (by simp [Pk.flow, hany]), if_neg (by simp), if_neg (by simp [hsyn]), List.append_nil]
  rw [hR]
  clear hR
  rotate_left
  have hR : dlv l (⟨x0, x1, x2, x3, x4, x5, x6, x7, (⟨6, x9, x10, x11, x12, x13, x14, x15⟩ : Sg)⟩ : Pk) = l ++ [⟨(⟨6, x6, x7, x9, x10⟩ : Fl), (x11 + 1) % 4294967296, ⟨#[]⟩, false⟩] := by
    unfold dlv newM Pk.syn
    rw [if_pos hs, if_neg (by simp [Pk.flow, hany]), if_neg (by simp), if_pos (by simp [hsyn])]
    rfl
  rw [hR, List.length_append, List.map_append]
  clear hR
  rotate_left
  rw [Nat.zero_add] at hT
  have hI := sidx_impl l (⟨x8, x6, x7, x9, x10⟩ : Fl) (j : Int) (by omega) hT
  obtain ⟨hany, hmod⟩ := sIdx_some l 0 j hj (by rw [hT, Nat.zero_add])
  have hdt : l[j].dt.size ≤ 1099511627776 := hd _ (List.getElem_mem hj)
  have hjl : j < (l.map cStream).length := by simpa using hj
  have hD : dlv l (⟨x0, x1, x2, x3, x4, x5, x6, x7, (⟨x8, x9, x10, x11, x12, x13, x14, x15⟩ : Sg)⟩ : Pk) = l.set j (updM (⟨x0, x1, x2, x3, x4, x5, x6, x7, (⟨x8, x9, x10, x11, x12, x13, x14, x15⟩ : Sg)⟩ : Pk) l[j]) := by
    unfold dlv
    rw [if_pos hs, if_pos (by exact hany)]
    exact hmod _
  have hrow := rows_get (c := cStream) hj
  by_cases hk : x8 = 17
  have hR : dlv l (⟨x0, x1, x2, x3, x4, x5, x6, x7, (⟨x8, x9, x10, x11, x12, x13, x14, x15⟩ : Sg)⟩ : Pk) = l.set j { l[j] with dt := l[j].dt ++ (word16 (x15.size : Int) ++ x15) } := by
    rw [hD]; unfold updM
    rw [if_pos hk]
    simp only [Pk.udp]
  rw [hR, List.length_set, List.map_set]
  clear hR hD
  subst hk
  rotate_left
  have hk6 : x8 = 6 := by omega
  subst hk6
  by_cases hsyn : ¬ bitsOf .i64 .and x13 2 = 0
  have hR : dlv l (⟨x0, x1, x2, x3, x4, x5, x6, x7, (⟨6, x9, x10, x11, x12, x13, x14, x15⟩ : Sg)⟩ : Pk) = l := by
    rw [hD]; unfold updM Pk.syn
    rw [if_neg (by simp), if_pos (by simp [hsyn])]
    simp
  rw [hR]
  clear hR hD
  rotate_left
  replace hsyn := Decidable.not_not.1 hsyn
  by_cases hdn : l[j].dn = true
  have hR : dlv l (⟨x0, x1, x2, x3, x4, x5, x6, x7, (⟨6, x9, x10, x11, x12, x13, x14, x15⟩ : Sg)⟩ : Pk) = l := by
    rw [hD]; unfold updM Pk.syn
    rw [if_neg (by simp), if_neg (by simp [hsyn]), if_pos (.inl hdn)]
    simp
  rw [hR]
  clear hR hD
  have hrow2 : (l.map cStream)[j]? = some [.int .i64 l[j].f.k, .int .i64 l[j].f.s, .int .i64 l[j].f.d, .int .i64 l[j].f.p, .int .i64 l[j].f.q, .int .i64 l[j].nx, .string l[j].dt, .bool true] := by rw [hrow, ← hdn]
  clear hrow
  rotate_left
  replace hdn : l[j].dn = false := by simpa using hdn
  have hrow2 : (l.map cStream)[j]? = some [.int .i64 l[j].f.k, .int .i64 l[j].f.s, .int .i64 l[j].f.d, .int .i64 l[j].f.p, .int .i64 l[j].f.q, .int .i64 l[j].nx, .string l[j].dt, .bool false] := by rw [hrow, ← hdn]
  clear hrow
  by_cases hrst : ¬ bitsOf .i64 .and x13 4 = 0
  have hR : dlv l (⟨x0, x1, x2, x3, x4, x5, x6, x7, (⟨6, x9, x10, x11, x12, x13, x14, x15⟩ : Sg)⟩ : Pk) = l := by
    rw [hD]; unfold updM Pk.syn Pk.rst
    rw [if_neg (by simp), if_neg (by simp [hsyn]), if_pos (.inr (by simp [hrst]))]
    simp
  rw [hR]
  clear hR hD
  rotate_left
  replace hrst := Decidable.not_not.1 hrst
  obtain ⟨o, ho⟩ : ∃ o : Nat, (l[j].nx - x11) % 4294967296 = (o : Int) := ⟨((l[j].nx - x11) % 4294967296).toNat, by omega⟩
  have ho2 : (o : Int) < 4294967296 := by omega
  have hm1 := modulo_fn (a := IntKind.i64.wrap (l[j].nx - x11)) (b := 4294967296) (by omega) (by omega)
  rw [wrap_mod32, ho] at hm1
  have hm2 := modulo_fn (a := IntKind.i64.wrap (IntKind.i64.wrap (l[j].nx + x15.size) - (o : Int))) (b := 4294967296) (by omega) (by omega)
  rw [wrap_mod32, show (IntKind.i64.wrap (l[j].nx + x15.size) - (o : Int)) % 4294967296 = (l[j].nx + x15.size - (o : Int)) % 4294967296 by have := wrap_mod32 (l[j].nx + x15.size); omega] at hm2
  by_cases hle : (o : Int) ≤ x15.size
  have hR : dlv l (⟨x0, x1, x2, x3, x4, x5, x6, x7, (⟨6, x9, x10, x11, x12, x13, x14, x15⟩ : Sg)⟩ : Pk) = l.set j { l[j] with dt := l[j].dt ++ x15.extract o x15.size, nx := (l[j].nx + x15.size - (o : Int)) % 4294967296, dn := !decide (bitsOf .i64 .and x13 1 = 0) } := by
    rw [hD]; unfold updM Pk.syn Pk.rst Pk.fin
    rw [if_neg (by simp), if_neg (by simp [hsyn]), if_neg (by simp [hdn, hrst])]
    dsimp only
    rw [ho, if_pos hle, Int.toNat_natCast]
  have hex : (x15.extract o x15.size).size ≤ 320 := by rw [ByteArray.size_extract]; omega
  rw [hR, List.length_set, List.map_set]
  clear hR hD
  rotate_left
  have hR : dlv l (⟨x0, x1, x2, x3, x4, x5, x6, x7, (⟨6, x9, x10, x11, x12, x13, x14, x15⟩ : Sg)⟩ : Pk) = l := by
    rw [hD]; unfold updM Pk.syn Pk.rst
    rw [if_neg (by simp), if_neg (by simp [hsyn]), if_neg (by simp [hdn, hrst])]
    dsimp only
    rw [ho, if_neg hle]
    simp
  rw [hR]
  clear hR hD
  all_goals
    refine Fn.intro tabs_ok (nt := 133) (rs := [.tmp 4]) Try.func55 rfl rfl rfl rfl rfl rfl rfl rfl rfl ?_; (first | refine aw_in0 ?_ | refine aw_in1 ?_ | refine aw_in2 ?_ | refine aw_in3 ?_ | refine aw_in4 ?_ | refine aw_in5 ?_ | refine aw_in6 ?_)
    repeat' (first | refine so_open rfl (by simp only [Nat.reduceAdd]; exact rfl) ?_ | refine s_pass rfl rfl ?_ | (show SL _ _ _ (⟨_, .call _, _, _, _, _⟩ :: _) _ _ _ _; first | refine s_call0 (hm1) (by (repeat (apply evA_cons rfl)); exact evA_nil) rfl rfl rfl ?_ | refine s_call0 (hm2) (by (repeat (apply evA_cons rfl)); exact evA_nil) rfl rfl rfl ?_ | refine s_callN (copyStreams_fn l hn) [_] rfl rfl rfl (by (repeat (apply evA_cons rfl)); exact evA_nil) rfl (by (repeat (first | refine And.intro ⟨_, rfl⟩ ?_ | refine And.intro rfl ?_)); exact trivial) rfl rfl (by simp only [Nat.reduceAdd]; exact rfl) rfl rfl ?_ | refine s_call0 (hF) (by (repeat (apply evA_cons rfl)); exact evA_nil) rfl rfl rfl ?_ | refine s_call0 (flowof_impl) (by (repeat (apply evA_cons rfl)); exact evA_nil) rfl rfl rfl ?_ | refine s_call0 (w16_impl_fn) (by (repeat (apply evA_cons rfl)); exact evA_nil) rfl rfl rfl ?_ | refine s_callR (hI) [_] (by (repeat (apply evA_cons rfl)); exact evA_nil) rfl (by (repeat (first | refine And.intro ⟨_, rfl⟩ ?_ | refine And.intro rfl ?_)); exact trivial) rfl rfl rfl rfl rfl ?_ | refine s_lenS tabs_ok rfl rfl rfl rfl ?_ | refine s_lenT (by first | exact str_9) rfl rfl rfl ?_ | refine s_appX tabs_ok rfl rfl rfl rfl rfl rfl rfl rfl (by first | rfl | (simp; done) | (simp; omega) | omega) (by first | rfl | (simp; done) | (simp; omega) | omega) (by omega) (by omega) (by first | exact part_map | exact part_all | rfl) (by first | exact List.nil_append _ | rfl) (by first | exact Nat.zero_add _ | rfl) (by simp only [Nat.reduceAdd]; exact rfl) rfl rfl ?_) | (show SL _ _ _ (⟨_, .binOp .sub _ _ _ _, _, _, _, _⟩ :: _) _ _ _ _; first | refine s_bin (op := .sub) rfl rfl (bin_sub (a := l[j].nx) (b := x11)) rfl rfl ?_ | refine s_bin (op := .sub) rfl rfl (bin_sub (a := IntKind.i64.wrap (l[j].nx + x15.size)) (b := (o : Int))) rfl rfl ?_ | refine s_bin rfl rfl (bin_sub64 (by omega) (by omega)) rfl rfl ?_) | (show SL _ _ _ (⟨_, .binOp .add _ _ _ _, _, _, _, _⟩ :: _) _ _ _ _; first | refine s_bin (op := .add) rfl rfl (bin_add (a := l[j].nx) (b := (x15.size : Int))) rfl rfl ?_ | refine s_bin (op := .add) rfl rfl (bin_cat (by first | omega | (simp only [ByteArray.size_append]; omega))) rfl rfl ?_ | refine s_bin rfl rfl (bin_add64 (by omega) (by omega)) rfl rfl ?_) | (show SL _ _ _ (⟨_, .move _, _, _, _, _⟩ :: _) _ _ _ _; first | refine s_move rfl rfl rfl ?_) | (show SL _ _ _ (⟨_, .assign _, _, _, _, _⟩ :: _) _ _ _ _; first | refine s_assign rfl rfl rfl ?_) | (show SL _ _ _ (⟨_, .fieldAddr _ _ _, _, _, _, _⟩ :: _) _ _ _ _; first | refine s_fld tabs_ok rfl rfl rfl rfl ?_) | (show SL _ _ _ (⟨_, .load _ _, _, _, _, _⟩ :: _) _ _ _ _; first | refine s_load tabs_ok rfl rfl rfl rfl rfl rfl rfl ?_ | refine s_aload tabs_ok rfl rfl rfl rfl (by assumption) rfl rfl rfl ?_ | refine s_loadW tabs_ok rfl rfl rfl rfl rfl rfl rfl ?_ | refine s_aloadW tabs_ok rfl rfl rfl rfl (by assumption) rfl rfl rfl ?_ | refine s_loadS tabs_ok rfl rfl rfl rfl (by simp only [seg, Option.map_some, Option.map_none]; exact rfl) rfl rfl ?_ | refine s_aloadS tabs_ok rfl rfl rfl rfl (by assumption) (by simp only [seg, Option.map_some, Option.map_none]; exact rfl) rfl rfl ?_ | refine s_aload2 tabs_ok rfl rfl rfl rfl (by assumption) rfl rfl rfl ?_) | (show SL _ _ _ (⟨_, .pick _ _ _, _, _, _, _⟩ :: _) _ _ _ _; first | refine s_pickt rfl rfl rfl rfl ?_ | refine s_pickf rfl rfl rfl rfl ?_) | (show SL _ _ _ (⟨_, .unOp .not _ _, _, _, _, _⟩ :: _) _ _ _ _; first | refine s_not rfl rfl rfl ?_) | (show SL _ _ _ (⟨_, .binOp .lss _ _ _ _, _, _, _, _⟩ :: _) _ _ _ _; first | refine s_bin rfl rfl bin_lss rfl rfl ?_) | (show SL _ _ _ (⟨_, .binOp .leq _ _ _ _, _, _, _, _⟩ :: _) _ _ _ _; first | refine s_bin rfl rfl bin_leq rfl rfl ?_) | (show SL _ _ _ (⟨_, .binOp .eql _ _ _ _, _, _, _, _⟩ :: _) _ _ _ _; first | refine s_bin rfl rfl bin_eql rfl rfl ?_ | refine s_bin rfl rfl bin_seql rfl rfl ?_ | refine s_bin rfl rfl (bin_beql Try.underlying4) rfl rfl ?_) | (show SL _ _ _ (⟨_, .binOp .neq _ _ _ _, _, _, _, _⟩ :: _) _ _ _ _; first | refine s_bin rfl rfl bin_neq rfl rfl ?_ | refine s_bin rfl rfl bin_sneq rfl rfl ?_ | refine s_bin rfl rfl (bin_bneq Try.underlying4) rfl rfl ?_) | (show SL _ _ _ (⟨_, .indexAddr _ _ _, _, _, _, _⟩ :: _) _ _ _ _; first | refine s_at0 tabs_ok rfl rfl rfl rfl rfl (by omega) rfl rfl ?_) | (show SL _ _ _ (⟨_, .box _ _, _, _, _, _⟩ :: _) _ _ _ _; first | refine s_boxS rfl (by simp only [Nat.reduceAdd]; exact rfl) rfl rfl ?_ | refine s_box1 rfl rfl (by simp only [Nat.reduceAdd]; exact rfl) rfl rfl ?_) | (show SL _ _ _ (⟨_, .alloc _, _, _, _, _⟩ :: _) _ _ _ _; first | refine s_alloc tabs_ok rfl rfl (by simp only [Nat.reduceAdd]; exact rfl) rfl rfl ?_) | (show SL _ _ _ (⟨_, .nilCheck _, _, _, _, _⟩ :: _) _ _ _ _; first | refine s_nilc rfl rfl rfl ?_) | (show SL _ _ _ (⟨_, .store _ _ _, _, _, _, _⟩ :: _) _ _ _ _; first | refine s_storeW tabs_ok rfl rfl rfl rfl rfl rfl rfl rfl rfl ?_ | refine s_store tabs_ok rfl rfl rfl rfl rfl rfl rfl (by simp only [splice, Option.map_some, Option.map_none]; exact rfl) rfl ?_ | refine s_storeS tabs_ok rfl rfl rfl rfl rfl rfl rfl (by simp only [splice, Option.map_some, Option.map_none]; exact rfl) rfl ?_ | refine s_astore tabs_ok rfl rfl rfl rfl rfl rfl rfl rfl (by assumption) (by simp only [splice, Option.map_some, Option.map_none]; exact rfl) rfl ?_ | refine s_astoreW tabs_ok rfl rfl rfl rfl rfl rfl rfl rfl rfl (by assumption) rfl rfl ?_ | refine s_astore2 tabs_ok rfl rfl rfl rfl rfl rfl rfl rfl (by assumption) (by simp only [splice, Option.map_some, Option.map_none]; exact rfl) rfl ?_) | (show SL _ _ _ (⟨_, .build _ _, _, _, _, _⟩ :: _) _ _ _ _; first | refine s_build (by first | exact st_42 | exact st_50 | exact st_52 | exact st_54 | exact st_73 | exact st_126 | exact st_136 | exact st_139) rfl (by (repeat (first | apply evP_agg rfl | apply evP_one rfl rfl rfl)); exact evP_nil) (by simp only [fillL, splice, List.getElem?_cons_zero, List.getElem?_cons_succ, List.length_cons, List.length_nil, Nat.reduceAdd, Nat.beq_refl, Option.map_some]; exact rfl) rfl rfl ?_) | (show SL _ _ _ (⟨_, .buildSlice _ _ _, _, _, _, _⟩ :: _) _ _ _ _; first | refine s_lit tabs_ok rfl (by (repeat (first | apply evP_agg rfl | apply evP_one rfl rfl rfl)); exact evP_nil) rfl rfl rfl rfl rfl rfl (by simp only [Nat.reduceAdd]; exact rfl) rfl rfl ?_) | (show SL _ _ _ (⟨_, .binOp .rem _ _ _ _, _, _, _, _⟩ :: _) _ _ _ _; first | refine s_bin rfl rfl (bin_rem0 (by omega) (by omega)) rfl rfl ?_) | (show SL _ _ _ (⟨_, .binOp .and _ _ _ _, _, _, _, _⟩ :: _) _ _ _ _; first | refine s_bin rfl rfl bin_and rfl rfl ?_) | (show SL _ _ _ (⟨_, .slice _ _ _ _ _, _, _, _, _⟩ :: _) _ _ _ _; first | refine s_sliceT (by first | exact str_9) rfl rfl rfl (by omega) (by omega) rfl rfl ?_ | refine s_slice tabs_ok rfl rfl rfl rfl rfl rfl (by omega) (by omega) rfl rfl ?_) | refine do_open rfl (by simp only [Nat.reduceAdd]; exact rfl) ?_ | refine d_pass rfl rfl ?_ | (show DL _ _ _ (⟨_, .call _, _, _, _, _⟩ :: _) _ _ _ _ _; first | refine d_call0 (hm1) (by (repeat (apply evA_cons rfl)); exact evA_nil) rfl rfl rfl ?_ | refine d_call0 (hm2) (by (repeat (apply evA_cons rfl)); exact evA_nil) rfl rfl rfl ?_ | refine d_callN (copyStreams_fn l hn) [_] rfl rfl rfl (by (repeat (apply evA_cons rfl)); exact evA_nil) rfl (by (repeat (first | refine And.intro ⟨_, rfl⟩ ?_ | refine And.intro rfl ?_)); exact trivial) rfl rfl (by simp only [Nat.reduceAdd]; exact rfl) rfl rfl ?_ | refine d_call0 (hF) (by (repeat (apply evA_cons rfl)); exact evA_nil) rfl rfl rfl ?_ | refine d_call0 (flowof_impl) (by (repeat (apply evA_cons rfl)); exact evA_nil) rfl rfl rfl ?_ | refine d_call0 (w16_impl_fn) (by (repeat (apply evA_cons rfl)); exact evA_nil) rfl rfl rfl ?_ | refine d_callR (hI) [_] (by (repeat (apply evA_cons rfl)); exact evA_nil) rfl (by (repeat (first | refine And.intro ⟨_, rfl⟩ ?_ | refine And.intro rfl ?_)); exact trivial) rfl rfl rfl rfl rfl ?_ | refine d_lenS tabs_ok rfl rfl rfl rfl ?_ | refine d_lenT (by first | exact str_9) rfl rfl rfl ?_ | refine d_appX tabs_ok rfl rfl rfl rfl rfl rfl rfl rfl (by first | rfl | (simp; done) | (simp; omega) | omega) (by first | rfl | (simp; done) | (simp; omega) | omega) (by omega) (by omega) (by first | exact part_map | exact part_all | rfl) (by first | exact List.nil_append _ | rfl) (by first | exact Nat.zero_add _ | rfl) (by simp only [Nat.reduceAdd]; exact rfl) rfl rfl ?_) | (show DL _ _ _ (⟨_, .binOp .sub _ _ _ _, _, _, _, _⟩ :: _) _ _ _ _ _; first | refine d_bin (op := .sub) rfl rfl (bin_sub (a := l[j].nx) (b := x11)) rfl rfl ?_ | refine d_bin (op := .sub) rfl rfl (bin_sub (a := IntKind.i64.wrap (l[j].nx + x15.size)) (b := (o : Int))) rfl rfl ?_ | refine d_bin rfl rfl (bin_sub64 (by omega) (by omega)) rfl rfl ?_) | (show DL _ _ _ (⟨_, .binOp .add _ _ _ _, _, _, _, _⟩ :: _) _ _ _ _ _; first | refine d_bin (op := .add) rfl rfl (bin_add (a := l[j].nx) (b := (x15.size : Int))) rfl rfl ?_ | refine d_bin (op := .add) rfl rfl (bin_cat (by first | omega | (simp only [ByteArray.size_append]; omega))) rfl rfl ?_ | refine d_bin rfl rfl (bin_add64 (by omega) (by omega)) rfl rfl ?_) | (show DL _ _ _ (⟨_, .move _, _, _, _, _⟩ :: _) _ _ _ _ _; first | refine d_move rfl rfl rfl ?_) | (show DL _ _ _ (⟨_, .assign _, _, _, _, _⟩ :: _) _ _ _ _ _; first | refine d_assign rfl rfl rfl ?_) | (show DL _ _ _ (⟨_, .fieldAddr _ _ _, _, _, _, _⟩ :: _) _ _ _ _ _; first | refine d_fld tabs_ok rfl rfl rfl rfl ?_) | (show DL _ _ _ (⟨_, .load _ _, _, _, _, _⟩ :: _) _ _ _ _ _; first | refine d_load tabs_ok rfl rfl rfl rfl rfl rfl rfl ?_ | refine d_aload tabs_ok rfl rfl rfl rfl (by assumption) rfl rfl rfl ?_ | refine d_loadW tabs_ok rfl rfl rfl rfl rfl rfl rfl ?_ | refine d_aloadW tabs_ok rfl rfl rfl rfl (by assumption) rfl rfl rfl ?_ | refine d_loadS tabs_ok rfl rfl rfl rfl (by simp only [seg, Option.map_some, Option.map_none]; exact rfl) rfl rfl ?_ | refine d_aloadS tabs_ok rfl rfl rfl rfl (by assumption) (by simp only [seg, Option.map_some, Option.map_none]; exact rfl) rfl rfl ?_ | refine d_aload2 tabs_ok rfl rfl rfl rfl (by assumption) rfl rfl rfl ?_) | (show DL _ _ _ (⟨_, .pick _ _ _, _, _, _, _⟩ :: _) _ _ _ _ _; first | refine d_pickt rfl rfl rfl rfl ?_ | refine d_pickf rfl rfl rfl rfl ?_) | (show DL _ _ _ (⟨_, .unOp .not _ _, _, _, _, _⟩ :: _) _ _ _ _ _; first | refine d_not rfl rfl rfl ?_) | (show DL _ _ _ (⟨_, .binOp .lss _ _ _ _, _, _, _, _⟩ :: _) _ _ _ _ _; first | refine d_bin rfl rfl bin_lss rfl rfl ?_) | (show DL _ _ _ (⟨_, .binOp .leq _ _ _ _, _, _, _, _⟩ :: _) _ _ _ _ _; first | refine d_bin rfl rfl bin_leq rfl rfl ?_) | (show DL _ _ _ (⟨_, .binOp .eql _ _ _ _, _, _, _, _⟩ :: _) _ _ _ _ _; first | refine d_bin rfl rfl bin_eql rfl rfl ?_ | refine d_bin rfl rfl bin_seql rfl rfl ?_ | refine d_bin rfl rfl (bin_beql Try.underlying4) rfl rfl ?_) | (show DL _ _ _ (⟨_, .binOp .neq _ _ _ _, _, _, _, _⟩ :: _) _ _ _ _ _; first | refine d_bin rfl rfl bin_neq rfl rfl ?_ | refine d_bin rfl rfl bin_sneq rfl rfl ?_ | refine d_bin rfl rfl (bin_bneq Try.underlying4) rfl rfl ?_) | (show DL _ _ _ (⟨_, .indexAddr _ _ _, _, _, _, _⟩ :: _) _ _ _ _ _; first | refine d_at0 tabs_ok rfl rfl rfl rfl rfl (by omega) rfl rfl ?_) | (show DL _ _ _ (⟨_, .box _ _, _, _, _, _⟩ :: _) _ _ _ _ _; first | refine d_boxS rfl (by simp only [Nat.reduceAdd]; exact rfl) rfl rfl ?_ | refine d_box1 rfl rfl (by simp only [Nat.reduceAdd]; exact rfl) rfl rfl ?_) | (show DL _ _ _ (⟨_, .alloc _, _, _, _, _⟩ :: _) _ _ _ _ _; first | refine d_alloc tabs_ok rfl rfl (by simp only [Nat.reduceAdd]; exact rfl) rfl rfl ?_) | (show DL _ _ _ (⟨_, .nilCheck _, _, _, _, _⟩ :: _) _ _ _ _ _; first | refine d_nilc rfl rfl rfl ?_) | (show DL _ _ _ (⟨_, .store _ _ _, _, _, _, _⟩ :: _) _ _ _ _ _; first | refine d_storeW tabs_ok rfl rfl rfl rfl rfl rfl rfl rfl rfl ?_ | refine d_store tabs_ok rfl rfl rfl rfl rfl rfl rfl (by simp only [splice, Option.map_some, Option.map_none]; exact rfl) rfl ?_ | refine d_storeS tabs_ok rfl rfl rfl rfl rfl rfl rfl (by simp only [splice, Option.map_some, Option.map_none]; exact rfl) rfl ?_ | refine d_astore tabs_ok rfl rfl rfl rfl rfl rfl rfl rfl (by assumption) (by simp only [splice, Option.map_some, Option.map_none]; exact rfl) rfl ?_ | refine d_astoreW tabs_ok rfl rfl rfl rfl rfl rfl rfl rfl rfl (by assumption) rfl rfl ?_ | refine d_astore2 tabs_ok rfl rfl rfl rfl rfl rfl rfl rfl (by assumption) (by simp only [splice, Option.map_some, Option.map_none]; exact rfl) rfl ?_) | (show DL _ _ _ (⟨_, .build _ _, _, _, _, _⟩ :: _) _ _ _ _ _; first | refine d_build (by first | exact st_42 | exact st_50 | exact st_52 | exact st_54 | exact st_73 | exact st_126 | exact st_136 | exact st_139) rfl (by (repeat (first | apply evP_agg rfl | apply evP_one rfl rfl rfl)); exact evP_nil) (by simp only [fillL, splice, List.getElem?_cons_zero, List.getElem?_cons_succ, List.length_cons, List.length_nil, Nat.reduceAdd, Nat.beq_refl, Option.map_some]; exact rfl) rfl rfl ?_) | (show DL _ _ _ (⟨_, .buildSlice _ _ _, _, _, _, _⟩ :: _) _ _ _ _ _; first | refine d_lit tabs_ok rfl (by (repeat (first | apply evP_agg rfl | apply evP_one rfl rfl rfl)); exact evP_nil) rfl rfl rfl rfl rfl rfl (by simp only [Nat.reduceAdd]; exact rfl) rfl rfl ?_) | (show DL _ _ _ (⟨_, .binOp .rem _ _ _ _, _, _, _, _⟩ :: _) _ _ _ _ _; first | refine d_bin rfl rfl (bin_rem0 (by omega) (by omega)) rfl rfl ?_) | (show DL _ _ _ (⟨_, .binOp .and _ _ _ _, _, _, _, _⟩ :: _) _ _ _ _ _; first | refine d_bin rfl rfl bin_and rfl rfl ?_) | (show DL _ _ _ (⟨_, .slice _ _ _ _ _, _, _, _, _⟩ :: _) _ _ _ _ _; first | refine d_sliceT (by first | exact str_9) rfl rfl rfl (by omega) (by omega) rfl rfl ?_ | refine d_slice tabs_ok rfl rfl rfl rfl rfl rfl (by omega) (by omega) rfl rfl ?_) | refine so_nil rfl (hK _ _ _ ?_) | refine aw_seqSR Try.f55 rfl (fun K hK => ?_) | refine aw_endSR Try.f55 rfl (fun K hK => ?_) | refine do_nil rfl (hK _ _ _ _ (by kernel_rfl) ?_) | refine aw_seqDR Try.f55 rfl mixed_ok (fun K hK => ?_) | refine aw_endDR Try.f55 rfl mixed_ok (fun K hK => ?_) | refine AW.seq ?_ | refine AW.skip ?_ | refine AW.ret ?_ | refine AW.exit ?_ | refine AW.block ?_ | refine then_n ?_ | refine then_r ?_ | refine then_e ?_ | refine in_n ?_ | refine in_r ?_ | refine in_e rfl ?_ | refine in_o rfl ?_ | refine AW.cond_true rfl ?_ | refine AW.cond_false rfl ?_ | (refine AW.cond_dec rfl (fun hc => ?_) (fun hc => ?_) <;> (first | (exfalso; omega; done) | exact absurd rfl hc | skip)) | (refine AW.cond_ndec rfl (fun hc => ?_) (fun hc => ?_) <;> (first | (exfalso; omega; done) | exact absurd rfl hc | skip)) | (refine AW.cond rfl (fun hc => ?_) (fun hc => ?_)) | ((fail_if_success (refine s_ask (b := true) rfl rfl (fun _ => ?_) (fun _ => ?_))); (fail_if_success (refine s_ask (b := false) rfl rfl (fun _ => ?_) (fun _ => ?_))); (refine s_ask rfl rfl (fun hc => ?_) (fun hc => ?_) <;> (rw [hc]; try simp only [decide_eq_true_eq, decide_eq_false_iff_not, Bool.not_eq_true', Bool.not_eq_false', Bool.not_eq_true, Bool.not_eq_false] at hc) <;> (first | (exfalso; omega; done) | exact absurd rfl hc | skip))) | ((fail_if_success (refine d_ask (b := true) rfl rfl (fun _ => ?_) (fun _ => ?_))); (fail_if_success (refine d_ask (b := false) rfl rfl (fun _ => ?_) (fun _ => ?_))); (refine d_ask rfl rfl (fun hc => ?_) (fun hc => ?_) <;> (rw [hc]; try simp only [decide_eq_true_eq, decide_eq_false_iff_not, Bool.not_eq_true', Bool.not_eq_false', Bool.not_eq_true, Bool.not_eq_false] at hc) <;> (first | (exfalso; omega; done) | exact absurd rfl hc | skip))))
    all_goals (first | (first | apply fin_ret [0, 2] ?h1 ?h3 rfl rfl rfl rfl ?h2 | (refine fin_norm ?_; apply fin_ret [0, 2] ?h1 ?h3 rfl rfl rfl rfl ?h2)); (case h1 => repeat (first | exact res_nil | apply res_tmp rfl rfl | apply res_cell rfl rfl rfl rfl rfl | apply res_cell1 rfl rfl rfl rfl rfl)); (case h3 => repeat (first | exact trivial | refine And.intro (Or.inr rfl) ?_ | refine And.intro (Or.inl rfl) ?_)); (case h2 => first | rfl | (simp only [ren, resV]; done)) | (first | apply fin_ret [0, 6] ?h1 ?h3 rfl rfl rfl rfl ?h2 | (refine fin_norm ?_; apply fin_ret [0, 6] ?h1 ?h3 rfl rfl rfl rfl ?h2)); (case h1 => repeat (first | exact res_nil | apply res_tmp rfl rfl | apply res_cell rfl rfl rfl rfl rfl | apply res_cell1 rfl rfl rfl rfl rfl)); (case h3 => repeat (first | exact trivial | refine And.intro (Or.inr rfl) ?_ | refine And.intro (Or.inl rfl) ?_)); (case h2 => first | rfl | (simp only [ren, resV]; done)))

end Go.Proofs.Ytgkedbhpeafbbaa

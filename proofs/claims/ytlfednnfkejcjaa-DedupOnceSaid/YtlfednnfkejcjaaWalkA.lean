/-
  The hash index, the table and the law DedupOnce, walked by the rules.
-/
import Derived.Test.YtlfednnfkejcjaaRules
set_option linter.unusedVariables false
set_option linter.unusedSimpArgs false

namespace Go.Proofs.Ytlfednnfkejcjaa
open Go.Am
noncomputable abbrev prW : Prims := pureP 11 [] (.bool true)
noncomputable abbrev C (n : Nat) : CallFn := callN P (keepF P) prW 100000 n
theorem works_ok {n : Nat} (hn : 1 ≤ n) (h : Heap) : C n (.fn 11) [] h = some (.bool true, h) := by
  obtain ⟨m, rfl⟩ : ∃ m, n = m + 1 := ⟨n - 1, by omega⟩
  rfl
def bterm (s : List Nat) (i : Nat) : Nat := (s[i]?.getD 0) * (i % 7 * 2 + 1)
def bsum (s : List Nat) : Nat → Nat
  | 0 => s.length
  | i + 1 => bsum s i + bterm s i
def Byts (s : List Nat) : Prop := ∀ (i c : Nat), s[i]? = some c → c < 256
theorem bterm_le {s : List Nat} (hb : Byts s) (i : Nat) : bterm s i ≤ 3315 := by
  unfold bterm
  have h3 : i % 7 * 2 + 1 ≤ 13 := by omega
  have h4 : s[i]?.getD 0 ≤ 255 := by
    cases hc : s[i]? with
    | none => simp
    | some c => have := hb i c hc; simp; omega
  exact Nat.mul_le_mul h4 h3
theorem bsum_le {s : List Nat} (hb : Byts s) : ∀ i, bsum s i ≤ s.length + i * 3315
  | 0 => by simp [bsum]
  | i + 1 => by
    have ih := bsum_le hb i
    have h2 := bterm_le hb i
    show bsum s i + bterm s i ≤ _
    omega
theorem bucket_ok {n : Nat} (hn : 1 ≤ n) (s : List Nat) (h : Heap) (hl : s.length ≤ 1000) (hb : Byts s) : WC (C n (.fn 79) [.str s] h) fun v h' => v = .int .u8 ((bsum s s.length % 16 : Nat) : Int) ∧ h' = h := by
  obtain ⟨m, rfl⟩ : ∃ m, n = m + 1 := ⟨n - 1, by omega⟩
  refine call_fn _ f79A rfl (by simp [fn79]) fun QQ hQ => ?_
  simp only [fn79] at hQ
  simp only [fn79, fill_cons, fill_nil, Nat.zero_add, Nat.reduceAdd]
  simp only [r79_1, r79_3, r79_6, r79_10, r79_13, r79_14, r79_12, r79_18, r79_19, r79_17, r79_16, r79_20, r79_15, r79_11, r79_9, r79_7, r79_5, r79_22, r79_23, r79_21, r79_4, r79_2, r79_0, x_len_9, ret_seq, ret_seq_ret, ret_seq_exit, ret_blk, ret_blk_ret, ret_blk_exit, ret_nil, gt_same, gt_other, Nat.reduceBEq, gt_leaf, l1_one, l2_two, l3_three, g_loc0, g_locS, g_tmp, g_cst, b_lss, b_leq, b_gtr, b_geq, b_add, b_sub, b_mul, b_eql, b_neq, b_eqlS, b_neqS, u_not, w_true, w_false, eBool_bool, resA_nil, resA_tmp, resA_cell, okP_true, okP_false, tupled_nil, tupled_one, tupled_more, t_nth, m_load, m_loadN, m_store, n_ptr, reduceIte, List.getElem?_cons_zero, List.getElem?_cons_succ, Option.map_some, Bool.not_true, Bool.not_false, decide_true, decide_false, mx_int, mn_int, Nat.add_zero, Nat.zero_add, Nat.reduceEqDiff, Nat.reduceAdd, app'_eq, List.append_nil, List.nil_append, o_bool, o_int, o_str, o_ptr, o_slice, o_map, List.all_cons, List.all_nil, Bool.and_self, box_agg, st_agg, ptrTo, sliceTo, mapTo, List.length_cons, List.length_nil, Nat.mul_one, Nat.zero_mul, Nat.sub_zero, Nat.reduceMul, eq_self]
  refine run_loop (c := c79_9) (I := fun m tm' h' => ∃ i, i ≤ s.length ∧ m = s.length - i ∧ h' = h ∧ tm'.gt 0 = some (.str s) ∧ tm'.gt 9 = some (.int .i64 (i : Int)) ∧ tm'.gt 8 = some (.int .i64 (s.length : Int)) ∧ tm'.gt 3 = some (.int .i64 (bsum s i : Int)) ∧ tm'.gt 27 = none) (n := s.length)
    ⟨0, by simp [gt_same, gt_other, gt_leaf, bsum]⟩ (by omega) ?_
  rintro _ tm h ⟨i, hi, rfl, rfl, t0, t9, t8, t3, t27⟩ Q1 hN hE
  by_cases hlt : i < s.length
  · have hbs := bsum_le hb i
    have hbt := bterm_le hb i
    have hc := List.getElem?_eq_getElem hlt
    have hcb := hb i _ hc
    simp only [r79_1, r79_3, r79_6, r79_10, r79_13, r79_14, r79_12, r79_18, r79_19, r79_17, r79_16, r79_20, r79_15, r79_11, r79_9, r79_7, r79_5, r79_22, r79_23, r79_21, r79_4, r79_2, r79_0, x_ix_9, x_cv_5_3, t0, t9, t8, t3, ret_seq, ret_seq_ret, ret_seq_exit, ret_blk, ret_blk_ret, ret_blk_exit, ret_nil, gt_same, gt_other, Nat.reduceBEq, gt_leaf, l1_one, l2_two, l3_three, g_loc0, g_locS, g_tmp, g_cst, b_lss, b_leq, b_gtr, b_geq, b_add, b_sub, b_mul, b_eql, b_neq, b_eqlS, b_neqS, u_not, w_true, w_false, eBool_bool, resA_nil, resA_tmp, resA_cell, okP_true, okP_false, tupled_nil, tupled_one, tupled_more, t_nth, m_load, m_loadN, m_store, n_ptr, reduceIte, List.getElem?_cons_zero, List.getElem?_cons_succ, Option.map_some, Bool.not_true, Bool.not_false, decide_true, decide_false, mx_int, mn_int, Nat.add_zero, Nat.zero_add, Nat.reduceEqDiff, Nat.reduceAdd, app'_eq, List.append_nil, List.nil_append, o_bool, o_int, o_str, o_ptr, o_slice, o_map, List.all_cons, List.all_nil, Bool.and_self, box_agg, st_agg, ptrTo, sliceTo, mapTo, List.length_cons, List.length_nil, Nat.mul_one, Nat.zero_mul, Nat.sub_zero, Nat.reduceMul, eq_self, Int.ofNat_lt, hlt, hc, b_rem (show (7 : Int) ≠ 0 by decide)]
    refine hN _ _ (s.length - (i + 1)) (by omega) ⟨i + 1, hlt, rfl, rfl, ?_⟩
    have e1 : IntKind.i64.wrap (s[i] : Int) = (s[i] : Int) := wrap_i64 (by omega) (by omega)
    have e2 : ((i : Int)).tmod 7 = ((i % 7 : Nat) : Int) := rfl
    have e3 : IntKind.i64.wrap (((i % 7 : Nat) : Int) * 2) = (((i % 7) * 2 : Nat) : Int) := by rw [wrap_i64 (by omega) (by omega)]; simp
    have e4 : IntKind.i64.wrap ((((i % 7) * 2 : Nat) : Int) + 1) = (((i % 7) * 2 + 1 : Nat) : Int) := by rw [wrap_i64 (by omega) (by omega)]; simp
    have hbe : bterm s i = s[i] * (i % 7 * 2 + 1) := by simp [bterm, hc]
    have e5 : IntKind.i64.wrap ((s[i] : Int) * (((i % 7) * 2 + 1 : Nat) : Int)) = (bterm s i : Int) := by
      rw [← Int.natCast_mul, ← hbe, wrap_i64 (by omega) (by omega)]
    have e6 : IntKind.i64.wrap ((bsum s i : Int) + (bterm s i : Int)) = (bsum s (i + 1) : Int) := by
      rw [wrap_i64 (by omega) (by omega)]; simp [bsum]
    have e7 : IntKind.i64.wrap ((i : Int) + 1) = ((i + 1 : Nat) : Int) := by rw [wrap_i64 (by omega) (by omega)]; simp
    simp only [ret_seq, ret_seq_ret, ret_seq_exit, ret_blk, ret_blk_ret, ret_blk_exit, ret_nil, gt_same, gt_other, Nat.reduceBEq, gt_leaf, l1_one, l2_two, l3_three, g_loc0, g_locS, g_tmp, g_cst, b_lss, b_leq, b_gtr, b_geq, b_add, b_sub, b_mul, b_eql, b_neq, b_eqlS, b_neqS, u_not, w_true, w_false, eBool_bool, resA_nil, resA_tmp, resA_cell, okP_true, okP_false, tupled_nil, tupled_one, tupled_more, t_nth, m_load, m_loadN, m_store, n_ptr, reduceIte, List.getElem?_cons_zero, List.getElem?_cons_succ, Option.map_some, Bool.not_true, Bool.not_false, decide_true, decide_false, mx_int, mn_int, Nat.add_zero, Nat.zero_add, Nat.reduceEqDiff, Nat.reduceAdd, app'_eq, List.append_nil, List.nil_append, o_bool, o_int, o_str, o_ptr, o_slice, o_map, List.all_cons, List.all_nil, Bool.and_self, box_agg, st_agg, ptrTo, sliceTo, mapTo, List.length_cons, List.length_nil, Nat.mul_one, Nat.zero_mul, Nat.sub_zero, Nat.reduceMul, eq_self, t0, t9, t8, t3, t27, e1, e2, e3, e4, e5, e6, e7, and_self]
  · have hbs := bsum_le hb i
    obtain rfl : i = s.length := by omega
    simp only [r79_1, r79_3, r79_6, r79_10, r79_13, r79_14, r79_12, r79_18, r79_19, r79_17, r79_16, r79_20, r79_15, r79_11, r79_9, r79_7, r79_5, r79_22, r79_23, r79_21, r79_4, r79_2, r79_0, t0, t9, t8, t3, ret_seq, ret_seq_ret, ret_seq_exit, ret_blk, ret_blk_ret, ret_blk_exit, ret_nil, gt_same, gt_other, Nat.reduceBEq, gt_leaf, l1_one, l2_two, l3_three, g_loc0, g_locS, g_tmp, g_cst, b_lss, b_leq, b_gtr, b_geq, b_add, b_sub, b_mul, b_eql, b_neq, b_eqlS, b_neqS, u_not, w_true, w_false, eBool_bool, resA_nil, resA_tmp, resA_cell, okP_true, okP_false, tupled_nil, tupled_one, tupled_more, t_nth, m_load, m_loadN, m_store, n_ptr, reduceIte, List.getElem?_cons_zero, List.getElem?_cons_succ, Option.map_some, Bool.not_true, Bool.not_false, decide_true, decide_false, mx_int, mn_int, Nat.add_zero, Nat.zero_add, Nat.reduceEqDiff, Nat.reduceAdd, app'_eq, List.append_nil, List.nil_append, o_bool, o_int, o_str, o_ptr, o_slice, o_map, List.all_cons, List.all_nil, Bool.and_self, box_agg, st_agg, ptrTo, sliceTo, mapTo, List.length_cons, List.length_nil, Nat.mul_one, Nat.zero_mul, Nat.sub_zero, Nat.reduceMul, eq_self, Int.ofNat_lt, hlt]
    refine hE _ _ _ (by simp) ?_
    simp only [r79_1, r79_3, r79_6, r79_10, r79_13, r79_14, r79_12, r79_18, r79_19, r79_17, r79_16, r79_20, r79_15, r79_11, r79_9, r79_7, r79_5, r79_22, r79_23, r79_21, r79_4, r79_2, r79_0, t0, t9, t8, t3, ret_seq, ret_seq_ret, ret_seq_exit, ret_blk, ret_blk_ret, ret_blk_exit, ret_nil, gt_same, gt_other, Nat.reduceBEq, gt_leaf, l1_one, l2_two, l3_three, g_loc0, g_locS, g_tmp, g_cst, b_lss, b_leq, b_gtr, b_geq, b_add, b_sub, b_mul, b_eql, b_neq, b_eqlS, b_neqS, u_not, w_true, w_false, eBool_bool, resA_nil, resA_tmp, resA_cell, okP_true, okP_false, tupled_nil, tupled_one, tupled_more, t_nth, m_load, m_loadN, m_store, n_ptr, reduceIte, List.getElem?_cons_zero, List.getElem?_cons_succ, Option.map_some, Bool.not_true, Bool.not_false, decide_true, decide_false, mx_int, mn_int, Nat.add_zero, Nat.zero_add, Nat.reduceEqDiff, Nat.reduceAdd, app'_eq, List.append_nil, List.nil_append, o_bool, o_int, o_str, o_ptr, o_slice, o_map, List.all_cons, List.all_nil, Bool.and_self, box_agg, st_agg, ptrTo, sliceTo, mapTo, List.length_cons, List.length_nil, Nat.mul_one, Nat.zero_mul, Nat.sub_zero, Nat.reduceMul, eq_self, b_rem (show (16 : Int) ≠ 0 by decide), x_cv_3_5]
    refine hQ _ _ _ _ (.inr rfl) ?_ (by simp only [ret_seq, ret_seq_ret, ret_seq_exit, ret_blk, ret_blk_ret, ret_blk_exit, ret_nil, gt_same, gt_other, Nat.reduceBEq, gt_leaf, l1_one, l2_two, l3_three, g_loc0, g_locS, g_tmp, g_cst, b_lss, b_leq, b_gtr, b_geq, b_add, b_sub, b_mul, b_eql, b_neq, b_eqlS, b_neqS, u_not, w_true, w_false, eBool_bool, resA_nil, resA_tmp, resA_cell, okP_true, okP_false, tupled_nil, tupled_one, tupled_more, t_nth, m_load, m_loadN, m_store, n_ptr, reduceIte, List.getElem?_cons_zero, List.getElem?_cons_succ, Option.map_some, Bool.not_true, Bool.not_false, decide_true, decide_false, mx_int, mn_int, Nat.add_zero, Nat.zero_add, Nat.reduceEqDiff, Nat.reduceAdd, app'_eq, List.append_nil, List.nil_append, o_bool, o_int, o_str, o_ptr, o_slice, o_map, List.all_cons, List.all_nil, Bool.and_self, box_agg, st_agg, ptrTo, sliceTo, mapTo, List.length_cons, List.length_nil, Nat.mul_one, Nat.zero_mul, Nat.sub_zero, Nat.reduceMul, eq_self, fn79]; rfl) ?_
    · simp only [ret_seq, ret_seq_ret, ret_seq_exit, ret_blk, ret_blk_ret, ret_blk_exit, ret_nil, gt_same, gt_other, Nat.reduceBEq, gt_leaf, l1_one, l2_two, l3_three, g_loc0, g_locS, g_tmp, g_cst, b_lss, b_leq, b_gtr, b_geq, b_add, b_sub, b_mul, b_eql, b_neq, b_eqlS, b_neqS, u_not, w_true, w_false, eBool_bool, resA_nil, resA_tmp, resA_cell, okP_true, okP_false, tupled_nil, tupled_one, tupled_more, t_nth, m_load, m_loadN, m_store, n_ptr, reduceIte, List.getElem?_cons_zero, List.getElem?_cons_succ, Option.map_some, Bool.not_true, Bool.not_false, decide_true, decide_false, mx_int, mn_int, Nat.add_zero, Nat.zero_add, Nat.reduceEqDiff, Nat.reduceAdd, app'_eq, List.append_nil, List.nil_append, o_bool, o_int, o_str, o_ptr, o_slice, o_map, List.all_cons, List.all_nil, Bool.and_self, box_agg, st_agg, ptrTo, sliceTo, mapTo, List.length_cons, List.length_nil, Nat.mul_one, Nat.zero_mul, Nat.sub_zero, Nat.reduceMul, eq_self, fn79, t27]
    · simp only [ret_seq, ret_seq_ret, ret_seq_exit, ret_blk, ret_blk_ret, ret_blk_exit, ret_nil, gt_same, gt_other, Nat.reduceBEq, gt_leaf, l1_one, l2_two, l3_three, g_loc0, g_locS, g_tmp, g_cst, b_lss, b_leq, b_gtr, b_geq, b_add, b_sub, b_mul, b_eql, b_neq, b_eqlS, b_neqS, u_not, w_true, w_false, eBool_bool, resA_nil, resA_tmp, resA_cell, okP_true, okP_false, tupled_nil, tupled_one, tupled_more, t_nth, m_load, m_loadN, m_store, n_ptr, reduceIte, List.getElem?_cons_zero, List.getElem?_cons_succ, Option.map_some, Bool.not_true, Bool.not_false, decide_true, decide_false, mx_int, mn_int, Nat.add_zero, Nat.zero_add, Nat.reduceEqDiff, Nat.reduceAdd, app'_eq, List.append_nil, List.nil_append, o_bool, o_int, o_str, o_ptr, o_slice, o_map, List.all_cons, List.all_nil, Bool.and_self, box_agg, st_agg, ptrTo, sliceTo, mapTo, List.length_cons, List.length_nil, Nat.mul_one, Nat.zero_mul, Nat.sub_zero, Nat.reduceMul, eq_self]
      have e2 : ((bsum s s.length : Nat) : Int).tmod 16 = ((bsum s s.length % 16 : Nat) : Int) := rfl
      rw [e2, wrap_u8 (by omega) (by omega)]; exact ⟨rfl, trivial⟩
end Go.Proofs.Ytlfednnfkejcjaa

namespace Go.Proofs.Ytlfednnfkejcjaa
open Go.Am
set_option maxRecDepth 10000
abbrev u (n : Int) : AV := .int .u32 n
/-- where x stands first -/
def First (ids : List Int) (x : Int) (r : AV) : Prop :=
  (∃ i : Nat, ids[i]? = some x ∧ (∀ j, j < i → ids[j]? ≠ some x) ∧ r = .int .i64 (i : Int)) ∨ ((∀ j : Nat, ids[j]? ≠ some x) ∧ r = .int .i64 (-1))
theorem index_ok {n : Nat} (hn : 1 ≤ n) {h : Heap} {v : AV} {l : Nat} {ids : List Int} (x : Int) (hv : Els h v l 1 (ids.map u)) (hl : l < 90000) : WC (C n (.fn 80) [v, u x] h) fun r h' => h' = h ∧ First ids x r := by
  obtain ⟨hlen, a, c, g, rfl, _⟩ := id hv
  rw [List.length_map, Nat.mul_one] at hlen
  obtain ⟨m, rfl⟩ : ∃ m, n = m + 1 := ⟨n - 1, by omega⟩
  refine call_fn _ f80A rfl (by simp [fn80]) fun QQ hQ => ?_
  simp only [fn80] at hQ
  simp only [fn80, fill_cons, fill_nil, Nat.zero_add, Nat.reduceAdd]
  simp only [r80_1, r80_4, r80_8, r80_11, r80_12, r80_10, r80_16, r80_18, r80_21, r80_22, r80_20, r80_23, r80_19, r80_17, r80_15, r80_14, r80_24, r80_13, r80_9, r80_7, r80_5, r80_3, r80_26, r80_27, r80_25, r80_2, r80_0, x_len_43, ret_seq, ret_seq_ret, ret_seq_exit, ret_blk, ret_blk_ret, ret_blk_exit, ret_nil, gt_same, gt_other, Nat.reduceBEq, gt_leaf, l1_one, l2_two, l3_three, g_loc0, g_locS, g_tmp, g_cst, b_lss, b_leq, b_gtr, b_geq, b_add, b_sub, b_mul, b_eql, b_neq, b_eqlS, b_neqS, u_not, w_true, w_false, eBool_bool, resA_nil, resA_tmp, resA_cell, okP_true, okP_false, tupled_nil, tupled_one, tupled_more, t_nth, m_load, m_loadN, m_store, n_ptr, reduceIte, List.getElem?_cons_zero, List.getElem?_cons_succ, Option.map_some, Bool.not_true, Bool.not_false, decide_true, decide_false, mx_int, mn_int, Nat.add_zero, Nat.zero_add, Nat.reduceEqDiff, Nat.reduceAdd, app'_eq, List.append_nil, List.nil_append, o_bool, o_int, o_str, o_ptr, o_slice, o_map, List.all_cons, List.all_nil, Bool.and_self, box_agg, st_agg, ptrTo, sliceTo, mapTo, List.length_cons, List.length_nil, Nat.mul_one, Nat.zero_mul, Nat.sub_zero, Nat.reduceMul, eq_self]
  refine run_loop (c := c80_7) (I := fun k tm' h' => ∃ i, i ≤ l ∧ k = l - i ∧ h' = h ∧ (∀ j, j < i → ids[j]? ≠ some x) ∧ tm'.gt 0 = some (.slice a l c g) ∧ tm'.gt 1 = some (u x) ∧ tm'.gt 7 = some (.int .i64 (l : Int)) ∧ tm'.gt 8 = some (.int .i64 (i : Int)) ∧ tm'.gt 19 = none) (n := l)
    ⟨0, by simp [gt_same, gt_other, gt_leaf]⟩ (by omega) ?_
  rintro _ tm h0 ⟨i, hi, rfl, rfl, hno, t0, t1, t7, t8, t19⟩ Q1 hN hE
  by_cases hlt : i < l
  · obtain ⟨b, o, rfl, hcell⟩ := hv.cell (by omega)
    have hc := hcell i (by omega)
    have hx : ids[i]? = some ids[i] := List.getElem?_eq_getElem (by omega)
    rw [List.getElem?_map, hx, Option.map_some] at hc
    by_cases he : x = ids[i]
    · simp only [r80_1, r80_4, r80_8, r80_11, r80_12, r80_10, r80_16, r80_18, r80_21, r80_22, r80_20, r80_23, r80_19, r80_17, r80_15, r80_14, r80_24, r80_13, r80_9, r80_7, r80_5, r80_3, r80_26, r80_27, r80_25, r80_2, r80_0, x_ia_43 hlt, Nat.mul_one, t0, t1, t7, t8, t19, ret_seq, ret_seq_ret, ret_seq_exit, ret_blk, ret_blk_ret, ret_blk_exit, ret_nil, gt_same, gt_other, Nat.reduceBEq, gt_leaf, l1_one, l2_two, l3_three, g_loc0, g_locS, g_tmp, g_cst, b_lss, b_leq, b_gtr, b_geq, b_add, b_sub, b_mul, b_eql, b_neq, b_eqlS, b_neqS, u_not, w_true, w_false, eBool_bool, resA_nil, resA_tmp, resA_cell, okP_true, okP_false, tupled_nil, tupled_one, tupled_more, t_nth, m_load, m_loadN, m_store, n_ptr, reduceIte, List.getElem?_cons_zero, List.getElem?_cons_succ, Option.map_some, Bool.not_true, Bool.not_false, decide_true, decide_false, mx_int, mn_int, Nat.add_zero, Nat.zero_add, Nat.reduceEqDiff, Nat.reduceAdd, app'_eq, List.append_nil, List.nil_append, o_bool, o_int, o_str, o_ptr, o_slice, o_map, List.all_cons, List.all_nil, Bool.and_self, box_agg, st_agg, ptrTo, sliceTo, mapTo, List.length_cons, List.length_nil, Nat.mul_one, Nat.zero_mul, Nat.sub_zero, Nat.reduceMul, eq_self, Int.ofNat_lt, hlt, hc, ← he]
      refine hE _ _ _ (by simp) ?_
      simp only [ret_seq, ret_seq_ret, ret_seq_exit, ret_blk, ret_blk_ret, ret_blk_exit, ret_nil, gt_same, gt_other, Nat.reduceBEq, gt_leaf, l1_one, l2_two, l3_three, g_loc0, g_locS, g_tmp, g_cst, b_lss, b_leq, b_gtr, b_geq, b_add, b_sub, b_mul, b_eql, b_neq, b_eqlS, b_neqS, u_not, w_true, w_false, eBool_bool, resA_nil, resA_tmp, resA_cell, okP_true, okP_false, tupled_nil, tupled_one, tupled_more, t_nth, m_load, m_loadN, m_store, n_ptr, reduceIte, List.getElem?_cons_zero, List.getElem?_cons_succ, Option.map_some, Bool.not_true, Bool.not_false, decide_true, decide_false, mx_int, mn_int, Nat.add_zero, Nat.zero_add, Nat.reduceEqDiff, Nat.reduceAdd, app'_eq, List.append_nil, List.nil_append, o_bool, o_int, o_str, o_ptr, o_slice, o_map, List.all_cons, List.all_nil, Bool.and_self, box_agg, st_agg, ptrTo, sliceTo, mapTo, List.length_cons, List.length_nil, Nat.mul_one, Nat.zero_mul, Nat.sub_zero, Nat.reduceMul, eq_self]
      refine hQ _ _ _ _ (.inr rfl) (by simp only [ret_seq, ret_seq_ret, ret_seq_exit, ret_blk, ret_blk_ret, ret_blk_exit, ret_nil, gt_same, gt_other, Nat.reduceBEq, gt_leaf, l1_one, l2_two, l3_three, g_loc0, g_locS, g_tmp, g_cst, b_lss, b_leq, b_gtr, b_geq, b_add, b_sub, b_mul, b_eql, b_neq, b_eqlS, b_neqS, u_not, w_true, w_false, eBool_bool, resA_nil, resA_tmp, resA_cell, okP_true, okP_false, tupled_nil, tupled_one, tupled_more, t_nth, m_load, m_loadN, m_store, n_ptr, reduceIte, List.getElem?_cons_zero, List.getElem?_cons_succ, Option.map_some, Bool.not_true, Bool.not_false, decide_true, decide_false, mx_int, mn_int, Nat.add_zero, Nat.zero_add, Nat.reduceEqDiff, Nat.reduceAdd, app'_eq, List.append_nil, List.nil_append, o_bool, o_int, o_str, o_ptr, o_slice, o_map, List.all_cons, List.all_nil, Bool.and_self, box_agg, st_agg, ptrTo, sliceTo, mapTo, List.length_cons, List.length_nil, Nat.mul_one, Nat.zero_mul, Nat.sub_zero, Nat.reduceMul, eq_self, t19]) (by simp only [ret_seq, ret_seq_ret, ret_seq_exit, ret_blk, ret_blk_ret, ret_blk_exit, ret_nil, gt_same, gt_other, Nat.reduceBEq, gt_leaf, l1_one, l2_two, l3_three, g_loc0, g_locS, g_tmp, g_cst, b_lss, b_leq, b_gtr, b_geq, b_add, b_sub, b_mul, b_eql, b_neq, b_eqlS, b_neqS, u_not, w_true, w_false, eBool_bool, resA_nil, resA_tmp, resA_cell, okP_true, okP_false, tupled_nil, tupled_one, tupled_more, t_nth, m_load, m_loadN, m_store, n_ptr, reduceIte, List.getElem?_cons_zero, List.getElem?_cons_succ, Option.map_some, Bool.not_true, Bool.not_false, decide_true, decide_false, mx_int, mn_int, Nat.add_zero, Nat.zero_add, Nat.reduceEqDiff, Nat.reduceAdd, app'_eq, List.append_nil, List.nil_append, o_bool, o_int, o_str, o_ptr, o_slice, o_map, List.all_cons, List.all_nil, Bool.and_self, box_agg, st_agg, ptrTo, sliceTo, mapTo, List.length_cons, List.length_nil, Nat.mul_one, Nat.zero_mul, Nat.sub_zero, Nat.reduceMul, eq_self]; rfl) ⟨rfl, .inl ⟨i, by rw [hx, he], hno, rfl⟩⟩
    · simp only [r80_1, r80_4, r80_8, r80_11, r80_12, r80_10, r80_16, r80_18, r80_21, r80_22, r80_20, r80_23, r80_19, r80_17, r80_15, r80_14, r80_24, r80_13, r80_9, r80_7, r80_5, r80_3, r80_26, r80_27, r80_25, r80_2, r80_0, x_ia_43 hlt, Nat.mul_one, t0, t1, t7, t8, t19, ret_seq, ret_seq_ret, ret_seq_exit, ret_blk, ret_blk_ret, ret_blk_exit, ret_nil, gt_same, gt_other, Nat.reduceBEq, gt_leaf, l1_one, l2_two, l3_three, g_loc0, g_locS, g_tmp, g_cst, b_lss, b_leq, b_gtr, b_geq, b_add, b_sub, b_mul, b_eql, b_neq, b_eqlS, b_neqS, u_not, w_true, w_false, eBool_bool, resA_nil, resA_tmp, resA_cell, okP_true, okP_false, tupled_nil, tupled_one, tupled_more, t_nth, m_load, m_loadN, m_store, n_ptr, reduceIte, List.getElem?_cons_zero, List.getElem?_cons_succ, Option.map_some, Bool.not_true, Bool.not_false, decide_true, decide_false, mx_int, mn_int, Nat.add_zero, Nat.zero_add, Nat.reduceEqDiff, Nat.reduceAdd, app'_eq, List.append_nil, List.nil_append, o_bool, o_int, o_str, o_ptr, o_slice, o_map, List.all_cons, List.all_nil, Bool.and_self, box_agg, st_agg, ptrTo, sliceTo, mapTo, List.length_cons, List.length_nil, Nat.mul_one, Nat.zero_mul, Nat.sub_zero, Nat.reduceMul, eq_self, Int.ofNat_lt, hlt, hc, he]
      refine hN _ _ (l - (i + 1)) (by omega) ⟨i + 1, hlt, rfl, rfl, fun j hj => ?_, ?_⟩
      · by_cases e : j = i
        · subst e; rw [hx]; exact fun e => he (Option.some.inj e).symm
        · exact hno j (by omega)
      · have e7 : IntKind.i64.wrap ((i : Int) + 1) = ((i + 1 : Nat) : Int) := by rw [wrap_i64 (by omega) (by omega)]; simp
        simp only [ret_seq, ret_seq_ret, ret_seq_exit, ret_blk, ret_blk_ret, ret_blk_exit, ret_nil, gt_same, gt_other, Nat.reduceBEq, gt_leaf, l1_one, l2_two, l3_three, g_loc0, g_locS, g_tmp, g_cst, b_lss, b_leq, b_gtr, b_geq, b_add, b_sub, b_mul, b_eql, b_neq, b_eqlS, b_neqS, u_not, w_true, w_false, eBool_bool, resA_nil, resA_tmp, resA_cell, okP_true, okP_false, tupled_nil, tupled_one, tupled_more, t_nth, m_load, m_loadN, m_store, n_ptr, reduceIte, List.getElem?_cons_zero, List.getElem?_cons_succ, Option.map_some, Bool.not_true, Bool.not_false, decide_true, decide_false, mx_int, mn_int, Nat.add_zero, Nat.zero_add, Nat.reduceEqDiff, Nat.reduceAdd, app'_eq, List.append_nil, List.nil_append, o_bool, o_int, o_str, o_ptr, o_slice, o_map, List.all_cons, List.all_nil, Bool.and_self, box_agg, st_agg, ptrTo, sliceTo, mapTo, List.length_cons, List.length_nil, Nat.mul_one, Nat.zero_mul, Nat.sub_zero, Nat.reduceMul, eq_self, t0, t1, t7, t8, t19, e7, and_self]
  · obtain rfl : i = l := by omega
    simp only [r80_1, r80_4, r80_8, r80_11, r80_12, r80_10, r80_16, r80_18, r80_21, r80_22, r80_20, r80_23, r80_19, r80_17, r80_15, r80_14, r80_24, r80_13, r80_9, r80_7, r80_5, r80_3, r80_26, r80_27, r80_25, r80_2, r80_0, t0, t1, t7, t8, t19, ret_seq, ret_seq_ret, ret_seq_exit, ret_blk, ret_blk_ret, ret_blk_exit, ret_nil, gt_same, gt_other, Nat.reduceBEq, gt_leaf, l1_one, l2_two, l3_three, g_loc0, g_locS, g_tmp, g_cst, b_lss, b_leq, b_gtr, b_geq, b_add, b_sub, b_mul, b_eql, b_neq, b_eqlS, b_neqS, u_not, w_true, w_false, eBool_bool, resA_nil, resA_tmp, resA_cell, okP_true, okP_false, tupled_nil, tupled_one, tupled_more, t_nth, m_load, m_loadN, m_store, n_ptr, reduceIte, List.getElem?_cons_zero, List.getElem?_cons_succ, Option.map_some, Bool.not_true, Bool.not_false, decide_true, decide_false, mx_int, mn_int, Nat.add_zero, Nat.zero_add, Nat.reduceEqDiff, Nat.reduceAdd, app'_eq, List.append_nil, List.nil_append, o_bool, o_int, o_str, o_ptr, o_slice, o_map, List.all_cons, List.all_nil, Bool.and_self, box_agg, st_agg, ptrTo, sliceTo, mapTo, List.length_cons, List.length_nil, Nat.mul_one, Nat.zero_mul, Nat.sub_zero, Nat.reduceMul, eq_self, Int.ofNat_lt, hlt]
    refine hE _ _ _ (by simp) ?_
    simp only [r80_1, r80_4, r80_8, r80_11, r80_12, r80_10, r80_16, r80_18, r80_21, r80_22, r80_20, r80_23, r80_19, r80_17, r80_15, r80_14, r80_24, r80_13, r80_9, r80_7, r80_5, r80_3, r80_26, r80_27, r80_25, r80_2, r80_0, t0, t1, t7, t8, t19, ret_seq, ret_seq_ret, ret_seq_exit, ret_blk, ret_blk_ret, ret_blk_exit, ret_nil, gt_same, gt_other, Nat.reduceBEq, gt_leaf, l1_one, l2_two, l3_three, g_loc0, g_locS, g_tmp, g_cst, b_lss, b_leq, b_gtr, b_geq, b_add, b_sub, b_mul, b_eql, b_neq, b_eqlS, b_neqS, u_not, w_true, w_false, eBool_bool, resA_nil, resA_tmp, resA_cell, okP_true, okP_false, tupled_nil, tupled_one, tupled_more, t_nth, m_load, m_loadN, m_store, n_ptr, reduceIte, List.getElem?_cons_zero, List.getElem?_cons_succ, Option.map_some, Bool.not_true, Bool.not_false, decide_true, decide_false, mx_int, mn_int, Nat.add_zero, Nat.zero_add, Nat.reduceEqDiff, Nat.reduceAdd, app'_eq, List.append_nil, List.nil_append, o_bool, o_int, o_str, o_ptr, o_slice, o_map, List.all_cons, List.all_nil, Bool.and_self, box_agg, st_agg, ptrTo, sliceTo, mapTo, List.length_cons, List.length_nil, Nat.mul_one, Nat.zero_mul, Nat.sub_zero, Nat.reduceMul, eq_self]
    refine hQ _ _ _ _ (.inr rfl) (by simp only [ret_seq, ret_seq_ret, ret_seq_exit, ret_blk, ret_blk_ret, ret_blk_exit, ret_nil, gt_same, gt_other, Nat.reduceBEq, gt_leaf, l1_one, l2_two, l3_three, g_loc0, g_locS, g_tmp, g_cst, b_lss, b_leq, b_gtr, b_geq, b_add, b_sub, b_mul, b_eql, b_neq, b_eqlS, b_neqS, u_not, w_true, w_false, eBool_bool, resA_nil, resA_tmp, resA_cell, okP_true, okP_false, tupled_nil, tupled_one, tupled_more, t_nth, m_load, m_loadN, m_store, n_ptr, reduceIte, List.getElem?_cons_zero, List.getElem?_cons_succ, Option.map_some, Bool.not_true, Bool.not_false, decide_true, decide_false, mx_int, mn_int, Nat.add_zero, Nat.zero_add, Nat.reduceEqDiff, Nat.reduceAdd, app'_eq, List.append_nil, List.nil_append, o_bool, o_int, o_str, o_ptr, o_slice, o_map, List.all_cons, List.all_nil, Bool.and_self, box_agg, st_agg, ptrTo, sliceTo, mapTo, List.length_cons, List.length_nil, Nat.mul_one, Nat.zero_mul, Nat.sub_zero, Nat.reduceMul, eq_self, t19]) (by simp only [ret_seq, ret_seq_ret, ret_seq_exit, ret_blk, ret_blk_ret, ret_blk_exit, ret_nil, gt_same, gt_other, Nat.reduceBEq, gt_leaf, l1_one, l2_two, l3_three, g_loc0, g_locS, g_tmp, g_cst, b_lss, b_leq, b_gtr, b_geq, b_add, b_sub, b_mul, b_eql, b_neq, b_eqlS, b_neqS, u_not, w_true, w_false, eBool_bool, resA_nil, resA_tmp, resA_cell, okP_true, okP_false, tupled_nil, tupled_one, tupled_more, t_nth, m_load, m_loadN, m_store, n_ptr, reduceIte, List.getElem?_cons_zero, List.getElem?_cons_succ, Option.map_some, Bool.not_true, Bool.not_false, decide_true, decide_false, mx_int, mn_int, Nat.add_zero, Nat.zero_add, Nat.reduceEqDiff, Nat.reduceAdd, app'_eq, List.append_nil, List.nil_append, o_bool, o_int, o_str, o_ptr, o_slice, o_map, List.all_cons, List.all_nil, Bool.and_self, box_agg, st_agg, ptrTo, sliceTo, mapTo, List.length_cons, List.length_nil, Nat.mul_one, Nat.zero_mul, Nat.sub_zero, Nat.reduceMul, eq_self]; rfl) ⟨rfl, .inr ⟨fun j => ?_, rfl⟩⟩
    by_cases e : j < i
    · exact hno j e
    · rw [List.getElem?_eq_none (by omega)]; simp

theorem contains_ok {n : Nat} (hn : 2 ≤ n) {h : Heap} {v : AV} {l : Nat} {ids : List Int} (x : Int) (hv : Els h v l 1 (ids.map u)) (hl : l < 90000) : WC (C n (.fn 96) [v, u x] h) fun r h' => h' = h ∧ r = .bool (decide (x ∈ ids)) := by
  obtain ⟨m, rfl⟩ : ∃ m, n = m + 1 := ⟨n - 1, by omega⟩
  refine call_fn _ f96A rfl (by simp [fn96]) fun QQ hQ => ?_
  simp only [fn96] at hQ
  simp only [fn96, fill_cons, fill_nil, Nat.zero_add, Nat.reduceAdd]
  obtain ⟨r, h', e, rfl, hF⟩ := index_ok (n := m) (by omega) x hv hl
  rcases hF with ⟨i, h1, h2, rfl⟩ | ⟨h1, rfl⟩
  · simp only [r96_1, r96_3, r96_4, r96_2, r96_0, ret_seq, ret_seq_ret, ret_seq_exit, ret_blk, ret_blk_ret, ret_blk_exit, ret_nil, gt_same, gt_other, Nat.reduceBEq, gt_leaf, l1_one, l2_two, l3_three, g_loc0, g_locS, g_tmp, g_cst, b_lss, b_leq, b_gtr, b_geq, b_add, b_sub, b_mul, b_eql, b_neq, b_eqlS, b_neqS, u_not, w_true, w_false, eBool_bool, resA_nil, resA_tmp, resA_cell, okP_true, okP_false, tupled_nil, tupled_one, tupled_more, t_nth, m_load, m_loadN, m_store, n_ptr, reduceIte, List.getElem?_cons_zero, List.getElem?_cons_succ, Option.map_some, Bool.not_true, Bool.not_false, decide_true, decide_false, mx_int, mn_int, Nat.add_zero, Nat.zero_add, Nat.reduceEqDiff, Nat.reduceAdd, app'_eq, List.append_nil, List.nil_append, o_bool, o_int, o_str, o_ptr, o_slice, o_map, List.all_cons, List.all_nil, Bool.and_self, box_agg, st_agg, ptrTo, sliceTo, mapTo, List.length_cons, List.length_nil, Nat.mul_one, Nat.zero_mul, Nat.sub_zero, Nat.reduceMul, eq_self, e]
    have hp : (0 : Int) ≤ (i : Int) := by omega
    have hm : x ∈ ids := List.mem_of_getElem? h1
    refine hQ _ _ _ _ (.inr rfl) (by simp only [ret_seq, ret_seq_ret, ret_seq_exit, ret_blk, ret_blk_ret, ret_blk_exit, ret_nil, gt_same, gt_other, Nat.reduceBEq, gt_leaf, l1_one, l2_two, l3_three, g_loc0, g_locS, g_tmp, g_cst, b_lss, b_leq, b_gtr, b_geq, b_add, b_sub, b_mul, b_eql, b_neq, b_eqlS, b_neqS, u_not, w_true, w_false, eBool_bool, resA_nil, resA_tmp, resA_cell, okP_true, okP_false, tupled_nil, tupled_one, tupled_more, t_nth, m_load, m_loadN, m_store, n_ptr, reduceIte, List.getElem?_cons_zero, List.getElem?_cons_succ, Option.map_some, Bool.not_true, Bool.not_false, decide_true, decide_false, mx_int, mn_int, Nat.add_zero, Nat.zero_add, Nat.reduceEqDiff, Nat.reduceAdd, app'_eq, List.append_nil, List.nil_append, o_bool, o_int, o_str, o_ptr, o_slice, o_map, List.all_cons, List.all_nil, Bool.and_self, box_agg, st_agg, ptrTo, sliceTo, mapTo, List.length_cons, List.length_nil, Nat.mul_one, Nat.zero_mul, Nat.sub_zero, Nat.reduceMul, eq_self]) (by simp only [ret_seq, ret_seq_ret, ret_seq_exit, ret_blk, ret_blk_ret, ret_blk_exit, ret_nil, gt_same, gt_other, Nat.reduceBEq, gt_leaf, l1_one, l2_two, l3_three, g_loc0, g_locS, g_tmp, g_cst, b_lss, b_leq, b_gtr, b_geq, b_add, b_sub, b_mul, b_eql, b_neq, b_eqlS, b_neqS, u_not, w_true, w_false, eBool_bool, resA_nil, resA_tmp, resA_cell, okP_true, okP_false, tupled_nil, tupled_one, tupled_more, t_nth, m_load, m_loadN, m_store, n_ptr, reduceIte, List.getElem?_cons_zero, List.getElem?_cons_succ, Option.map_some, Bool.not_true, Bool.not_false, decide_true, decide_false, mx_int, mn_int, Nat.add_zero, Nat.zero_add, Nat.reduceEqDiff, Nat.reduceAdd, app'_eq, List.append_nil, List.nil_append, o_bool, o_int, o_str, o_ptr, o_slice, o_map, List.all_cons, List.all_nil, Bool.and_self, box_agg, st_agg, ptrTo, sliceTo, mapTo, List.length_cons, List.length_nil, Nat.mul_one, Nat.zero_mul, Nat.sub_zero, Nat.reduceMul, eq_self]; rfl) ⟨rfl, by simp [hp, hm, tupled_one]⟩
  · simp only [r96_1, r96_3, r96_4, r96_2, r96_0, ret_seq, ret_seq_ret, ret_seq_exit, ret_blk, ret_blk_ret, ret_blk_exit, ret_nil, gt_same, gt_other, Nat.reduceBEq, gt_leaf, l1_one, l2_two, l3_three, g_loc0, g_locS, g_tmp, g_cst, b_lss, b_leq, b_gtr, b_geq, b_add, b_sub, b_mul, b_eql, b_neq, b_eqlS, b_neqS, u_not, w_true, w_false, eBool_bool, resA_nil, resA_tmp, resA_cell, okP_true, okP_false, tupled_nil, tupled_one, tupled_more, t_nth, m_load, m_loadN, m_store, n_ptr, reduceIte, List.getElem?_cons_zero, List.getElem?_cons_succ, Option.map_some, Bool.not_true, Bool.not_false, decide_true, decide_false, mx_int, mn_int, Nat.add_zero, Nat.zero_add, Nat.reduceEqDiff, Nat.reduceAdd, app'_eq, List.append_nil, List.nil_append, o_bool, o_int, o_str, o_ptr, o_slice, o_map, List.all_cons, List.all_nil, Bool.and_self, box_agg, st_agg, ptrTo, sliceTo, mapTo, List.length_cons, List.length_nil, Nat.mul_one, Nat.zero_mul, Nat.sub_zero, Nat.reduceMul, eq_self, e]
    have hm : ¬ x ∈ ids := fun h => by obtain ⟨j, hj⟩ := List.getElem?_of_mem h; exact h1 j hj
    refine hQ _ _ _ _ (.inr rfl) (by simp only [ret_seq, ret_seq_ret, ret_seq_exit, ret_blk, ret_blk_ret, ret_blk_exit, ret_nil, gt_same, gt_other, Nat.reduceBEq, gt_leaf, l1_one, l2_two, l3_three, g_loc0, g_locS, g_tmp, g_cst, b_lss, b_leq, b_gtr, b_geq, b_add, b_sub, b_mul, b_eql, b_neq, b_eqlS, b_neqS, u_not, w_true, w_false, eBool_bool, resA_nil, resA_tmp, resA_cell, okP_true, okP_false, tupled_nil, tupled_one, tupled_more, t_nth, m_load, m_loadN, m_store, n_ptr, reduceIte, List.getElem?_cons_zero, List.getElem?_cons_succ, Option.map_some, Bool.not_true, Bool.not_false, decide_true, decide_false, mx_int, mn_int, Nat.add_zero, Nat.zero_add, Nat.reduceEqDiff, Nat.reduceAdd, app'_eq, List.append_nil, List.nil_append, o_bool, o_int, o_str, o_ptr, o_slice, o_map, List.all_cons, List.all_nil, Bool.and_self, box_agg, st_agg, ptrTo, sliceTo, mapTo, List.length_cons, List.length_nil, Nat.mul_one, Nat.zero_mul, Nat.sub_zero, Nat.reduceMul, eq_self]) (by simp only [ret_seq, ret_seq_ret, ret_seq_exit, ret_blk, ret_blk_ret, ret_blk_exit, ret_nil, gt_same, gt_other, Nat.reduceBEq, gt_leaf, l1_one, l2_two, l3_three, g_loc0, g_locS, g_tmp, g_cst, b_lss, b_leq, b_gtr, b_geq, b_add, b_sub, b_mul, b_eql, b_neq, b_eqlS, b_neqS, u_not, w_true, w_false, eBool_bool, resA_nil, resA_tmp, resA_cell, okP_true, okP_false, tupled_nil, tupled_one, tupled_more, t_nth, m_load, m_loadN, m_store, n_ptr, reduceIte, List.getElem?_cons_zero, List.getElem?_cons_succ, Option.map_some, Bool.not_true, Bool.not_false, decide_true, decide_false, mx_int, mn_int, Nat.add_zero, Nat.zero_add, Nat.reduceEqDiff, Nat.reduceAdd, app'_eq, List.append_nil, List.nil_append, o_bool, o_int, o_str, o_ptr, o_slice, o_map, List.all_cons, List.all_nil, Bool.and_self, box_agg, st_agg, ptrTo, sliceTo, mapTo, List.length_cons, List.length_nil, Nat.mul_one, Nat.zero_mul, Nat.sub_zero, Nat.reduceMul, eq_self]; rfl) ⟨rfl, by simp [hm, tupled_one]⟩

theorem one_map (ids : List Int) : (ids.map u).all AV.one = true := by
  rw [List.all_eq_true]; intro x hx; obtain ⟨i, _, rfl⟩ := List.mem_map.1 hx; rfl
theorem clone_ok {n : Nat} (hn : 1 ≤ n) {h : Heap} {v : AV} {l : Nat} {ids : List Int} (hv : Els h v l 1 (ids.map u)) (hl : l < 90000) : WC (C n (.fn 78) [v] h) fun r h' => Els h' r l 1 (ids.map u) ∧ Sm NoB h h' := by
  obtain ⟨hlen, a, c, g, rfl, hnone, _⟩ := id hv
  obtain ⟨m, rfl⟩ : ∃ m, n = m + 1 := ⟨n - 1, by omega⟩
  refine call_fn _ f78A rfl (by simp [fn78]) fun QQ hQ => ?_
  simp only [fn78] at hQ
  simp only [fn78, fill_cons, fill_nil, Nat.zero_add, Nat.reduceAdd]
  cases a with
  | none =>
    obtain rfl := hnone rfl
    simp only [r78_1, r78_4, r78_7, r78_8, r78_6, r78_9, r78_5, r78_3, r78_11, r78_12, r78_10, r78_2, r78_0, x_eq_43, Option.isNone_none, ret_seq, ret_seq_ret, ret_seq_exit, ret_blk, ret_blk_ret, ret_blk_exit, ret_nil, gt_same, gt_other, Nat.reduceBEq, gt_leaf, l1_one, l2_two, l3_three, g_loc0, g_locS, g_tmp, g_cst, b_lss, b_leq, b_gtr, b_geq, b_add, b_sub, b_mul, b_eql, b_neq, b_eqlS, b_neqS, u_not, w_true, w_false, eBool_bool, resA_nil, resA_tmp, resA_cell, okP_true, okP_false, tupled_nil, tupled_one, tupled_more, t_nth, m_load, m_loadN, m_store, n_ptr, reduceIte, List.getElem?_cons_zero, List.getElem?_cons_succ, Option.map_some, Bool.not_true, Bool.not_false, decide_true, decide_false, mx_int, mn_int, Nat.add_zero, Nat.zero_add, Nat.reduceEqDiff, Nat.reduceAdd, app'_eq, List.append_nil, List.nil_append, o_bool, o_int, o_str, o_ptr, o_slice, o_map, List.all_cons, List.all_nil, Bool.and_self, box_agg, st_agg, ptrTo, sliceTo, mapTo, List.length_cons, List.length_nil, Nat.mul_one, Nat.zero_mul, Nat.sub_zero, Nat.reduceMul, eq_self]
    exact hQ _ _ _ _ (.inr rfl) (by simp only [ret_seq, ret_seq_ret, ret_seq_exit, ret_blk, ret_blk_ret, ret_blk_exit, ret_nil, gt_same, gt_other, Nat.reduceBEq, gt_leaf, l1_one, l2_two, l3_three, g_loc0, g_locS, g_tmp, g_cst, b_lss, b_leq, b_gtr, b_geq, b_add, b_sub, b_mul, b_eql, b_neq, b_eqlS, b_neqS, u_not, w_true, w_false, eBool_bool, resA_nil, resA_tmp, resA_cell, okP_true, okP_false, tupled_nil, tupled_one, tupled_more, t_nth, m_load, m_loadN, m_store, n_ptr, reduceIte, List.getElem?_cons_zero, List.getElem?_cons_succ, Option.map_some, Bool.not_true, Bool.not_false, decide_true, decide_false, mx_int, mn_int, Nat.add_zero, Nat.zero_add, Nat.reduceEqDiff, Nat.reduceAdd, app'_eq, List.append_nil, List.nil_append, o_bool, o_int, o_str, o_ptr, o_slice, o_map, List.all_cons, List.all_nil, Bool.and_self, box_agg, st_agg, ptrTo, sliceTo, mapTo, List.length_cons, List.length_nil, Nat.mul_one, Nat.zero_mul, Nat.sub_zero, Nat.reduceMul, eq_self]) (by simp only [ret_seq, ret_seq_ret, ret_seq_exit, ret_blk, ret_blk_ret, ret_blk_exit, ret_nil, gt_same, gt_other, Nat.reduceBEq, gt_leaf, l1_one, l2_two, l3_three, g_loc0, g_locS, g_tmp, g_cst, b_lss, b_leq, b_gtr, b_geq, b_add, b_sub, b_mul, b_eql, b_neq, b_eqlS, b_neqS, u_not, w_true, w_false, eBool_bool, resA_nil, resA_tmp, resA_cell, okP_true, okP_false, tupled_nil, tupled_one, tupled_more, t_nth, m_load, m_loadN, m_store, n_ptr, reduceIte, List.getElem?_cons_zero, List.getElem?_cons_succ, Option.map_some, Bool.not_true, Bool.not_false, decide_true, decide_false, mx_int, mn_int, Nat.add_zero, Nat.zero_add, Nat.reduceEqDiff, Nat.reduceAdd, app'_eq, List.append_nil, List.nil_append, o_bool, o_int, o_str, o_ptr, o_slice, o_map, List.all_cons, List.all_nil, Bool.and_self, box_agg, st_agg, ptrTo, sliceTo, mapTo, List.length_cons, List.length_nil, Nat.mul_one, Nat.zero_mul, Nat.sub_zero, Nat.reduceMul, eq_self]; rfl) ⟨⟨hlen, none, 0, none, rfl, fun _ => rfl, (fun _ _ e => by cases e)⟩, Sm.refl _ _⟩
  | some p =>
    obtain ⟨b, o⟩ := p
    obtain ⟨h1, e1, r1, n1, g1⟩ := Rw.alloc h (id := h.next) (n := 0) (vs := []) (z := []) (ro := false) (Nat.le_refl _) rfl
    have hbn := hv.lt
    have hv1 := hv.same (h' := h1) (g1 b (by omega)) (by omega)
    have ha := app_zero (t := 43) (id := h1.next) u_43 s_27 b_27 z_27 rfl hv1.src hlen (one_map ids) (room_le (by omega) (by omega)) (b := h.next) (by rw [r1.ld (Nat.le_refl _)]; rfl)
    simp only [r78_1, r78_4, r78_7, r78_8, r78_6, r78_9, r78_5, r78_3, r78_11, r78_12, r78_10, r78_2, r78_0, x_eq_43, Option.isNone_some, x_bs_43_0, sliceTo, e1, ha, ret_seq, ret_seq_ret, ret_seq_exit, ret_blk, ret_blk_ret, ret_blk_exit, ret_nil, gt_same, gt_other, Nat.reduceBEq, gt_leaf, l1_one, l2_two, l3_three, g_loc0, g_locS, g_tmp, g_cst, b_lss, b_leq, b_gtr, b_geq, b_add, b_sub, b_mul, b_eql, b_neq, b_eqlS, b_neqS, u_not, w_true, w_false, eBool_bool, resA_nil, resA_tmp, resA_cell, okP_true, okP_false, tupled_nil, tupled_one, tupled_more, t_nth, m_load, m_loadN, m_store, n_ptr, reduceIte, List.getElem?_cons_zero, List.getElem?_cons_succ, Option.map_some, Bool.not_true, Bool.not_false, decide_true, decide_false, mx_int, mn_int, Nat.add_zero, Nat.zero_add, Nat.reduceEqDiff, Nat.reduceAdd, app'_eq, List.append_nil, List.nil_append, o_bool, o_int, o_str, o_ptr, o_slice, o_map, List.all_cons, List.all_nil, Bool.and_self, box_agg, st_agg, ptrTo, sliceTo, mapTo, List.length_cons, List.length_nil, Nat.mul_one, Nat.zero_mul, Nat.sub_zero, Nat.reduceMul, eq_self]
    by_cases hl0 : l = 0
    · subst hl0
      simp only [ret_seq, ret_seq_ret, ret_seq_exit, ret_blk, ret_blk_ret, ret_blk_exit, ret_nil, gt_same, gt_other, Nat.reduceBEq, gt_leaf, l1_one, l2_two, l3_three, g_loc0, g_locS, g_tmp, g_cst, b_lss, b_leq, b_gtr, b_geq, b_add, b_sub, b_mul, b_eql, b_neq, b_eqlS, b_neqS, u_not, w_true, w_false, eBool_bool, resA_nil, resA_tmp, resA_cell, okP_true, okP_false, tupled_nil, tupled_one, tupled_more, t_nth, m_load, m_loadN, m_store, n_ptr, reduceIte, List.getElem?_cons_zero, List.getElem?_cons_succ, Option.map_some, Bool.not_true, Bool.not_false, decide_true, decide_false, mx_int, mn_int, Nat.add_zero, Nat.zero_add, Nat.reduceEqDiff, Nat.reduceAdd, app'_eq, List.append_nil, List.nil_append, o_bool, o_int, o_str, o_ptr, o_slice, o_map, List.all_cons, List.all_nil, Bool.and_self, box_agg, st_agg, ptrTo, sliceTo, mapTo, List.length_cons, List.length_nil, Nat.mul_one, Nat.zero_mul, Nat.sub_zero, Nat.reduceMul, eq_self]
      refine hQ _ _ _ _ (.inr rfl) (by simp only [ret_seq, ret_seq_ret, ret_seq_exit, ret_blk, ret_blk_ret, ret_blk_exit, ret_nil, gt_same, gt_other, Nat.reduceBEq, gt_leaf, l1_one, l2_two, l3_three, g_loc0, g_locS, g_tmp, g_cst, b_lss, b_leq, b_gtr, b_geq, b_add, b_sub, b_mul, b_eql, b_neq, b_eqlS, b_neqS, u_not, w_true, w_false, eBool_bool, resA_nil, resA_tmp, resA_cell, okP_true, okP_false, tupled_nil, tupled_one, tupled_more, t_nth, m_load, m_loadN, m_store, n_ptr, reduceIte, List.getElem?_cons_zero, List.getElem?_cons_succ, Option.map_some, Bool.not_true, Bool.not_false, decide_true, decide_false, mx_int, mn_int, Nat.add_zero, Nat.zero_add, Nat.reduceEqDiff, Nat.reduceAdd, app'_eq, List.append_nil, List.nil_append, o_bool, o_int, o_str, o_ptr, o_slice, o_map, List.all_cons, List.all_nil, Bool.and_self, box_agg, st_agg, ptrTo, sliceTo, mapTo, List.length_cons, List.length_nil, Nat.mul_one, Nat.zero_mul, Nat.sub_zero, Nat.reduceMul, eq_self]) (by simp only [ret_seq, ret_seq_ret, ret_seq_exit, ret_blk, ret_blk_ret, ret_blk_exit, ret_nil, gt_same, gt_other, Nat.reduceBEq, gt_leaf, l1_one, l2_two, l3_three, g_loc0, g_locS, g_tmp, g_cst, b_lss, b_leq, b_gtr, b_geq, b_add, b_sub, b_mul, b_eql, b_neq, b_eqlS, b_neqS, u_not, w_true, w_false, eBool_bool, resA_nil, resA_tmp, resA_cell, okP_true, okP_false, tupled_nil, tupled_one, tupled_more, t_nth, m_load, m_loadN, m_store, n_ptr, reduceIte, List.getElem?_cons_zero, List.getElem?_cons_succ, Option.map_some, Bool.not_true, Bool.not_false, decide_true, decide_false, mx_int, mn_int, Nat.add_zero, Nat.zero_add, Nat.reduceEqDiff, Nat.reduceAdd, app'_eq, List.append_nil, List.nil_append, o_bool, o_int, o_str, o_ptr, o_slice, o_map, List.all_cons, List.all_nil, Bool.and_self, box_agg, st_agg, ptrTo, sliceTo, mapTo, List.length_cons, List.length_nil, Nat.mul_one, Nat.zero_mul, Nat.sub_zero, Nat.reduceMul, eq_self]; rfl) ⟨⟨hlen, _, _, _, rfl, (fun e => by cases e), fun b' o' e => ?_⟩, ?_⟩
      · cases e
        refine ⟨by omega, ?_⟩
        rw [r1.ld (Nat.le_refl _)]
        rw [List.eq_nil_of_length_eq_zero (show (ids.map u).length = 0 by omega)]; rfl
      · exact ⟨by omega, fun c hc _ => g1 c (by omega)⟩
    · obtain ⟨h2, e2, r2, n2, g2⟩ := Rw.alloc h1 (id := h1.next) (vs := ids.map u) (z := tyMark 27 false) (ro := false) (Nat.le_refl _) rfl
      simp only [hl0, e2, ret_seq, ret_seq_ret, ret_seq_exit, ret_blk, ret_blk_ret, ret_blk_exit, ret_nil, gt_same, gt_other, Nat.reduceBEq, gt_leaf, l1_one, l2_two, l3_three, g_loc0, g_locS, g_tmp, g_cst, b_lss, b_leq, b_gtr, b_geq, b_add, b_sub, b_mul, b_eql, b_neq, b_eqlS, b_neqS, u_not, w_true, w_false, eBool_bool, resA_nil, resA_tmp, resA_cell, okP_true, okP_false, tupled_nil, tupled_one, tupled_more, t_nth, m_load, m_loadN, m_store, n_ptr, reduceIte, List.getElem?_cons_zero, List.getElem?_cons_succ, Option.map_some, Bool.not_true, Bool.not_false, decide_true, decide_false, mx_int, mn_int, Nat.add_zero, Nat.zero_add, Nat.reduceEqDiff, Nat.reduceAdd, app'_eq, List.append_nil, List.nil_append, o_bool, o_int, o_str, o_ptr, o_slice, o_map, List.all_cons, List.all_nil, Bool.and_self, box_agg, st_agg, ptrTo, sliceTo, mapTo, List.length_cons, List.length_nil, Nat.mul_one, Nat.zero_mul, Nat.sub_zero, Nat.reduceMul, eq_self]
      refine hQ _ _ _ _ (.inr rfl) (by simp only [ret_seq, ret_seq_ret, ret_seq_exit, ret_blk, ret_blk_ret, ret_blk_exit, ret_nil, gt_same, gt_other, Nat.reduceBEq, gt_leaf, l1_one, l2_two, l3_three, g_loc0, g_locS, g_tmp, g_cst, b_lss, b_leq, b_gtr, b_geq, b_add, b_sub, b_mul, b_eql, b_neq, b_eqlS, b_neqS, u_not, w_true, w_false, eBool_bool, resA_nil, resA_tmp, resA_cell, okP_true, okP_false, tupled_nil, tupled_one, tupled_more, t_nth, m_load, m_loadN, m_store, n_ptr, reduceIte, List.getElem?_cons_zero, List.getElem?_cons_succ, Option.map_some, Bool.not_true, Bool.not_false, decide_true, decide_false, mx_int, mn_int, Nat.add_zero, Nat.zero_add, Nat.reduceEqDiff, Nat.reduceAdd, app'_eq, List.append_nil, List.nil_append, o_bool, o_int, o_str, o_ptr, o_slice, o_map, List.all_cons, List.all_nil, Bool.and_self, box_agg, st_agg, ptrTo, sliceTo, mapTo, List.length_cons, List.length_nil, Nat.mul_one, Nat.zero_mul, Nat.sub_zero, Nat.reduceMul, eq_self]) (by simp only [ret_seq, ret_seq_ret, ret_seq_exit, ret_blk, ret_blk_ret, ret_blk_exit, ret_nil, gt_same, gt_other, Nat.reduceBEq, gt_leaf, l1_one, l2_two, l3_three, g_loc0, g_locS, g_tmp, g_cst, b_lss, b_leq, b_gtr, b_geq, b_add, b_sub, b_mul, b_eql, b_neq, b_eqlS, b_neqS, u_not, w_true, w_false, eBool_bool, resA_nil, resA_tmp, resA_cell, okP_true, okP_false, tupled_nil, tupled_one, tupled_more, t_nth, m_load, m_loadN, m_store, n_ptr, reduceIte, List.getElem?_cons_zero, List.getElem?_cons_succ, Option.map_some, Bool.not_true, Bool.not_false, decide_true, decide_false, mx_int, mn_int, Nat.add_zero, Nat.zero_add, Nat.reduceEqDiff, Nat.reduceAdd, app'_eq, List.append_nil, List.nil_append, o_bool, o_int, o_str, o_ptr, o_slice, o_map, List.all_cons, List.all_nil, Bool.and_self, box_agg, st_agg, ptrTo, sliceTo, mapTo, List.length_cons, List.length_nil, Nat.mul_one, Nat.zero_mul, Nat.sub_zero, Nat.reduceMul, eq_self]; rfl) ⟨⟨hlen, _, _, _, rfl, (fun e => by cases e), fun b' o' e => ?_⟩, ?_⟩
      · cases e
        refine ⟨by omega, ?_⟩
        rw [r2.ld (by omega), List.drop_zero, List.take_of_length_le (by omega)]
      · refine ⟨by omega, fun c hc _ => ?_⟩
        rw [g2 c (by omega), g1 c (by omega)]

/-- an index: its buckets, and their blocks -/
structure IxAt (h : Heap) (x : Nat) (B : Nat → List Int) (F : Nat → List Nat) : Prop where
  ex : ∃ S : List AV, S.length = 16 ∧ Rw h x (.bool true :: S) [] false ∧ ∀ i, i < 16 → ∃ v, S[i]? = some v ∧ SlO 27 1 h v (B i).length ((B i).map u) (F i)
  lt : x < h.next
  fx : ∀ i, i < 16 → x ∉ F i
  ff : ∀ i j, i < 16 → j < 16 → i ≠ j → ∀ b, b ∈ F i → b ∉ F j
  sz : ∀ i, i < 16 → (B i).length < 10000
def IxF (x : Nat) (F : Nat → List Nat) : Nat → Prop := fun b => b = x ∨ ∃ i, i < 16 ∧ b ∈ F i
theorem IxAt.sm {h h' : Heap} {x : Nat} {B : Nat → List Int} {F : Nat → List Nat} {G : Nat → Prop} (hx : IxAt h x B F) (hs : Sm G h h') (hG : ∀ b, IxF x F b → ¬ G b) : IxAt h' x B F := by
  obtain ⟨S, h1, h2, h3⟩ := hx.ex
  refine ⟨⟨S, h1, h2.sm hs hx.lt (hG x (.inl rfl)), fun i hi => ?_⟩, Nat.lt_of_lt_of_le hx.lt hs.1, hx.fx, hx.ff, hx.sz⟩
  obtain ⟨v, g1, g2⟩ := h3 i hi
  exact ⟨v, g1, g2.sm hs fun b hb => hG b (.inr ⟨i, hi, hb⟩)⟩
def bk (s : List Nat) : Nat := bsum s s.length % 16
theorem bk_lt (s : List Nat) : bk s < 16 := Nat.mod_lt _ (by decide)
theorem ixis_ok {n : Nat} (hn : 1 ≤ n) {h : Heap} {x : Nat} {B : Nat → List Int} {F : Nat → List Nat} (hx : IxAt h x B F) : WC (C n (.fn 77) [.ptr (some (x, 0))] h) fun r h' => h' = h ∧ r = .bool true := by
  obtain ⟨S, h1, h2, h3⟩ := hx.ex
  obtain ⟨m, rfl⟩ : ∃ m, n = m + 1 := ⟨n - 1, by omega⟩
  refine call_fn _ f77A rfl (by simp [fn77]) fun QQ hQ => ?_
  simp only [fn77] at hQ
  simp only [fn77, fill_cons, fill_nil, Nat.zero_add, Nat.reduceAdd]
  simp only [r77_1, r77_3, r77_4, r77_2, r77_0, x_ne_85, x_fa_135_0, h2.ld1, Option.isSome_some, ret_seq, ret_seq_ret, ret_seq_exit, ret_blk, ret_blk_ret, ret_blk_exit, ret_nil, gt_same, gt_other, Nat.reduceBEq, gt_leaf, l1_one, l2_two, l3_three, g_loc0, g_locS, g_tmp, g_cst, b_lss, b_leq, b_gtr, b_geq, b_add, b_sub, b_mul, b_eql, b_neq, b_eqlS, b_neqS, u_not, w_true, w_false, eBool_bool, resA_nil, resA_tmp, resA_cell, okP_true, okP_false, tupled_nil, tupled_one, tupled_more, t_nth, m_load, m_loadN, m_store, n_ptr, reduceIte, List.getElem?_cons_zero, List.getElem?_cons_succ, Option.map_some, Bool.not_true, Bool.not_false, decide_true, decide_false, mx_int, mn_int, Nat.add_zero, Nat.zero_add, Nat.reduceEqDiff, Nat.reduceAdd, app'_eq, List.append_nil, List.nil_append, o_bool, o_int, o_str, o_ptr, o_slice, o_map, List.all_cons, List.all_nil, Bool.and_self, box_agg, st_agg, ptrTo, sliceTo, mapTo, List.length_cons, List.length_nil, Nat.mul_one, Nat.zero_mul, Nat.sub_zero, Nat.reduceMul, eq_self]
  exact hQ _ _ _ _ (.inr rfl) (by simp only [ret_seq, ret_seq_ret, ret_seq_exit, ret_blk, ret_blk_ret, ret_blk_exit, ret_nil, gt_same, gt_other, Nat.reduceBEq, gt_leaf, l1_one, l2_two, l3_three, g_loc0, g_locS, g_tmp, g_cst, b_lss, b_leq, b_gtr, b_geq, b_add, b_sub, b_mul, b_eql, b_neq, b_eqlS, b_neqS, u_not, w_true, w_false, eBool_bool, resA_nil, resA_tmp, resA_cell, okP_true, okP_false, tupled_nil, tupled_one, tupled_more, t_nth, m_load, m_loadN, m_store, n_ptr, reduceIte, List.getElem?_cons_zero, List.getElem?_cons_succ, Option.map_some, Bool.not_true, Bool.not_false, decide_true, decide_false, mx_int, mn_int, Nat.add_zero, Nat.zero_add, Nat.reduceEqDiff, Nat.reduceAdd, app'_eq, List.append_nil, List.nil_append, o_bool, o_int, o_str, o_ptr, o_slice, o_map, List.all_cons, List.all_nil, Bool.and_self, box_agg, st_agg, ptrTo, sliceTo, mapTo, List.length_cons, List.length_nil, Nat.mul_one, Nat.zero_mul, Nat.sub_zero, Nat.reduceMul, eq_self]) (by simp only [ret_seq, ret_seq_ret, ret_seq_exit, ret_blk, ret_blk_ret, ret_blk_exit, ret_nil, gt_same, gt_other, Nat.reduceBEq, gt_leaf, l1_one, l2_two, l3_three, g_loc0, g_locS, g_tmp, g_cst, b_lss, b_leq, b_gtr, b_geq, b_add, b_sub, b_mul, b_eql, b_neq, b_eqlS, b_neqS, u_not, w_true, w_false, eBool_bool, resA_nil, resA_tmp, resA_cell, okP_true, okP_false, tupled_nil, tupled_one, tupled_more, t_nth, m_load, m_loadN, m_store, n_ptr, reduceIte, List.getElem?_cons_zero, List.getElem?_cons_succ, Option.map_some, Bool.not_true, Bool.not_false, decide_true, decide_false, mx_int, mn_int, Nat.add_zero, Nat.zero_add, Nat.reduceEqDiff, Nat.reduceAdd, app'_eq, List.append_nil, List.nil_append, o_bool, o_int, o_str, o_ptr, o_slice, o_map, List.all_cons, List.all_nil, Bool.and_self, box_agg, st_agg, ptrTo, sliceTo, mapTo, List.length_cons, List.length_nil, Nat.mul_one, Nat.zero_mul, Nat.sub_zero, Nat.reduceMul, eq_self]; rfl) ⟨rfl, rfl⟩
theorem ixnew_ok {n : Nat} (hn : 1 ≤ n) {h : Heap} : WC (C n (.fn 51) [] h) fun r h' => ∃ x, r = .ptr (some (x, 0)) ∧ IxAt h' x (fun _ => []) (fun _ => []) ∧ Sm NoB h h' ∧ h.next ≤ x := by
  obtain ⟨m, rfl⟩ : ∃ m, n = m + 1 := ⟨n - 1, by omega⟩
  refine call_fn _ f51A rfl (by simp [fn51]) fun QQ hQ => ?_
  simp only [fn51] at hQ
  simp only [fn51, fill_cons, fill_nil, Nat.zero_add, Nat.reduceAdd]
  obtain ⟨h1, e1, r1, n1, g1⟩ := Rw.alloc h (id := h.next) (n := 17) (vs := .bool true :: List.replicate 16 (.slice none 0 0 none)) (z := []) (ro := false) (Nat.le_refl _) rfl
  simp only [List.replicate_succ, List.replicate_zero] at e1
  simp only [r51_1, r51_3, r51_4, r51_2, r51_0, x_bd_135_0, e1, ret_seq, ret_seq_ret, ret_seq_exit, ret_blk, ret_blk_ret, ret_blk_exit, ret_nil, gt_same, gt_other, Nat.reduceBEq, gt_leaf, l1_one, l2_two, l3_three, g_loc0, g_locS, g_tmp, g_cst, b_lss, b_leq, b_gtr, b_geq, b_add, b_sub, b_mul, b_eql, b_neq, b_eqlS, b_neqS, u_not, w_true, w_false, eBool_bool, resA_nil, resA_tmp, resA_cell, okP_true, okP_false, tupled_nil, tupled_one, tupled_more, t_nth, m_load, m_loadN, m_store, n_ptr, reduceIte, List.getElem?_cons_zero, List.getElem?_cons_succ, Option.map_some, Bool.not_true, Bool.not_false, decide_true, decide_false, mx_int, mn_int, Nat.add_zero, Nat.zero_add, Nat.reduceEqDiff, Nat.reduceAdd, app'_eq, List.append_nil, List.nil_append, o_bool, o_int, o_str, o_ptr, o_slice, o_map, List.all_cons, List.all_nil, Bool.and_self, box_agg, st_agg, ptrTo, sliceTo, mapTo, List.length_cons, List.length_nil, Nat.mul_one, Nat.zero_mul, Nat.sub_zero, Nat.reduceMul, eq_self]
  refine hQ _ _ _ _ (.inr rfl) (by simp only [ret_seq, ret_seq_ret, ret_seq_exit, ret_blk, ret_blk_ret, ret_blk_exit, ret_nil, gt_same, gt_other, Nat.reduceBEq, gt_leaf, l1_one, l2_two, l3_three, g_loc0, g_locS, g_tmp, g_cst, b_lss, b_leq, b_gtr, b_geq, b_add, b_sub, b_mul, b_eql, b_neq, b_eqlS, b_neqS, u_not, w_true, w_false, eBool_bool, resA_nil, resA_tmp, resA_cell, okP_true, okP_false, tupled_nil, tupled_one, tupled_more, t_nth, m_load, m_loadN, m_store, n_ptr, reduceIte, List.getElem?_cons_zero, List.getElem?_cons_succ, Option.map_some, Bool.not_true, Bool.not_false, decide_true, decide_false, mx_int, mn_int, Nat.add_zero, Nat.zero_add, Nat.reduceEqDiff, Nat.reduceAdd, app'_eq, List.append_nil, List.nil_append, o_bool, o_int, o_str, o_ptr, o_slice, o_map, List.all_cons, List.all_nil, Bool.and_self, box_agg, st_agg, ptrTo, sliceTo, mapTo, List.length_cons, List.length_nil, Nat.mul_one, Nat.zero_mul, Nat.sub_zero, Nat.reduceMul, eq_self]) (by simp only [ret_seq, ret_seq_ret, ret_seq_exit, ret_blk, ret_blk_ret, ret_blk_exit, ret_nil, gt_same, gt_other, Nat.reduceBEq, gt_leaf, l1_one, l2_two, l3_three, g_loc0, g_locS, g_tmp, g_cst, b_lss, b_leq, b_gtr, b_geq, b_add, b_sub, b_mul, b_eql, b_neq, b_eqlS, b_neqS, u_not, w_true, w_false, eBool_bool, resA_nil, resA_tmp, resA_cell, okP_true, okP_false, tupled_nil, tupled_one, tupled_more, t_nth, m_load, m_loadN, m_store, n_ptr, reduceIte, List.getElem?_cons_zero, List.getElem?_cons_succ, Option.map_some, Bool.not_true, Bool.not_false, decide_true, decide_false, mx_int, mn_int, Nat.add_zero, Nat.zero_add, Nat.reduceEqDiff, Nat.reduceAdd, app'_eq, List.append_nil, List.nil_append, o_bool, o_int, o_str, o_ptr, o_slice, o_map, List.all_cons, List.all_nil, Bool.and_self, box_agg, st_agg, ptrTo, sliceTo, mapTo, List.length_cons, List.length_nil, Nat.mul_one, Nat.zero_mul, Nat.sub_zero, Nat.reduceMul, eq_self]; rfl) ⟨h.next, rfl, ⟨⟨_, by simp, r1, fun i hi => ⟨.slice none 0 0 none, ?_, SlO.nil⟩⟩, by omega, (fun _ _ h => by cases h), (fun _ _ _ _ _ _ h => by cases h), (fun _ _ => by simp)⟩, ⟨by omega, fun c hc _ => g1 c (by omega)⟩, Nat.le_refl _⟩
  rw [List.getElem?_replicate, if_pos hi]
theorem ixfind_ok {n : Nat} (hn : 2 ≤ n) {h : Heap} {x : Nat} {B : Nat → List Int} {F : Nat → List Nat} (hx : IxAt h x B F) {s : List Nat} (hl : s.length ≤ 1000) (hb : Byts s) :
    WC (C n (.fn 53) [.ptr (some (x, 0)), .str s] h) fun r h' => Els h' r (B (bk s)).length 1 ((B (bk s)).map u) ∧ Sm NoB h h' := by
  obtain ⟨m, rfl⟩ : ∃ m, n = m + 1 := ⟨n - 1, by omega⟩
  refine call_fn _ f53A rfl (by simp [fn53]) fun QQ hQ => ?_
  simp only [fn53] at hQ
  simp only [fn53, fill_cons, fill_nil, Nat.zero_add, Nat.reduceAdd]
  obtain ⟨_, h0, ea, rfl, rfl⟩ := ixis_ok (n := m) (by omega) hx
  obtain ⟨hm, eb, sb, _⟩ := Sm.bump h0 9
  have hx' := hx.sm sb (fun _ _ h => h)
  obtain ⟨_, h1, ec, rfl, rfl⟩ := bucket_ok (n := m) (by omega) s hm hl hb
  obtain ⟨S, h2, h3, h4⟩ := hx'.ex
  obtain ⟨v, g1, g2⟩ := h4 (bk s) (bk_lt s)
  obtain ⟨r, h5, ed, f1, f2⟩ := clone_ok (n := m) (by omega) g2.els (by have := hx.sz _ (bk_lt s); omega)
  have hv : h1.ld1 x (1 + bk s) = some v := by rw [h3.ld1, Nat.add_comm, List.getElem?_cons_succ]; exact g1
  have ec' : C m (.fn 79) [.str s] h1 = some (.int .u8 ((bk s : Nat) : Int), h1) := ec
  simp only [r53_1, r53_4, r53_7, r53_8, r53_6, r53_9, r53_5, r53_3, r53_11, r53_12, r53_10, r53_2, r53_0, ea, eb, ec', x_fa_135_1, x_ia_133 (bk_lt s), Nat.mul_one, hv, ed, ret_seq, ret_seq_ret, ret_seq_exit, ret_blk, ret_blk_ret, ret_blk_exit, ret_nil, gt_same, gt_other, Nat.reduceBEq, gt_leaf, l1_one, l2_two, l3_three, g_loc0, g_locS, g_tmp, g_cst, b_lss, b_leq, b_gtr, b_geq, b_add, b_sub, b_mul, b_eql, b_neq, b_eqlS, b_neqS, u_not, w_true, w_false, eBool_bool, resA_nil, resA_tmp, resA_cell, okP_true, okP_false, tupled_nil, tupled_one, tupled_more, t_nth, m_load, m_loadN, m_store, n_ptr, reduceIte, List.getElem?_cons_zero, List.getElem?_cons_succ, Option.map_some, Bool.not_true, Bool.not_false, decide_true, decide_false, mx_int, mn_int, Nat.add_zero, Nat.zero_add, Nat.reduceEqDiff, Nat.reduceAdd, app'_eq, List.append_nil, List.nil_append, o_bool, o_int, o_str, o_ptr, o_slice, o_map, List.all_cons, List.all_nil, Bool.and_self, box_agg, st_agg, ptrTo, sliceTo, mapTo, List.length_cons, List.length_nil, Nat.mul_one, Nat.zero_mul, Nat.sub_zero, Nat.reduceMul, eq_self]
  refine hQ _ _ _ _ (.inr rfl) (by simp only [ret_seq, ret_seq_ret, ret_seq_exit, ret_blk, ret_blk_ret, ret_blk_exit, ret_nil, gt_same, gt_other, Nat.reduceBEq, gt_leaf, l1_one, l2_two, l3_three, g_loc0, g_locS, g_tmp, g_cst, b_lss, b_leq, b_gtr, b_geq, b_add, b_sub, b_mul, b_eql, b_neq, b_eqlS, b_neqS, u_not, w_true, w_false, eBool_bool, resA_nil, resA_tmp, resA_cell, okP_true, okP_false, tupled_nil, tupled_one, tupled_more, t_nth, m_load, m_loadN, m_store, n_ptr, reduceIte, List.getElem?_cons_zero, List.getElem?_cons_succ, Option.map_some, Bool.not_true, Bool.not_false, decide_true, decide_false, mx_int, mn_int, Nat.add_zero, Nat.zero_add, Nat.reduceEqDiff, Nat.reduceAdd, app'_eq, List.append_nil, List.nil_append, o_bool, o_int, o_str, o_ptr, o_slice, o_map, List.all_cons, List.all_nil, Bool.and_self, box_agg, st_agg, ptrTo, sliceTo, mapTo, List.length_cons, List.length_nil, Nat.mul_one, Nat.zero_mul, Nat.sub_zero, Nat.reduceMul, eq_self]) (by simp only [ret_seq, ret_seq_ret, ret_seq_exit, ret_blk, ret_blk_ret, ret_blk_exit, ret_nil, gt_same, gt_other, Nat.reduceBEq, gt_leaf, l1_one, l2_two, l3_three, g_loc0, g_locS, g_tmp, g_cst, b_lss, b_leq, b_gtr, b_geq, b_add, b_sub, b_mul, b_eql, b_neq, b_eqlS, b_neqS, u_not, w_true, w_false, eBool_bool, resA_nil, resA_tmp, resA_cell, okP_true, okP_false, tupled_nil, tupled_one, tupled_more, t_nth, m_load, m_loadN, m_store, n_ptr, reduceIte, List.getElem?_cons_zero, List.getElem?_cons_succ, Option.map_some, Bool.not_true, Bool.not_false, decide_true, decide_false, mx_int, mn_int, Nat.add_zero, Nat.zero_add, Nat.reduceEqDiff, Nat.reduceAdd, app'_eq, List.append_nil, List.nil_append, o_bool, o_int, o_str, o_ptr, o_slice, o_map, List.all_cons, List.all_nil, Bool.and_self, box_agg, st_agg, ptrTo, sliceTo, mapTo, List.length_cons, List.length_nil, Nat.mul_one, Nat.zero_mul, Nat.sub_zero, Nat.reduceMul, eq_self]; rfl) ?_
  exact ⟨f1, sb.trans f2 (fun _ _ h => h) (fun _ _ h => h)⟩

def setF {α : Type} (B : Nat → α) (i : Nat) (v : α) : Nat → α := fun j => if j = i then v else B j
theorem setF_same {α : Type} (B : Nat → α) (i : Nat) (v : α) : setF B i v i = v := if_pos rfl
theorem setF_other {α : Type} (B : Nat → α) {i j : Nat} (v : α) (h : j ≠ i) : setF B i v j = B j := if_neg h
/-- one bucket turns -/
theorem IxAt.put {h h' : Heap} {x : Nat} {B : Nat → List Int} {F : Nat → List Nat} (hx : IxAt h x B F) {S : List AV} {i : Nat} {v : AV} {ids : List Int} {bs : List Nat} (hi : i < 16) (hS : S.length = 16) (hS2 : ∀ j, j < 16 → j ≠ i → ∃ v, S[j]? = some v ∧ SlO 27 1 h v (B j).length ((B j).map u) (F j))
    (hr : Rw h' x (.bool true :: S.set i v) [] false) (ho : SlO 27 1 h' v ids.length (ids.map u) bs) (hbs : ∀ b, b ∈ bs → b ∈ F i ∨ h.next ≤ b) (hn : h.next ≤ h'.next) (hsm : ∀ c, c < h.next → c ≠ x → c ∉ F i → h'.bs.gt c = h.bs.gt c) (hl : ids.length < 10000) :
    IxAt h' x (setF B i ids) (setF F i bs) := by
  have hff : ∀ j, j < 16 → j ≠ i → ∀ b, b ∈ F j → b ∉ bs ∧ b ≠ x ∧ b < h.next ∧ b ∉ F i := by
    intro j hj hne b hb
    obtain ⟨v', _, g⟩ := hS2 j hj hne
    have hlt := g.lt b hb
    refine ⟨fun hb2 => ?_, fun e => hx.fx j hj (e ▸ hb), hlt, hx.ff j i hj hi hne b hb⟩
    rcases hbs b hb2 with h1 | h1
    · exact hx.ff j i hj hi hne b hb h1
    · omega
  refine ⟨⟨S.set i v, by simpa using hS, hr, fun j hj => ?_⟩, Nat.lt_of_lt_of_le hx.lt hn, fun j hj => ?_, fun j k hj hk hne b hb => ?_, fun j hj => ?_⟩
  · by_cases e : j = i
    · subst e
      rw [setF_same, setF_same]
      exact ⟨v, by rw [List.getElem?_set_self (by omega)], ho⟩
    · rw [setF_other _ _ e, setF_other _ _ e]
      obtain ⟨v', g1, g2⟩ := hS2 j hj e
      refine ⟨v', by rw [List.getElem?_set_ne (fun h => e h.symm)]; exact g1, g2.same (fun b hb => ?_) hn⟩
      obtain ⟨_, h2, h3, h4⟩ := hff j hj e b hb
      exact hsm b h3 h2 h4
  · by_cases e : j = i
    · subst e
      rw [setF_same]
      intro hb
      rcases hbs x hb with h1 | h1
      · exact hx.fx j hj h1
      · have := hx.lt; omega
    · rw [setF_other _ _ e]; exact hx.fx j hj
  · by_cases e : j = i
    · subst e
      rw [setF_same] at hb
      rw [setF_other _ _ (fun h => hne h.symm)]
      intro hb2
      exact (hff k hk (fun h => hne h.symm) b hb2).1 hb
    · rw [setF_other _ _ e] at hb
      by_cases e' : k = i
      · subst e'
        rw [setF_same]; exact (hff j hj e b hb).1
      · rw [setF_other _ _ e']; exact hx.ff j k hj hk hne b hb
  · by_cases e : j = i
    · subst e; rw [setF_same]; exact hl
    · rw [setF_other _ _ e]; exact hx.sz j hj
/-- Add of an id that is not there -/
theorem ixadd_ok {n : Nat} (hn : 3 ≤ n) {h : Heap} {x : Nat} {B : Nat → List Int} {F : Nat → List Nat} (hx : IxAt h x B F) {s : List Nat} (hl : s.length ≤ 1000) (hb : Byts s) (id : Int) (hid : id ∉ B (bk s)) (hlen : (B (bk s)).length < 9999) :
    WC (C n (.fn 82) [.ptr (some (x, 0)), .str s, u id] h) fun r h' => r = .int .i64 0 ∧ ∃ bs, IxAt h' x (setF B (bk s) (B (bk s) ++ [id])) (setF F (bk s) bs) ∧ Sm (IxF x F) h h' ∧ ∀ b, b ∈ bs → b ∈ F (bk s) ∨ h.next ≤ b := by
  obtain ⟨m, rfl⟩ : ∃ m, n = m + 1 := ⟨n - 1, by omega⟩
  refine call_fn _ f82A rfl (by simp [fn82]) fun QQ hQ => ?_
  simp only [fn82] at hQ
  simp only [fn82, fill_cons, fill_nil, Nat.zero_add, Nat.reduceAdd]
  obtain ⟨_, h0, ea, rfl, rfl⟩ := ixis_ok (n := m) (by omega) hx
  obtain ⟨hm, eb, sb, _⟩ := Sm.bump h0 7
  have hx' := hx.sm sb (fun _ _ h => h)
  obtain ⟨_, h1, ec, rfl, rfl⟩ := bucket_ok (n := m) (by omega) s hm hl hb
  obtain ⟨S, h2, h3, h4⟩ := hx'.ex
  obtain ⟨v, g1, g2⟩ := h4 (bk s) (bk_lt s)
  have hv : h1.ld1 x (1 + bk s) = some v := by rw [h3.ld1, Nat.add_comm, List.getElem?_cons_succ]; exact g1
  have ec' : C m (.fn 79) [.str s] h1 = some (.int .u8 ((bk s : Nat) : Int), h1) := ec
  obtain ⟨_, h5, ed, e5, rfl⟩ := contains_ok (n := m) (by omega) id g2.els (by omega)
  subst e5
  obtain ⟨h6, e6, r6, n6, q6⟩ := Rw.alloc h5 (id := h5.next) (n := 1) (vs := [u id]) (z := []) (ro := false) (Nat.le_refl _) rfl
  have g6 : SlO 27 1 h6 v (B (bk s)).length ((B (bk s)).map u) (F (bk s)) := g2.same (fun b hb => q6 b (by have := g2.lt b hb; omega)) (by omega)
  have hs6 : srcOf 1 (fun n => n) (.slice (some (h5.next, 0)) 1 1 none) h6 = some ([u id], 1) := srcOf_row r6 (Nat.le_refl _)
  obtain ⟨v7, h7, bs, e7, o7, n7, q7, b7, _⟩ := app_own (t := 43) (id := h6.next) u_43 s_27 b_27 z_27 rfl g6 hs6 (by decide) rfl rfl (room_le (by omega) (by omega)) (Nat.le_refl _)
  have r7 : Rw h7 x (.bool true :: S) [] false := h3.same (by rw [q7 x (hx.fx _ (bk_lt s)) (by have := hx'.lt; omega), q6 x (by have := hx'.lt; omega)])
  obtain ⟨w1, w2, w3, w4⟩ := r7.st1 (o := 1 + bk s) (v := v7) (by simp [h2]; have := bk_lt s; omega) (by rcases o7 with ⟨rfl, _⟩ | ⟨_, _, _, _, rfl, _⟩ <;> rfl)
  simp only [r82_1, r82_4, r82_7, r82_8, r82_6, r82_9, r82_5, r82_3, r82_11, r82_14, r82_17, r82_18, r82_16, r82_19, r82_15, r82_13, r82_21, r82_23, r82_24, r82_22, r82_20, r82_12, r82_10, r82_2, r82_0, ea, eb, ec', x_fa_135_1, x_ia_133 (bk_lt s), Nat.mul_one, hv, ed, hid, x_bs_43_1, e6, e7, w1, ret_seq, ret_seq_ret, ret_seq_exit, ret_blk, ret_blk_ret, ret_blk_exit, ret_nil, gt_same, gt_other, Nat.reduceBEq, gt_leaf, l1_one, l2_two, l3_three, g_loc0, g_locS, g_tmp, g_cst, b_lss, b_leq, b_gtr, b_geq, b_add, b_sub, b_mul, b_eql, b_neq, b_eqlS, b_neqS, u_not, w_true, w_false, eBool_bool, resA_nil, resA_tmp, resA_cell, okP_true, okP_false, tupled_nil, tupled_one, tupled_more, t_nth, m_load, m_loadN, m_store, n_ptr, reduceIte, List.getElem?_cons_zero, List.getElem?_cons_succ, Option.map_some, Bool.not_true, Bool.not_false, decide_true, decide_false, mx_int, mn_int, Nat.add_zero, Nat.zero_add, Nat.reduceEqDiff, Nat.reduceAdd, app'_eq, List.append_nil, List.nil_append, o_bool, o_int, o_str, o_ptr, o_slice, o_map, List.all_cons, List.all_nil, Bool.and_self, box_agg, st_agg, ptrTo, sliceTo, mapTo, List.length_cons, List.length_nil, Nat.mul_one, Nat.zero_mul, Nat.sub_zero, Nat.reduceMul, eq_self]
  refine hQ _ _ _ _ (.inr rfl) (by simp only [ret_seq, ret_seq_ret, ret_seq_exit, ret_blk, ret_blk_ret, ret_blk_exit, ret_nil, gt_same, gt_other, Nat.reduceBEq, gt_leaf, l1_one, l2_two, l3_three, g_loc0, g_locS, g_tmp, g_cst, b_lss, b_leq, b_gtr, b_geq, b_add, b_sub, b_mul, b_eql, b_neq, b_eqlS, b_neqS, u_not, w_true, w_false, eBool_bool, resA_nil, resA_tmp, resA_cell, okP_true, okP_false, tupled_nil, tupled_one, tupled_more, t_nth, m_load, m_loadN, m_store, n_ptr, reduceIte, List.getElem?_cons_zero, List.getElem?_cons_succ, Option.map_some, Bool.not_true, Bool.not_false, decide_true, decide_false, mx_int, mn_int, Nat.add_zero, Nat.zero_add, Nat.reduceEqDiff, Nat.reduceAdd, app'_eq, List.append_nil, List.nil_append, o_bool, o_int, o_str, o_ptr, o_slice, o_map, List.all_cons, List.all_nil, Bool.and_self, box_agg, st_agg, ptrTo, sliceTo, mapTo, List.length_cons, List.length_nil, Nat.mul_one, Nat.zero_mul, Nat.sub_zero, Nat.reduceMul, eq_self]) (by simp only [ret_seq, ret_seq_ret, ret_seq_exit, ret_blk, ret_blk_ret, ret_blk_exit, ret_nil, gt_same, gt_other, Nat.reduceBEq, gt_leaf, l1_one, l2_two, l3_three, g_loc0, g_locS, g_tmp, g_cst, b_lss, b_leq, b_gtr, b_geq, b_add, b_sub, b_mul, b_eql, b_neq, b_eqlS, b_neqS, u_not, w_true, w_false, eBool_bool, resA_nil, resA_tmp, resA_cell, okP_true, okP_false, tupled_nil, tupled_one, tupled_more, t_nth, m_load, m_loadN, m_store, n_ptr, reduceIte, List.getElem?_cons_zero, List.getElem?_cons_succ, Option.map_some, Bool.not_true, Bool.not_false, decide_true, decide_false, mx_int, mn_int, Nat.add_zero, Nat.zero_add, Nat.reduceEqDiff, Nat.reduceAdd, app'_eq, List.append_nil, List.nil_append, o_bool, o_int, o_str, o_ptr, o_slice, o_map, List.all_cons, List.all_nil, Bool.and_self, box_agg, st_agg, ptrTo, sliceTo, mapTo, List.length_cons, List.length_nil, Nat.mul_one, Nat.zero_mul, Nat.sub_zero, Nat.reduceMul, eq_self]; rfl) ?_
  have hbk := bk_lt s
  refine ⟨rfl, bs, ?_, ⟨by omega, fun c hc hF => ?_⟩, fun b hb' => ?_⟩
  · refine hx'.put (h' := h7.wr x (1 + bk s) [v7]) (v := v7) (S := S) hbk h2 (fun j hj _ => h4 j hj) ?_ ?_ ?_ (by omega) ?_ (by simp; omega)
    · rw [show (AV.bool true :: S).set (1 + bk s) v7 = .bool true :: S.set (bk s) v7 from by rw [Nat.add_comm]; rfl] at w2; exact w2
    · have := o7.same (h' := h7.wr x (1 + bk s) [v7]) (fun b hb' => w4 b ?_) (by omega)
      · rw [List.length_append, List.map_append]; exact this
      · rintro rfl
        rcases b7 b hb' with h1 | h1
        · exact hx.fx _ hbk h1
        · have := hx'.lt; omega
    · intro b hb'
      rcases b7 b hb' with h1 | h1
      · exact .inl h1
      · exact .inr (by omega)
    · intro c hc hcx hcF
      rw [w4 c hcx, q7 c hcF (by omega), q6 c (by omega)]
  · have hcx : c ≠ x := fun e => hF (.inl e)
    have hcF : c ∉ F (bk s) := fun e => hF (.inr ⟨_, hbk, e⟩)
    have hc5 : c < h5.next := Nat.lt_of_lt_of_le hc sb.1
    rw [w4 c hcx, q7 c hcF (by omega), q6 c (by omega), sb.2 c hc (fun h => h)]
  · have := sb.1
    rcases b7 b hb' with h1 | h1
    · exact .inl h1
    · exact .inr (by omega)

theorem delete_ok {n : Nat} (hn : 1 ≤ n) {h : Heap} {v : AV} {l i : Nat} {ids : List Int} {bs : List Nat} (ho : SlO 27 1 h v l (ids.map u) bs) (hi : i < l) (hl : l < 90000) :
    WC (C n (.fn 81) [v, .int .i64 (i : Int), .int .i64 ((i + 1 : Nat) : Int)] h) fun r h' => SlO 27 1 h' r (l - 1) ((ids.eraseIdx i).map u) bs ∧ h.next ≤ h'.next ∧ ∀ c, c ∉ bs → c < h.next → h'.bs.gt c = h.bs.gt c := by
  rcases ho with ⟨_, rfl, _, _⟩ | ⟨b, c, rest, z, rfl, h1, h2, h3, h4, h5, rfl, rfl, h8⟩
  · omega
  rw [Nat.mul_one, List.length_map] at h1
  rw [Nat.mul_one, List.length_append, List.length_map] at h2
  obtain ⟨m, rfl⟩ : ∃ m, n = m + 1 := ⟨n - 1, by omega⟩
  refine call_fn _ f81A rfl (by simp [fn81]) fun QQ hQ => ?_
  simp only [fn81] at hQ
  simp only [fn81, fill_cons, fill_nil, Nat.zero_add, Nat.reduceAdd]
  obtain ⟨h9, e9, s9, b9, n9⟩ := Sm.bump h 8
  have r9 : Rw h9 b (ids.map u ++ rest) (tyMark 27 false) false := h4.same (by rw [b9])
  have hsrc : srcOf 1 (fun n => n) (.slice (some (b, i + 1)) (l - (i + 1)) (c - (i + 1)) (some 1)) h9 = some ((ids.drop (i + 1)).map u, l - (i + 1)) := by
    rw [srcOf_row r9 (by rw [List.length_append, List.length_map]; omega), Nat.mul_one, List.drop_append, ← List.map_drop, List.take_append_of_le_length (by simp; omega), List.take_of_length_le (by simp; omega)]
  have hle : (ids.drop (i + 1)).length = l - (i + 1) := by simp; omega
  obtain ⟨ha, ea, ra, na, ga⟩ := app_in (t := 43) (id := h.next + 8) (len := i) (cap := c) (o := 0) (g := some 1) u_43 s_27 b_27 z_27 rfl hsrc (by rw [List.length_map, hle, Nat.mul_one]) (one_map _) (room_le (by omega) (by omega)) r9 (by omega) (by rw [List.length_append, List.length_map, List.length_map, hle]; omega)
  have hlen : i + (l - (i + 1)) = l - 1 := by omega
  rw [hlen] at ea
  have hc1 : putL (ids.map u ++ rest) (0 + i * 1) ((ids.drop (i + 1)).map u) = (ids.eraseIdx i).map u ++ (ids.map u ++ rest).drop (l - 1) := by
    unfold putL
    rw [Nat.zero_add, Nat.mul_one, List.length_map, hle, hlen, ← List.append_assoc, List.eraseIdx_eq_take_drop_succ, List.map_append, List.take_append_of_le_length (by simp; omega), List.map_take]
  rw [hc1] at ra
  have hce : (ids.eraseIdx i).length = l - 1 := by rw [List.length_eraseIdx]; split <;> omega
  have hdl : ((ids.map u ++ rest).drop (l - 1)).length = c - (l - 1) := by simp; omega
  obtain ⟨hb, eb, rb, nb, gb⟩ := clear_sl (t := 43) (o := l - 1) (len := l - (l - 1)) (cap := c - (l - 1)) (g := some 1) u_43 z_27 ra (by rw [List.length_append, List.length_map, hce, hdl]; simp [AV.cells]; omega) rfl
  have hii : ¬ ((i : Int) = ((i + 1 : Nat) : Int)) := by omega
  have q1 := x_sl_43_111 (a := some (b, 0)) (n := l) (g := some 1) (k := .i64) (k' := .i64) (k'' := .i64) h3 (show i + 1 ≤ l by omega) (Nat.le_succ i)
  have q2 := x_sl_43_010 (a := some (b, 0)) (n := l) (c := c) (g := some 1) (k := .i64) rfl (show i ≤ c by omega)
  have q3 := x_sl_43_100 (a := some (b, 0)) (n := l) (c := c) (g := some 1) (k := .i64) rfl (show i + 1 ≤ l by omega)
  have q4 := x_sl_43_110 (a := some (b, 0)) (n := l - 1) (c := c) (g := some 1) (k := .i64) (k' := .i64) rfl h3 (show l - 1 ≤ l by omega)
  simp only [r81_1, r81_3, r81_6, r81_9, r81_10, r81_8, r81_11, r81_7, r81_5, r81_13, r81_15, r81_17, r81_19, r81_20, r81_18, r81_16, r81_14, r81_12, r81_4, r81_2, r81_0, x_len_43, q1, q2, q3, q4, hii, e9, ea, eb, ret_seq, ret_seq_ret, ret_seq_exit, ret_blk, ret_blk_ret, ret_blk_exit, ret_nil, gt_same, gt_other, Nat.reduceBEq, gt_leaf, l1_one, l2_two, l3_three, g_loc0, g_locS, g_tmp, g_cst, b_lss, b_leq, b_gtr, b_geq, b_add, b_sub, b_mul, b_eql, b_neq, b_eqlS, b_neqS, u_not, w_true, w_false, eBool_bool, resA_nil, resA_tmp, resA_cell, okP_true, okP_false, tupled_nil, tupled_one, tupled_more, t_nth, m_load, m_loadN, m_store, n_ptr, reduceIte, List.getElem?_cons_zero, List.getElem?_cons_succ, Option.map_some, Bool.not_true, Bool.not_false, decide_true, decide_false, mx_int, mn_int, Nat.add_zero, Nat.zero_add, Nat.reduceEqDiff, Nat.reduceAdd, app'_eq, List.append_nil, List.nil_append, o_bool, o_int, o_str, o_ptr, o_slice, o_map, List.all_cons, List.all_nil, Bool.and_self, box_agg, st_agg, ptrTo, sliceTo, mapTo, List.length_cons, List.length_nil, Nat.mul_one, Nat.zero_mul, Nat.sub_zero, Nat.reduceMul, eq_self]
  refine hQ _ _ _ _ (.inr rfl) (by simp only [ret_seq, ret_seq_ret, ret_seq_exit, ret_blk, ret_blk_ret, ret_blk_exit, ret_nil, gt_same, gt_other, Nat.reduceBEq, gt_leaf, l1_one, l2_two, l3_three, g_loc0, g_locS, g_tmp, g_cst, b_lss, b_leq, b_gtr, b_geq, b_add, b_sub, b_mul, b_eql, b_neq, b_eqlS, b_neqS, u_not, w_true, w_false, eBool_bool, resA_nil, resA_tmp, resA_cell, okP_true, okP_false, tupled_nil, tupled_one, tupled_more, t_nth, m_load, m_loadN, m_store, n_ptr, reduceIte, List.getElem?_cons_zero, List.getElem?_cons_succ, Option.map_some, Bool.not_true, Bool.not_false, decide_true, decide_false, mx_int, mn_int, Nat.add_zero, Nat.zero_add, Nat.reduceEqDiff, Nat.reduceAdd, app'_eq, List.append_nil, List.nil_append, o_bool, o_int, o_str, o_ptr, o_slice, o_map, List.all_cons, List.all_nil, Bool.and_self, box_agg, st_agg, ptrTo, sliceTo, mapTo, List.length_cons, List.length_nil, Nat.mul_one, Nat.zero_mul, Nat.sub_zero, Nat.reduceMul, eq_self]) (by simp only [ret_seq, ret_seq_ret, ret_seq_exit, ret_blk, ret_blk_ret, ret_blk_exit, ret_nil, gt_same, gt_other, Nat.reduceBEq, gt_leaf, l1_one, l2_two, l3_three, g_loc0, g_locS, g_tmp, g_cst, b_lss, b_leq, b_gtr, b_geq, b_add, b_sub, b_mul, b_eql, b_neq, b_eqlS, b_neqS, u_not, w_true, w_false, eBool_bool, resA_nil, resA_tmp, resA_cell, okP_true, okP_false, tupled_nil, tupled_one, tupled_more, t_nth, m_load, m_loadN, m_store, n_ptr, reduceIte, List.getElem?_cons_zero, List.getElem?_cons_succ, Option.map_some, Bool.not_true, Bool.not_false, decide_true, decide_false, mx_int, mn_int, Nat.add_zero, Nat.zero_add, Nat.reduceEqDiff, Nat.reduceAdd, app'_eq, List.append_nil, List.nil_append, o_bool, o_int, o_str, o_ptr, o_slice, o_map, List.all_cons, List.all_nil, Bool.and_self, box_agg, st_agg, ptrTo, sliceTo, mapTo, List.length_cons, List.length_nil, Nat.mul_one, Nat.zero_mul, Nat.sub_zero, Nat.reduceMul, eq_self]; rfl) ?_
  refine ⟨.inr ⟨b, c, (ids.map u ++ rest).drop l |>.cons (u 0), _, rfl, by rw [List.length_map, hce, Nat.mul_one], ?_, by omega, ?_, by omega, rfl, rfl, one_map _⟩, by omega, fun c' hc' hlt => ?_⟩
  · simp [hce]; omega
  · have : putL ((ids.eraseIdx i).map u ++ (ids.map u ++ rest).drop (l - 1)) (l - 1) (List.replicate (l - (l - 1)) (AV.int IntKind.u32 0).cells).flatten = (ids.eraseIdx i).map u ++ (u 0 :: (ids.map u ++ rest).drop l) := by
      rw [show l - (l - 1) = 1 by omega]
      unfold putL
      rw [List.take_append_of_le_length (by simp [hce]), List.take_of_length_le (by simp [hce])]
      congr 1
      show [u 0] ++ _ = _
      rw [List.singleton_append]
      congr 1
      rw [show (List.replicate 1 (AV.int IntKind.u32 0).cells).flatten.length = 1 from rfl, List.drop_append, List.drop_eq_nil_of_le (by simp [hce]), List.nil_append, List.drop_drop]
      congr 1
      first | omega | (simp [hce]; omega) | simp [hce]
    rw [← this]; exact rb
  · rw [gb c' (fun e => hc' (List.mem_singleton.2 e)), ga c' (fun e => hc' (List.mem_singleton.2 e)), b9]

/-- Drop of an id that is there -/
theorem ixdrop_ok {n : Nat} (hn : 3 ≤ n) {h : Heap} {x : Nat} {B : Nat → List Int} {F : Nat → List Nat} (hx : IxAt h x B F) {s : List Nat} (hl : s.length ≤ 1000) (hb : Byts s) (id : Int) (hid : id ∈ B (bk s)) :
    WC (C n (.fn 55) [.ptr (some (x, 0)), .str s, u id] h) fun r h' => r = .int .i64 0 ∧ ∃ bs i, (B (bk s))[i]? = some id ∧ IxAt h' x (setF B (bk s) ((B (bk s)).eraseIdx i)) (setF F (bk s) bs) ∧ Sm (IxF x F) h h' ∧ ∀ b, b ∈ bs → b ∈ F (bk s) := by
  obtain ⟨m, rfl⟩ : ∃ m, n = m + 1 := ⟨n - 1, by omega⟩
  refine call_fn _ f55A rfl (by simp [fn55]) fun QQ hQ => ?_
  simp only [fn55] at hQ
  simp only [fn55, fill_cons, fill_nil, Nat.zero_add, Nat.reduceAdd]
  obtain ⟨_, h0, ea, rfl, rfl⟩ := ixis_ok (n := m) (by omega) hx
  obtain ⟨hm, eb, sb, _⟩ := Sm.bump h0 7
  have hx' := hx.sm sb (fun _ _ h => h)
  obtain ⟨_, h1, ec, rfl, rfl⟩ := bucket_ok (n := m) (by omega) s hm hl hb
  obtain ⟨S, h2, h3, h4⟩ := hx'.ex
  have hbk := bk_lt s
  obtain ⟨v, g1, g2⟩ := h4 (bk s) hbk
  have hsz := hx.sz _ hbk
  have hv : h1.ld1 x (1 + bk s) = some v := by rw [h3.ld1, Nat.add_comm, List.getElem?_cons_succ]; exact g1
  have ec' : C m (.fn 79) [.str s] h1 = some (.int .u8 ((bk s : Nat) : Int), h1) := ec
  obtain ⟨_, h5, ed, e5, hF⟩ := index_ok (n := m) (by omega) id g2.els (by omega)
  subst e5
  rcases hF with ⟨i, i1, i2, rfl⟩ | ⟨i1, _⟩
  · have hi : i < (B (bk s)).length := (List.getElem?_eq_some_iff.1 i1).1
    obtain ⟨v7, h7, e7, o7, n7, q7⟩ := delete_ok (n := m) (by omega) g2 hi (by omega)
    have e8 : IntKind.i64.wrap ((i : Int) + 1) = ((i + 1 : Nat) : Int) := by rw [wrap_i64 (by omega) (by omega)]; simp
    have hneg : ¬ ((i : Int) < 0) := by omega
    have r7 : Rw h7 x (.bool true :: S) [] false := h3.same (by rw [q7 x (hx.fx _ hbk) hx'.lt])
    obtain ⟨w1, w2, w3, w4⟩ := r7.st1 (o := 1 + bk s) (v := v7) (by simp [h2]; omega) (by rcases o7 with ⟨rfl, _⟩ | ⟨_, _, _, _, rfl, _⟩ <;> rfl)
    simp only [r55_1, r55_4, r55_7, r55_8, r55_6, r55_9, r55_5, r55_3, r55_11, r55_13, r55_16, r55_19, r55_20, r55_18, r55_21, r55_17, r55_15, r55_23, r55_25, r55_26, r55_24, r55_22, r55_14, r55_12, r55_10, r55_2, r55_0, ea, eb, ec', x_fa_135_1, x_ia_133 hbk, hv, ed, hneg, e8, e7, w1, ret_seq, ret_seq_ret, ret_seq_exit, ret_blk, ret_blk_ret, ret_blk_exit, ret_nil, gt_same, gt_other, Nat.reduceBEq, gt_leaf, l1_one, l2_two, l3_three, g_loc0, g_locS, g_tmp, g_cst, b_lss, b_leq, b_gtr, b_geq, b_add, b_sub, b_mul, b_eql, b_neq, b_eqlS, b_neqS, u_not, w_true, w_false, eBool_bool, resA_nil, resA_tmp, resA_cell, okP_true, okP_false, tupled_nil, tupled_one, tupled_more, t_nth, m_load, m_loadN, m_store, n_ptr, reduceIte, List.getElem?_cons_zero, List.getElem?_cons_succ, Option.map_some, Bool.not_true, Bool.not_false, decide_true, decide_false, mx_int, mn_int, Nat.add_zero, Nat.zero_add, Nat.reduceEqDiff, Nat.reduceAdd, app'_eq, List.append_nil, List.nil_append, o_bool, o_int, o_str, o_ptr, o_slice, o_map, List.all_cons, List.all_nil, Bool.and_self, box_agg, st_agg, ptrTo, sliceTo, mapTo, List.length_cons, List.length_nil, Nat.mul_one, Nat.zero_mul, Nat.sub_zero, Nat.reduceMul, eq_self]
    refine hQ _ _ _ _ (.inr rfl) (by simp only [ret_seq, ret_seq_ret, ret_seq_exit, ret_blk, ret_blk_ret, ret_blk_exit, ret_nil, gt_same, gt_other, Nat.reduceBEq, gt_leaf, l1_one, l2_two, l3_three, g_loc0, g_locS, g_tmp, g_cst, b_lss, b_leq, b_gtr, b_geq, b_add, b_sub, b_mul, b_eql, b_neq, b_eqlS, b_neqS, u_not, w_true, w_false, eBool_bool, resA_nil, resA_tmp, resA_cell, okP_true, okP_false, tupled_nil, tupled_one, tupled_more, t_nth, m_load, m_loadN, m_store, n_ptr, reduceIte, List.getElem?_cons_zero, List.getElem?_cons_succ, Option.map_some, Bool.not_true, Bool.not_false, decide_true, decide_false, mx_int, mn_int, Nat.add_zero, Nat.zero_add, Nat.reduceEqDiff, Nat.reduceAdd, app'_eq, List.append_nil, List.nil_append, o_bool, o_int, o_str, o_ptr, o_slice, o_map, List.all_cons, List.all_nil, Bool.and_self, box_agg, st_agg, ptrTo, sliceTo, mapTo, List.length_cons, List.length_nil, Nat.mul_one, Nat.zero_mul, Nat.sub_zero, Nat.reduceMul, eq_self]) (by simp only [ret_seq, ret_seq_ret, ret_seq_exit, ret_blk, ret_blk_ret, ret_blk_exit, ret_nil, gt_same, gt_other, Nat.reduceBEq, gt_leaf, l1_one, l2_two, l3_three, g_loc0, g_locS, g_tmp, g_cst, b_lss, b_leq, b_gtr, b_geq, b_add, b_sub, b_mul, b_eql, b_neq, b_eqlS, b_neqS, u_not, w_true, w_false, eBool_bool, resA_nil, resA_tmp, resA_cell, okP_true, okP_false, tupled_nil, tupled_one, tupled_more, t_nth, m_load, m_loadN, m_store, n_ptr, reduceIte, List.getElem?_cons_zero, List.getElem?_cons_succ, Option.map_some, Bool.not_true, Bool.not_false, decide_true, decide_false, mx_int, mn_int, Nat.add_zero, Nat.zero_add, Nat.reduceEqDiff, Nat.reduceAdd, app'_eq, List.append_nil, List.nil_append, o_bool, o_int, o_str, o_ptr, o_slice, o_map, List.all_cons, List.all_nil, Bool.and_self, box_agg, st_agg, ptrTo, sliceTo, mapTo, List.length_cons, List.length_nil, Nat.mul_one, Nat.zero_mul, Nat.sub_zero, Nat.reduceMul, eq_self]; rfl) ?_
    have hlen : ((B (bk s)).eraseIdx i).length = (B (bk s)).length - 1 := by rw [List.length_eraseIdx]; split <;> omega
    refine ⟨rfl, F (bk s), i, i1, ?_, ⟨by have := sb.1; omega, fun c hc hF => ?_⟩, fun b hb' => hb'⟩
    · refine hx'.put (h' := h7.wr x (1 + bk s) [v7]) (v := v7) (S := S) hbk h2 (fun j hj _ => h4 j hj) ?_ ?_ (fun b hb' => .inl hb') (by omega) ?_ (by omega)
      · rw [show (AV.bool true :: S).set (1 + bk s) v7 = .bool true :: S.set (bk s) v7 from by rw [Nat.add_comm]; rfl] at w2; exact w2
      · rw [hlen]
        exact o7.same (fun b hb' => w4 b (fun e => hx.fx _ hbk (e ▸ hb'))) (by omega)
      · intro c hc hcx hcF
        rw [w4 c hcx, q7 c hcF hc]
    · have hcx : c ≠ x := fun e => hF (.inl e)
      have hcF : c ∉ F (bk s) := fun e => hF (.inr ⟨_, hbk, e⟩)
      rw [w4 c hcx, q7 c hcF (Nat.lt_of_lt_of_le hc sb.1), sb.2 c hc (fun h => h)]
  · obtain ⟨j, hj⟩ := List.getElem?_of_mem hid
    exact absurd hj (i1 j)
end Go.Proofs.Ytlfednnfkejcjaa

namespace Go.Proofs.Ytlfednnfkejcjaa
open Go.Am
set_option maxRecDepth 10000
/-! ### Chunks -/
structure Ch where
  id : Int
  data : List Nat
  block : Int
  refs : Int
def Ch.val (c : Ch) : AV := .agg [.str c.data, .int .i64 c.block, .int .i64 c.refs]
def Ents (es : List MEnt) (L : List Ch) : Prop := es.map (fun e => (e.key, e.val)) = L.map fun c => (u c.id, c.val)
def gtL (L : List Ch) (id : Int) : Option Ch := L.find? fun c => c.id == id
def putC (c : Ch) : List Ch → List Ch
  | [] => [c]
  | d :: L => if d.id == c.id then c :: L else d :: putC c L
def cutC (id : Int) : List Ch → List Ch
  | [] => []
  | d :: L => if d.id == id then L else d :: cutC id L
theorem Ents.nil {es : List MEnt} : Ents es [] ↔ es = [] := by unfold Ents; simp
theorem Ents.cons {es : List MEnt} {c : Ch} {L : List Ch} (h : Ents es (c :: L)) : ∃ e es', es = e :: es' ∧ e.key = u c.id ∧ e.val = c.val ∧ Ents es' L := by
  cases es with
  | nil => cases h
  | cons e es' =>
    unfold Ents at h
    simp only [List.map_cons, List.cons.injEq, Prod.mk.injEq] at h
    exact ⟨e, es', rfl, h.1.1, h.1.2, h.2⟩
theorem Ents.mk {es : List MEnt} {e : MEnt} {c : Ch} {L : List Ch} (h : Ents es L) (h1 : e.key = u c.id) (h2 : e.val = c.val) : Ents (e :: es) (c :: L) := by
  unfold Ents at h ⊢
  rw [List.map_cons, List.map_cons, h, h1, h2]
theorem Ents.all : ∀ {L : List Ch} {es : List MEnt}, Ents es L → AllInt .u32 es
  | [], es, h => by rw [Ents.nil.1 h]; intro e he; cases he
  | c :: L, es, h => by
    obtain ⟨e, es', rfl, h1, _, h3⟩ := h.cons
    intro x hx
    rcases List.mem_cons.1 hx with rfl | hx
    · exact ⟨_, h1⟩
    · exact h3.all x hx
theorem kInt_key {e : MEnt} {n id : Int} (h : e.key = u n) : kInt .u32 id e = (n == id) := by
  unfold kInt; rw [h]
  show (IntKind.u32 == IntKind.u32 && n == id) = _
  rw [show (IntKind.u32 == IntKind.u32) = true from rfl, Bool.true_and]
theorem Ents.len {L : List Ch} {es : List MEnt} (h : Ents es L) : es.length = L.length := by
  have := congrArg List.length h; simpa using this
theorem Ents.find : ∀ {L : List Ch} {es : List MEnt} (_ : Ents es L) (id : Int), (es.find? (kInt .u32 id)).map (·.val) = (gtL L id).map Ch.val
  | [], es, h, id => by rw [Ents.nil.1 h]; rfl
  | c :: L, es, h, id => by
    obtain ⟨e, es', rfl, h1, h2, h3⟩ := h.cons
    unfold gtL
    rw [List.find?_cons, List.find?_cons, kInt_key h1]
    cases c.id == id with
    | true => simp [h2]
    | false => exact h3.find id
theorem Ents.put : ∀ {L : List Ch} {es : List MEnt} (_ : Ents es L) (c : Ch) (k : Nat), Ents (putE .u32 c.id c.val k es) (putC c L)
  | [], es, h, c, k => by rw [Ents.nil.1 h]; rfl
  | d :: L, es, h, c, k => by
    obtain ⟨e, es', rfl, h1, h2, h3⟩ := h.cons
    rw [putE, putC, kInt_key h1]
    cases d.id == c.id with
    | true => exact h3.mk rfl rfl
    | false => exact (h3.put c k).mk h1 h2
theorem Ents.cut : ∀ {L : List Ch} {es : List MEnt} (_ : Ents es L) (id : Int), Ents (cutE .u32 id es) (cutC id L)
  | [], es, h, id => by rw [Ents.nil.1 h]; rfl
  | d :: L, es, h, id => by
    obtain ⟨e, es', rfl, h1, h2, h3⟩ := h.cons
    rw [cutE, cutC, kInt_key h1]
    cases d.id == id with
    | true => exact h3
    | false => exact (h3.cut id).mk h1 h2
section
variable {h : Heap} {mb k : Nat} {es : List MEnt} {L : List Ch} {id : Int} {c : Ch}
theorem Ents.findS (h : Ents es L) (hg : gtL L id = some c) : ∃ x, es.find? (kInt .u32 id) = some x ∧ x.val = c.val := by
  have := h.find id
  rw [hg] at this
  cases he : es.find? (kInt .u32 id) with
  | none => rw [he] at this; cases this
  | some x => rw [he] at this; exact ⟨x, rfl, Option.some.inj this⟩
theorem Ents.findN (h : Ents es L) (hg : gtL L id = none) : es.find? (kInt .u32 id) = none := by
  have := h.find id
  rw [hg] at this
  cases he : es.find? (kInt .u32 id) with
  | none => rfl
  | some x => rw [he] at this; cases this
theorem lkT_some (hb : h.bs.gt mb = some (.map es k)) (he : Ents es L) (hg : gtL L id = some c) : lookup2 P 84 true (.map (some mb)) (u id) h = some (.tuple [c.val, .bool true]) := by
  obtain ⟨x, h1, h2⟩ := he.findS hg
  rw [x_lk_84_true hb he.all, h1]
  show some (AV.tuple [x.val, .bool true]) = _
  rw [h2]
theorem lkF_some (hb : h.bs.gt mb = some (.map es k)) (he : Ents es L) (hg : gtL L id = some c) : lookup2 P 84 false (.map (some mb)) (u id) h = some c.val := by
  obtain ⟨x, h1, h2⟩ := he.findS hg
  rw [x_lk_84_false hb he.all, h1]
  show some x.val = _
  rw [h2]
theorem lkT_none (hb : h.bs.gt mb = some (.map es k)) (he : Ents es L) (hg : gtL L id = none) : lookup2 P 84 true (.map (some mb)) (u id) h = some (.tuple [.agg [.str [], .int .i64 0, .int .i64 0], .bool false]) := by
  rw [x_lk_84_true hb he.all, he.findN hg]; rfl
theorem lkF_none (hb : h.bs.gt mb = some (.map es k)) (he : Ents es L) (hg : gtL L id = none) : lookup2 P 84 false (.map (some mb)) (u id) h = some (.agg [.str [], .int .i64 0, .int .i64 0]) := by
  rw [x_lk_84_false hb he.all, he.findN hg]; rfl
end

/-! ### What holds of a table -/
structure TabOk (L : List Ch) (next : Int) (B : Nat → List Int) : Prop where
  ids : (L.map Ch.id).Nodup
  datas : (L.map Ch.data).Nodup
  ch : ∀ c, c ∈ L → 1 ≤ c.id ∧ c.id < next ∧ 1 ≤ c.data.length ∧ c.data.length ≤ 64 ∧ Byts c.data ∧ 1 ≤ c.refs ∧ c.refs ≤ 65535
  next : 1 ≤ next ∧ next ≤ 4294967295
  inB : ∀ c, c ∈ L → c.id ∈ B (bk c.data)
  ofB : ∀ i, i < 16 → ∀ id, id ∈ B i → ∃ c, c ∈ L ∧ c.id = id ∧ bk c.data = i
  ndB : ∀ i, i < 16 → (B i).Nodup
  len : L.length < 5000
structure TabAt (h : Heap) (tb : Nat) (L : List Ch) (next : Int) (F : Nat → Prop) : Prop where
  ex : ∃ mb x es c B X, Rw h tb [.map (some mb), .ptr (some (x, 0)), u next] [] false ∧ h.bs.gt mb = some (.map es c) ∧ Ents es L ∧ IxAt h x B X ∧ TabOk L next B ∧ mb < h.next ∧ tb ≠ mb ∧ ¬ IxF x X tb ∧ ¬ IxF x X mb ∧ F = fun b => b = tb ∨ b = mb ∨ IxF x X b
  lt : tb < h.next
theorem TabAt.sm {h h' : Heap} {tb : Nat} {L : List Ch} {next : Int} {F G : Nat → Prop} (ht : TabAt h tb L next F) (hs : Sm G h h') (hG : ∀ b, F b → ¬ G b) : TabAt h' tb L next F := by
  obtain ⟨mb, x, es, c, B, X, h1, h2, h3, h4, h5, h6, h7, h8, h9, rfl⟩ := ht.ex
  exact ⟨⟨mb, x, es, c, B, X, h1.sm hs ht.lt (hG tb (.inl rfl)), (hs.2 mb h6 (hG mb (.inr (.inl rfl)))).trans h2, h3, h4.sm hs (fun b hb => hG b (.inr (.inr hb))), h5, Nat.lt_of_lt_of_le h6 hs.1, h7, h8, h9, rfl⟩, Nat.lt_of_lt_of_le ht.lt hs.1⟩
theorem tis_ok {n : Nat} (hn : 1 ≤ n) {h : Heap} {tb : Nat} {L : List Ch} {next : Int} {F : Nat → Prop} (ht : TabAt h tb L next F) : WC (C n (.fn 52) [.ptr (some (tb, 0))] h) fun r h' => h' = h ∧ r = .bool true := by
  obtain ⟨mb, x, es, c, B, X, h1, _⟩ := ht.ex
  obtain ⟨m, rfl⟩ : ∃ m, n = m + 1 := ⟨n - 1, by omega⟩
  refine call_fn _ f52A rfl (by simp [fn52]) fun QQ hQ => ?_
  simp only [fn52] at hQ
  simp only [fn52, fill_cons, fill_nil, Nat.zero_add, Nat.reduceAdd]
  simp only [r52_1, r52_3, r52_4, r52_2, r52_0, x_ne_24, x_fa_87_0, x_ne_84, h1.ld1, Option.isSome_some, ret_seq, ret_seq_ret, ret_seq_exit, ret_blk, ret_blk_ret, ret_blk_exit, ret_nil, gt_same, gt_other, Nat.reduceBEq, gt_leaf, l1_one, l2_two, l3_three, g_loc0, g_locS, g_tmp, g_cst, b_lss, b_leq, b_gtr, b_geq, b_add, b_sub, b_mul, b_eql, b_neq, b_eqlS, b_neqS, u_not, w_true, w_false, eBool_bool, resA_nil, resA_tmp, resA_cell, okP_true, okP_false, tupled_nil, tupled_one, tupled_more, t_nth, m_load, m_loadN, m_store, n_ptr, reduceIte, List.getElem?_cons_zero, List.getElem?_cons_succ, Option.map_some, Bool.not_true, Bool.not_false, decide_true, decide_false, mx_int, mn_int, Nat.add_zero, Nat.zero_add, Nat.reduceEqDiff, Nat.reduceAdd, app'_eq, List.append_nil, List.nil_append, o_bool, o_int, o_str, o_ptr, o_slice, o_map, List.all_cons, List.all_nil, Bool.and_self, box_agg, st_agg, ptrTo, sliceTo, mapTo, List.length_cons, List.length_nil, Nat.mul_one, Nat.zero_mul, Nat.sub_zero, Nat.reduceMul, eq_self]
  refine hQ _ _ _ _ (.inr rfl) (by simp only [ret_seq, ret_seq_ret, ret_seq_exit, ret_blk, ret_blk_ret, ret_blk_exit, ret_nil, gt_same, gt_other, Nat.reduceBEq, gt_leaf, l1_one, l2_two, l3_three, g_loc0, g_locS, g_tmp, g_cst, b_lss, b_leq, b_gtr, b_geq, b_add, b_sub, b_mul, b_eql, b_neq, b_eqlS, b_neqS, u_not, w_true, w_false, eBool_bool, resA_nil, resA_tmp, resA_cell, okP_true, okP_false, tupled_nil, tupled_one, tupled_more, t_nth, m_load, m_loadN, m_store, n_ptr, reduceIte, List.getElem?_cons_zero, List.getElem?_cons_succ, Option.map_some, Bool.not_true, Bool.not_false, decide_true, decide_false, mx_int, mn_int, Nat.add_zero, Nat.zero_add, Nat.reduceEqDiff, Nat.reduceAdd, app'_eq, List.append_nil, List.nil_append, o_bool, o_int, o_str, o_ptr, o_slice, o_map, List.all_cons, List.all_nil, Bool.and_self, box_agg, st_agg, ptrTo, sliceTo, mapTo, List.length_cons, List.length_nil, Nat.mul_one, Nat.zero_mul, Nat.sub_zero, Nat.reduceMul, eq_self]) (by simp only [ret_seq, ret_seq_ret, ret_seq_exit, ret_blk, ret_blk_ret, ret_blk_exit, ret_nil, gt_same, gt_other, Nat.reduceBEq, gt_leaf, l1_one, l2_two, l3_three, g_loc0, g_locS, g_tmp, g_cst, b_lss, b_leq, b_gtr, b_geq, b_add, b_sub, b_mul, b_eql, b_neq, b_eqlS, b_neqS, u_not, w_true, w_false, eBool_bool, resA_nil, resA_tmp, resA_cell, okP_true, okP_false, tupled_nil, tupled_one, tupled_more, t_nth, m_load, m_loadN, m_store, n_ptr, reduceIte, List.getElem?_cons_zero, List.getElem?_cons_succ, Option.map_some, Bool.not_true, Bool.not_false, decide_true, decide_false, mx_int, mn_int, Nat.add_zero, Nat.zero_add, Nat.reduceEqDiff, Nat.reduceAdd, app'_eq, List.append_nil, List.nil_append, o_bool, o_int, o_str, o_ptr, o_slice, o_map, List.all_cons, List.all_nil, Bool.and_self, box_agg, st_agg, ptrTo, sliceTo, mapTo, List.length_cons, List.length_nil, Nat.mul_one, Nat.zero_mul, Nat.sub_zero, Nat.reduceMul, eq_self]; rfl) ?_
  exact ⟨rfl, rfl⟩
theorem count_ok {n : Nat} (hn : 2 ≤ n) {h : Heap} {tb : Nat} {L : List Ch} {next : Int} {F : Nat → Prop} (ht : TabAt h tb L next F) : WC (C n (.fn 39) [.ptr (some (tb, 0))] h) fun r h' => h' = h ∧ r = .int .i64 (L.length : Int) := by
  obtain ⟨mb, x, es, c, B, X, h1, h2, h3, _⟩ := ht.ex
  obtain ⟨m, rfl⟩ : ∃ m, n = m + 1 := ⟨n - 1, by omega⟩
  refine call_fn _ f39A rfl (by simp [fn39]) fun QQ hQ => ?_
  simp only [fn39] at hQ
  simp only [fn39, fill_cons, fill_nil, Nat.zero_add, Nat.reduceAdd]
  obtain ⟨_, h0, ea, rfl, rfl⟩ := tis_ok (n := m) (by omega) ht
  simp only [r39_1, r39_4, r39_7, r39_8, r39_6, r39_9, r39_5, r39_3, r39_11, r39_12, r39_10, r39_2, r39_0, ea, x_fa_87_0, h1.ld1, len_map _ h2, h3.len, ret_seq, ret_seq_ret, ret_seq_exit, ret_blk, ret_blk_ret, ret_blk_exit, ret_nil, gt_same, gt_other, Nat.reduceBEq, gt_leaf, l1_one, l2_two, l3_three, g_loc0, g_locS, g_tmp, g_cst, b_lss, b_leq, b_gtr, b_geq, b_add, b_sub, b_mul, b_eql, b_neq, b_eqlS, b_neqS, u_not, w_true, w_false, eBool_bool, resA_nil, resA_tmp, resA_cell, okP_true, okP_false, tupled_nil, tupled_one, tupled_more, t_nth, m_load, m_loadN, m_store, n_ptr, reduceIte, List.getElem?_cons_zero, List.getElem?_cons_succ, Option.map_some, Bool.not_true, Bool.not_false, decide_true, decide_false, mx_int, mn_int, Nat.add_zero, Nat.zero_add, Nat.reduceEqDiff, Nat.reduceAdd, app'_eq, List.append_nil, List.nil_append, o_bool, o_int, o_str, o_ptr, o_slice, o_map, List.all_cons, List.all_nil, Bool.and_self, box_agg, st_agg, ptrTo, sliceTo, mapTo, List.length_cons, List.length_nil, Nat.mul_one, Nat.zero_mul, Nat.sub_zero, Nat.reduceMul, eq_self]
  refine hQ _ _ _ _ (.inr rfl) (by simp only [ret_seq, ret_seq_ret, ret_seq_exit, ret_blk, ret_blk_ret, ret_blk_exit, ret_nil, gt_same, gt_other, Nat.reduceBEq, gt_leaf, l1_one, l2_two, l3_three, g_loc0, g_locS, g_tmp, g_cst, b_lss, b_leq, b_gtr, b_geq, b_add, b_sub, b_mul, b_eql, b_neq, b_eqlS, b_neqS, u_not, w_true, w_false, eBool_bool, resA_nil, resA_tmp, resA_cell, okP_true, okP_false, tupled_nil, tupled_one, tupled_more, t_nth, m_load, m_loadN, m_store, n_ptr, reduceIte, List.getElem?_cons_zero, List.getElem?_cons_succ, Option.map_some, Bool.not_true, Bool.not_false, decide_true, decide_false, mx_int, mn_int, Nat.add_zero, Nat.zero_add, Nat.reduceEqDiff, Nat.reduceAdd, app'_eq, List.append_nil, List.nil_append, o_bool, o_int, o_str, o_ptr, o_slice, o_map, List.all_cons, List.all_nil, Bool.and_self, box_agg, st_agg, ptrTo, sliceTo, mapTo, List.length_cons, List.length_nil, Nat.mul_one, Nat.zero_mul, Nat.sub_zero, Nat.reduceMul, eq_self]) (by simp only [ret_seq, ret_seq_ret, ret_seq_exit, ret_blk, ret_blk_ret, ret_blk_exit, ret_nil, gt_same, gt_other, Nat.reduceBEq, gt_leaf, l1_one, l2_two, l3_three, g_loc0, g_locS, g_tmp, g_cst, b_lss, b_leq, b_gtr, b_geq, b_add, b_sub, b_mul, b_eql, b_neq, b_eqlS, b_neqS, u_not, w_true, w_false, eBool_bool, resA_nil, resA_tmp, resA_cell, okP_true, okP_false, tupled_nil, tupled_one, tupled_more, t_nth, m_load, m_loadN, m_store, n_ptr, reduceIte, List.getElem?_cons_zero, List.getElem?_cons_succ, Option.map_some, Bool.not_true, Bool.not_false, decide_true, decide_false, mx_int, mn_int, Nat.add_zero, Nat.zero_add, Nat.reduceEqDiff, Nat.reduceAdd, app'_eq, List.append_nil, List.nil_append, o_bool, o_int, o_str, o_ptr, o_slice, o_map, List.all_cons, List.all_nil, Bool.and_self, box_agg, st_agg, ptrTo, sliceTo, mapTo, List.length_cons, List.length_nil, Nat.mul_one, Nat.zero_mul, Nat.sub_zero, Nat.reduceMul, eq_self]; rfl) ?_
  exact ⟨rfl, rfl⟩

def zCh : AV := .agg [.str [], .int .i64 0, .int .i64 0]
theorem tfind_ok {n : Nat} (hn : 2 ≤ n) {h : Heap} {tb : Nat} {L : List Ch} {next : Int} {F : Nat → Prop} (ht : TabAt h tb L next F) (id : Int) : WC (C n (.fn 54) [.ptr (some (tb, 0)), u id] h) fun r h' => Sm NoB h h' ∧ r = match gtL L id with
    | some c => .tuple [c.val, .int .i64 0]
    | none => .tuple [zCh, .int .i64 5] := by
  obtain ⟨mb, x, es, c, B, X, h1, h2, h3, _, _, hmb, _⟩ := ht.ex
  obtain ⟨m, rfl⟩ : ∃ m, n = m + 1 := ⟨n - 1, by omega⟩
  refine call_fn _ f54A rfl (by simp [fn54]) fun QQ hQ => ?_
  simp only [fn54] at hQ
  simp only [fn54, fill_cons, fill_nil, Nat.zero_add, Nat.reduceAdd]
  obtain ⟨h5, e5, r5, n5, g5⟩ := Rw.alloc h (id := h.next) (n := 3) (vs := [.str [], .int .i64 0, .int .i64 0]) (z := tyMark 91 true) (ro := false) (Nat.le_refl _) rfl
  have s5 : Sm NoB h h5 := ⟨by omega, fun c hc _ => g5 c (by omega)⟩
  have ht5 := ht.sm s5 (fun _ _ h => h)
  have h0' : h5.bs.gt mb = some (.map es c) := (g5 mb (by omega)).trans h2
  have r1 : Rw h5 tb [.map (some mb), .ptr (some (x, 0)), u next] [] false := h1.sm s5 ht.lt (fun h => h)
  obtain ⟨_, h0, ea, rfl, rfl⟩ := tis_ok (n := m) (by omega) ht5
  obtain ⟨h6, e6, r6, n6, g6⟩ := Rw.alloc h0 (id := h0.next) (n := 3) (vs := [.str [], .int .i64 0, .int .i64 0]) (z := tyMark 91 true) (ro := false) (Nat.le_refl _) rfl
  have rc : resC P 91 = loadN 3 := by kernel_rfl
  have key : ∀ us : List AV, us.length = 3 → us.all AV.one = true → ∀ ws : List AV, ws.length = 3 → ws.all AV.one = true → ∃ h7 h8, h6.sto h0.next 0 us = some h7 ∧ h7.ld h0.next 0 3 = some us ∧ h7.sto h.next 0 ws = some h8 ∧ h8.ld h.next 0 3 = some ws ∧ Sm NoB h h8 := by
    intro us hu1 hu2 ws hw1 hw2
    obtain ⟨w1, w2, w3, w4⟩ := r6.sto (o := 0) (us := us) (by simp [hu1]) hu2
    have r7 : Rw (h6.wr h0.next 0 us) h.next [.str [], .int .i64 0, .int .i64 0] (tyMark 91 true) false := r5.same (by rw [w4 _ (by omega), g6 _ (by omega)])
    obtain ⟨v1, v2, v3, v4⟩ := r7.sto (o := 0) (us := ws) (by simp [hw1]) hw2
    have full : ∀ (l us : List AV), l.length = 3 → us.length = 3 → putL l 0 us = us := by
      intro l us h1 h2
      unfold putL
      rw [List.take_zero, List.nil_append, Nat.zero_add, h2, List.drop_eq_nil_of_le (by omega), List.append_nil]
    rw [full _ _ rfl hu1] at w2
    rw [full _ _ rfl hw1] at v2
    refine ⟨_, _, w1, ?_, v1, ?_, ⟨by omega, fun c hc _ => ?_⟩⟩
    · rw [w2.ld (by omega), List.drop_zero, List.take_of_length_le (by omega)]
    · rw [v2.ld (by omega), List.drop_zero, List.take_of_length_le (by omega)]
    · rw [v4 c (by omega), w4 c (by omega), g6 c (by omega), g5 c (Nat.ne_of_lt hc)]
  cases hg : gtL L id with
  | none =>
    obtain ⟨h7, h8, k1, k2, k3, k4, k5⟩ := key [.str [], .int .i64 0, .int .i64 0] rfl rfl [.str [], .int .i64 0, .int .i64 0] rfl rfl
    simp only [r54_1, r54_4, r54_7, r54_8, r54_6, r54_9, r54_5, r54_3, r54_11, r54_14, r54_17, r54_18, r54_16, r54_19, r54_15, r54_13, r54_21, r54_22, r54_20, r54_12, r54_10, r54_2, r54_0, x_al_91, e5, ea, x_fa_87_0, r1.ld1, lkT_none h0' h3 hg, e6, x_bd_91_, k1, k3, ret_seq, ret_seq_ret, ret_seq_exit, ret_blk, ret_blk_ret, ret_blk_exit, ret_nil, gt_same, gt_other, Nat.reduceBEq, gt_leaf, l1_one, l2_two, l3_three, g_loc0, g_locS, g_tmp, g_cst, b_lss, b_leq, b_gtr, b_geq, b_add, b_sub, b_mul, b_eql, b_neq, b_eqlS, b_neqS, u_not, w_true, w_false, eBool_bool, resA_nil, resA_tmp, resA_cell, okP_true, okP_false, tupled_nil, tupled_one, tupled_more, t_nth, m_load, m_loadN, m_store, n_ptr, reduceIte, List.getElem?_cons_zero, List.getElem?_cons_succ, Option.map_some, Bool.not_true, Bool.not_false, decide_true, decide_false, mx_int, mn_int, Nat.add_zero, Nat.zero_add, Nat.reduceEqDiff, Nat.reduceAdd, app'_eq, List.append_nil, List.nil_append, o_bool, o_int, o_str, o_ptr, o_slice, o_map, List.all_cons, List.all_nil, Bool.and_self, box_agg, st_agg, ptrTo, sliceTo, mapTo, List.length_cons, List.length_nil, Nat.mul_one, Nat.zero_mul, Nat.sub_zero, Nat.reduceMul, eq_self]
    refine hQ _ _ _ _ (.inr rfl) (by simp only [ret_seq, ret_seq_ret, ret_seq_exit, ret_blk, ret_blk_ret, ret_blk_exit, ret_nil, gt_same, gt_other, Nat.reduceBEq, gt_leaf, l1_one, l2_two, l3_three, g_loc0, g_locS, g_tmp, g_cst, b_lss, b_leq, b_gtr, b_geq, b_add, b_sub, b_mul, b_eql, b_neq, b_eqlS, b_neqS, u_not, w_true, w_false, eBool_bool, resA_nil, resA_tmp, resA_cell, okP_true, okP_false, tupled_nil, tupled_one, tupled_more, t_nth, m_load, m_loadN, m_store, n_ptr, reduceIte, List.getElem?_cons_zero, List.getElem?_cons_succ, Option.map_some, Bool.not_true, Bool.not_false, decide_true, decide_false, mx_int, mn_int, Nat.add_zero, Nat.zero_add, Nat.reduceEqDiff, Nat.reduceAdd, app'_eq, List.append_nil, List.nil_append, o_bool, o_int, o_str, o_ptr, o_slice, o_map, List.all_cons, List.all_nil, Bool.and_self, box_agg, st_agg, ptrTo, sliceTo, mapTo, List.length_cons, List.length_nil, Nat.mul_one, Nat.zero_mul, Nat.sub_zero, Nat.reduceMul, eq_self]) (by simp only [ret_seq, ret_seq_ret, ret_seq_exit, ret_blk, ret_blk_ret, ret_blk_exit, ret_nil, gt_same, gt_other, Nat.reduceBEq, gt_leaf, l1_one, l2_two, l3_three, g_loc0, g_locS, g_tmp, g_cst, b_lss, b_leq, b_gtr, b_geq, b_add, b_sub, b_mul, b_eql, b_neq, b_eqlS, b_neqS, u_not, w_true, w_false, eBool_bool, resA_nil, resA_tmp, resA_cell, okP_true, okP_false, tupled_nil, tupled_one, tupled_more, t_nth, m_load, m_loadN, m_store, n_ptr, reduceIte, List.getElem?_cons_zero, List.getElem?_cons_succ, Option.map_some, Bool.not_true, Bool.not_false, decide_true, decide_false, mx_int, mn_int, Nat.add_zero, Nat.zero_add, Nat.reduceEqDiff, Nat.reduceAdd, app'_eq, List.append_nil, List.nil_append, o_bool, o_int, o_str, o_ptr, o_slice, o_map, List.all_cons, List.all_nil, Bool.and_self, box_agg, st_agg, ptrTo, sliceTo, mapTo, List.length_cons, List.length_nil, Nat.mul_one, Nat.zero_mul, Nat.sub_zero, Nat.reduceMul, eq_self, rc, k4]; rfl) ?_
    exact ⟨k5, by rw [hg]; rfl⟩
  | some ch =>
    obtain ⟨h7, h8, k1, k2, k3, k4, k5⟩ := key [.str ch.data, .int .i64 ch.block, .int .i64 ch.refs] rfl rfl [.str ch.data, .int .i64 ch.block, .int .i64 ch.refs] rfl rfl
    have hl := lkT_some h0' h3 hg
    unfold Ch.val at hl
    simp only [r54_1, r54_4, r54_7, r54_8, r54_6, r54_9, r54_5, r54_3, r54_11, r54_14, r54_17, r54_18, r54_16, r54_19, r54_15, r54_13, r54_21, r54_22, r54_20, r54_12, r54_10, r54_2, r54_0, x_al_91, e5, ea, x_fa_87_0, r1.ld1, hl, e6, k1, k2, k3, ret_seq, ret_seq_ret, ret_seq_exit, ret_blk, ret_blk_ret, ret_blk_exit, ret_nil, gt_same, gt_other, Nat.reduceBEq, gt_leaf, l1_one, l2_two, l3_three, g_loc0, g_locS, g_tmp, g_cst, b_lss, b_leq, b_gtr, b_geq, b_add, b_sub, b_mul, b_eql, b_neq, b_eqlS, b_neqS, u_not, w_true, w_false, eBool_bool, resA_nil, resA_tmp, resA_cell, okP_true, okP_false, tupled_nil, tupled_one, tupled_more, t_nth, m_load, m_loadN, m_store, n_ptr, reduceIte, List.getElem?_cons_zero, List.getElem?_cons_succ, Option.map_some, Bool.not_true, Bool.not_false, decide_true, decide_false, mx_int, mn_int, Nat.add_zero, Nat.zero_add, Nat.reduceEqDiff, Nat.reduceAdd, app'_eq, List.append_nil, List.nil_append, o_bool, o_int, o_str, o_ptr, o_slice, o_map, List.all_cons, List.all_nil, Bool.and_self, box_agg, st_agg, ptrTo, sliceTo, mapTo, List.length_cons, List.length_nil, Nat.mul_one, Nat.zero_mul, Nat.sub_zero, Nat.reduceMul, eq_self]
    refine hQ _ _ _ _ (.inr rfl) (by simp only [ret_seq, ret_seq_ret, ret_seq_exit, ret_blk, ret_blk_ret, ret_blk_exit, ret_nil, gt_same, gt_other, Nat.reduceBEq, gt_leaf, l1_one, l2_two, l3_three, g_loc0, g_locS, g_tmp, g_cst, b_lss, b_leq, b_gtr, b_geq, b_add, b_sub, b_mul, b_eql, b_neq, b_eqlS, b_neqS, u_not, w_true, w_false, eBool_bool, resA_nil, resA_tmp, resA_cell, okP_true, okP_false, tupled_nil, tupled_one, tupled_more, t_nth, m_load, m_loadN, m_store, n_ptr, reduceIte, List.getElem?_cons_zero, List.getElem?_cons_succ, Option.map_some, Bool.not_true, Bool.not_false, decide_true, decide_false, mx_int, mn_int, Nat.add_zero, Nat.zero_add, Nat.reduceEqDiff, Nat.reduceAdd, app'_eq, List.append_nil, List.nil_append, o_bool, o_int, o_str, o_ptr, o_slice, o_map, List.all_cons, List.all_nil, Bool.and_self, box_agg, st_agg, ptrTo, sliceTo, mapTo, List.length_cons, List.length_nil, Nat.mul_one, Nat.zero_mul, Nat.sub_zero, Nat.reduceMul, eq_self]) (by simp only [ret_seq, ret_seq_ret, ret_seq_exit, ret_blk, ret_blk_ret, ret_blk_exit, ret_nil, gt_same, gt_other, Nat.reduceBEq, gt_leaf, l1_one, l2_two, l3_three, g_loc0, g_locS, g_tmp, g_cst, b_lss, b_leq, b_gtr, b_geq, b_add, b_sub, b_mul, b_eql, b_neq, b_eqlS, b_neqS, u_not, w_true, w_false, eBool_bool, resA_nil, resA_tmp, resA_cell, okP_true, okP_false, tupled_nil, tupled_one, tupled_more, t_nth, m_load, m_loadN, m_store, n_ptr, reduceIte, List.getElem?_cons_zero, List.getElem?_cons_succ, Option.map_some, Bool.not_true, Bool.not_false, decide_true, decide_false, mx_int, mn_int, Nat.add_zero, Nat.zero_add, Nat.reduceEqDiff, Nat.reduceAdd, app'_eq, List.append_nil, List.nil_append, o_bool, o_int, o_str, o_ptr, o_slice, o_map, List.all_cons, List.all_nil, Bool.and_self, box_agg, st_agg, ptrTo, sliceTo, mapTo, List.length_cons, List.length_nil, Nat.mul_one, Nat.zero_mul, Nat.sub_zero, Nat.reduceMul, eq_self, rc, k4]; rfl) ?_
    exact ⟨k5, by rw [hg]; rfl⟩

/-! ### Plain facts of lists of chunks -/
def fdL (L : List Ch) (d : List Nat) : Option Ch := L.find? fun c => c.data == d
theorem gt_some {L : List Ch} {id : Int} {c : Ch} (h : gtL L id = some c) : c ∈ L ∧ c.id = id := by
  have h1 := List.find?_some h
  exact ⟨List.mem_of_find?_eq_some h, by simpa using h1⟩
theorem gt_none {L : List Ch} {id : Int} (h : gtL L id = none) : ∀ c, c ∈ L → c.id ≠ id := by
  intro c hc e
  have := List.find?_eq_none.1 h c hc
  simp [e] at this
theorem fd_some {L : List Ch} {d : List Nat} {c : Ch} (h : fdL L d = some c) : c ∈ L ∧ c.data = d := by
  have h1 := List.find?_some h
  exact ⟨List.mem_of_find?_eq_some h, by simpa using h1⟩
theorem fd_none {L : List Ch} {d : List Nat} (h : fdL L d = none) : ∀ c, c ∈ L → c.data ≠ d := by
  intro c hc e
  have := List.find?_eq_none.1 h c hc
  simp [e] at this
theorem nodup_inj {α β : Type} {f : α → β} : ∀ {L : List α}, (L.map f).Nodup → ∀ {c d : α}, c ∈ L → d ∈ L → f c = f d → c = d
  | [], _, c, d, hc, _, _ => by cases hc
  | a :: L, hn, c, d, hc, hd, he => by
    rw [List.map_cons, List.nodup_cons] at hn
    rcases List.mem_cons.1 hc with rfl | hc'
    · rcases List.mem_cons.1 hd with rfl | hd'
      · rfl
      · exact absurd (List.mem_map.2 ⟨d, hd', he.symm⟩) hn.1
    · rcases List.mem_cons.1 hd with rfl | hd'
      · exact absurd (List.mem_map.2 ⟨c, hc', he⟩) hn.1
      · exact nodup_inj hn.2 hc' hd' he
theorem gt_mem {L : List Ch} (hn : (L.map Ch.id).Nodup) {c : Ch} (hc : c ∈ L) : gtL L c.id = some c := by
  cases hg : gtL L c.id with
  | none => exact absurd rfl (gt_none hg c hc)
  | some d =>
    obtain ⟨h1, h2⟩ := gt_some hg
    rw [nodup_inj hn h1 hc h2]
theorem fd_mem {L : List Ch} (hn : (L.map Ch.data).Nodup) {c : Ch} (hc : c ∈ L) : fdL L c.data = some c := by
  cases hg : fdL L c.data with
  | none => exact absurd rfl (fd_none hg c hc)
  | some d =>
    obtain ⟨h1, h2⟩ := fd_some hg
    rw [nodup_inj hn h1 hc h2]
theorem tFind_ok {n : Nat} (hn : 4 ≤ n) {h : Heap} {tb : Nat} {L : List Ch} {next : Int} {F : Nat → Prop} (ht : TabAt h tb L next F) {s : List Nat} (hl : s.length ≤ 1000) (hb : Byts s) : WC (C n (.fn 14) [.ptr (some (tb, 0)), .str s] h) fun r h' => Sm NoB h h' ∧ r = match fdL L s with
    | some c => .tuple [u c.id, .bool true]
    | none => .tuple [u 0, .bool false] := by
  obtain ⟨mb, x, es, c, B, X, h1, h2, h3, h4, h5, hmb, _⟩ := ht.ex
  obtain ⟨m, rfl⟩ : ∃ m, n = m + 1 := ⟨n - 1, by omega⟩
  refine call_fn _ f14A rfl (by simp [fn14]) fun QQ hQ => ?_
  simp only [fn14] at hQ
  simp only [fn14, fill_cons, fill_nil, Nat.zero_add, Nat.reduceAdd]
  obtain ⟨_, h0, ea, rfl, rfl⟩ := tis_ok (n := m) (by omega) ht
  obtain ⟨v, h6, eb, hv, s6⟩ := ixfind_ok (n := m) (by omega) h4 hl hb
  have hbk := bk_lt s
  have hsz := h4.sz _ hbk
  obtain ⟨hlen, a, cp, g, rfl, _⟩ := id hv
  have h2' : h6.bs.gt mb = some (.map es c) := (s6.2 mb hmb (fun h => h)).trans h2
  have r1 : Rw h6 tb [.map (some mb), .ptr (some (x, 0)), u next] [] false := h1.sm s6 ht.lt (fun h => h)
  simp only [r14_1, r14_4, r14_7, r14_8, r14_6, r14_9, r14_5, r14_3, r14_12, r14_16, r14_19, r14_20, r14_18, r14_24, r14_26, r14_29, r14_30, r14_28, r14_31, r14_27, r14_25, r14_23, r14_22, r14_32, r14_21, r14_17, r14_15, r14_13, r14_11, r14_34, r14_35, r14_33, r14_10, r14_2, r14_0, ea, x_fa_87_1, h1.ld1, eb, x_len_43, ret_seq, ret_seq_ret, ret_seq_exit, ret_blk, ret_blk_ret, ret_blk_exit, ret_nil, gt_same, gt_other, Nat.reduceBEq, gt_leaf, l1_one, l2_two, l3_three, g_loc0, g_locS, g_tmp, g_cst, b_lss, b_leq, b_gtr, b_geq, b_add, b_sub, b_mul, b_eql, b_neq, b_eqlS, b_neqS, u_not, w_true, w_false, eBool_bool, resA_nil, resA_tmp, resA_cell, okP_true, okP_false, tupled_nil, tupled_one, tupled_more, t_nth, m_load, m_loadN, m_store, n_ptr, reduceIte, List.getElem?_cons_zero, List.getElem?_cons_succ, Option.map_some, Bool.not_true, Bool.not_false, decide_true, decide_false, mx_int, mn_int, Nat.add_zero, Nat.zero_add, Nat.reduceEqDiff, Nat.reduceAdd, app'_eq, List.append_nil, List.nil_append, o_bool, o_int, o_str, o_ptr, o_slice, o_map, List.all_cons, List.all_nil, Bool.and_self, box_agg, st_agg, ptrTo, sliceTo, mapTo, List.length_cons, List.length_nil, Nat.mul_one, Nat.zero_mul, Nat.sub_zero, Nat.reduceMul, eq_self]
  refine run_loop (c := c14_15) (I := fun k tm' h' => ∃ i, i ≤ (B (bk s)).length ∧ k = (B (bk s)).length - i ∧ h' = h6 ∧ (∀ (j : Nat) id c, j < i → (B (bk s))[j]? = some id → gtL L id = some c → c.data ≠ s) ∧ tm'.gt 0 = some (.ptr (some (tb, 0))) ∧ tm'.gt 1 = some (.str s) ∧ tm'.gt 16 = some (.slice a (B (bk s)).length cp g) ∧ tm'.gt 17 = some (.int .i64 ((B (bk s)).length : Int)) ∧ tm'.gt 18 = some (.int .i64 (i : Int)) ∧ tm'.gt 33 = none) (n := (B (bk s)).length)
    ⟨0, by simp [gt_same, gt_other, gt_leaf]⟩ (by omega) ?_
  rintro _ tm h9 ⟨i, hi, rfl, rfl, hno, t0, t1, t16, t17, t18, t33⟩ Q1 hN hE
  by_cases hlt : i < (B (bk s)).length
  · obtain ⟨b, o, rfl, hcell⟩ := hv.cell (by omega)
    have hc := hcell i (by omega)
    have hx : (B (bk s))[i]? = some (B (bk s))[i] := List.getElem?_eq_getElem (by omega)
    rw [List.getElem?_map, hx, Option.map_some] at hc
    obtain ⟨ch, c1, c2, c3⟩ := h5.ofB _ hbk _ (List.mem_of_getElem? hx)
    have hg := gt_mem h5.ids c1
    rw [c2] at hg
    have hlk := lkF_some h2' h3 hg
    unfold Ch.val at hlk
    by_cases he : ch.data = s
    · simp only [r14_1, r14_4, r14_7, r14_8, r14_6, r14_9, r14_5, r14_3, r14_12, r14_16, r14_19, r14_20, r14_18, r14_24, r14_26, r14_29, r14_30, r14_28, r14_31, r14_27, r14_25, r14_23, r14_22, r14_32, r14_21, r14_17, r14_15, r14_13, r14_11, r14_34, r14_35, r14_33, r14_10, r14_2, r14_0, x_ia_43 hlt, x_fa_87_0, r1.ld1, hlk, x_fd_91_0, t0, t1, t16, t17, t18, t33, ret_seq, ret_seq_ret, ret_seq_exit, ret_blk, ret_blk_ret, ret_blk_exit, ret_nil, gt_same, gt_other, Nat.reduceBEq, gt_leaf, l1_one, l2_two, l3_three, g_loc0, g_locS, g_tmp, g_cst, b_lss, b_leq, b_gtr, b_geq, b_add, b_sub, b_mul, b_eql, b_neq, b_eqlS, b_neqS, u_not, w_true, w_false, eBool_bool, resA_nil, resA_tmp, resA_cell, okP_true, okP_false, tupled_nil, tupled_one, tupled_more, t_nth, m_load, m_loadN, m_store, n_ptr, reduceIte, List.getElem?_cons_zero, List.getElem?_cons_succ, Option.map_some, Bool.not_true, Bool.not_false, decide_true, decide_false, mx_int, mn_int, Nat.add_zero, Nat.zero_add, Nat.reduceEqDiff, Nat.reduceAdd, app'_eq, List.append_nil, List.nil_append, o_bool, o_int, o_str, o_ptr, o_slice, o_map, List.all_cons, List.all_nil, Bool.and_self, box_agg, st_agg, ptrTo, sliceTo, mapTo, List.length_cons, List.length_nil, Nat.mul_one, Nat.zero_mul, Nat.sub_zero, Nat.reduceMul, eq_self, Int.ofNat_lt, hlt, hc, he]
      refine hE _ _ _ (by simp) ?_
      simp only [ret_seq, ret_seq_ret, ret_seq_exit, ret_blk, ret_blk_ret, ret_blk_exit, ret_nil, gt_same, gt_other, Nat.reduceBEq, gt_leaf, l1_one, l2_two, l3_three, g_loc0, g_locS, g_tmp, g_cst, b_lss, b_leq, b_gtr, b_geq, b_add, b_sub, b_mul, b_eql, b_neq, b_eqlS, b_neqS, u_not, w_true, w_false, eBool_bool, resA_nil, resA_tmp, resA_cell, okP_true, okP_false, tupled_nil, tupled_one, tupled_more, t_nth, m_load, m_loadN, m_store, n_ptr, reduceIte, List.getElem?_cons_zero, List.getElem?_cons_succ, Option.map_some, Bool.not_true, Bool.not_false, decide_true, decide_false, mx_int, mn_int, Nat.add_zero, Nat.zero_add, Nat.reduceEqDiff, Nat.reduceAdd, app'_eq, List.append_nil, List.nil_append, o_bool, o_int, o_str, o_ptr, o_slice, o_map, List.all_cons, List.all_nil, Bool.and_self, box_agg, st_agg, ptrTo, sliceTo, mapTo, List.length_cons, List.length_nil, Nat.mul_one, Nat.zero_mul, Nat.sub_zero, Nat.reduceMul, eq_self]
      refine hQ _ _ _ _ (.inr rfl) (by simp only [ret_seq, ret_seq_ret, ret_seq_exit, ret_blk, ret_blk_ret, ret_blk_exit, ret_nil, gt_same, gt_other, Nat.reduceBEq, gt_leaf, l1_one, l2_two, l3_three, g_loc0, g_locS, g_tmp, g_cst, b_lss, b_leq, b_gtr, b_geq, b_add, b_sub, b_mul, b_eql, b_neq, b_eqlS, b_neqS, u_not, w_true, w_false, eBool_bool, resA_nil, resA_tmp, resA_cell, okP_true, okP_false, tupled_nil, tupled_one, tupled_more, t_nth, m_load, m_loadN, m_store, n_ptr, reduceIte, List.getElem?_cons_zero, List.getElem?_cons_succ, Option.map_some, Bool.not_true, Bool.not_false, decide_true, decide_false, mx_int, mn_int, Nat.add_zero, Nat.zero_add, Nat.reduceEqDiff, Nat.reduceAdd, app'_eq, List.append_nil, List.nil_append, o_bool, o_int, o_str, o_ptr, o_slice, o_map, List.all_cons, List.all_nil, Bool.and_self, box_agg, st_agg, ptrTo, sliceTo, mapTo, List.length_cons, List.length_nil, Nat.mul_one, Nat.zero_mul, Nat.sub_zero, Nat.reduceMul, eq_self, t33]) (by simp only [ret_seq, ret_seq_ret, ret_seq_exit, ret_blk, ret_blk_ret, ret_blk_exit, ret_nil, gt_same, gt_other, Nat.reduceBEq, gt_leaf, l1_one, l2_two, l3_three, g_loc0, g_locS, g_tmp, g_cst, b_lss, b_leq, b_gtr, b_geq, b_add, b_sub, b_mul, b_eql, b_neq, b_eqlS, b_neqS, u_not, w_true, w_false, eBool_bool, resA_nil, resA_tmp, resA_cell, okP_true, okP_false, tupled_nil, tupled_one, tupled_more, t_nth, m_load, m_loadN, m_store, n_ptr, reduceIte, List.getElem?_cons_zero, List.getElem?_cons_succ, Option.map_some, Bool.not_true, Bool.not_false, decide_true, decide_false, mx_int, mn_int, Nat.add_zero, Nat.zero_add, Nat.reduceEqDiff, Nat.reduceAdd, app'_eq, List.append_nil, List.nil_append, o_bool, o_int, o_str, o_ptr, o_slice, o_map, List.all_cons, List.all_nil, Bool.and_self, box_agg, st_agg, ptrTo, sliceTo, mapTo, List.length_cons, List.length_nil, Nat.mul_one, Nat.zero_mul, Nat.sub_zero, Nat.reduceMul, eq_self]; rfl) ?_
      refine ⟨s6, ?_⟩
      have hf := fd_mem h5.datas c1
      rw [he] at hf
      rw [hf, ← c2]; rfl
    · simp only [r14_1, r14_4, r14_7, r14_8, r14_6, r14_9, r14_5, r14_3, r14_12, r14_16, r14_19, r14_20, r14_18, r14_24, r14_26, r14_29, r14_30, r14_28, r14_31, r14_27, r14_25, r14_23, r14_22, r14_32, r14_21, r14_17, r14_15, r14_13, r14_11, r14_34, r14_35, r14_33, r14_10, r14_2, r14_0, x_ia_43 hlt, x_fa_87_0, r1.ld1, hlk, x_fd_91_0, t0, t1, t16, t17, t18, t33, ret_seq, ret_seq_ret, ret_seq_exit, ret_blk, ret_blk_ret, ret_blk_exit, ret_nil, gt_same, gt_other, Nat.reduceBEq, gt_leaf, l1_one, l2_two, l3_three, g_loc0, g_locS, g_tmp, g_cst, b_lss, b_leq, b_gtr, b_geq, b_add, b_sub, b_mul, b_eql, b_neq, b_eqlS, b_neqS, u_not, w_true, w_false, eBool_bool, resA_nil, resA_tmp, resA_cell, okP_true, okP_false, tupled_nil, tupled_one, tupled_more, t_nth, m_load, m_loadN, m_store, n_ptr, reduceIte, List.getElem?_cons_zero, List.getElem?_cons_succ, Option.map_some, Bool.not_true, Bool.not_false, decide_true, decide_false, mx_int, mn_int, Nat.add_zero, Nat.zero_add, Nat.reduceEqDiff, Nat.reduceAdd, app'_eq, List.append_nil, List.nil_append, o_bool, o_int, o_str, o_ptr, o_slice, o_map, List.all_cons, List.all_nil, Bool.and_self, box_agg, st_agg, ptrTo, sliceTo, mapTo, List.length_cons, List.length_nil, Nat.mul_one, Nat.zero_mul, Nat.sub_zero, Nat.reduceMul, eq_self, Int.ofNat_lt, hlt, hc, he]
      refine hN _ _ ((B (bk s)).length - (i + 1)) (by omega) ⟨i + 1, hlt, rfl, rfl, fun j id c' hj h1' h2' => ?_, ?_⟩
      · by_cases e : j = i
        · subst e; rw [hx] at h1'; cases h1'; rw [hg] at h2'; cases h2'; exact he
        · exact hno j id c' (by omega) h1' h2'
      · have e7 : IntKind.i64.wrap ((i : Int) + 1) = ((i + 1 : Nat) : Int) := by rw [wrap_i64 (by omega) (by omega)]; simp
        simp only [ret_seq, ret_seq_ret, ret_seq_exit, ret_blk, ret_blk_ret, ret_blk_exit, ret_nil, gt_same, gt_other, Nat.reduceBEq, gt_leaf, l1_one, l2_two, l3_three, g_loc0, g_locS, g_tmp, g_cst, b_lss, b_leq, b_gtr, b_geq, b_add, b_sub, b_mul, b_eql, b_neq, b_eqlS, b_neqS, u_not, w_true, w_false, eBool_bool, resA_nil, resA_tmp, resA_cell, okP_true, okP_false, tupled_nil, tupled_one, tupled_more, t_nth, m_load, m_loadN, m_store, n_ptr, reduceIte, List.getElem?_cons_zero, List.getElem?_cons_succ, Option.map_some, Bool.not_true, Bool.not_false, decide_true, decide_false, mx_int, mn_int, Nat.add_zero, Nat.zero_add, Nat.reduceEqDiff, Nat.reduceAdd, app'_eq, List.append_nil, List.nil_append, o_bool, o_int, o_str, o_ptr, o_slice, o_map, List.all_cons, List.all_nil, Bool.and_self, box_agg, st_agg, ptrTo, sliceTo, mapTo, List.length_cons, List.length_nil, Nat.mul_one, Nat.zero_mul, Nat.sub_zero, Nat.reduceMul, eq_self, t0, t1, t16, t17, t18, t33, e7, and_self]
  · obtain rfl : i = (B (bk s)).length := by omega
    simp only [r14_1, r14_4, r14_7, r14_8, r14_6, r14_9, r14_5, r14_3, r14_12, r14_16, r14_19, r14_20, r14_18, r14_24, r14_26, r14_29, r14_30, r14_28, r14_31, r14_27, r14_25, r14_23, r14_22, r14_32, r14_21, r14_17, r14_15, r14_13, r14_11, r14_34, r14_35, r14_33, r14_10, r14_2, r14_0, t0, t1, t16, t17, t18, t33, ret_seq, ret_seq_ret, ret_seq_exit, ret_blk, ret_blk_ret, ret_blk_exit, ret_nil, gt_same, gt_other, Nat.reduceBEq, gt_leaf, l1_one, l2_two, l3_three, g_loc0, g_locS, g_tmp, g_cst, b_lss, b_leq, b_gtr, b_geq, b_add, b_sub, b_mul, b_eql, b_neq, b_eqlS, b_neqS, u_not, w_true, w_false, eBool_bool, resA_nil, resA_tmp, resA_cell, okP_true, okP_false, tupled_nil, tupled_one, tupled_more, t_nth, m_load, m_loadN, m_store, n_ptr, reduceIte, List.getElem?_cons_zero, List.getElem?_cons_succ, Option.map_some, Bool.not_true, Bool.not_false, decide_true, decide_false, mx_int, mn_int, Nat.add_zero, Nat.zero_add, Nat.reduceEqDiff, Nat.reduceAdd, app'_eq, List.append_nil, List.nil_append, o_bool, o_int, o_str, o_ptr, o_slice, o_map, List.all_cons, List.all_nil, Bool.and_self, box_agg, st_agg, ptrTo, sliceTo, mapTo, List.length_cons, List.length_nil, Nat.mul_one, Nat.zero_mul, Nat.sub_zero, Nat.reduceMul, eq_self, Int.ofNat_lt, hlt]
    refine hE _ _ _ (by simp) ?_
    simp only [r14_1, r14_4, r14_7, r14_8, r14_6, r14_9, r14_5, r14_3, r14_12, r14_16, r14_19, r14_20, r14_18, r14_24, r14_26, r14_29, r14_30, r14_28, r14_31, r14_27, r14_25, r14_23, r14_22, r14_32, r14_21, r14_17, r14_15, r14_13, r14_11, r14_34, r14_35, r14_33, r14_10, r14_2, r14_0, t0, t1, t16, t17, t18, t33, ret_seq, ret_seq_ret, ret_seq_exit, ret_blk, ret_blk_ret, ret_blk_exit, ret_nil, gt_same, gt_other, Nat.reduceBEq, gt_leaf, l1_one, l2_two, l3_three, g_loc0, g_locS, g_tmp, g_cst, b_lss, b_leq, b_gtr, b_geq, b_add, b_sub, b_mul, b_eql, b_neq, b_eqlS, b_neqS, u_not, w_true, w_false, eBool_bool, resA_nil, resA_tmp, resA_cell, okP_true, okP_false, tupled_nil, tupled_one, tupled_more, t_nth, m_load, m_loadN, m_store, n_ptr, reduceIte, List.getElem?_cons_zero, List.getElem?_cons_succ, Option.map_some, Bool.not_true, Bool.not_false, decide_true, decide_false, mx_int, mn_int, Nat.add_zero, Nat.zero_add, Nat.reduceEqDiff, Nat.reduceAdd, app'_eq, List.append_nil, List.nil_append, o_bool, o_int, o_str, o_ptr, o_slice, o_map, List.all_cons, List.all_nil, Bool.and_self, box_agg, st_agg, ptrTo, sliceTo, mapTo, List.length_cons, List.length_nil, Nat.mul_one, Nat.zero_mul, Nat.sub_zero, Nat.reduceMul, eq_self]
    refine hQ _ _ _ _ (.inr rfl) (by simp only [ret_seq, ret_seq_ret, ret_seq_exit, ret_blk, ret_blk_ret, ret_blk_exit, ret_nil, gt_same, gt_other, Nat.reduceBEq, gt_leaf, l1_one, l2_two, l3_three, g_loc0, g_locS, g_tmp, g_cst, b_lss, b_leq, b_gtr, b_geq, b_add, b_sub, b_mul, b_eql, b_neq, b_eqlS, b_neqS, u_not, w_true, w_false, eBool_bool, resA_nil, resA_tmp, resA_cell, okP_true, okP_false, tupled_nil, tupled_one, tupled_more, t_nth, m_load, m_loadN, m_store, n_ptr, reduceIte, List.getElem?_cons_zero, List.getElem?_cons_succ, Option.map_some, Bool.not_true, Bool.not_false, decide_true, decide_false, mx_int, mn_int, Nat.add_zero, Nat.zero_add, Nat.reduceEqDiff, Nat.reduceAdd, app'_eq, List.append_nil, List.nil_append, o_bool, o_int, o_str, o_ptr, o_slice, o_map, List.all_cons, List.all_nil, Bool.and_self, box_agg, st_agg, ptrTo, sliceTo, mapTo, List.length_cons, List.length_nil, Nat.mul_one, Nat.zero_mul, Nat.sub_zero, Nat.reduceMul, eq_self, t33]) (by simp only [ret_seq, ret_seq_ret, ret_seq_exit, ret_blk, ret_blk_ret, ret_blk_exit, ret_nil, gt_same, gt_other, Nat.reduceBEq, gt_leaf, l1_one, l2_two, l3_three, g_loc0, g_locS, g_tmp, g_cst, b_lss, b_leq, b_gtr, b_geq, b_add, b_sub, b_mul, b_eql, b_neq, b_eqlS, b_neqS, u_not, w_true, w_false, eBool_bool, resA_nil, resA_tmp, resA_cell, okP_true, okP_false, tupled_nil, tupled_one, tupled_more, t_nth, m_load, m_loadN, m_store, n_ptr, reduceIte, List.getElem?_cons_zero, List.getElem?_cons_succ, Option.map_some, Bool.not_true, Bool.not_false, decide_true, decide_false, mx_int, mn_int, Nat.add_zero, Nat.zero_add, Nat.reduceEqDiff, Nat.reduceAdd, app'_eq, List.append_nil, List.nil_append, o_bool, o_int, o_str, o_ptr, o_slice, o_map, List.all_cons, List.all_nil, Bool.and_self, box_agg, st_agg, ptrTo, sliceTo, mapTo, List.length_cons, List.length_nil, Nat.mul_one, Nat.zero_mul, Nat.sub_zero, Nat.reduceMul, eq_self]; rfl) ?_
    refine ⟨s6, ?_⟩
    cases hf : fdL L s with
    | none => rfl
    | some c' =>
      obtain ⟨f1, f2⟩ := fd_some hf
      have hin := h5.inB c' f1
      rw [f2] at hin
      obtain ⟨j, hj⟩ := List.getElem?_of_mem hin
      exact absurd f2 (hno j _ c' (List.getElem?_eq_some_iff.1 hj).1 hj (gt_mem h5.ids f1))

theorem putC_new {c : Ch} : ∀ {L : List Ch}, (∀ d, d ∈ L → d.id ≠ c.id) → putC c L = L ++ [c]
  | [], _ => rfl
  | d :: L, h => by
    rw [putC, show (d.id == c.id) = false from by simpa using h d (List.mem_cons_self ..), putC_new fun e he => h e (List.mem_cons_of_mem _ he)]; rfl
theorem any_none {es : List MEnt} {id : Int} (h : es.find? (kInt .u32 id) = none) : es.any (kInt .u32 id) = false := by
  rw [List.any_eq_false]
  intro e he
  have := List.find?_eq_none.1 h e he
  simpa using this
theorem nodup_snoc {α : Type} {L : List α} {a : α} (h : L.Nodup) (ha : a ∉ L) : (L ++ [a]).Nodup := by
  rw [List.nodup_append]
  refine ⟨h, List.nodup_cons.2 ⟨List.not_mem_nil, List.nodup_nil⟩, fun x hx y hy e => ?_⟩
  rw [List.mem_singleton] at hy
  exact ha (hy ▸ e ▸ hx)
theorem TabOk.add {L : List Ch} {next : Int} {B : Nat → List Int} (h : TabOk L next B) {c : Ch} (h1 : 1 ≤ c.id) (h2 : c.id < 4294967295) (hid : gtL L c.id = none) (hd : fdL L c.data = none) (hl1 : 1 ≤ c.data.length) (hl2 : c.data.length ≤ 64) (hb : Byts c.data) (hr1 : 1 ≤ c.refs) (hr2 : c.refs ≤ 65535) (hlen : L.length < 4999) :
    TabOk (L ++ [c]) (max next (c.id + 1)) (setF B (bk c.data) (B (bk c.data) ++ [c.id])) := by
  have hbk := bk_lt c.data
  refine ⟨?_, ?_, fun d hd' => ?_, ⟨by have := h.next; omega, by have := h.next; omega⟩, fun d hd' => ?_, fun i hi id hid' => ?_, fun i hi => ?_, by simp; omega⟩
  · rw [List.map_append]
    exact nodup_snoc h.ids fun hm => by obtain ⟨d, d1, d2⟩ := List.mem_map.1 hm; exact gt_none hid d d1 d2
  · rw [List.map_append]
    exact nodup_snoc h.datas fun hm => by obtain ⟨d, d1, d2⟩ := List.mem_map.1 hm; exact fd_none hd d d1 d2
  · rcases List.mem_append.1 hd' with hd' | hd'
    · obtain ⟨a1, a2, a3⟩ := h.ch d hd'
      exact ⟨a1, by omega, a3⟩
    · rw [List.mem_singleton] at hd'
      subst hd'
      exact ⟨h1, by omega, hl1, hl2, hb, hr1, hr2⟩
  · rcases List.mem_append.1 hd' with hd' | hd'
    · have := h.inB d hd'
      by_cases e : bk d.data = bk c.data
      · rw [e, setF_same]; rw [e] at this; exact List.mem_append_left _ this
      · rw [setF_other _ _ e]; exact this
    · rw [List.mem_singleton] at hd'
      subst hd'
      rw [setF_same]; exact List.mem_append_right _ (List.mem_singleton.2 rfl)
  · by_cases e : i = bk c.data
    · subst e
      rw [setF_same] at hid'
      rcases List.mem_append.1 hid' with h3 | h3
      · obtain ⟨d, d1, d2, d3⟩ := h.ofB _ hi id h3
        exact ⟨d, List.mem_append_left _ d1, d2, d3⟩
      · exact ⟨c, List.mem_append_right _ (List.mem_singleton.2 rfl), (List.mem_singleton.1 h3).symm, rfl⟩
    · rw [setF_other _ _ e] at hid'
      obtain ⟨d, d1, d2, d3⟩ := h.ofB _ hi id hid'
      exact ⟨d, List.mem_append_left _ d1, d2, d3⟩
  · by_cases e : i = bk c.data
    · subst e
      rw [setF_same]
      refine nodup_snoc (h.ndB _ hi) fun hm => ?_
      obtain ⟨d, d1, d2, d3⟩ := h.ofB _ hi _ hm
      exact gt_none hid d d1 d2
    · rw [setF_other _ _ e]; exact h.ndB i hi
theorem nodup_len : ∀ {l m : List Int}, l.Nodup → (∀ x, x ∈ l → x ∈ m) → l.length ≤ m.length
  | [], _, _, _ => Nat.zero_le _
  | x :: l, m, hn, h => by
    rw [List.nodup_cons] at hn
    have hx := h x (List.mem_cons_self ..)
    have := nodup_len (m := m.erase x) hn.2 fun y hy => (List.mem_erase_of_ne (fun e => hn.1 (by rw [← e]; exact hy))).2 (h y (List.mem_cons_of_mem _ hy))
    rw [List.length_erase_of_mem hx] at this
    have hp : 0 < m.length := List.length_pos_of_mem hx
    simp only [List.length_cons]; omega
theorem TabOk.szB {L : List Ch} {next : Int} {B : Nat → List Int} (h : TabOk L next B) {i : Nat} (hi : i < 16) : (B i).length ≤ L.length := by
  have := nodup_len (m := L.map Ch.id) (h.ndB i hi) fun x hx => by obtain ⟨d, d1, d2, _⟩ := h.ofB i hi x hx; exact List.mem_map.2 ⟨d, d1, d2⟩
  simpa using this
theorem tput_ok {n : Nat} (hn : 4 ≤ n) {h : Heap} {tb : Nat} {L : List Ch} {next : Int} {F : Nat → Prop} (ht : TabAt h tb L next F) (c : Ch) (h1 : 1 ≤ c.id) (h2 : c.id < 4294967295) (hid : gtL L c.id = none) (hd : fdL L c.data = none) (hl1 : 1 ≤ c.data.length) (hl2 : c.data.length ≤ 64) (hb : Byts c.data) (hr1 : 1 ≤ c.refs) (hr2 : c.refs ≤ 65535) (hlen : L.length < 4999) :
    WC (C n (.fn 57) [.ptr (some (tb, 0)), u c.id, c.val] h) fun r h' => r = .tuple [] ∧ ∃ F', TabAt h' tb (L ++ [c]) (max next (c.id + 1)) F' ∧ Sm F h h' ∧ ∀ b, F' b → F b ∨ h.next ≤ b := by
  obtain ⟨mb, x, es, k, B, X, t1, t2, t3, t4, t5, hmb, hne, hx1, hx2, rfl⟩ := ht.ex
  unfold Ch.val
  obtain ⟨m, rfl⟩ : ∃ m, n = m + 1 := ⟨n - 1, by omega⟩
  refine call_fn _ f57A rfl (by simp [fn57]) fun QQ hQ => ?_
  simp only [fn57] at hQ
  simp only [fn57, fill_cons, fill_nil, Nat.zero_add, Nat.reduceAdd]
  obtain ⟨h3, e3, r3, n3, g3⟩ := Rw.alloc h (id := h.next) (n := 3) (vs := [.str c.data, .int .i64 c.block, .int .i64 c.refs]) (z := []) (ro := false) (Nat.le_refl _) rfl
  obtain ⟨h4, e4, s4, b4, n4⟩ := Sm.bump h3 7
  have htb := ht.lt
  have s3 : Sm NoB h h3 := ⟨by omega, fun c hc _ => g3 c (by omega)⟩
  have s34 : Sm NoB h h4 := s3.trans s4 (fun _ _ h => h) (fun _ _ h => h)
  have r4 : Rw h4 tb [.map (some mb), .ptr (some (x, 0)), u next] [] false := t1.sm s34 ht.lt (fun h => h)
  have rv : Rw h4 h.next [.str c.data, .int .i64 c.block, .int .i64 c.refs] [] false := r3.same (by rw [b4])
  have m4 : h4.bs.gt mb = some (.map es k) := (s34.2 mb hmb (fun h => h)).trans t2
  have hany := any_none (t3.findN hid)
  have hmu := x_mu_84 m4 t3.all c.id (.agg [.str c.data, .int .i64 c.block, .int .i64 c.refs])
  rw [hany] at hmu
  have hent := t3.put c k
  unfold Ch.val at hent
  rw [putC_new (fun d hd' => gt_none hid d hd')] at hent
  obtain ⟨h5, e5, p5⟩ : ∃ h5, h4.put mb (.map (putE .u32 c.id (.agg [.str c.data, .int .i64 c.block, .int .i64 c.refs]) k es) (k + 1)) = h5 ∧ (∀ b, h5.bs.gt b = if b = mb then some (.map (putE .u32 c.id (.agg [.str c.data, .int .i64 c.block, .int .i64 c.refs]) k es) (k + 1)) else h4.bs.gt b) ∧ h5.next = h4.next := ⟨_, rfl, fun b => put_get _ _ _ _, rfl⟩
  rw [show (if false = true then k else k + 1) = k + 1 from rfl, e5] at hmu
  obtain ⟨h6, e6, s6, b6, n6⟩ := Sm.bump h5 8
  have ix6 : IxAt h6 x B X := (t4.sm s34 (fun _ _ h => h)).sm (G := fun b => b = mb) (h' := h6) ⟨by omega, fun c hc hF => by rw [b6, p5.1, if_neg hF]⟩ (fun b hb e => hx2 (e ▸ hb))
  have r6 : Rw h6 tb [.map (some mb), .ptr (some (x, 0)), u next] [] false := r4.same (by rw [b6, p5.1, if_neg hne])
  have rv6 : Rw h6 h.next [.str c.data, .int .i64 c.block, .int .i64 c.refs] [] false := rv.same (by rw [b6, p5.1, if_neg (by omega)])
  have hidB : c.id ∉ B (bk c.data) := fun hm => by obtain ⟨d, d1, d2, d3⟩ := t5.ofB _ (bk_lt _) _ hm; exact gt_none hid d d1 d2
  obtain ⟨_, h7, e7, rfl, bs, ix7, s7, f7⟩ := ixadd_ok (n := m) (by omega) ix6 (s := c.data) (by omega) hb c.id hidB (by have := t5.szB (bk_lt c.data); omega)
  have hixx : ∀ b, b < h6.next → ¬ IxF x X b → h7.bs.gt b = h6.bs.gt b := fun b hb hF => s7.2 b hb hF
  have r7 : Rw h7 tb [.map (some mb), .ptr (some (x, 0)), u next] [] false := r6.same (hixx tb (by omega) hx1)
  obtain ⟨w1, w2, w3, w4⟩ := r7.st1 (o := 2) (v := u (max next (c.id + 1))) (by simp) rfl
  have ew : IntKind.u32.wrap (c.id + 1) = c.id + 1 := wrap_u32 (by omega) (by omega)
  have ldv : h4.ld h.next 0 3 = some [.str c.data, .int .i64 c.block, .int .i64 c.refs] := by rw [rv.ld (i := 0) (n := 3) (by simp)]; rfl
  simp only [r57_1, r57_3, r57_5, r57_6, r57_4, r57_2, r57_0, box_agg, e3, e4, x_fa_87_0, x_fa_87_1, x_fa_87_2, x_fa_91_0, r4.ld1, r6.ld1, r7.ld1, ldv, rv6.ld1, hmu, e6, e7, ew, w1, ret_seq, ret_seq_ret, ret_seq_exit, ret_blk, ret_blk_ret, ret_blk_exit, ret_nil, gt_same, gt_other, Nat.reduceBEq, gt_leaf, l1_one, l2_two, l3_three, g_loc0, g_locS, g_tmp, g_cst, b_lss, b_leq, b_gtr, b_geq, b_add, b_sub, b_mul, b_eql, b_neq, b_eqlS, b_neqS, u_not, w_true, w_false, eBool_bool, resA_nil, resA_tmp, resA_cell, okP_true, okP_false, tupled_nil, tupled_one, tupled_more, t_nth, m_load, m_loadN, m_store, n_ptr, reduceIte, List.getElem?_cons_zero, List.getElem?_cons_succ, Option.map_some, Bool.not_true, Bool.not_false, decide_true, decide_false, mx_int, mn_int, Nat.add_zero, Nat.zero_add, Nat.reduceEqDiff, Nat.reduceAdd, app'_eq, List.append_nil, List.nil_append, o_bool, o_int, o_str, o_ptr, o_slice, o_map, List.all_cons, List.all_nil, Bool.and_self, box_agg, st_agg, ptrTo, sliceTo, mapTo, List.length_cons, List.length_nil, Nat.mul_one, Nat.zero_mul, Nat.sub_zero, Nat.reduceMul, eq_self]
  refine hQ _ _ _ _ (.inl rfl) (by simp only [ret_seq, ret_seq_ret, ret_seq_exit, ret_blk, ret_blk_ret, ret_blk_exit, ret_nil, gt_same, gt_other, Nat.reduceBEq, gt_leaf, l1_one, l2_two, l3_three, g_loc0, g_locS, g_tmp, g_cst, b_lss, b_leq, b_gtr, b_geq, b_add, b_sub, b_mul, b_eql, b_neq, b_eqlS, b_neqS, u_not, w_true, w_false, eBool_bool, resA_nil, resA_tmp, resA_cell, okP_true, okP_false, tupled_nil, tupled_one, tupled_more, t_nth, m_load, m_loadN, m_store, n_ptr, reduceIte, List.getElem?_cons_zero, List.getElem?_cons_succ, Option.map_some, Bool.not_true, Bool.not_false, decide_true, decide_false, mx_int, mn_int, Nat.add_zero, Nat.zero_add, Nat.reduceEqDiff, Nat.reduceAdd, app'_eq, List.append_nil, List.nil_append, o_bool, o_int, o_str, o_ptr, o_slice, o_map, List.all_cons, List.all_nil, Bool.and_self, box_agg, st_agg, ptrTo, sliceTo, mapTo, List.length_cons, List.length_nil, Nat.mul_one, Nat.zero_mul, Nat.sub_zero, Nat.reduceMul, eq_self]) (by simp only [ret_seq, ret_seq_ret, ret_seq_exit, ret_blk, ret_blk_ret, ret_blk_exit, ret_nil, gt_same, gt_other, Nat.reduceBEq, gt_leaf, l1_one, l2_two, l3_three, g_loc0, g_locS, g_tmp, g_cst, b_lss, b_leq, b_gtr, b_geq, b_add, b_sub, b_mul, b_eql, b_neq, b_eqlS, b_neqS, u_not, w_true, w_false, eBool_bool, resA_nil, resA_tmp, resA_cell, okP_true, okP_false, tupled_nil, tupled_one, tupled_more, t_nth, m_load, m_loadN, m_store, n_ptr, reduceIte, List.getElem?_cons_zero, List.getElem?_cons_succ, Option.map_some, Bool.not_true, Bool.not_false, decide_true, decide_false, mx_int, mn_int, Nat.add_zero, Nat.zero_add, Nat.reduceEqDiff, Nat.reduceAdd, app'_eq, List.append_nil, List.nil_append, o_bool, o_int, o_str, o_ptr, o_slice, o_map, List.all_cons, List.all_nil, Bool.and_self, box_agg, st_agg, ptrTo, sliceTo, mapTo, List.length_cons, List.length_nil, Nat.mul_one, Nat.zero_mul, Nat.sub_zero, Nat.reduceMul, eq_self]; rfl) ?_
  have hbk := bk_lt c.data
  have hnew : ∀ b, IxF x (setF X (bk c.data) bs) b → IxF x X b ∨ h6.next ≤ b := by
    rintro b (rfl | ⟨i, hi, hb⟩)
    · exact .inl (.inl rfl)
    · by_cases e : i = bk c.data
      · subst e; rw [setF_same] at hb
        rcases f7 b hb with h9 | h9
        · exact .inl (.inr ⟨_, hbk, h9⟩)
        · exact .inr h9
      · rw [setF_other _ _ e] at hb; exact .inl (.inr ⟨i, hi, hb⟩)
  have hmb6 : h7.bs.gt mb = h6.bs.gt mb := hixx mb (by omega) hx2
  have htn : ¬ IxF x (setF X (bk c.data) bs) tb := fun h9 => by rcases hnew _ h9 with h9 | h9; exact hx1 h9; omega
  refine ⟨rfl, _, ⟨⟨mb, x, _, k + 1, _, _, by simpa using w2, ?_, hent, ix7.sm (G := fun b => b = tb) ⟨by omega, fun c hc hF => w4 c hF⟩ (fun b hb e => htn (e ▸ hb)), t5.add h1 h2 hid hd hl1 hl2 hb hr1 hr2 hlen, by have := s7.1; omega, hne, htn, fun h9 => by rcases hnew _ h9 with h9 | h9; exact hx2 h9; omega, rfl⟩, by have := s7.1; omega⟩, ⟨by have := s7.1; omega, fun b hb hF => ?_⟩, fun b hF => ?_⟩
  · rw [w4 mb (fun e => hne e.symm), hmb6, b6, p5.1, if_pos rfl]
  · have hF1 : b ≠ tb := fun e => hF (.inl e)
    have hF2 : b ≠ mb := fun e => hF (.inr (.inl e))
    have hF3 : ¬ IxF x X b := fun e => hF (.inr (.inr e))
    rw [w4 b hF1, hixx b (by omega) hF3, b6, p5.1, if_neg hF2, s34.2 b hb (fun h => h)]
  · rcases hF with rfl | rfl | hF
    · exact .inl (.inl rfl)
    · exact .inl (.inr (.inl rfl))
    · rcases hnew b hF with h9 | h9
      · exact .inl (.inr (.inr h9))
      · exact .inr (by omega)
end Go.Proofs.Ytlfednnfkejcjaa

namespace Go.Proofs.Ytlfednnfkejcjaa
open Go.Am
set_option maxRecDepth 10000
theorem tmay_ok {n : Nat} (hn : 5 ≤ n) {h : Heap} {tb : Nat} {L : List Ch} {next : Int} {F : Nat → Prop} (ht : TabAt h tb L next F) {s : List Nat} (hl1 : 1 ≤ s.length) (hl2 : s.length ≤ 64) (hb : Byts s) (hd : fdL L s = none) :
    WC (C n (.fn 56) [.ptr (some (tb, 0)), .str s] h) fun r h' => Sm NoB h h' ∧ r = .int .i64 0 := by
  obtain ⟨m, rfl⟩ : ∃ m, n = m + 1 := ⟨n - 1, by omega⟩
  refine call_fn _ f56A rfl (by simp [fn56]) fun QQ hQ => ?_
  simp only [fn56] at hQ
  simp only [fn56, fill_cons, fill_nil, Nat.zero_add, Nat.reduceAdd]
  obtain ⟨_, h1, ea, s1, rfl⟩ := tFind_ok (n := m) (by omega) ht (s := s) (by omega) hb
  rw [hd] at ea
  have hne : ¬ s = [] := fun e => by subst e; simp at hl1
  have hgt : ¬ (64 : Int) < (s.length : Int) := by omega
  simp only [r56_1, r56_4, r56_7, r56_8, r56_6, r56_9, r56_5, r56_3, r56_12, r56_14, r56_17, r56_18, r56_16, r56_19, r56_15, r56_13, r56_11, r56_21, r56_22, r56_20, r56_10, r56_2, r56_0, x_len_9, hne, hgt, ea, ret_seq, ret_seq_ret, ret_seq_exit, ret_blk, ret_blk_ret, ret_blk_exit, ret_nil, gt_same, gt_other, Nat.reduceBEq, gt_leaf, l1_one, l2_two, l3_three, g_loc0, g_locS, g_tmp, g_cst, b_lss, b_leq, b_gtr, b_geq, b_add, b_sub, b_mul, b_eql, b_neq, b_eqlS, b_neqS, u_not, w_true, w_false, eBool_bool, resA_nil, resA_tmp, resA_cell, okP_true, okP_false, tupled_nil, tupled_one, tupled_more, t_nth, m_load, m_loadN, m_store, n_ptr, reduceIte, List.getElem?_cons_zero, List.getElem?_cons_succ, Option.map_some, Bool.not_true, Bool.not_false, decide_true, decide_false, mx_int, mn_int, Nat.add_zero, Nat.zero_add, Nat.reduceEqDiff, Nat.reduceAdd, app'_eq, List.append_nil, List.nil_append, o_bool, o_int, o_str, o_ptr, o_slice, o_map, List.all_cons, List.all_nil, Bool.and_self, box_agg, st_agg, ptrTo, sliceTo, mapTo, List.length_cons, List.length_nil, Nat.mul_one, Nat.zero_mul, Nat.sub_zero, Nat.reduceMul, eq_self]
  refine hQ _ _ _ _ (.inr rfl) (by simp only [ret_seq, ret_seq_ret, ret_seq_exit, ret_blk, ret_blk_ret, ret_blk_exit, ret_nil, gt_same, gt_other, Nat.reduceBEq, gt_leaf, l1_one, l2_two, l3_three, g_loc0, g_locS, g_tmp, g_cst, b_lss, b_leq, b_gtr, b_geq, b_add, b_sub, b_mul, b_eql, b_neq, b_eqlS, b_neqS, u_not, w_true, w_false, eBool_bool, resA_nil, resA_tmp, resA_cell, okP_true, okP_false, tupled_nil, tupled_one, tupled_more, t_nth, m_load, m_loadN, m_store, n_ptr, reduceIte, List.getElem?_cons_zero, List.getElem?_cons_succ, Option.map_some, Bool.not_true, Bool.not_false, decide_true, decide_false, mx_int, mn_int, Nat.add_zero, Nat.zero_add, Nat.reduceEqDiff, Nat.reduceAdd, app'_eq, List.append_nil, List.nil_append, o_bool, o_int, o_str, o_ptr, o_slice, o_map, List.all_cons, List.all_nil, Bool.and_self, box_agg, st_agg, ptrTo, sliceTo, mapTo, List.length_cons, List.length_nil, Nat.mul_one, Nat.zero_mul, Nat.sub_zero, Nat.reduceMul, eq_self]) (by simp only [ret_seq, ret_seq_ret, ret_seq_exit, ret_blk, ret_blk_ret, ret_blk_exit, ret_nil, gt_same, gt_other, Nat.reduceBEq, gt_leaf, l1_one, l2_two, l3_three, g_loc0, g_locS, g_tmp, g_cst, b_lss, b_leq, b_gtr, b_geq, b_add, b_sub, b_mul, b_eql, b_neq, b_eqlS, b_neqS, u_not, w_true, w_false, eBool_bool, resA_nil, resA_tmp, resA_cell, okP_true, okP_false, tupled_nil, tupled_one, tupled_more, t_nth, m_load, m_loadN, m_store, n_ptr, reduceIte, List.getElem?_cons_zero, List.getElem?_cons_succ, Option.map_some, Bool.not_true, Bool.not_false, decide_true, decide_false, mx_int, mn_int, Nat.add_zero, Nat.zero_add, Nat.reduceEqDiff, Nat.reduceAdd, app'_eq, List.append_nil, List.nil_append, o_bool, o_int, o_str, o_ptr, o_slice, o_map, List.all_cons, List.all_nil, Bool.and_self, box_agg, st_agg, ptrTo, sliceTo, mapTo, List.length_cons, List.length_nil, Nat.mul_one, Nat.zero_mul, Nat.sub_zero, Nat.reduceMul, eq_self]; rfl) ?_
  exact ⟨s1, rfl⟩
theorem tadd_ok {n : Nat} (hn : 6 ≤ n) {h : Heap} {tb : Nat} {L : List Ch} {next : Int} {F : Nat → Prop} (ht : TabAt h tb L next F) {s : List Nat} (block : Int) (hl1 : 1 ≤ s.length) (hl2 : s.length ≤ 64) (hb : Byts s) (hd : fdL L s = none) (hnx : next ≠ 4294967295) (hlen : L.length < 4999) :
    WC (C n (.fn 17) [.ptr (some (tb, 0)), .str s, .int .i64 block] h) fun r h' => r = .tuple [u next, .int .i64 0] ∧ ∃ F', TabAt h' tb (L ++ [⟨next, s, block, 1⟩]) (next + 1) F' ∧ Sm F h h' ∧ ∀ b, F' b → F b ∨ h.next ≤ b := by
  obtain ⟨m, rfl⟩ : ∃ m, n = m + 1 := ⟨n - 1, by omega⟩
  refine call_fn _ f17A rfl (by simp [fn17]) fun QQ hQ => ?_
  simp only [fn17] at hQ
  simp only [fn17, fill_cons, fill_nil, Nat.zero_add, Nat.reduceAdd]
  have t5 : ∃ B, TabOk L next B := by obtain ⟨_, _, _, _, B, _, _, _, _, _, t5, _⟩ := ht.ex; exact ⟨B, t5⟩
  obtain ⟨B, t5⟩ := t5
  have hnext := t5.next
  obtain ⟨_, h0, ea, rfl, rfl⟩ := tis_ok (n := m) (by omega) ht
  obtain ⟨_, h1, eb, s1, rfl⟩ := tmay_ok (n := m) (by omega) ht hl1 hl2 hb hd
  have ht1 := ht.sm s1 (fun _ _ h => h)
  have hid : gtL L next = none := by
    cases hg : gtL L next with
    | none => rfl
    | some c => obtain ⟨g1, g2⟩ := gt_some hg; have := (t5.ch c g1).2.1; omega
  obtain ⟨_, h2, ec, rfl, F', ht2, s2, f2⟩ := tput_ok (n := m) (by omega) ht1 ⟨next, s, block, 1⟩ hnext.1 (by show next < _; omega) hid hd hl1 hl2 hb (Int.le_refl _) (show (1 : Int) ≤ 65535 by decide) hlen
  obtain ⟨mb, x, es, k, B', X, t1, _⟩ := ht1.ex
  unfold Ch.val at ec
  simp only at ec
  simp only [r17_1, r17_4, r17_7, r17_8, r17_6, r17_9, r17_5, r17_3, r17_12, r17_15, r17_18, r17_19, r17_17, r17_21, r17_24, r17_25, r17_23, r17_26, r17_22, r17_20, r17_16, r17_14, r17_13, r17_11, r17_28, r17_30, r17_32, r17_33, r17_31, r17_29, r17_27, r17_10, r17_2, r17_0, ea, eb, ec, x_fa_87_2, t1.ld1, hnx, x_bd_91_0_1_2, ret_seq, ret_seq_ret, ret_seq_exit, ret_blk, ret_blk_ret, ret_blk_exit, ret_nil, gt_same, gt_other, Nat.reduceBEq, gt_leaf, l1_one, l2_two, l3_three, g_loc0, g_locS, g_tmp, g_cst, b_lss, b_leq, b_gtr, b_geq, b_add, b_sub, b_mul, b_eql, b_neq, b_eqlS, b_neqS, u_not, w_true, w_false, eBool_bool, resA_nil, resA_tmp, resA_cell, okP_true, okP_false, tupled_nil, tupled_one, tupled_more, t_nth, m_load, m_loadN, m_store, n_ptr, reduceIte, List.getElem?_cons_zero, List.getElem?_cons_succ, Option.map_some, Bool.not_true, Bool.not_false, decide_true, decide_false, mx_int, mn_int, Nat.add_zero, Nat.zero_add, Nat.reduceEqDiff, Nat.reduceAdd, app'_eq, List.append_nil, List.nil_append, o_bool, o_int, o_str, o_ptr, o_slice, o_map, List.all_cons, List.all_nil, Bool.and_self, box_agg, st_agg, ptrTo, sliceTo, mapTo, List.length_cons, List.length_nil, Nat.mul_one, Nat.zero_mul, Nat.sub_zero, Nat.reduceMul, eq_self]
  refine hQ _ _ _ _ (.inr rfl) (by simp only [ret_seq, ret_seq_ret, ret_seq_exit, ret_blk, ret_blk_ret, ret_blk_exit, ret_nil, gt_same, gt_other, Nat.reduceBEq, gt_leaf, l1_one, l2_two, l3_three, g_loc0, g_locS, g_tmp, g_cst, b_lss, b_leq, b_gtr, b_geq, b_add, b_sub, b_mul, b_eql, b_neq, b_eqlS, b_neqS, u_not, w_true, w_false, eBool_bool, resA_nil, resA_tmp, resA_cell, okP_true, okP_false, tupled_nil, tupled_one, tupled_more, t_nth, m_load, m_loadN, m_store, n_ptr, reduceIte, List.getElem?_cons_zero, List.getElem?_cons_succ, Option.map_some, Bool.not_true, Bool.not_false, decide_true, decide_false, mx_int, mn_int, Nat.add_zero, Nat.zero_add, Nat.reduceEqDiff, Nat.reduceAdd, app'_eq, List.append_nil, List.nil_append, o_bool, o_int, o_str, o_ptr, o_slice, o_map, List.all_cons, List.all_nil, Bool.and_self, box_agg, st_agg, ptrTo, sliceTo, mapTo, List.length_cons, List.length_nil, Nat.mul_one, Nat.zero_mul, Nat.sub_zero, Nat.reduceMul, eq_self]) (by simp only [ret_seq, ret_seq_ret, ret_seq_exit, ret_blk, ret_blk_ret, ret_blk_exit, ret_nil, gt_same, gt_other, Nat.reduceBEq, gt_leaf, l1_one, l2_two, l3_three, g_loc0, g_locS, g_tmp, g_cst, b_lss, b_leq, b_gtr, b_geq, b_add, b_sub, b_mul, b_eql, b_neq, b_eqlS, b_neqS, u_not, w_true, w_false, eBool_bool, resA_nil, resA_tmp, resA_cell, okP_true, okP_false, tupled_nil, tupled_one, tupled_more, t_nth, m_load, m_loadN, m_store, n_ptr, reduceIte, List.getElem?_cons_zero, List.getElem?_cons_succ, Option.map_some, Bool.not_true, Bool.not_false, decide_true, decide_false, mx_int, mn_int, Nat.add_zero, Nat.zero_add, Nat.reduceEqDiff, Nat.reduceAdd, app'_eq, List.append_nil, List.nil_append, o_bool, o_int, o_str, o_ptr, o_slice, o_map, List.all_cons, List.all_nil, Bool.and_self, box_agg, st_agg, ptrTo, sliceTo, mapTo, List.length_cons, List.length_nil, Nat.mul_one, Nat.zero_mul, Nat.sub_zero, Nat.reduceMul, eq_self]; rfl) ?_
  refine ⟨rfl, F', ?_, s1.trans s2 (fun _ _ h => h.elim) (fun _ _ h => h), fun b hb => (f2 b hb).imp id fun h9 => Nat.le_trans s1.1 h9⟩
  have : max next (next + 1) = next + 1 := by omega
  rw [← this]; exact ht2
theorem tnew_ok {n : Nat} (hn : 2 ≤ n) {h : Heap} : WC (C n (.fn 12) [] h) fun r h' => ∃ tb F, r = .ptr (some (tb, 0)) ∧ TabAt h' tb [] 1 F ∧ Sm NoB h h' ∧ (∀ b, F b → h.next ≤ b) := by
  obtain ⟨m, rfl⟩ : ∃ m, n = m + 1 := ⟨n - 1, by omega⟩
  refine call_fn _ f12A rfl (by simp [fn12]) fun QQ hQ => ?_
  simp only [fn12] at hQ
  simp only [fn12, fill_cons, fill_nil, Nat.zero_add, Nat.reduceAdd]
  obtain ⟨h1, e1, p1⟩ : ∃ h1, h.new h.next (.map [] 0) = h1 ∧ (∀ b, h1.bs.gt b = if b = h.next then some (.map [] 0) else h.bs.gt b) ∧ h1.next = h.next + 1 := ⟨_, rfl, fun b => new_get' (Nat.le_refl _) _ _, new_next' (Nat.le_refl _) _⟩
  obtain ⟨_, h2, e2, x, rfl, ix2, s2, x2⟩ := ixnew_ok (n := m) (by omega) (h := h1)
  obtain ⟨h3, e3, r3, n3, g3⟩ := Rw.alloc h2 (id := h2.next) (n := 3) (vs := [.map (some h.next), .ptr (some (x, 0)), .int .u32 1]) (z := []) (ro := false) (Nat.le_refl _) rfl
  have hx := ix2.lt
  simp only [r12_1, r12_3, r12_4, r12_2, r12_0, x_mm_84, e1, e2, x_bd_87_0_1_2, box_agg, e3, ret_seq, ret_seq_ret, ret_seq_exit, ret_blk, ret_blk_ret, ret_blk_exit, ret_nil, gt_same, gt_other, Nat.reduceBEq, gt_leaf, l1_one, l2_two, l3_three, g_loc0, g_locS, g_tmp, g_cst, b_lss, b_leq, b_gtr, b_geq, b_add, b_sub, b_mul, b_eql, b_neq, b_eqlS, b_neqS, u_not, w_true, w_false, eBool_bool, resA_nil, resA_tmp, resA_cell, okP_true, okP_false, tupled_nil, tupled_one, tupled_more, t_nth, m_load, m_loadN, m_store, n_ptr, reduceIte, List.getElem?_cons_zero, List.getElem?_cons_succ, Option.map_some, Bool.not_true, Bool.not_false, decide_true, decide_false, mx_int, mn_int, Nat.add_zero, Nat.zero_add, Nat.reduceEqDiff, Nat.reduceAdd, app'_eq, List.append_nil, List.nil_append, o_bool, o_int, o_str, o_ptr, o_slice, o_map, List.all_cons, List.all_nil, Bool.and_self, box_agg, st_agg, ptrTo, sliceTo, mapTo, List.length_cons, List.length_nil, Nat.mul_one, Nat.zero_mul, Nat.sub_zero, Nat.reduceMul, eq_self]
  refine hQ _ _ _ _ (.inr rfl) (by simp only [ret_seq, ret_seq_ret, ret_seq_exit, ret_blk, ret_blk_ret, ret_blk_exit, ret_nil, gt_same, gt_other, Nat.reduceBEq, gt_leaf, l1_one, l2_two, l3_three, g_loc0, g_locS, g_tmp, g_cst, b_lss, b_leq, b_gtr, b_geq, b_add, b_sub, b_mul, b_eql, b_neq, b_eqlS, b_neqS, u_not, w_true, w_false, eBool_bool, resA_nil, resA_tmp, resA_cell, okP_true, okP_false, tupled_nil, tupled_one, tupled_more, t_nth, m_load, m_loadN, m_store, n_ptr, reduceIte, List.getElem?_cons_zero, List.getElem?_cons_succ, Option.map_some, Bool.not_true, Bool.not_false, decide_true, decide_false, mx_int, mn_int, Nat.add_zero, Nat.zero_add, Nat.reduceEqDiff, Nat.reduceAdd, app'_eq, List.append_nil, List.nil_append, o_bool, o_int, o_str, o_ptr, o_slice, o_map, List.all_cons, List.all_nil, Bool.and_self, box_agg, st_agg, ptrTo, sliceTo, mapTo, List.length_cons, List.length_nil, Nat.mul_one, Nat.zero_mul, Nat.sub_zero, Nat.reduceMul, eq_self]) (by simp only [ret_seq, ret_seq_ret, ret_seq_exit, ret_blk, ret_blk_ret, ret_blk_exit, ret_nil, gt_same, gt_other, Nat.reduceBEq, gt_leaf, l1_one, l2_two, l3_three, g_loc0, g_locS, g_tmp, g_cst, b_lss, b_leq, b_gtr, b_geq, b_add, b_sub, b_mul, b_eql, b_neq, b_eqlS, b_neqS, u_not, w_true, w_false, eBool_bool, resA_nil, resA_tmp, resA_cell, okP_true, okP_false, tupled_nil, tupled_one, tupled_more, t_nth, m_load, m_loadN, m_store, n_ptr, reduceIte, List.getElem?_cons_zero, List.getElem?_cons_succ, Option.map_some, Bool.not_true, Bool.not_false, decide_true, decide_false, mx_int, mn_int, Nat.add_zero, Nat.zero_add, Nat.reduceEqDiff, Nat.reduceAdd, app'_eq, List.append_nil, List.nil_append, o_bool, o_int, o_str, o_ptr, o_slice, o_map, List.all_cons, List.all_nil, Bool.and_self, box_agg, st_agg, ptrTo, sliceTo, mapTo, List.length_cons, List.length_nil, Nat.mul_one, Nat.zero_mul, Nat.sub_zero, Nat.reduceMul, eq_self]; rfl) ?_
  have hix : ∀ b, IxF x (fun _ => []) b → b = x := by
    rintro b (rfl | ⟨_, _, hb⟩)
    · rfl
    · cases hb
  have hm2 : h2.bs.gt h.next = some (.map [] 0) := by rw [s2.2 _ (by omega) (fun h => h), p1.1, if_pos rfl]
  refine ⟨h2.next, _, rfl, ⟨⟨h.next, x, [], 0, _, _, r3, by rw [g3 _ (by have := s2.1; omega), hm2], Ents.nil.2 rfl, ix2.sm (G := fun b => b = h2.next) ⟨by omega, fun c hc hF => g3 c hF⟩ (fun b hb e => by have := hix b hb; omega), ?_, by have := s2.1; omega, by have := s2.1; omega, fun h9 => by have := hix _ h9; omega, fun h9 => by have := hix _ h9; omega, rfl⟩, by omega⟩, ⟨by have := s2.1; omega, fun c hc _ => ?_⟩, fun b hb => ?_⟩
  · exact ⟨by simp, by simp, by simp, ⟨by decide, by decide⟩, by simp, by simp, by simp, by simp⟩
  · rw [g3 c (by have := s2.1; omega), s2.2 c (by omega) (fun h => h), p1.1, if_neg (by omega)]
  · rcases hb with rfl | rfl | hb
    · have := s2.1; omega
    · exact Nat.le_refl _
    · have := hix b hb; omega

theorem full3 (l us : List AV) (h1 : l.length = 3) (h2 : us.length = 3) : putL l 0 us = us := by
  unfold putL
  rw [List.take_zero, List.nil_append, Nat.zero_add, h2, List.drop_eq_nil_of_le (by omega), List.append_nil]
theorem tget_ok {n : Nat} (hn : 3 ≤ n) {h : Heap} {tb : Nat} {L : List Ch} {next : Int} {F : Nat → Prop} (ht : TabAt h tb L next F) (id : Int) : WC (C n (.fn 35) [.ptr (some (tb, 0)), u id] h) fun r h' => Sm NoB h h' ∧ r = match gtL L id with
    | some c => .tuple [.str c.data, .int .i64 c.block, .int .i64 c.refs, .bool true]
    | none => .tuple [.str [], .int .i64 0, .int .i64 0, .bool false] := by
  obtain ⟨m, rfl⟩ : ∃ m, n = m + 1 := ⟨n - 1, by omega⟩
  refine call_fn _ f35A rfl (by simp [fn35]) fun QQ hQ => ?_
  simp only [fn35] at hQ
  simp only [fn35, fill_cons, fill_nil, Nat.zero_add, Nat.reduceAdd]
  obtain ⟨_, h1, ea, s1, rfl⟩ := tfind_ok (n := m) (by omega) ht id
  obtain ⟨h2, e2, r2, n2, g2⟩ := Rw.alloc h1 (id := h1.next) (n := 3) (vs := [.str [], .int .i64 0, .int .i64 0]) (z := tyMark 91 true) (ro := false) (Nat.le_refl _) rfl
  have key : ∀ us : List AV, us.length = 3 → us.all AV.one = true → ∃ h3 h4, h2.sto h1.next 0 us = some h3 ∧ Heap.mk h3.bs (h3.next + 12) = h4 ∧ (∀ i, h4.ld1 h1.next i = us[i]?) ∧ Sm NoB h h4 := by
    intro us hu1 hu2
    obtain ⟨w1, w2, w3, w4⟩ := r2.sto (o := 0) (us := us) (by simp [hu1]) hu2
    rw [full3 _ _ rfl hu1] at w2
    obtain ⟨h4, e4, s4, b4, n4⟩ := Sm.bump (h2.wr h1.next 0 us) 12
    refine ⟨_, _, w1, e4, fun i => ?_, ⟨by have := s1.1; omega, fun c hc _ => ?_⟩⟩
    · exact (w2.same (h' := h4) (by rw [b4])).ld1 i
    · have := s1.1
      rw [b4, w4 c (by omega), g2 c (by omega), s1.2 c hc (fun h => h)]
  cases hg : gtL L id with
  | none =>
    rw [hg] at ea
    unfold zCh at ea
    obtain ⟨h3, h4, k1, k2, k3, k4⟩ := key [.str [], .int .i64 0, .int .i64 0] rfl rfl
    simp only [r35_1, r35_3, r35_5, r35_6, r35_4, r35_2, r35_0, ea, x_al_91, e2, k1, k2, k3, x_fa_91_0, x_fa_91_1, x_fa_91_2, ret_seq, ret_seq_ret, ret_seq_exit, ret_blk, ret_blk_ret, ret_blk_exit, ret_nil, gt_same, gt_other, Nat.reduceBEq, gt_leaf, l1_one, l2_two, l3_three, g_loc0, g_locS, g_tmp, g_cst, b_lss, b_leq, b_gtr, b_geq, b_add, b_sub, b_mul, b_eql, b_neq, b_eqlS, b_neqS, u_not, w_true, w_false, eBool_bool, resA_nil, resA_tmp, resA_cell, okP_true, okP_false, tupled_nil, tupled_one, tupled_more, t_nth, m_load, m_loadN, m_store, n_ptr, reduceIte, List.getElem?_cons_zero, List.getElem?_cons_succ, Option.map_some, Bool.not_true, Bool.not_false, decide_true, decide_false, mx_int, mn_int, Nat.add_zero, Nat.zero_add, Nat.reduceEqDiff, Nat.reduceAdd, app'_eq, List.append_nil, List.nil_append, o_bool, o_int, o_str, o_ptr, o_slice, o_map, List.all_cons, List.all_nil, Bool.and_self, box_agg, st_agg, ptrTo, sliceTo, mapTo, List.length_cons, List.length_nil, Nat.mul_one, Nat.zero_mul, Nat.sub_zero, Nat.reduceMul, eq_self]
    refine hQ _ _ _ _ (.inr rfl) (by simp only [ret_seq, ret_seq_ret, ret_seq_exit, ret_blk, ret_blk_ret, ret_blk_exit, ret_nil, gt_same, gt_other, Nat.reduceBEq, gt_leaf, l1_one, l2_two, l3_three, g_loc0, g_locS, g_tmp, g_cst, b_lss, b_leq, b_gtr, b_geq, b_add, b_sub, b_mul, b_eql, b_neq, b_eqlS, b_neqS, u_not, w_true, w_false, eBool_bool, resA_nil, resA_tmp, resA_cell, okP_true, okP_false, tupled_nil, tupled_one, tupled_more, t_nth, m_load, m_loadN, m_store, n_ptr, reduceIte, List.getElem?_cons_zero, List.getElem?_cons_succ, Option.map_some, Bool.not_true, Bool.not_false, decide_true, decide_false, mx_int, mn_int, Nat.add_zero, Nat.zero_add, Nat.reduceEqDiff, Nat.reduceAdd, app'_eq, List.append_nil, List.nil_append, o_bool, o_int, o_str, o_ptr, o_slice, o_map, List.all_cons, List.all_nil, Bool.and_self, box_agg, st_agg, ptrTo, sliceTo, mapTo, List.length_cons, List.length_nil, Nat.mul_one, Nat.zero_mul, Nat.sub_zero, Nat.reduceMul, eq_self]) (by simp only [ret_seq, ret_seq_ret, ret_seq_exit, ret_blk, ret_blk_ret, ret_blk_exit, ret_nil, gt_same, gt_other, Nat.reduceBEq, gt_leaf, l1_one, l2_two, l3_three, g_loc0, g_locS, g_tmp, g_cst, b_lss, b_leq, b_gtr, b_geq, b_add, b_sub, b_mul, b_eql, b_neq, b_eqlS, b_neqS, u_not, w_true, w_false, eBool_bool, resA_nil, resA_tmp, resA_cell, okP_true, okP_false, tupled_nil, tupled_one, tupled_more, t_nth, m_load, m_loadN, m_store, n_ptr, reduceIte, List.getElem?_cons_zero, List.getElem?_cons_succ, Option.map_some, Bool.not_true, Bool.not_false, decide_true, decide_false, mx_int, mn_int, Nat.add_zero, Nat.zero_add, Nat.reduceEqDiff, Nat.reduceAdd, app'_eq, List.append_nil, List.nil_append, o_bool, o_int, o_str, o_ptr, o_slice, o_map, List.all_cons, List.all_nil, Bool.and_self, box_agg, st_agg, ptrTo, sliceTo, mapTo, List.length_cons, List.length_nil, Nat.mul_one, Nat.zero_mul, Nat.sub_zero, Nat.reduceMul, eq_self]; rfl) ?_
    exact ⟨k4, by rw [hg]; rfl⟩
  | some ch =>
    rw [hg] at ea
    unfold Ch.val at ea
    obtain ⟨h3, h4, k1, k2, k3, k4⟩ := key [.str ch.data, .int .i64 ch.block, .int .i64 ch.refs] rfl rfl
    simp only [r35_1, r35_3, r35_5, r35_6, r35_4, r35_2, r35_0, ea, x_al_91, e2, k1, k2, k3, x_fa_91_0, x_fa_91_1, x_fa_91_2, ret_seq, ret_seq_ret, ret_seq_exit, ret_blk, ret_blk_ret, ret_blk_exit, ret_nil, gt_same, gt_other, Nat.reduceBEq, gt_leaf, l1_one, l2_two, l3_three, g_loc0, g_locS, g_tmp, g_cst, b_lss, b_leq, b_gtr, b_geq, b_add, b_sub, b_mul, b_eql, b_neq, b_eqlS, b_neqS, u_not, w_true, w_false, eBool_bool, resA_nil, resA_tmp, resA_cell, okP_true, okP_false, tupled_nil, tupled_one, tupled_more, t_nth, m_load, m_loadN, m_store, n_ptr, reduceIte, List.getElem?_cons_zero, List.getElem?_cons_succ, Option.map_some, Bool.not_true, Bool.not_false, decide_true, decide_false, mx_int, mn_int, Nat.add_zero, Nat.zero_add, Nat.reduceEqDiff, Nat.reduceAdd, app'_eq, List.append_nil, List.nil_append, o_bool, o_int, o_str, o_ptr, o_slice, o_map, List.all_cons, List.all_nil, Bool.and_self, box_agg, st_agg, ptrTo, sliceTo, mapTo, List.length_cons, List.length_nil, Nat.mul_one, Nat.zero_mul, Nat.sub_zero, Nat.reduceMul, eq_self]
    refine hQ _ _ _ _ (.inr rfl) (by simp only [ret_seq, ret_seq_ret, ret_seq_exit, ret_blk, ret_blk_ret, ret_blk_exit, ret_nil, gt_same, gt_other, Nat.reduceBEq, gt_leaf, l1_one, l2_two, l3_three, g_loc0, g_locS, g_tmp, g_cst, b_lss, b_leq, b_gtr, b_geq, b_add, b_sub, b_mul, b_eql, b_neq, b_eqlS, b_neqS, u_not, w_true, w_false, eBool_bool, resA_nil, resA_tmp, resA_cell, okP_true, okP_false, tupled_nil, tupled_one, tupled_more, t_nth, m_load, m_loadN, m_store, n_ptr, reduceIte, List.getElem?_cons_zero, List.getElem?_cons_succ, Option.map_some, Bool.not_true, Bool.not_false, decide_true, decide_false, mx_int, mn_int, Nat.add_zero, Nat.zero_add, Nat.reduceEqDiff, Nat.reduceAdd, app'_eq, List.append_nil, List.nil_append, o_bool, o_int, o_str, o_ptr, o_slice, o_map, List.all_cons, List.all_nil, Bool.and_self, box_agg, st_agg, ptrTo, sliceTo, mapTo, List.length_cons, List.length_nil, Nat.mul_one, Nat.zero_mul, Nat.sub_zero, Nat.reduceMul, eq_self]) (by simp only [ret_seq, ret_seq_ret, ret_seq_exit, ret_blk, ret_blk_ret, ret_blk_exit, ret_nil, gt_same, gt_other, Nat.reduceBEq, gt_leaf, l1_one, l2_two, l3_three, g_loc0, g_locS, g_tmp, g_cst, b_lss, b_leq, b_gtr, b_geq, b_add, b_sub, b_mul, b_eql, b_neq, b_eqlS, b_neqS, u_not, w_true, w_false, eBool_bool, resA_nil, resA_tmp, resA_cell, okP_true, okP_false, tupled_nil, tupled_one, tupled_more, t_nth, m_load, m_loadN, m_store, n_ptr, reduceIte, List.getElem?_cons_zero, List.getElem?_cons_succ, Option.map_some, Bool.not_true, Bool.not_false, decide_true, decide_false, mx_int, mn_int, Nat.add_zero, Nat.zero_add, Nat.reduceEqDiff, Nat.reduceAdd, app'_eq, List.append_nil, List.nil_append, o_bool, o_int, o_str, o_ptr, o_slice, o_map, List.all_cons, List.all_nil, Bool.and_self, box_agg, st_agg, ptrTo, sliceTo, mapTo, List.length_cons, List.length_nil, Nat.mul_one, Nat.zero_mul, Nat.sub_zero, Nat.reduceMul, eq_self]; rfl) ?_
    exact ⟨k4, by rw [hg]; rfl⟩
/-- a chunk turns, its id and bytes stay -/
theorem putC_upd {c0 : Ch} : ∀ {L : List Ch} (c : Ch), gtL L c.id = some c0 → c0.data = c.data → (putC c L).map Ch.id = L.map Ch.id ∧ (putC c L).map Ch.data = L.map Ch.data ∧ (putC c L).length = L.length ∧ ∀ d, d ∈ putC c L → d = c ∨ d ∈ L
  | [], c, h, _ => by cases h
  | d :: L, c, h, hd => by
    unfold gtL at h
    rw [List.find?_cons] at h
    rw [putC]
    cases hk : d.id == c.id with
    | true =>
      rw [hk] at h
      cases h
      have hid : c0.id = c.id := by simpa using hk
      simp only [if_true, List.map_cons, hd, hid, List.length_cons, true_and]
      intro e he
      rcases List.mem_cons.1 he with rfl | he
      · exact .inl rfl
      · exact .inr (List.mem_cons_of_mem _ he)
    | false =>
      rw [hk] at h
      obtain ⟨a1, a2, a3, a4⟩ := putC_upd c h hd
      simp only [Bool.false_eq_true, if_false, List.map_cons, a1, a2, a3, List.length_cons, true_and]
      intro e he
      rcases List.mem_cons.1 he with rfl | he
      · exact .inr (List.mem_cons_self ..)
      · exact (a4 e he).imp id (List.mem_cons_of_mem _)
theorem map_pair {L M : List Ch} (h1 : M.map Ch.id = L.map Ch.id) (h2 : M.map Ch.data = L.map Ch.data) : ∀ d, d ∈ M → ∃ e, e ∈ L ∧ e.id = d.id ∧ e.data = d.data := by
  intro d hd
  obtain ⟨i, hi⟩ := List.getElem?_of_mem hd
  have hlt := (List.getElem?_eq_some_iff.1 hi).1
  have hl : M.length = L.length := by have := congrArg List.length h1; simpa using this
  have he : L[i]? = some L[i] := List.getElem?_eq_getElem (by omega)
  have q1 : (M.map Ch.id)[i]? = (L.map Ch.id)[i]? := by rw [h1]
  have q2 : (M.map Ch.data)[i]? = (L.map Ch.data)[i]? := by rw [h2]
  rw [List.getElem?_map, List.getElem?_map, hi, he] at q1 q2
  exact ⟨L[i], List.getElem_mem _, (Option.some.inj q1).symm, (Option.some.inj q2).symm⟩
theorem TabOk.upd {L : List Ch} {next : Int} {B : Nat → List Int} (h : TabOk L next B) {c c0 : Ch} (hg : gtL L c.id = some c0) (hd : c0.data = c.data) (hr1 : 1 ≤ c.refs) (hr2 : c.refs ≤ 65535) : TabOk (putC c L) next B := by
  obtain ⟨a1, a2, a3, a4⟩ := putC_upd c hg hd
  obtain ⟨g1, g2⟩ := gt_some hg
  have m1 := map_pair a1 a2
  have m2 := map_pair a1.symm a2.symm
  refine ⟨by rw [a1]; exact h.ids, by rw [a2]; exact h.datas, fun d hd' => ?_, h.next, fun d hd' => ?_, fun i hi id hid => ?_, h.ndB, by rw [a3]; exact h.len⟩
  · rcases a4 d hd' with rfl | hd'
    · obtain ⟨q1, q2, q3, q4, q5, _⟩ := h.ch c0 g1
      rw [g2] at q1 q2
      rw [hd] at q3 q4 q5
      exact ⟨q1, q2, q3, q4, q5, hr1, hr2⟩
    · exact h.ch d hd'
  · obtain ⟨e, e1, e2, e3⟩ := m1 d hd'
    have := h.inB e e1
    rw [e2, e3] at this; exact this
  · obtain ⟨d, d1, d2, d3⟩ := h.ofB i hi id hid
    obtain ⟨e, e1, e2, e3⟩ := m2 d d1
    exact ⟨e, e1, e2.trans d2, by rw [e3]; exact d3⟩

theorem any_some {es : List MEnt} {id : Int} {x : MEnt} (h : es.find? (kInt .u32 id) = some x) : es.any (kInt .u32 id) = true := by
  rw [List.any_eq_true]
  exact ⟨x, List.mem_of_find?_eq_some h, List.find?_some h⟩
theorem hold_ok {n : Nat} (hn : 3 ≤ n) {h : Heap} {tb : Nat} {L : List Ch} {next : Int} {F : Nat → Prop} (ht : TabAt h tb L next F) {id : Int} {c : Ch} (hg : gtL L id = some c) (hr : c.refs < 65535) :
    WC (C n (.fn 16) [.ptr (some (tb, 0)), u id] h) fun r h' => r = .int .i64 0 ∧ TabAt h' tb (putC { c with refs := c.refs + 1 } L) next F ∧ Sm F h h' := by
  obtain ⟨m, rfl⟩ : ∃ m, n = m + 1 := ⟨n - 1, by omega⟩
  refine call_fn _ f16A rfl (by simp [fn16]) fun QQ hQ => ?_
  simp only [fn16] at hQ
  simp only [fn16, fill_cons, fill_nil, Nat.zero_add, Nat.reduceAdd]
  obtain ⟨_, h1, ea, s1, rfl⟩ := tfind_ok (n := m) (by omega) ht id
  rw [hg] at ea
  unfold Ch.val at ea
  obtain ⟨mb, x, es, k, B, X, t1, t2, t3, t4, t5, hmb, hne, hx1, hx2, rfl⟩ := (ht.sm s1 (fun _ _ h => h)).ex
  have htb := ht.lt
  have hgs := gt_some hg
  have hrb := (t5.ch c hgs.1)
  obtain ⟨h2, e2, r2, n2, g2⟩ := Rw.alloc h1 (id := h1.next) (n := 3) (vs := [.str [], .int .i64 0, .int .i64 0]) (z := tyMark 91 true) (ro := false) (Nat.le_refl _) rfl
  obtain ⟨w1, w2, w3, w4⟩ := r2.sto (o := 0) (us := [.str c.data, .int .i64 c.block, .int .i64 c.refs]) (by simp) rfl
  rw [full3 _ _ rfl rfl] at w2
  obtain ⟨v1, v2, v3, v4⟩ := w2.st1 (o := 2) (v := .int .i64 (c.refs + 1)) (by simp) rfl
  obtain ⟨h5, e5, s5, b5, n5⟩ := Sm.bump ((h2.wr h1.next 0 [.str c.data, .int .i64 c.block, .int .i64 c.refs]).wr h1.next 2 [.int .i64 (c.refs + 1)]) 7
  have hsame : ∀ b, b < h1.next → h5.bs.gt b = h1.bs.gt b := fun b hb => by rw [b5, v4 b (by omega), w4 b (by omega), g2 b (by omega)]
  have hlt1 := s1.1
  have r5 : Rw h5 tb [.map (some mb), .ptr (some (x, 0)), u next] [] false := t1.same (hsame tb (by omega))
  have m5 : h5.bs.gt mb = some (.map es k) := (hsame mb hmb).trans t2
  have ldv : h5.ld h1.next 0 3 = some [.str c.data, .int .i64 c.block, .int .i64 (c.refs + 1)] := by
    rw [(v2.same (h' := h5) (by rw [b5])).ld (i := 0) (n := 3) (by simp)]; rfl
  have hmu := x_mu_84 m5 t3.all id (.agg [.str c.data, .int .i64 c.block, .int .i64 (c.refs + 1)])
  obtain ⟨xe, f1, f2⟩ := t3.findS hg
  rw [any_some f1, if_pos rfl] at hmu
  have hent := t3.put { c with refs := c.refs + 1 } k
  unfold Ch.val at hent
  simp only [hgs.2] at hent
  obtain ⟨h6, e6, p6⟩ : ∃ h6, h5.put mb (.map (putE .u32 id (.agg [.str c.data, .int .i64 c.block, .int .i64 (c.refs + 1)]) k es) k) = h6 ∧ (∀ b, h6.bs.gt b = if b = mb then some (.map (putE .u32 id (.agg [.str c.data, .int .i64 c.block, .int .i64 (c.refs + 1)]) k es) k) else h5.bs.gt b) ∧ h6.next = h5.next := ⟨_, rfl, fun b => put_get _ _ _ _, rfl⟩
  rw [e6] at hmu
  have ew : IntKind.i64.wrap (c.refs + 1) = c.refs + 1 := wrap_i64 (by omega) (by omega)
  have hr' : ¬ c.refs = 65535 := by omega
  simp only [r16_1, r16_3, r16_7, r16_10, r16_11, r16_9, r16_13, r16_16, r16_17, r16_15, r16_18, r16_14, r16_12, r16_8, r16_6, r16_5, r16_20, r16_22, r16_24, r16_25, r16_23, r16_21, r16_19, r16_4, r16_2, r16_0, ea, x_al_91, e2, w1, x_fa_91_2, w2.ld1, hr', ew, v1, e5, x_fa_87_0, r5.ld1, ldv, hmu, ret_seq, ret_seq_ret, ret_seq_exit, ret_blk, ret_blk_ret, ret_blk_exit, ret_nil, gt_same, gt_other, Nat.reduceBEq, gt_leaf, l1_one, l2_two, l3_three, g_loc0, g_locS, g_tmp, g_cst, b_lss, b_leq, b_gtr, b_geq, b_add, b_sub, b_mul, b_eql, b_neq, b_eqlS, b_neqS, u_not, w_true, w_false, eBool_bool, resA_nil, resA_tmp, resA_cell, okP_true, okP_false, tupled_nil, tupled_one, tupled_more, t_nth, m_load, m_loadN, m_store, n_ptr, reduceIte, List.getElem?_cons_zero, List.getElem?_cons_succ, Option.map_some, Bool.not_true, Bool.not_false, decide_true, decide_false, mx_int, mn_int, Nat.add_zero, Nat.zero_add, Nat.reduceEqDiff, Nat.reduceAdd, app'_eq, List.append_nil, List.nil_append, o_bool, o_int, o_str, o_ptr, o_slice, o_map, List.all_cons, List.all_nil, Bool.and_self, box_agg, st_agg, ptrTo, sliceTo, mapTo, List.length_cons, List.length_nil, Nat.mul_one, Nat.zero_mul, Nat.sub_zero, Nat.reduceMul, eq_self]
  refine hQ _ _ _ _ (.inr rfl) (by simp only [ret_seq, ret_seq_ret, ret_seq_exit, ret_blk, ret_blk_ret, ret_blk_exit, ret_nil, gt_same, gt_other, Nat.reduceBEq, gt_leaf, l1_one, l2_two, l3_three, g_loc0, g_locS, g_tmp, g_cst, b_lss, b_leq, b_gtr, b_geq, b_add, b_sub, b_mul, b_eql, b_neq, b_eqlS, b_neqS, u_not, w_true, w_false, eBool_bool, resA_nil, resA_tmp, resA_cell, okP_true, okP_false, tupled_nil, tupled_one, tupled_more, t_nth, m_load, m_loadN, m_store, n_ptr, reduceIte, List.getElem?_cons_zero, List.getElem?_cons_succ, Option.map_some, Bool.not_true, Bool.not_false, decide_true, decide_false, mx_int, mn_int, Nat.add_zero, Nat.zero_add, Nat.reduceEqDiff, Nat.reduceAdd, app'_eq, List.append_nil, List.nil_append, o_bool, o_int, o_str, o_ptr, o_slice, o_map, List.all_cons, List.all_nil, Bool.and_self, box_agg, st_agg, ptrTo, sliceTo, mapTo, List.length_cons, List.length_nil, Nat.mul_one, Nat.zero_mul, Nat.sub_zero, Nat.reduceMul, eq_self]) (by simp only [ret_seq, ret_seq_ret, ret_seq_exit, ret_blk, ret_blk_ret, ret_blk_exit, ret_nil, gt_same, gt_other, Nat.reduceBEq, gt_leaf, l1_one, l2_two, l3_three, g_loc0, g_locS, g_tmp, g_cst, b_lss, b_leq, b_gtr, b_geq, b_add, b_sub, b_mul, b_eql, b_neq, b_eqlS, b_neqS, u_not, w_true, w_false, eBool_bool, resA_nil, resA_tmp, resA_cell, okP_true, okP_false, tupled_nil, tupled_one, tupled_more, t_nth, m_load, m_loadN, m_store, n_ptr, reduceIte, List.getElem?_cons_zero, List.getElem?_cons_succ, Option.map_some, Bool.not_true, Bool.not_false, decide_true, decide_false, mx_int, mn_int, Nat.add_zero, Nat.zero_add, Nat.reduceEqDiff, Nat.reduceAdd, app'_eq, List.append_nil, List.nil_append, o_bool, o_int, o_str, o_ptr, o_slice, o_map, List.all_cons, List.all_nil, Bool.and_self, box_agg, st_agg, ptrTo, sliceTo, mapTo, List.length_cons, List.length_nil, Nat.mul_one, Nat.zero_mul, Nat.sub_zero, Nat.reduceMul, eq_self]; rfl) ?_
  have g6 : ∀ b, b < h1.next → b ≠ mb → h6.bs.gt b = h1.bs.gt b := fun b hb hne => by rw [p6.1, if_neg hne, hsame b hb]
  refine ⟨rfl, ⟨⟨mb, x, _, k, B, X, t1.same (g6 tb (by omega) hne), by rw [p6.1, if_pos rfl], (by rw [hgs.2]; exact hent), t4.sm (G := fun b => b = mb) ⟨by omega, fun b hb hF => g6 b hb hF⟩ (fun b hb e => hx2 (e ▸ hb)), t5.upd (c := { c with refs := c.refs + 1 }) (c0 := c) (by show gtL L c.id = _; rw [hgs.2]; exact hg) rfl (by show 1 ≤ c.refs + 1; omega) (by show c.refs + 1 ≤ 65535; omega), by omega, hne, hx1, hx2, rfl⟩, by omega⟩, ⟨by omega, fun b hb hF => ?_⟩⟩
  rw [g6 b (by omega) (fun e => hF (.inr (.inl e))), s1.2 b hb (fun h => h)]

/-! ### A chunk goes -/
theorem cutC_sub (id : Int) : ∀ L : List Ch, (cutC id L).Sublist L
  | [] => List.Sublist.slnil
  | d :: L => by
    rw [cutC]
    cases d.id == id with
    | true => exact List.sublist_cons_self d L
    | false => exact (cutC_sub id L).cons_cons d
theorem cutC_mem {id : Int} : ∀ {L : List Ch}, (L.map Ch.id).Nodup → ∀ d, d ∈ cutC id L ↔ d ∈ L ∧ d.id ≠ id
  | [], _, d => by simp [cutC]
  | e :: L, hn, d => by
    rw [List.map_cons, List.nodup_cons] at hn
    rw [cutC]
    cases hk : e.id == id with
    | true =>
      have hk : e.id = id := by simpa using hk
      simp only [if_true, List.mem_cons]
      constructor
      · intro hd
        refine ⟨.inr hd, fun h => hn.1 (List.mem_map.2 ⟨d, hd, by rw [h, hk]⟩)⟩
      · rintro ⟨rfl | hd, hne⟩
        · exact absurd hk hne
        · exact hd
    | false =>
      have hk : e.id ≠ id := by simpa using hk
      simp only [Bool.false_eq_true, if_false, List.mem_cons, cutC_mem hn.2 d]
      constructor
      · rintro (rfl | ⟨h1, h2⟩)
        · exact ⟨.inl rfl, hk⟩
        · exact ⟨.inr h1, h2⟩
      · rintro ⟨rfl | h1, h2⟩
        · exact .inl rfl
        · exact .inr ⟨h1, h2⟩
theorem cutC_len {id : Int} {c : Ch} : ∀ {L : List Ch}, gtL L id = some c → (cutC id L).length + 1 = L.length
  | [], h => by cases h
  | d :: L, h => by
    unfold gtL at h
    rw [List.find?_cons] at h
    rw [cutC]
    cases hk : d.id == id with
    | true => simp
    | false =>
      rw [hk] at h
      have := cutC_len h
      simp only [Bool.false_eq_true, if_false, List.length_cons]; omega
theorem mem_eraseIdx_nodup : ∀ {l : List Int} {i : Nat} {a : Int}, l.Nodup → l[i]? = some a → ∀ x, x ∈ l.eraseIdx i ↔ x ∈ l ∧ x ≠ a
  | [], _, _, _, h, _ => by simp at h
  | b :: l, 0, a, hn, h, x => by
    rw [List.nodup_cons] at hn
    cases h
    simp only [List.eraseIdx_cons_zero, List.mem_cons]
    constructor
    · intro hx; exact ⟨.inr hx, fun e => hn.1 (e ▸ hx)⟩
    · rintro ⟨rfl | h1, h2⟩
      · exact absurd rfl h2
      · exact h1
  | b :: l, i + 1, a, hn, h, x => by
    rw [List.nodup_cons] at hn
    rw [List.getElem?_cons_succ] at h
    have hne : b ≠ a := fun e => hn.1 (e ▸ List.mem_of_getElem? h)
    simp only [List.eraseIdx_cons_succ, List.mem_cons, mem_eraseIdx_nodup hn.2 h x]
    constructor
    · rintro (rfl | ⟨h1, h2⟩)
      · exact ⟨.inl rfl, hne⟩
      · exact ⟨.inr h1, h2⟩
    · rintro ⟨rfl | h1, h2⟩
      · exact .inl rfl
      · exact .inr ⟨h1, h2⟩
theorem TabOk.cut {L : List Ch} {next : Int} {B : Nat → List Int} (h : TabOk L next B) {id : Int} {c : Ch} (hg : gtL L id = some c) {i : Nat} (hi : (B (bk c.data))[i]? = some id) :
    TabOk (cutC id L) next (setF B (bk c.data) ((B (bk c.data)).eraseIdx i)) := by
  obtain ⟨g1, g2⟩ := gt_some hg
  have hbk := bk_lt c.data
  have hm := cutC_mem (id := id) h.ids
  have he := mem_eraseIdx_nodup (h.ndB _ hbk) hi
  have hl := cutC_len hg
  refine ⟨h.ids.sublist ((cutC_sub id L).map _), h.datas.sublist ((cutC_sub id L).map _), fun d hd => h.ch d ((hm d).1 hd).1, h.next, fun d hd => ?_, fun j hj x hx => ?_, fun j hj => ?_, by have := h.len; omega⟩
  · obtain ⟨d1, d2⟩ := (hm d).1 hd
    have := h.inB d d1
    by_cases e : bk d.data = bk c.data
    · rw [e, setF_same, he]; rw [e] at this; exact ⟨this, d2⟩
    · rw [setF_other _ _ e]; exact this
  · by_cases e : j = bk c.data
    · subst e
      rw [setF_same, he] at hx
      obtain ⟨d, d1, d2, d3⟩ := h.ofB _ hj x hx.1
      exact ⟨d, (hm d).2 ⟨d1, by rw [d2]; exact hx.2⟩, d2, d3⟩
    · rw [setF_other _ _ e] at hx
      obtain ⟨d, d1, d2, d3⟩ := h.ofB _ hj x hx
      refine ⟨d, (hm d).2 ⟨d1, fun h9 => e ?_⟩, d2, d3⟩
      have := nodup_inj h.ids d1 g1 (by rw [h9, g2])
      rw [← d3, this]
  · by_cases e : j = bk c.data
    · subst e
      rw [setF_same]; exact (h.ndB _ hj).sublist (List.eraseIdx_sublist ..)
    · rw [setF_other _ _ e]; exact h.ndB j hj
end Go.Proofs.Ytlfednnfkejcjaa

namespace Go.Proofs.Ytlfednnfkejcjaa
open Go.Am
set_option maxRecDepth 10000
theorem release_ok {n : Nat} (hn : 4 ≤ n) {h : Heap} {tb : Nat} {L : List Ch} {next : Int} {F : Nat → Prop} (ht : TabAt h tb L next F) {id : Int} {c : Ch} (hg : gtL L id = some c) :
    WC (C n (.fn 15) [.ptr (some (tb, 0)), u id] h) fun r h' => Sm F h h' ∧ if 1 < c.refs then r = .tuple [.bool false, .int .i64 0] ∧ TabAt h' tb (putC { c with refs := c.refs - 1 } L) next F
      else r = .tuple [.bool true, .int .i64 0] ∧ ∃ F', TabAt h' tb (cutC id L) next F' ∧ ∀ b, F' b → F b := by
  obtain ⟨m, rfl⟩ : ∃ m, n = m + 1 := ⟨n - 1, by omega⟩
  refine call_fn _ f15A rfl (by simp [fn15]) fun QQ hQ => ?_
  simp only [fn15] at hQ
  simp only [fn15, fill_cons, fill_nil, Nat.zero_add, Nat.reduceAdd]
  obtain ⟨_, h1, ea, s1, rfl⟩ := tfind_ok (n := m) (by omega) ht id
  rw [hg] at ea
  unfold Ch.val at ea
  obtain ⟨mb, x, es, k, B, X, t1, t2, t3, t4, t5, hmb, hne, hx1, hx2, rfl⟩ := (ht.sm s1 (fun _ _ h => h)).ex
  have htb := ht.lt
  have hgs := gt_some hg
  have hrb := (t5.ch c hgs.1)
  obtain ⟨h2, e2, r2, n2, g2⟩ := Rw.alloc h1 (id := h1.next) (n := 3) (vs := [.str [], .int .i64 0, .int .i64 0]) (z := tyMark 91 true) (ro := false) (Nat.le_refl _) rfl
  obtain ⟨w1, w2, w3, w4⟩ := r2.sto (o := 0) (us := [.str c.data, .int .i64 c.block, .int .i64 c.refs]) (by simp) rfl
  rw [full3 _ _ rfl rfl] at w2
  obtain ⟨v1, v2, v3, v4⟩ := w2.st1 (o := 2) (v := .int .i64 (c.refs - 1)) (by simp) rfl
  obtain ⟨h4, e4⟩ : ∃ h4, (h2.wr h1.next 0 [.str c.data, .int .i64 c.block, .int .i64 c.refs]).wr h1.next 2 [.int .i64 (c.refs - 1)] = h4 := ⟨_, rfl⟩
  rw [e4] at v1 v2 v3 v4
  have v2 : Rw h4 h1.next [.str c.data, .int .i64 c.block, .int .i64 (c.refs - 1)] (tyMark 91 true) false := v2
  have hsame4 : ∀ b, b < h1.next → h4.bs.gt b = h1.bs.gt b := fun b hb => by rw [v4 b (by omega), w4 b (by omega), g2 b (by omega)]
  have hlt1 := s1.1
  have r4 : Rw h4 tb [.map (some mb), .ptr (some (x, 0)), u next] [] false := t1.same (hsame4 tb (by omega))
  have ew : IntKind.i64.wrap (c.refs - 1) = c.refs - 1 := wrap_i64 (by omega) (by omega)
  by_cases hr : 1 < c.refs
  · obtain ⟨h5, e5, s5, b5, n5⟩ := Sm.bump h4 7
    have r5 : Rw h5 tb [.map (some mb), .ptr (some (x, 0)), u next] [] false := r4.same (by rw [b5])
    have m5 : h5.bs.gt mb = some (.map es k) := by rw [b5, hsame4 mb hmb]; exact t2
    have ldv : h5.ld h1.next 0 3 = some [.str c.data, .int .i64 c.block, .int .i64 (c.refs - 1)] := by
      rw [(v2.same (h' := h5) (by rw [b5])).ld (i := 0) (n := 3) (by simp)]; rfl
    have hmu := x_mu_84 m5 t3.all id (.agg [.str c.data, .int .i64 c.block, .int .i64 (c.refs - 1)])
    obtain ⟨xe, f1, f2⟩ := t3.findS hg
    rw [any_some f1, if_pos rfl] at hmu
    have hent := t3.put { c with refs := c.refs - 1 } k
    unfold Ch.val at hent
    obtain ⟨h6, e6, p6⟩ : ∃ h6, h5.put mb (.map (putE .u32 id (.agg [.str c.data, .int .i64 c.block, .int .i64 (c.refs - 1)]) k es) k) = h6 ∧ (∀ b, h6.bs.gt b = if b = mb then some (.map (putE .u32 id (.agg [.str c.data, .int .i64 c.block, .int .i64 (c.refs - 1)]) k es) k) else h5.bs.gt b) ∧ h6.next = h5.next := ⟨_, rfl, fun b => put_get _ _ _ _, rfl⟩
    rw [e6] at hmu
    have hpos : (0 : Int) < c.refs - 1 := by omega
    simp only [r15_1, r15_3, r15_6, r15_9, r15_10, r15_8, r15_11, r15_7, r15_5, r15_14, r15_16, r15_19, r15_21, r15_22, r15_20, r15_18, r15_23, r15_17, r15_15, r15_13, r15_25, r15_27, r15_29, r15_30, r15_28, r15_26, r15_24, r15_12, r15_4, r15_2, r15_0, ea, x_al_91, e2, w1, x_fa_91_2, w2.ld1, v2.ld1, hpos, ew, v1, e5, x_fa_87_0, r5.ld1, ldv, hmu, ret_seq, ret_seq_ret, ret_seq_exit, ret_blk, ret_blk_ret, ret_blk_exit, ret_nil, gt_same, gt_other, Nat.reduceBEq, gt_leaf, l1_one, l2_two, l3_three, g_loc0, g_locS, g_tmp, g_cst, b_lss, b_leq, b_gtr, b_geq, b_add, b_sub, b_mul, b_eql, b_neq, b_eqlS, b_neqS, u_not, w_true, w_false, eBool_bool, resA_nil, resA_tmp, resA_cell, okP_true, okP_false, tupled_nil, tupled_one, tupled_more, t_nth, m_load, m_loadN, m_store, n_ptr, reduceIte, List.getElem?_cons_zero, List.getElem?_cons_succ, Option.map_some, Bool.not_true, Bool.not_false, decide_true, decide_false, mx_int, mn_int, Nat.add_zero, Nat.zero_add, Nat.reduceEqDiff, Nat.reduceAdd, app'_eq, List.append_nil, List.nil_append, o_bool, o_int, o_str, o_ptr, o_slice, o_map, List.all_cons, List.all_nil, Bool.and_self, box_agg, st_agg, ptrTo, sliceTo, mapTo, List.length_cons, List.length_nil, Nat.mul_one, Nat.zero_mul, Nat.sub_zero, Nat.reduceMul, eq_self]
    refine hQ _ _ _ _ (.inr rfl) (by simp only [ret_seq, ret_seq_ret, ret_seq_exit, ret_blk, ret_blk_ret, ret_blk_exit, ret_nil, gt_same, gt_other, Nat.reduceBEq, gt_leaf, l1_one, l2_two, l3_three, g_loc0, g_locS, g_tmp, g_cst, b_lss, b_leq, b_gtr, b_geq, b_add, b_sub, b_mul, b_eql, b_neq, b_eqlS, b_neqS, u_not, w_true, w_false, eBool_bool, resA_nil, resA_tmp, resA_cell, okP_true, okP_false, tupled_nil, tupled_one, tupled_more, t_nth, m_load, m_loadN, m_store, n_ptr, reduceIte, List.getElem?_cons_zero, List.getElem?_cons_succ, Option.map_some, Bool.not_true, Bool.not_false, decide_true, decide_false, mx_int, mn_int, Nat.add_zero, Nat.zero_add, Nat.reduceEqDiff, Nat.reduceAdd, app'_eq, List.append_nil, List.nil_append, o_bool, o_int, o_str, o_ptr, o_slice, o_map, List.all_cons, List.all_nil, Bool.and_self, box_agg, st_agg, ptrTo, sliceTo, mapTo, List.length_cons, List.length_nil, Nat.mul_one, Nat.zero_mul, Nat.sub_zero, Nat.reduceMul, eq_self]) (by simp only [ret_seq, ret_seq_ret, ret_seq_exit, ret_blk, ret_blk_ret, ret_blk_exit, ret_nil, gt_same, gt_other, Nat.reduceBEq, gt_leaf, l1_one, l2_two, l3_three, g_loc0, g_locS, g_tmp, g_cst, b_lss, b_leq, b_gtr, b_geq, b_add, b_sub, b_mul, b_eql, b_neq, b_eqlS, b_neqS, u_not, w_true, w_false, eBool_bool, resA_nil, resA_tmp, resA_cell, okP_true, okP_false, tupled_nil, tupled_one, tupled_more, t_nth, m_load, m_loadN, m_store, n_ptr, reduceIte, List.getElem?_cons_zero, List.getElem?_cons_succ, Option.map_some, Bool.not_true, Bool.not_false, decide_true, decide_false, mx_int, mn_int, Nat.add_zero, Nat.zero_add, Nat.reduceEqDiff, Nat.reduceAdd, app'_eq, List.append_nil, List.nil_append, o_bool, o_int, o_str, o_ptr, o_slice, o_map, List.all_cons, List.all_nil, Bool.and_self, box_agg, st_agg, ptrTo, sliceTo, mapTo, List.length_cons, List.length_nil, Nat.mul_one, Nat.zero_mul, Nat.sub_zero, Nat.reduceMul, eq_self]; rfl) ?_
    have g6 : ∀ b, b < h1.next → b ≠ mb → h6.bs.gt b = h1.bs.gt b := fun b hb hne => by rw [p6.1, if_neg hne, b5, hsame4 b hb]
    refine ⟨⟨by omega, fun b hb hF => ?_⟩, ?_⟩
    · rw [g6 b (by omega) (fun e => hF (.inr (.inl e))), s1.2 b hb (fun h => h)]
    · rw [if_pos hr]
      refine ⟨rfl, ⟨mb, x, _, k, B, X, t1.same (g6 tb (by omega) hne), by rw [p6.1, if_pos rfl], ?_, t4.sm (G := fun b => b = mb) ⟨by omega, fun b hb hF => g6 b hb hF⟩ (fun b hb e => hx2 (e ▸ hb)), t5.upd (c := { c with refs := c.refs - 1 }) (c0 := c) (by show gtL L c.id = _; rw [hgs.2]; exact hg) rfl (by show 1 ≤ c.refs - 1; omega) (by show c.refs - 1 ≤ 65535; omega), by omega, hne, hx1, hx2, rfl⟩, by omega⟩
      simp only [hgs.2] at hent ⊢
      exact hent
  · have hr1 : c.refs = 1 := by omega
    have m4 : h4.bs.gt mb = some (.map es k) := (hsame4 mb hmb).trans t2
    have hmd := x_md_84 m4 t3.all id
    obtain ⟨h5, e5, p5⟩ : ∃ h5, h4.put mb (.map (cutE .u32 id es) k) = h5 ∧ (∀ b, h5.bs.gt b = if b = mb then some (.map (cutE .u32 id es) k) else h4.bs.gt b) ∧ h5.next = h4.next := ⟨_, rfl, fun b => put_get _ _ _ _, rfl⟩
    rw [e5] at hmd
    obtain ⟨h6, e6, s6, b6, n6⟩ := Sm.bump h5 8
    have g6 : ∀ b, b < h1.next → b ≠ mb → h6.bs.gt b = h1.bs.gt b := fun b hb hne => by rw [b6, p5.1, if_neg hne, hsame4 b hb]
    have r6 : Rw h6 tb [.map (some mb), .ptr (some (x, 0)), u next] [] false := t1.same (g6 tb (by omega) hne)
    have v6 : Rw h6 h1.next [.str c.data, .int .i64 c.block, .int .i64 (c.refs - 1)] (tyMark 91 true) false := v2.same (by rw [b6, p5.1, if_neg (by omega)])
    have ix6 : IxAt h6 x B X := t4.sm (G := fun b => b = mb) ⟨by omega, fun b hb hF => g6 b hb hF⟩ (fun b hb e => hx2 (e ▸ hb))
    have hin : id ∈ B (bk c.data) := by have := t5.inB c hgs.1; rw [hgs.2] at this; exact this
    obtain ⟨_, h7, e7, rfl, bs, i, i1, ix7, s7, f7⟩ := ixdrop_ok (n := m) (by omega) ix6 (s := c.data) (by omega) hrb.2.2.2.2.1 id hin
    have hpos : ¬ (0 : Int) < c.refs - 1 := by omega
    simp only [r15_1, r15_3, r15_6, r15_9, r15_10, r15_8, r15_11, r15_7, r15_5, r15_14, r15_16, r15_19, r15_21, r15_22, r15_20, r15_18, r15_23, r15_17, r15_15, r15_13, r15_25, r15_27, r15_29, r15_30, r15_28, r15_26, r15_24, r15_12, r15_4, r15_2, r15_0, ea, x_al_91, e2, w1, x_fa_91_2, w2.ld1, v2.ld1, hpos, ew, v1, x_fa_87_0, x_fa_87_1, x_fa_91_0, r4.ld1, hmd, e6, r6.ld1, v6.ld1, e7, ret_seq, ret_seq_ret, ret_seq_exit, ret_blk, ret_blk_ret, ret_blk_exit, ret_nil, gt_same, gt_other, Nat.reduceBEq, gt_leaf, l1_one, l2_two, l3_three, g_loc0, g_locS, g_tmp, g_cst, b_lss, b_leq, b_gtr, b_geq, b_add, b_sub, b_mul, b_eql, b_neq, b_eqlS, b_neqS, u_not, w_true, w_false, eBool_bool, resA_nil, resA_tmp, resA_cell, okP_true, okP_false, tupled_nil, tupled_one, tupled_more, t_nth, m_load, m_loadN, m_store, n_ptr, reduceIte, List.getElem?_cons_zero, List.getElem?_cons_succ, Option.map_some, Bool.not_true, Bool.not_false, decide_true, decide_false, mx_int, mn_int, Nat.add_zero, Nat.zero_add, Nat.reduceEqDiff, Nat.reduceAdd, app'_eq, List.append_nil, List.nil_append, o_bool, o_int, o_str, o_ptr, o_slice, o_map, List.all_cons, List.all_nil, Bool.and_self, box_agg, st_agg, ptrTo, sliceTo, mapTo, List.length_cons, List.length_nil, Nat.mul_one, Nat.zero_mul, Nat.sub_zero, Nat.reduceMul, eq_self]
    refine hQ _ _ _ _ (.inr rfl) (by simp only [ret_seq, ret_seq_ret, ret_seq_exit, ret_blk, ret_blk_ret, ret_blk_exit, ret_nil, gt_same, gt_other, Nat.reduceBEq, gt_leaf, l1_one, l2_two, l3_three, g_loc0, g_locS, g_tmp, g_cst, b_lss, b_leq, b_gtr, b_geq, b_add, b_sub, b_mul, b_eql, b_neq, b_eqlS, b_neqS, u_not, w_true, w_false, eBool_bool, resA_nil, resA_tmp, resA_cell, okP_true, okP_false, tupled_nil, tupled_one, tupled_more, t_nth, m_load, m_loadN, m_store, n_ptr, reduceIte, List.getElem?_cons_zero, List.getElem?_cons_succ, Option.map_some, Bool.not_true, Bool.not_false, decide_true, decide_false, mx_int, mn_int, Nat.add_zero, Nat.zero_add, Nat.reduceEqDiff, Nat.reduceAdd, app'_eq, List.append_nil, List.nil_append, o_bool, o_int, o_str, o_ptr, o_slice, o_map, List.all_cons, List.all_nil, Bool.and_self, box_agg, st_agg, ptrTo, sliceTo, mapTo, List.length_cons, List.length_nil, Nat.mul_one, Nat.zero_mul, Nat.sub_zero, Nat.reduceMul, eq_self]) (by simp only [ret_seq, ret_seq_ret, ret_seq_exit, ret_blk, ret_blk_ret, ret_blk_exit, ret_nil, gt_same, gt_other, Nat.reduceBEq, gt_leaf, l1_one, l2_two, l3_three, g_loc0, g_locS, g_tmp, g_cst, b_lss, b_leq, b_gtr, b_geq, b_add, b_sub, b_mul, b_eql, b_neq, b_eqlS, b_neqS, u_not, w_true, w_false, eBool_bool, resA_nil, resA_tmp, resA_cell, okP_true, okP_false, tupled_nil, tupled_one, tupled_more, t_nth, m_load, m_loadN, m_store, n_ptr, reduceIte, List.getElem?_cons_zero, List.getElem?_cons_succ, Option.map_some, Bool.not_true, Bool.not_false, decide_true, decide_false, mx_int, mn_int, Nat.add_zero, Nat.zero_add, Nat.reduceEqDiff, Nat.reduceAdd, app'_eq, List.append_nil, List.nil_append, o_bool, o_int, o_str, o_ptr, o_slice, o_map, List.all_cons, List.all_nil, Bool.and_self, box_agg, st_agg, ptrTo, sliceTo, mapTo, List.length_cons, List.length_nil, Nat.mul_one, Nat.zero_mul, Nat.sub_zero, Nat.reduceMul, eq_self]; rfl) ?_
    have hbk := bk_lt c.data
    have hnew : ∀ b, IxF x (setF X (bk c.data) bs) b → IxF x X b := by
      rintro b (rfl | ⟨j, hj, hb⟩)
      · exact .inl rfl
      · by_cases e : j = bk c.data
        · subst e; rw [setF_same] at hb; exact .inr ⟨_, hbk, f7 b hb⟩
        · rw [setF_other _ _ e] at hb; exact .inr ⟨j, hj, hb⟩
    have g7 : ∀ b, b < h1.next → b ≠ mb → ¬ IxF x X b → h7.bs.gt b = h1.bs.gt b := fun b hb hne hF => by rw [s7.2 b (by omega) hF, g6 b hb hne]
    have hn7 := s7.1
    refine ⟨⟨by omega, fun b hb hF => ?_⟩, ?_⟩
    · rw [g7 b (by omega) (fun e => hF (.inr (.inl e))) (fun e => hF (.inr (.inr e))), s1.2 b hb (fun h => h)]
    · rw [if_neg hr]
      refine ⟨rfl, _, ⟨⟨mb, x, _, k, _, _, t1.same (g7 tb (by omega) hne hx1), by rw [s7.2 mb (by omega) hx2, b6, p5.1, if_pos rfl], t3.cut id, ix7, t5.cut hg i1, by omega, hne, fun h9 => hx1 (hnew _ h9), fun h9 => hx2 (hnew _ h9), rfl⟩, by omega⟩, fun b hb => ?_⟩
      rcases hb with rfl | rfl | hb
      · exact .inl rfl
      · exact .inr (.inl rfl)
      · exact .inr (.inr (hnew b hb))
end Go.Proofs.Ytlfednnfkejcjaa


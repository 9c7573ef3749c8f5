/-
  The law DedupOnce, walked by the rules; its plain law.
-/
import Derived.Test.YtlfednnfkejcjaaWalkA
set_option linter.unusedVariables false
set_option linter.unusedSimpArgs false

namespace Go.Proofs.Ytlfednnfkejcjaa
open Go.Am
set_option maxRecDepth 10000
/-! ### What the law keeps beside the table -/
structure Hd where
  data : List Nat
  id : Int
  block : Int
  refs : Int
def hc (a : Hd) : List AV := [.str a.data, u a.id, .int .i64 a.block, .int .i64 a.refs]
theorem hc_get : ∀ (l : List Hd) (i k : Nat) (a : Hd), l[i]? = some a → k < 4 → (l.flatMap hc)[i * 4 + k]? = (hc a)[k]?
  | [], i, k, a, h, _ => by simp at h
  | b :: l, 0, k, a, h, hk => by
    cases h
    rw [List.flatMap_cons, Nat.zero_mul, Nat.zero_add, List.getElem?_append_left (by simpa [hc] using hk)]
  | b :: l, i + 1, k, a, h, hk => by
    rw [List.getElem?_cons_succ] at h
    rw [List.flatMap_cons, List.getElem?_append_right (by simp [hc]; omega), ← hc_get l i k a h hk]
    congr 1
    simp [hc]; omega
theorem hc_len (l : List Hd) : (l.flatMap hc).length = l.length * 4 := by
  induction l with
  | nil => rfl
  | cons a l ih => rw [List.flatMap_cons, List.length_append, ih]; simp [hc]; omega
theorem finds_ok {n : Nat} (hn : 5 ≤ n) {h : Heap} {tb : Nat} {L : List Ch} {next : Int} {F : Nat → Prop} (ht : TabAt h tb L next F) {s : List Nat} (hl : s.length ≤ 1000) (hb : Byts s) {w : Int}
    (hw : (fdL L s = none ∧ w = 0) ∨ ∃ c, fdL L s = some c ∧ w = c.id ∧ 0 < w) : WC (C n (.fn 48) [.ptr (some (tb, 0)), .str s, u w] h) fun r h' => Sm NoB h h' ∧ r = .bool true := by
  obtain ⟨m, rfl⟩ : ∃ m, n = m + 1 := ⟨n - 1, by omega⟩
  refine call_fn _ f48A rfl (by simp [fn48]) fun QQ hQ => ?_
  simp only [fn48] at hQ
  simp only [fn48, fill_cons, fill_nil, Nat.zero_add, Nat.reduceAdd]
  obtain ⟨_, h1, ea, s1, rfl⟩ := tFind_ok (n := m) (by omega) ht hl hb
  rcases hw with ⟨hd, rfl⟩ | ⟨c, hd, rfl, hpos⟩
  · rw [hd] at ea
    have hlt : ¬ (0 : Int) < 0 := by decide
    simp only [r48_1, r48_3, r48_5, r48_6, r48_4, r48_2, r48_0, ea, x_eq_4, hlt, beq_self_eq_true, ret_seq, ret_seq_ret, ret_seq_exit, ret_blk, ret_blk_ret, ret_blk_exit, ret_nil, gt_same, gt_other, Nat.reduceBEq, gt_leaf, l1_one, l2_two, l3_three, g_loc0, g_locS, g_tmp, g_cst, b_lss, b_leq, b_gtr, b_geq, b_add, b_sub, b_mul, b_eql, b_neq, b_eqlS, b_neqS, u_not, w_true, w_false, eBool_bool, resA_nil, resA_tmp, resA_cell, okP_true, okP_false, tupled_nil, tupled_one, tupled_more, t_nth, m_load, m_loadN, m_store, n_ptr, reduceIte, List.getElem?_cons_zero, List.getElem?_cons_succ, Option.map_some, Bool.not_true, Bool.not_false, decide_true, decide_false, mx_int, mn_int, Nat.add_zero, Nat.zero_add, Nat.reduceEqDiff, Nat.reduceAdd, app'_eq, List.append_nil, List.nil_append, o_bool, o_int, o_str, o_ptr, o_slice, o_map, List.all_cons, List.all_nil, Bool.and_self, box_agg, st_agg, ptrTo, sliceTo, mapTo, List.length_cons, List.length_nil, Nat.mul_one, Nat.zero_mul, Nat.sub_zero, Nat.reduceMul, eq_self]
    refine hQ _ _ _ _ (.inr rfl) (by simp only [ret_seq, ret_seq_ret, ret_seq_exit, ret_blk, ret_blk_ret, ret_blk_exit, ret_nil, gt_same, gt_other, Nat.reduceBEq, gt_leaf, l1_one, l2_two, l3_three, g_loc0, g_locS, g_tmp, g_cst, b_lss, b_leq, b_gtr, b_geq, b_add, b_sub, b_mul, b_eql, b_neq, b_eqlS, b_neqS, u_not, w_true, w_false, eBool_bool, resA_nil, resA_tmp, resA_cell, okP_true, okP_false, tupled_nil, tupled_one, tupled_more, t_nth, m_load, m_loadN, m_store, n_ptr, reduceIte, List.getElem?_cons_zero, List.getElem?_cons_succ, Option.map_some, Bool.not_true, Bool.not_false, decide_true, decide_false, mx_int, mn_int, Nat.add_zero, Nat.zero_add, Nat.reduceEqDiff, Nat.reduceAdd, app'_eq, List.append_nil, List.nil_append, o_bool, o_int, o_str, o_ptr, o_slice, o_map, List.all_cons, List.all_nil, Bool.and_self, box_agg, st_agg, ptrTo, sliceTo, mapTo, List.length_cons, List.length_nil, Nat.mul_one, Nat.zero_mul, Nat.sub_zero, Nat.reduceMul, eq_self]) (by simp only [ret_seq, ret_seq_ret, ret_seq_exit, ret_blk, ret_blk_ret, ret_blk_exit, ret_nil, gt_same, gt_other, Nat.reduceBEq, gt_leaf, l1_one, l2_two, l3_three, g_loc0, g_locS, g_tmp, g_cst, b_lss, b_leq, b_gtr, b_geq, b_add, b_sub, b_mul, b_eql, b_neq, b_eqlS, b_neqS, u_not, w_true, w_false, eBool_bool, resA_nil, resA_tmp, resA_cell, okP_true, okP_false, tupled_nil, tupled_one, tupled_more, t_nth, m_load, m_loadN, m_store, n_ptr, reduceIte, List.getElem?_cons_zero, List.getElem?_cons_succ, Option.map_some, Bool.not_true, Bool.not_false, decide_true, decide_false, mx_int, mn_int, Nat.add_zero, Nat.zero_add, Nat.reduceEqDiff, Nat.reduceAdd, app'_eq, List.append_nil, List.nil_append, o_bool, o_int, o_str, o_ptr, o_slice, o_map, List.all_cons, List.all_nil, Bool.and_self, box_agg, st_agg, ptrTo, sliceTo, mapTo, List.length_cons, List.length_nil, Nat.mul_one, Nat.zero_mul, Nat.sub_zero, Nat.reduceMul, eq_self]; rfl) ?_
    exact ⟨s1, rfl⟩
  · rw [hd] at ea
    simp only [r48_1, r48_3, r48_5, r48_6, r48_4, r48_2, r48_0, ea, x_eq_4, hpos, beq_self_eq_true, ret_seq, ret_seq_ret, ret_seq_exit, ret_blk, ret_blk_ret, ret_blk_exit, ret_nil, gt_same, gt_other, Nat.reduceBEq, gt_leaf, l1_one, l2_two, l3_three, g_loc0, g_locS, g_tmp, g_cst, b_lss, b_leq, b_gtr, b_geq, b_add, b_sub, b_mul, b_eql, b_neq, b_eqlS, b_neqS, u_not, w_true, w_false, eBool_bool, resA_nil, resA_tmp, resA_cell, okP_true, okP_false, tupled_nil, tupled_one, tupled_more, t_nth, m_load, m_loadN, m_store, n_ptr, reduceIte, List.getElem?_cons_zero, List.getElem?_cons_succ, Option.map_some, Bool.not_true, Bool.not_false, decide_true, decide_false, mx_int, mn_int, Nat.add_zero, Nat.zero_add, Nat.reduceEqDiff, Nat.reduceAdd, app'_eq, List.append_nil, List.nil_append, o_bool, o_int, o_str, o_ptr, o_slice, o_map, List.all_cons, List.all_nil, Bool.and_self, box_agg, st_agg, ptrTo, sliceTo, mapTo, List.length_cons, List.length_nil, Nat.mul_one, Nat.zero_mul, Nat.sub_zero, Nat.reduceMul, eq_self]
    refine hQ _ _ _ _ (.inr rfl) (by simp only [ret_seq, ret_seq_ret, ret_seq_exit, ret_blk, ret_blk_ret, ret_blk_exit, ret_nil, gt_same, gt_other, Nat.reduceBEq, gt_leaf, l1_one, l2_two, l3_three, g_loc0, g_locS, g_tmp, g_cst, b_lss, b_leq, b_gtr, b_geq, b_add, b_sub, b_mul, b_eql, b_neq, b_eqlS, b_neqS, u_not, w_true, w_false, eBool_bool, resA_nil, resA_tmp, resA_cell, okP_true, okP_false, tupled_nil, tupled_one, tupled_more, t_nth, m_load, m_loadN, m_store, n_ptr, reduceIte, List.getElem?_cons_zero, List.getElem?_cons_succ, Option.map_some, Bool.not_true, Bool.not_false, decide_true, decide_false, mx_int, mn_int, Nat.add_zero, Nat.zero_add, Nat.reduceEqDiff, Nat.reduceAdd, app'_eq, List.append_nil, List.nil_append, o_bool, o_int, o_str, o_ptr, o_slice, o_map, List.all_cons, List.all_nil, Bool.and_self, box_agg, st_agg, ptrTo, sliceTo, mapTo, List.length_cons, List.length_nil, Nat.mul_one, Nat.zero_mul, Nat.sub_zero, Nat.reduceMul, eq_self]) (by simp only [ret_seq, ret_seq_ret, ret_seq_exit, ret_blk, ret_blk_ret, ret_blk_exit, ret_nil, gt_same, gt_other, Nat.reduceBEq, gt_leaf, l1_one, l2_two, l3_three, g_loc0, g_locS, g_tmp, g_cst, b_lss, b_leq, b_gtr, b_geq, b_add, b_sub, b_mul, b_eql, b_neq, b_eqlS, b_neqS, u_not, w_true, w_false, eBool_bool, resA_nil, resA_tmp, resA_cell, okP_true, okP_false, tupled_nil, tupled_one, tupled_more, t_nth, m_load, m_loadN, m_store, n_ptr, reduceIte, List.getElem?_cons_zero, List.getElem?_cons_succ, Option.map_some, Bool.not_true, Bool.not_false, decide_true, decide_false, mx_int, mn_int, Nat.add_zero, Nat.zero_add, Nat.reduceEqDiff, Nat.reduceAdd, app'_eq, List.append_nil, List.nil_append, o_bool, o_int, o_str, o_ptr, o_slice, o_map, List.all_cons, List.all_nil, Bool.and_self, box_agg, st_agg, ptrTo, sliceTo, mapTo, List.length_cons, List.length_nil, Nat.mul_one, Nat.zero_mul, Nat.sub_zero, Nat.reduceMul, eq_self]; rfl) ?_
    exact ⟨s1, rfl⟩
theorem lfind_ok {n : Nat} (hn : 1 ≤ n) {h : Heap} {v : AV} {l : List Hd} (hv : Els h v l.length 4 (l.flatMap hc)) (hl : l.length < 9000) (d : List Nat) : WC (C n (.fn 13) [v, .str d] h) fun r h' => h' = h ∧
    ((∃ (i : Nat) (a : Hd), l[i]? = some a ∧ a.data = d ∧ r = .int .i64 (i : Int)) ∨ ((∀ a, a ∈ l → a.data ≠ d) ∧ r = .int .i64 (-1))) := by
  obtain ⟨hlen, a, c, g, rfl, _⟩ := id hv
  obtain ⟨m, rfl⟩ : ∃ m, n = m + 1 := ⟨n - 1, by omega⟩
  refine call_fn _ f13A rfl (by simp [fn13]) fun QQ hQ => ?_
  simp only [fn13] at hQ
  simp only [fn13, fill_cons, fill_nil, Nat.zero_add, Nat.reduceAdd]
  simp only [r13_1, r13_4, r13_9, r13_11, r13_12, r13_10, r13_8, r13_16, r13_19, r13_20, r13_18, r13_21, r13_17, r13_15, r13_14, r13_22, r13_13, r13_7, r13_5, r13_3, r13_24, r13_25, r13_23, r13_2, r13_0, ret_seq, ret_seq_ret, ret_seq_exit, ret_blk, ret_blk_ret, ret_blk_exit, ret_nil, gt_same, gt_other, Nat.reduceBEq, gt_leaf, l1_one, l2_two, l3_three, g_loc0, g_locS, g_tmp, g_cst, b_lss, b_leq, b_gtr, b_geq, b_add, b_sub, b_mul, b_eql, b_neq, b_eqlS, b_neqS, u_not, w_true, w_false, eBool_bool, resA_nil, resA_tmp, resA_cell, okP_true, okP_false, tupled_nil, tupled_one, tupled_more, t_nth, m_load, m_loadN, m_store, n_ptr, reduceIte, List.getElem?_cons_zero, List.getElem?_cons_succ, Option.map_some, Bool.not_true, Bool.not_false, decide_true, decide_false, mx_int, mn_int, Nat.add_zero, Nat.zero_add, Nat.reduceEqDiff, Nat.reduceAdd, app'_eq, List.append_nil, List.nil_append, o_bool, o_int, o_str, o_ptr, o_slice, o_map, List.all_cons, List.all_nil, Bool.and_self, box_agg, st_agg, ptrTo, sliceTo, mapTo, List.length_cons, List.length_nil, Nat.mul_one, Nat.zero_mul, Nat.sub_zero, Nat.reduceMul, eq_self]
  refine run_loop (c := c13_7) (I := fun k tm' h' => ∃ i, i ≤ l.length ∧ k = l.length - i ∧ h' = h ∧ (∀ (j : Nat) a, j < i → l[j]? = some a → a.data ≠ d) ∧ tm'.gt 0 = some (.slice a l.length c g) ∧ tm'.gt 1 = some (.str d) ∧ tm'.gt 5 = some (.int .i64 (i : Int)) ∧ tm'.gt 20 = none) (n := l.length)
    ⟨0, by simp [gt_same, gt_other, gt_leaf]⟩ (by omega) ?_
  rintro _ tm h0 ⟨i, hi, rfl, rfl, hno, t0, t1, t5, t20⟩ Q1 hN hE
  by_cases hlt : i < l.length
  · obtain ⟨b, o, rfl, hcell⟩ := hv.cell (by omega)
    have hx : l[i]? = some l[i] := List.getElem?_eq_getElem (by omega)
    have hc0 := hcell (i * 4 + 0) (by omega)
    rw [hc_get l i 0 _ hx (by decide)] at hc0
    have hc0 : h0.ld1 b (o + i * 4) = some (.str l[i].data) := hc0
    by_cases he : l[i].data = d
    · simp only [r13_1, r13_4, r13_9, r13_11, r13_12, r13_10, r13_8, r13_16, r13_19, r13_20, r13_18, r13_21, r13_17, r13_15, r13_14, r13_22, r13_13, r13_7, r13_5, r13_3, r13_24, r13_25, r13_23, r13_2, r13_0, x_len_26, x_ia_26 hlt, x_fa_32_0, t0, t1, t5, t20, ret_seq, ret_seq_ret, ret_seq_exit, ret_blk, ret_blk_ret, ret_blk_exit, ret_nil, gt_same, gt_other, Nat.reduceBEq, gt_leaf, l1_one, l2_two, l3_three, g_loc0, g_locS, g_tmp, g_cst, b_lss, b_leq, b_gtr, b_geq, b_add, b_sub, b_mul, b_eql, b_neq, b_eqlS, b_neqS, u_not, w_true, w_false, eBool_bool, resA_nil, resA_tmp, resA_cell, okP_true, okP_false, tupled_nil, tupled_one, tupled_more, t_nth, m_load, m_loadN, m_store, n_ptr, reduceIte, List.getElem?_cons_zero, List.getElem?_cons_succ, Option.map_some, Bool.not_true, Bool.not_false, decide_true, decide_false, mx_int, mn_int, Nat.add_zero, Nat.zero_add, Nat.reduceEqDiff, Nat.reduceAdd, app'_eq, List.append_nil, List.nil_append, o_bool, o_int, o_str, o_ptr, o_slice, o_map, List.all_cons, List.all_nil, Bool.and_self, box_agg, st_agg, ptrTo, sliceTo, mapTo, List.length_cons, List.length_nil, Nat.mul_one, Nat.zero_mul, Nat.sub_zero, Nat.reduceMul, eq_self, Int.ofNat_lt, hlt, hc0, he]
      refine hE _ _ _ (by simp) ?_
      simp only [ret_seq, ret_seq_ret, ret_seq_exit, ret_blk, ret_blk_ret, ret_blk_exit, ret_nil, gt_same, gt_other, Nat.reduceBEq, gt_leaf, l1_one, l2_two, l3_three, g_loc0, g_locS, g_tmp, g_cst, b_lss, b_leq, b_gtr, b_geq, b_add, b_sub, b_mul, b_eql, b_neq, b_eqlS, b_neqS, u_not, w_true, w_false, eBool_bool, resA_nil, resA_tmp, resA_cell, okP_true, okP_false, tupled_nil, tupled_one, tupled_more, t_nth, m_load, m_loadN, m_store, n_ptr, reduceIte, List.getElem?_cons_zero, List.getElem?_cons_succ, Option.map_some, Bool.not_true, Bool.not_false, decide_true, decide_false, mx_int, mn_int, Nat.add_zero, Nat.zero_add, Nat.reduceEqDiff, Nat.reduceAdd, app'_eq, List.append_nil, List.nil_append, o_bool, o_int, o_str, o_ptr, o_slice, o_map, List.all_cons, List.all_nil, Bool.and_self, box_agg, st_agg, ptrTo, sliceTo, mapTo, List.length_cons, List.length_nil, Nat.mul_one, Nat.zero_mul, Nat.sub_zero, Nat.reduceMul, eq_self]
      refine hQ _ _ _ _ (.inr rfl) (by simp only [ret_seq, ret_seq_ret, ret_seq_exit, ret_blk, ret_blk_ret, ret_blk_exit, ret_nil, gt_same, gt_other, Nat.reduceBEq, gt_leaf, l1_one, l2_two, l3_three, g_loc0, g_locS, g_tmp, g_cst, b_lss, b_leq, b_gtr, b_geq, b_add, b_sub, b_mul, b_eql, b_neq, b_eqlS, b_neqS, u_not, w_true, w_false, eBool_bool, resA_nil, resA_tmp, resA_cell, okP_true, okP_false, tupled_nil, tupled_one, tupled_more, t_nth, m_load, m_loadN, m_store, n_ptr, reduceIte, List.getElem?_cons_zero, List.getElem?_cons_succ, Option.map_some, Bool.not_true, Bool.not_false, decide_true, decide_false, mx_int, mn_int, Nat.add_zero, Nat.zero_add, Nat.reduceEqDiff, Nat.reduceAdd, app'_eq, List.append_nil, List.nil_append, o_bool, o_int, o_str, o_ptr, o_slice, o_map, List.all_cons, List.all_nil, Bool.and_self, box_agg, st_agg, ptrTo, sliceTo, mapTo, List.length_cons, List.length_nil, Nat.mul_one, Nat.zero_mul, Nat.sub_zero, Nat.reduceMul, eq_self, t20]) (by simp only [ret_seq, ret_seq_ret, ret_seq_exit, ret_blk, ret_blk_ret, ret_blk_exit, ret_nil, gt_same, gt_other, Nat.reduceBEq, gt_leaf, l1_one, l2_two, l3_three, g_loc0, g_locS, g_tmp, g_cst, b_lss, b_leq, b_gtr, b_geq, b_add, b_sub, b_mul, b_eql, b_neq, b_eqlS, b_neqS, u_not, w_true, w_false, eBool_bool, resA_nil, resA_tmp, resA_cell, okP_true, okP_false, tupled_nil, tupled_one, tupled_more, t_nth, m_load, m_loadN, m_store, n_ptr, reduceIte, List.getElem?_cons_zero, List.getElem?_cons_succ, Option.map_some, Bool.not_true, Bool.not_false, decide_true, decide_false, mx_int, mn_int, Nat.add_zero, Nat.zero_add, Nat.reduceEqDiff, Nat.reduceAdd, app'_eq, List.append_nil, List.nil_append, o_bool, o_int, o_str, o_ptr, o_slice, o_map, List.all_cons, List.all_nil, Bool.and_self, box_agg, st_agg, ptrTo, sliceTo, mapTo, List.length_cons, List.length_nil, Nat.mul_one, Nat.zero_mul, Nat.sub_zero, Nat.reduceMul, eq_self]; rfl) ?_
      exact ⟨rfl, .inl ⟨i, _, hx, he, rfl⟩⟩
    · simp only [r13_1, r13_4, r13_9, r13_11, r13_12, r13_10, r13_8, r13_16, r13_19, r13_20, r13_18, r13_21, r13_17, r13_15, r13_14, r13_22, r13_13, r13_7, r13_5, r13_3, r13_24, r13_25, r13_23, r13_2, r13_0, x_len_26, x_ia_26 hlt, x_fa_32_0, t0, t1, t5, t20, ret_seq, ret_seq_ret, ret_seq_exit, ret_blk, ret_blk_ret, ret_blk_exit, ret_nil, gt_same, gt_other, Nat.reduceBEq, gt_leaf, l1_one, l2_two, l3_three, g_loc0, g_locS, g_tmp, g_cst, b_lss, b_leq, b_gtr, b_geq, b_add, b_sub, b_mul, b_eql, b_neq, b_eqlS, b_neqS, u_not, w_true, w_false, eBool_bool, resA_nil, resA_tmp, resA_cell, okP_true, okP_false, tupled_nil, tupled_one, tupled_more, t_nth, m_load, m_loadN, m_store, n_ptr, reduceIte, List.getElem?_cons_zero, List.getElem?_cons_succ, Option.map_some, Bool.not_true, Bool.not_false, decide_true, decide_false, mx_int, mn_int, Nat.add_zero, Nat.zero_add, Nat.reduceEqDiff, Nat.reduceAdd, app'_eq, List.append_nil, List.nil_append, o_bool, o_int, o_str, o_ptr, o_slice, o_map, List.all_cons, List.all_nil, Bool.and_self, box_agg, st_agg, ptrTo, sliceTo, mapTo, List.length_cons, List.length_nil, Nat.mul_one, Nat.zero_mul, Nat.sub_zero, Nat.reduceMul, eq_self, Int.ofNat_lt, hlt, hc0, he]
      refine hN _ _ (l.length - (i + 1)) (by omega) ⟨i + 1, hlt, rfl, rfl, fun j a' hj h1 => ?_, ?_⟩
      · by_cases e : j = i
        · subst e; rw [hx] at h1; cases h1; exact he
        · exact hno j a' (by omega) h1
      · have e7 : IntKind.i64.wrap ((i : Int) + 1) = ((i + 1 : Nat) : Int) := by rw [wrap_i64 (by omega) (by omega)]; simp
        simp only [ret_seq, ret_seq_ret, ret_seq_exit, ret_blk, ret_blk_ret, ret_blk_exit, ret_nil, gt_same, gt_other, Nat.reduceBEq, gt_leaf, l1_one, l2_two, l3_three, g_loc0, g_locS, g_tmp, g_cst, b_lss, b_leq, b_gtr, b_geq, b_add, b_sub, b_mul, b_eql, b_neq, b_eqlS, b_neqS, u_not, w_true, w_false, eBool_bool, resA_nil, resA_tmp, resA_cell, okP_true, okP_false, tupled_nil, tupled_one, tupled_more, t_nth, m_load, m_loadN, m_store, n_ptr, reduceIte, List.getElem?_cons_zero, List.getElem?_cons_succ, Option.map_some, Bool.not_true, Bool.not_false, decide_true, decide_false, mx_int, mn_int, Nat.add_zero, Nat.zero_add, Nat.reduceEqDiff, Nat.reduceAdd, app'_eq, List.append_nil, List.nil_append, o_bool, o_int, o_str, o_ptr, o_slice, o_map, List.all_cons, List.all_nil, Bool.and_self, box_agg, st_agg, ptrTo, sliceTo, mapTo, List.length_cons, List.length_nil, Nat.mul_one, Nat.zero_mul, Nat.sub_zero, Nat.reduceMul, eq_self, t0, t1, t5, t20, e7, and_self]
  · obtain rfl : i = l.length := by omega
    simp only [r13_1, r13_4, r13_9, r13_11, r13_12, r13_10, r13_8, r13_16, r13_19, r13_20, r13_18, r13_21, r13_17, r13_15, r13_14, r13_22, r13_13, r13_7, r13_5, r13_3, r13_24, r13_25, r13_23, r13_2, r13_0, x_len_26, t0, t1, t5, t20, ret_seq, ret_seq_ret, ret_seq_exit, ret_blk, ret_blk_ret, ret_blk_exit, ret_nil, gt_same, gt_other, Nat.reduceBEq, gt_leaf, l1_one, l2_two, l3_three, g_loc0, g_locS, g_tmp, g_cst, b_lss, b_leq, b_gtr, b_geq, b_add, b_sub, b_mul, b_eql, b_neq, b_eqlS, b_neqS, u_not, w_true, w_false, eBool_bool, resA_nil, resA_tmp, resA_cell, okP_true, okP_false, tupled_nil, tupled_one, tupled_more, t_nth, m_load, m_loadN, m_store, n_ptr, reduceIte, List.getElem?_cons_zero, List.getElem?_cons_succ, Option.map_some, Bool.not_true, Bool.not_false, decide_true, decide_false, mx_int, mn_int, Nat.add_zero, Nat.zero_add, Nat.reduceEqDiff, Nat.reduceAdd, app'_eq, List.append_nil, List.nil_append, o_bool, o_int, o_str, o_ptr, o_slice, o_map, List.all_cons, List.all_nil, Bool.and_self, box_agg, st_agg, ptrTo, sliceTo, mapTo, List.length_cons, List.length_nil, Nat.mul_one, Nat.zero_mul, Nat.sub_zero, Nat.reduceMul, eq_self, Int.ofNat_lt, hlt]
    refine hE _ _ _ (by simp) ?_
    simp only [r13_1, r13_4, r13_9, r13_11, r13_12, r13_10, r13_8, r13_16, r13_19, r13_20, r13_18, r13_21, r13_17, r13_15, r13_14, r13_22, r13_13, r13_7, r13_5, r13_3, r13_24, r13_25, r13_23, r13_2, r13_0, t0, t1, t5, t20, ret_seq, ret_seq_ret, ret_seq_exit, ret_blk, ret_blk_ret, ret_blk_exit, ret_nil, gt_same, gt_other, Nat.reduceBEq, gt_leaf, l1_one, l2_two, l3_three, g_loc0, g_locS, g_tmp, g_cst, b_lss, b_leq, b_gtr, b_geq, b_add, b_sub, b_mul, b_eql, b_neq, b_eqlS, b_neqS, u_not, w_true, w_false, eBool_bool, resA_nil, resA_tmp, resA_cell, okP_true, okP_false, tupled_nil, tupled_one, tupled_more, t_nth, m_load, m_loadN, m_store, n_ptr, reduceIte, List.getElem?_cons_zero, List.getElem?_cons_succ, Option.map_some, Bool.not_true, Bool.not_false, decide_true, decide_false, mx_int, mn_int, Nat.add_zero, Nat.zero_add, Nat.reduceEqDiff, Nat.reduceAdd, app'_eq, List.append_nil, List.nil_append, o_bool, o_int, o_str, o_ptr, o_slice, o_map, List.all_cons, List.all_nil, Bool.and_self, box_agg, st_agg, ptrTo, sliceTo, mapTo, List.length_cons, List.length_nil, Nat.mul_one, Nat.zero_mul, Nat.sub_zero, Nat.reduceMul, eq_self]
    refine hQ _ _ _ _ (.inr rfl) (by simp only [ret_seq, ret_seq_ret, ret_seq_exit, ret_blk, ret_blk_ret, ret_blk_exit, ret_nil, gt_same, gt_other, Nat.reduceBEq, gt_leaf, l1_one, l2_two, l3_three, g_loc0, g_locS, g_tmp, g_cst, b_lss, b_leq, b_gtr, b_geq, b_add, b_sub, b_mul, b_eql, b_neq, b_eqlS, b_neqS, u_not, w_true, w_false, eBool_bool, resA_nil, resA_tmp, resA_cell, okP_true, okP_false, tupled_nil, tupled_one, tupled_more, t_nth, m_load, m_loadN, m_store, n_ptr, reduceIte, List.getElem?_cons_zero, List.getElem?_cons_succ, Option.map_some, Bool.not_true, Bool.not_false, decide_true, decide_false, mx_int, mn_int, Nat.add_zero, Nat.zero_add, Nat.reduceEqDiff, Nat.reduceAdd, app'_eq, List.append_nil, List.nil_append, o_bool, o_int, o_str, o_ptr, o_slice, o_map, List.all_cons, List.all_nil, Bool.and_self, box_agg, st_agg, ptrTo, sliceTo, mapTo, List.length_cons, List.length_nil, Nat.mul_one, Nat.zero_mul, Nat.sub_zero, Nat.reduceMul, eq_self, t20]) (by simp only [ret_seq, ret_seq_ret, ret_seq_exit, ret_blk, ret_blk_ret, ret_blk_exit, ret_nil, gt_same, gt_other, Nat.reduceBEq, gt_leaf, l1_one, l2_two, l3_three, g_loc0, g_locS, g_tmp, g_cst, b_lss, b_leq, b_gtr, b_geq, b_add, b_sub, b_mul, b_eql, b_neq, b_eqlS, b_neqS, u_not, w_true, w_false, eBool_bool, resA_nil, resA_tmp, resA_cell, okP_true, okP_false, tupled_nil, tupled_one, tupled_more, t_nth, m_load, m_loadN, m_store, n_ptr, reduceIte, List.getElem?_cons_zero, List.getElem?_cons_succ, Option.map_some, Bool.not_true, Bool.not_false, decide_true, decide_false, mx_int, mn_int, Nat.add_zero, Nat.zero_add, Nat.reduceEqDiff, Nat.reduceAdd, app'_eq, List.append_nil, List.nil_append, o_bool, o_int, o_str, o_ptr, o_slice, o_map, List.all_cons, List.all_nil, Bool.and_self, box_agg, st_agg, ptrTo, sliceTo, mapTo, List.length_cons, List.length_nil, Nat.mul_one, Nat.zero_mul, Nat.sub_zero, Nat.reduceMul, eq_self]; rfl) ?_
    refine ⟨rfl, .inr ⟨fun a' ha => ?_, rfl⟩⟩
    obtain ⟨j, hj⟩ := List.getElem?_of_mem ha
    exact hno j a' (List.getElem?_eq_some_iff.1 hj).1 hj
/-- what holds of the table and of what is kept -/
structure Both (L : List Ch) (next : Int) (l : List Hd) : Prop where
  nd : (l.map Hd.data).Nodup
  off : ∀ a, a ∈ l → a.refs = 0 → gtL L a.id = none ∧ fdL L a.data = none
  on : ∀ a, a ∈ l → a.refs ≠ 0 → gtL L a.id = some ⟨a.id, a.data, a.block, a.refs⟩
  all : ∀ c, c ∈ L → ∃ a, a ∈ l ∧ a.data = c.data ∧ a.refs ≠ 0
  cnt : L.length = (l.filter fun a => a.refs != 0).length
  ok : ∀ a, a ∈ l → 0 ≤ a.refs ∧ 1 ≤ a.id ∧ a.id < next ∧ 1 ≤ a.data.length ∧ a.data.length ≤ 64 ∧ Byts a.data
theorem kept_ok {n : Nat} (hn : 6 ≤ n) {h : Heap} {tb : Nat} {L : List Ch} {next : Int} {F : Nat → Prop} (ht : TabAt h tb L next F) {v : AV} {l : List Hd} (hv : Els h v l.length 4 (l.flatMap hc)) (hl : l.length < 9000) (hB : Both L next l) :
    WC (C n (.fn 18) [.ptr (some (tb, 0)), v] h) fun r h' => Sm NoB h h' ∧ r = .bool true := by
  obtain ⟨hlen, a, c, g, rfl, _⟩ := id hv
  have hds : (L.map Ch.data).Nodup := by obtain ⟨_, _, _, _, B, _, _, _, _, _, t5, _⟩ := ht.ex; exact t5.datas
  obtain ⟨m, rfl⟩ : ∃ m, n = m + 1 := ⟨n - 1, by omega⟩
  refine call_fn _ f18A rfl (by simp [fn18]) fun QQ hQ => ?_
  simp only [fn18] at hQ
  simp only [fn18, fill_cons, fill_nil, Nat.zero_add, Nat.reduceAdd]
  simp only [r18_1, r18_3, r18_6, r18_11, r18_13, r18_14, r18_12, r18_10, r18_18, r18_21, r18_25, r18_28, r18_29, r18_27, r18_30, r18_26, r18_24, r18_31, r18_23, r18_32, r18_22, r18_20, r18_34, r18_36, r18_39, r18_40, r18_38, r18_41, r18_37, r18_35, r18_33, r18_19, r18_17, r18_16, r18_42, r18_15, r18_9, r18_7, r18_5, r18_44, r18_45, r18_43, r18_4, r18_2, r18_0, ret_seq, ret_seq_ret, ret_seq_exit, ret_blk, ret_blk_ret, ret_blk_exit, ret_nil, gt_same, gt_other, Nat.reduceBEq, gt_leaf, l1_one, l2_two, l3_three, g_loc0, g_locS, g_tmp, g_cst, b_lss, b_leq, b_gtr, b_geq, b_add, b_sub, b_mul, b_eql, b_neq, b_eqlS, b_neqS, u_not, w_true, w_false, eBool_bool, resA_nil, resA_tmp, resA_cell, okP_true, okP_false, tupled_nil, tupled_one, tupled_more, t_nth, m_load, m_loadN, m_store, n_ptr, reduceIte, List.getElem?_cons_zero, List.getElem?_cons_succ, Option.map_some, Bool.not_true, Bool.not_false, decide_true, decide_false, mx_int, mn_int, Nat.add_zero, Nat.zero_add, Nat.reduceEqDiff, Nat.reduceAdd, app'_eq, List.append_nil, List.nil_append, o_bool, o_int, o_str, o_ptr, o_slice, o_map, List.all_cons, List.all_nil, Bool.and_self, box_agg, st_agg, ptrTo, sliceTo, mapTo, List.length_cons, List.length_nil, Nat.mul_one, Nat.zero_mul, Nat.sub_zero, Nat.reduceMul, eq_self]
  refine run_loop (c := c18_9) (I := fun k tm' h' => ∃ i, i ≤ l.length ∧ k = l.length - i ∧ Sm NoB h h' ∧ tm'.gt 0 = some (.ptr (some (tb, 0))) ∧ tm'.gt 1 = some (.slice a l.length c g) ∧ tm'.gt 5 = some (.int .i64 (((l.take i).filter fun a => a.refs != 0).length : Int)) ∧ tm'.gt 6 = some (.int .i64 (i : Int)) ∧ tm'.gt 96 = none) (n := l.length)
    ⟨0, by simp [gt_same, gt_other, gt_leaf, Sm.refl]⟩ (by omega) ?_
  rintro _ tm h0 ⟨i, hi, rfl, s0, t0, t1, t5, t6, t96⟩ Q1 hN hE
  have ht0 := ht.sm s0 (fun _ _ h => h)
  by_cases hlt : i < l.length
  · obtain ⟨b, o, rfl, _⟩ := hv.cell (by omega)
    have hblt := hv.lt
    have hv0 := hv.same (s0.2 b hblt (fun h => h)) s0.1
    obtain ⟨b', o', e', hcell⟩ := hv0.cell (by omega)
    cases e'
    have hx : l[i]? = some l[i] := List.getElem?_eq_getElem (by omega)
    have hm := List.mem_of_getElem? hx
    have hcl : ∀ k, k < 4 → h0.ld1 b (o + (i * 4 + k)) = (hc l[i])[k]? := fun k hk => by rw [hcell (i * 4 + k) (by omega), hc_get l i k _ hx hk]
    obtain ⟨_, h1, ea, s1, rfl⟩ := tget_ok (n := m) (by omega) ht0 l[i].id
    have hv1 := hv0.same (s1.2 b (Nat.lt_of_lt_of_le hblt s0.1) (fun h => h)) s1.1
    obtain ⟨b', o', e', hcell1⟩ := hv1.cell (by omega)
    cases e'
    have hcl1 : ∀ k, k < 4 → h1.ld1 b (o + (i * 4 + k)) = (hc l[i])[k]? := fun k hk => by rw [hcell1 (i * 4 + k) (by omega), hc_get l i k _ hx hk]
    have a0 : h1.ld1 b (o + i * 4) = some (.str l[i].data) := hcl1 0 (by decide)
    have a1 : h1.ld1 b (o + i * 4 + 1) = some (u l[i].id) := hcl1 1 (by decide)
    have a2 : h1.ld1 b (o + i * 4 + 2) = some (.int .i64 l[i].block) := hcl1 2 (by decide)
    have a3 : h1.ld1 b (o + i * 4 + 3) = some (.int .i64 l[i].refs) := hcl1 3 (by decide)
    have z1 : h0.ld1 b (o + i * 4 + 1) = some (u l[i].id) := hcl 1 (by decide)
    have ht1 := ht0.sm s1 (fun _ _ h => h)
    obtain ⟨ok1, ok2, ok3, ok4, ok5, ok6⟩ := hB.ok _ hm
    have e7 : IntKind.i64.wrap ((i : Int) + 1) = ((i + 1 : Nat) : Int) := by rw [wrap_i64 (by omega) (by omega)]; simp
    have htk : l.take (i + 1) = l.take i ++ [l[i]] := by rw [List.take_add_one, hx]; rfl
    by_cases hr : l[i].refs = 0
    · obtain ⟨g1, g2⟩ := hB.off _ hm hr
      rw [g1] at ea
      obtain ⟨_, h2, eb, s2, rfl⟩ := finds_ok (n := m) (by omega) ht1 (s := l[i].data) (by omega) ok6 (w := 0) (.inl ⟨g2, rfl⟩)
      simp only [r18_1, r18_3, r18_6, r18_11, r18_13, r18_14, r18_12, r18_10, r18_18, r18_21, r18_25, r18_28, r18_29, r18_27, r18_30, r18_26, r18_24, r18_31, r18_23, r18_32, r18_22, r18_20, r18_34, r18_36, r18_39, r18_40, r18_38, r18_41, r18_37, r18_35, r18_33, r18_19, r18_17, r18_16, r18_42, r18_15, r18_9, r18_7, r18_5, r18_44, r18_45, r18_43, r18_4, r18_2, r18_0, x_len_26, x_ia_26 hlt, x_fa_32_0, x_fa_32_1, x_fa_32_2, x_fa_32_3, t0, t1, t5, t6, t96, ret_seq, ret_seq_ret, ret_seq_exit, ret_blk, ret_blk_ret, ret_blk_exit, ret_nil, gt_same, gt_other, Nat.reduceBEq, gt_leaf, l1_one, l2_two, l3_three, g_loc0, g_locS, g_tmp, g_cst, b_lss, b_leq, b_gtr, b_geq, b_add, b_sub, b_mul, b_eql, b_neq, b_eqlS, b_neqS, u_not, w_true, w_false, eBool_bool, resA_nil, resA_tmp, resA_cell, okP_true, okP_false, tupled_nil, tupled_one, tupled_more, t_nth, m_load, m_loadN, m_store, n_ptr, reduceIte, List.getElem?_cons_zero, List.getElem?_cons_succ, Option.map_some, Bool.not_true, Bool.not_false, decide_true, decide_false, mx_int, mn_int, Nat.add_zero, Nat.zero_add, Nat.reduceEqDiff, Nat.reduceAdd, app'_eq, List.append_nil, List.nil_append, o_bool, o_int, o_str, o_ptr, o_slice, o_map, List.all_cons, List.all_nil, Bool.and_self, box_agg, st_agg, ptrTo, sliceTo, mapTo, List.length_cons, List.length_nil, Nat.mul_one, Nat.zero_mul, Nat.sub_zero, Nat.reduceMul, eq_self, Int.ofNat_lt, hlt, z1, ea, a0, a3, hr, eb]
      refine hN _ _ (l.length - (i + 1)) (by omega) ⟨i + 1, hlt, rfl, (s0.trans s1 (fun _ _ h => h) (fun _ _ h => h)).trans s2 (fun _ _ h => h) (fun _ _ h => h), ?_⟩
      have hf : (l.take (i + 1)).filter (fun a => a.refs != 0) = (l.take i).filter (fun a => a.refs != 0) := by rw [htk, List.filter_append]; simp [hr]
      simp only [ret_seq, ret_seq_ret, ret_seq_exit, ret_blk, ret_blk_ret, ret_blk_exit, ret_nil, gt_same, gt_other, Nat.reduceBEq, gt_leaf, l1_one, l2_two, l3_three, g_loc0, g_locS, g_tmp, g_cst, b_lss, b_leq, b_gtr, b_geq, b_add, b_sub, b_mul, b_eql, b_neq, b_eqlS, b_neqS, u_not, w_true, w_false, eBool_bool, resA_nil, resA_tmp, resA_cell, okP_true, okP_false, tupled_nil, tupled_one, tupled_more, t_nth, m_load, m_loadN, m_store, n_ptr, reduceIte, List.getElem?_cons_zero, List.getElem?_cons_succ, Option.map_some, Bool.not_true, Bool.not_false, decide_true, decide_false, mx_int, mn_int, Nat.add_zero, Nat.zero_add, Nat.reduceEqDiff, Nat.reduceAdd, app'_eq, List.append_nil, List.nil_append, o_bool, o_int, o_str, o_ptr, o_slice, o_map, List.all_cons, List.all_nil, Bool.and_self, box_agg, st_agg, ptrTo, sliceTo, mapTo, List.length_cons, List.length_nil, Nat.mul_one, Nat.zero_mul, Nat.sub_zero, Nat.reduceMul, eq_self, t0, t1, t5, t6, t96, e7, hf, and_self]
    · have g1 := hB.on _ hm hr
      rw [g1] at ea
      simp only at ea
      obtain ⟨gm, _⟩ := gt_some g1
      have g2 := fd_mem hds gm
      obtain ⟨hb1, eb1, sb1, bb1, nb1⟩ := Sm.bump h1 44
      have ht2 := ht1.sm sb1 (fun _ _ h => h)
      have q0 : hb1.ld1 b (o + i * 4) = some (.str l[i].data) := by rw [← a0]; unfold Heap.ld1 Heap.cells; rw [bb1]
      have q1 : hb1.ld1 b (o + i * 4 + 1) = some (u l[i].id) := by rw [← a1]; unfold Heap.ld1 Heap.cells; rw [bb1]
      have q2 : hb1.ld1 b (o + i * 4 + 2) = some (.int .i64 l[i].block) := by rw [← a2]; unfold Heap.ld1 Heap.cells; rw [bb1]
      have q3 : hb1.ld1 b (o + i * 4 + 3) = some (.int .i64 l[i].refs) := by rw [← a3]; unfold Heap.ld1 Heap.cells; rw [bb1]
      obtain ⟨_, h2, eb, s2, rfl⟩ := finds_ok (n := m) (by omega) ht2 (s := l[i].data) (by omega) ok6 (w := l[i].id) (.inr ⟨_, g2, rfl, by omega⟩)
      have hcnt : ((l.take i).filter fun a => a.refs != 0).length ≤ i := by have := List.length_filter_le (fun a : Hd => a.refs != 0) (l.take i); simp at this ⊢; omega
      have e8 : IntKind.i64.wrap ((((l.take i).filter fun a => a.refs != 0).length : Int) + 1) = (((l.take (i + 1)).filter fun a => a.refs != 0).length : Int) := by
        rw [wrap_i64 (by omega) (by omega), htk, List.filter_append]; simp [hr]
      simp only [r18_1, r18_3, r18_6, r18_11, r18_13, r18_14, r18_12, r18_10, r18_18, r18_21, r18_25, r18_28, r18_29, r18_27, r18_30, r18_26, r18_24, r18_31, r18_23, r18_32, r18_22, r18_20, r18_34, r18_36, r18_39, r18_40, r18_38, r18_41, r18_37, r18_35, r18_33, r18_19, r18_17, r18_16, r18_42, r18_15, r18_9, r18_7, r18_5, r18_44, r18_45, r18_43, r18_4, r18_2, r18_0, x_len_26, x_ia_26 hlt, x_fa_32_0, x_fa_32_1, x_fa_32_2, x_fa_32_3, t0, t1, t5, t6, t96, ret_seq, ret_seq_ret, ret_seq_exit, ret_blk, ret_blk_ret, ret_blk_exit, ret_nil, gt_same, gt_other, Nat.reduceBEq, gt_leaf, l1_one, l2_two, l3_three, g_loc0, g_locS, g_tmp, g_cst, b_lss, b_leq, b_gtr, b_geq, b_add, b_sub, b_mul, b_eql, b_neq, b_eqlS, b_neqS, u_not, w_true, w_false, eBool_bool, resA_nil, resA_tmp, resA_cell, okP_true, okP_false, tupled_nil, tupled_one, tupled_more, t_nth, m_load, m_loadN, m_store, n_ptr, reduceIte, List.getElem?_cons_zero, List.getElem?_cons_succ, Option.map_some, Bool.not_true, Bool.not_false, decide_true, decide_false, mx_int, mn_int, Nat.add_zero, Nat.zero_add, Nat.reduceEqDiff, Nat.reduceAdd, app'_eq, List.append_nil, List.nil_append, o_bool, o_int, o_str, o_ptr, o_slice, o_map, List.all_cons, List.all_nil, Bool.and_self, box_agg, st_agg, ptrTo, sliceTo, mapTo, List.length_cons, List.length_nil, Nat.mul_one, Nat.zero_mul, Nat.sub_zero, Nat.reduceMul, eq_self, Int.ofNat_lt, hlt, z1, ea, a3, hr, eb1, q0, q1, q2, q3, eb, e8]
      refine hN _ _ (l.length - (i + 1)) (by omega) ⟨i + 1, hlt, rfl, ((s0.trans s1 (fun _ _ h => h) (fun _ _ h => h)).trans sb1 (fun _ _ h => h) (fun _ _ h => h)).trans s2 (fun _ _ h => h) (fun _ _ h => h), ?_⟩
      simp only [ret_seq, ret_seq_ret, ret_seq_exit, ret_blk, ret_blk_ret, ret_blk_exit, ret_nil, gt_same, gt_other, Nat.reduceBEq, gt_leaf, l1_one, l2_two, l3_three, g_loc0, g_locS, g_tmp, g_cst, b_lss, b_leq, b_gtr, b_geq, b_add, b_sub, b_mul, b_eql, b_neq, b_eqlS, b_neqS, u_not, w_true, w_false, eBool_bool, resA_nil, resA_tmp, resA_cell, okP_true, okP_false, tupled_nil, tupled_one, tupled_more, t_nth, m_load, m_loadN, m_store, n_ptr, reduceIte, List.getElem?_cons_zero, List.getElem?_cons_succ, Option.map_some, Bool.not_true, Bool.not_false, decide_true, decide_false, mx_int, mn_int, Nat.add_zero, Nat.zero_add, Nat.reduceEqDiff, Nat.reduceAdd, app'_eq, List.append_nil, List.nil_append, o_bool, o_int, o_str, o_ptr, o_slice, o_map, List.all_cons, List.all_nil, Bool.and_self, box_agg, st_agg, ptrTo, sliceTo, mapTo, List.length_cons, List.length_nil, Nat.mul_one, Nat.zero_mul, Nat.sub_zero, Nat.reduceMul, eq_self, t0, t1, t5, t6, t96, e7, and_self]
  · obtain rfl : i = l.length := by omega
    simp only [r18_1, r18_3, r18_6, r18_11, r18_13, r18_14, r18_12, r18_10, r18_18, r18_21, r18_25, r18_28, r18_29, r18_27, r18_30, r18_26, r18_24, r18_31, r18_23, r18_32, r18_22, r18_20, r18_34, r18_36, r18_39, r18_40, r18_38, r18_41, r18_37, r18_35, r18_33, r18_19, r18_17, r18_16, r18_42, r18_15, r18_9, r18_7, r18_5, r18_44, r18_45, r18_43, r18_4, r18_2, r18_0, x_len_26, t0, t1, t5, t6, t96, ret_seq, ret_seq_ret, ret_seq_exit, ret_blk, ret_blk_ret, ret_blk_exit, ret_nil, gt_same, gt_other, Nat.reduceBEq, gt_leaf, l1_one, l2_two, l3_three, g_loc0, g_locS, g_tmp, g_cst, b_lss, b_leq, b_gtr, b_geq, b_add, b_sub, b_mul, b_eql, b_neq, b_eqlS, b_neqS, u_not, w_true, w_false, eBool_bool, resA_nil, resA_tmp, resA_cell, okP_true, okP_false, tupled_nil, tupled_one, tupled_more, t_nth, m_load, m_loadN, m_store, n_ptr, reduceIte, List.getElem?_cons_zero, List.getElem?_cons_succ, Option.map_some, Bool.not_true, Bool.not_false, decide_true, decide_false, mx_int, mn_int, Nat.add_zero, Nat.zero_add, Nat.reduceEqDiff, Nat.reduceAdd, app'_eq, List.append_nil, List.nil_append, o_bool, o_int, o_str, o_ptr, o_slice, o_map, List.all_cons, List.all_nil, Bool.and_self, box_agg, st_agg, ptrTo, sliceTo, mapTo, List.length_cons, List.length_nil, Nat.mul_one, Nat.zero_mul, Nat.sub_zero, Nat.reduceMul, eq_self, Int.ofNat_lt, hlt]
    refine hE _ _ _ (by simp) ?_
    obtain ⟨_, h1, ea, rfl, rfl⟩ := count_ok (n := m) (by omega) ht0
    have hcn : ((L.length : Nat) : Int) = (((l.take l.length).filter fun a => a.refs != 0).length : Int) := by rw [List.take_length, hB.cnt]
    simp only [r18_1, r18_3, r18_6, r18_11, r18_13, r18_14, r18_12, r18_10, r18_18, r18_21, r18_25, r18_28, r18_29, r18_27, r18_30, r18_26, r18_24, r18_31, r18_23, r18_32, r18_22, r18_20, r18_34, r18_36, r18_39, r18_40, r18_38, r18_41, r18_37, r18_35, r18_33, r18_19, r18_17, r18_16, r18_42, r18_15, r18_9, r18_7, r18_5, r18_44, r18_45, r18_43, r18_4, r18_2, r18_0, t0, t1, t5, t6, t96, ea, hcn, ret_seq, ret_seq_ret, ret_seq_exit, ret_blk, ret_blk_ret, ret_blk_exit, ret_nil, gt_same, gt_other, Nat.reduceBEq, gt_leaf, l1_one, l2_two, l3_three, g_loc0, g_locS, g_tmp, g_cst, b_lss, b_leq, b_gtr, b_geq, b_add, b_sub, b_mul, b_eql, b_neq, b_eqlS, b_neqS, u_not, w_true, w_false, eBool_bool, resA_nil, resA_tmp, resA_cell, okP_true, okP_false, tupled_nil, tupled_one, tupled_more, t_nth, m_load, m_loadN, m_store, n_ptr, reduceIte, List.getElem?_cons_zero, List.getElem?_cons_succ, Option.map_some, Bool.not_true, Bool.not_false, decide_true, decide_false, mx_int, mn_int, Nat.add_zero, Nat.zero_add, Nat.reduceEqDiff, Nat.reduceAdd, app'_eq, List.append_nil, List.nil_append, o_bool, o_int, o_str, o_ptr, o_slice, o_map, List.all_cons, List.all_nil, Bool.and_self, box_agg, st_agg, ptrTo, sliceTo, mapTo, List.length_cons, List.length_nil, Nat.mul_one, Nat.zero_mul, Nat.sub_zero, Nat.reduceMul, eq_self]
    refine hQ _ _ _ _ (.inr rfl) (by simp only [ret_seq, ret_seq_ret, ret_seq_exit, ret_blk, ret_blk_ret, ret_blk_exit, ret_nil, gt_same, gt_other, Nat.reduceBEq, gt_leaf, l1_one, l2_two, l3_three, g_loc0, g_locS, g_tmp, g_cst, b_lss, b_leq, b_gtr, b_geq, b_add, b_sub, b_mul, b_eql, b_neq, b_eqlS, b_neqS, u_not, w_true, w_false, eBool_bool, resA_nil, resA_tmp, resA_cell, okP_true, okP_false, tupled_nil, tupled_one, tupled_more, t_nth, m_load, m_loadN, m_store, n_ptr, reduceIte, List.getElem?_cons_zero, List.getElem?_cons_succ, Option.map_some, Bool.not_true, Bool.not_false, decide_true, decide_false, mx_int, mn_int, Nat.add_zero, Nat.zero_add, Nat.reduceEqDiff, Nat.reduceAdd, app'_eq, List.append_nil, List.nil_append, o_bool, o_int, o_str, o_ptr, o_slice, o_map, List.all_cons, List.all_nil, Bool.and_self, box_agg, st_agg, ptrTo, sliceTo, mapTo, List.length_cons, List.length_nil, Nat.mul_one, Nat.zero_mul, Nat.sub_zero, Nat.reduceMul, eq_self, t96]) (by simp only [ret_seq, ret_seq_ret, ret_seq_exit, ret_blk, ret_blk_ret, ret_blk_exit, ret_nil, gt_same, gt_other, Nat.reduceBEq, gt_leaf, l1_one, l2_two, l3_three, g_loc0, g_locS, g_tmp, g_cst, b_lss, b_leq, b_gtr, b_geq, b_add, b_sub, b_mul, b_eql, b_neq, b_eqlS, b_neqS, u_not, w_true, w_false, eBool_bool, resA_nil, resA_tmp, resA_cell, okP_true, okP_false, tupled_nil, tupled_one, tupled_more, t_nth, m_load, m_loadN, m_store, n_ptr, reduceIte, List.getElem?_cons_zero, List.getElem?_cons_succ, Option.map_some, Bool.not_true, Bool.not_false, decide_true, decide_false, mx_int, mn_int, Nat.add_zero, Nat.zero_add, Nat.reduceEqDiff, Nat.reduceAdd, app'_eq, List.append_nil, List.nil_append, o_bool, o_int, o_str, o_ptr, o_slice, o_map, List.all_cons, List.all_nil, Bool.and_self, box_agg, st_agg, ptrTo, sliceTo, mapTo, List.length_cons, List.length_nil, Nat.mul_one, Nat.zero_mul, Nat.sub_zero, Nat.reduceMul, eq_self]; rfl) ?_
    exact ⟨s0, rfl⟩
end Go.Proofs.Ytlfednnfkejcjaa

namespace Go.Proofs.Ytlfednnfkejcjaa
open Go.Am
/-! ### The plain law -/
theorem gt_none_of {L : List Ch} {id : Int} (h : ∀ c, c ∈ L → c.id ≠ id) : gtL L id = none := by
  cases hg : gtL L id with
  | none => rfl
  | some c => obtain ⟨h1, h2⟩ := gt_some hg; exact absurd h2 (h c h1)
theorem fd_none_of {L : List Ch} {d : List Nat} (h : ∀ c, c ∈ L → c.data ≠ d) : fdL L d = none := by
  cases hg : fdL L d with
  | none => rfl
  | some c => obtain ⟨h1, h2⟩ := fd_some hg; exact absurd h2 (h c h1)
theorem gt_of {L : List Ch} (hn : (L.map Ch.id).Nodup) {c : Ch} {id : Int} (hc : c ∈ L) (he : c.id = id) : gtL L id = some c := by subst he; exact gt_mem hn hc
theorem putC_mem {c c0 : Ch} : ∀ {L : List Ch}, (L.map Ch.id).Nodup → gtL L c.id = some c0 → ∀ d, d ∈ putC c L ↔ d = c ∨ (d ∈ L ∧ d.id ≠ c.id)
  | [], _, h, _ => by cases h
  | e :: L, hn, h, d => by
    rw [List.map_cons, List.nodup_cons] at hn
    unfold gtL at h
    rw [List.find?_cons] at h
    rw [putC]
    cases hk : e.id == c.id with
    | true =>
      have hk : e.id = c.id := by simpa using hk
      simp only [if_true, List.mem_cons]
      constructor
      · rintro (rfl | hd)
        · exact .inl rfl
        · exact .inr ⟨.inr hd, fun h9 => hn.1 (List.mem_map.2 ⟨d, hd, by rw [h9, hk]⟩)⟩
      · rintro (rfl | ⟨rfl | hd, hne⟩)
        · exact .inl rfl
        · exact absurd hk hne
        · exact .inr hd
    | false =>
      rw [hk] at h
      have hk : e.id ≠ c.id := by simpa using hk
      simp only [Bool.false_eq_true, if_false, List.mem_cons, putC_mem hn.2 h d]
      constructor
      · rintro (rfl | rfl | ⟨h1, h2⟩)
        · exact .inr ⟨.inl rfl, hk⟩
        · exact .inl rfl
        · exact .inr ⟨.inr h1, h2⟩
      · rintro (rfl | ⟨rfl | h1, h2⟩)
        · exact .inr (.inl rfl)
        · exact .inl rfl
        · exact .inr (.inr ⟨h1, h2⟩)
theorem set_same {l : List Hd} {i : Nat} {a x : Hd} (hi : l[i]? = some a) (hd : x.data = a.data) : (l.set i x).map Hd.data = l.map Hd.data := by
  apply List.ext_getElem?
  intro j
  rw [List.getElem?_map, List.getElem?_map, List.getElem?_set]
  by_cases e : i = j
  · subst e
    have := (List.getElem?_eq_some_iff.1 hi).1
    rw [if_pos rfl, if_pos this, hi, Option.map_some, Option.map_some, hd]
  · rw [if_neg e]
theorem set_mem {l : List Hd} {i : Nat} {a x : Hd} (hn : (l.map Hd.data).Nodup) (hi : l[i]? = some a) : ∀ y, y ∈ l.set i x → y = x ∨ (y ∈ l ∧ y.data ≠ a.data) := by
  intro y hy
  obtain ⟨j, hj⟩ := List.getElem?_of_mem hy
  rw [List.getElem?_set] at hj
  by_cases e : i = j
  · subst e
    rw [if_pos rfl, if_pos (List.getElem?_eq_some_iff.1 hi).1] at hj
    exact .inl (Option.some.inj hj).symm
  · rw [if_neg e] at hj
    have hm := List.mem_of_getElem? hj
    refine .inr ⟨hm, fun h => e ?_⟩
    have q1 : (l.map Hd.data)[i]? = some a.data := by rw [List.getElem?_map, hi]; rfl
    have q2 : (l.map Hd.data)[j]? = some a.data := by rw [List.getElem?_map, hj, Option.map_some, h]
    have l1 := (List.getElem?_eq_some_iff.1 q1).1
    exact (List.getElem?_inj l1 hn).1 (q1.trans q2.symm)
theorem mem_set {l : List Hd} {i : Nat} {a x : Hd} (hi : l[i]? = some a) : x ∈ l.set i x ∧ ∀ y, y ∈ l → y.data ≠ a.data → y ∈ l.set i x := by
  have hlt := (List.getElem?_eq_some_iff.1 hi).1
  refine ⟨List.mem_of_getElem? (i := i) (by rw [List.getElem?_set, if_pos rfl, if_pos hlt]), fun y hy hne => ?_⟩
  obtain ⟨j, hj⟩ := List.getElem?_of_mem hy
  have e : i ≠ j := fun e => by subst e; rw [hi] at hj; cases hj; exact hne rfl
  exact List.mem_of_getElem? (i := j) (by rw [List.getElem?_set, if_neg e]; exact hj)
theorem cnt_set {l : List Hd} {i : Nat} {a x : Hd} (hi : l[i]? = some a) : ((l.set i x).filter fun a => a.refs != 0).length + (if a.refs = 0 then 0 else 1) = (l.filter fun a => a.refs != 0).length + (if x.refs = 0 then 0 else 1) := by
  induction l generalizing i with
  | nil => simp at hi
  | cons b l ih =>
    cases i with
    | zero =>
      cases hi
      rw [List.set_cons_zero, List.filter_cons, List.filter_cons]
      by_cases h1 : a.refs = 0 <;> by_cases h2 : x.refs = 0 <;> simp [h1, h2]
    | succ i =>
      rw [List.getElem?_cons_succ] at hi
      have := ih hi
      rw [List.set_cons_succ, List.filter_cons, List.filter_cons]
      by_cases h1 : b.refs = 0 <;> simp only [h1, bne_self_eq_false, bne_iff_ne, ne_eq, not_false_eq_true, Bool.false_eq_true, if_true, if_false, List.length_cons] <;> omega
section
variable {L : List Ch} {next : Int} {l : List Hd} {B : Nat → List Int} {i : Nat} {a : Hd}
theorem Both.there (hB : Both L next l) (hi : l[i]? = some a) (hr : a.refs ≠ 0) (hT : TabOk L next B) : fdL L a.data = some ⟨a.id, a.data, a.block, a.refs⟩ :=
  fd_mem hT.datas (gt_some (hB.on a (List.mem_of_getElem? hi) hr)).1
theorem Both.none (hB : Both L next l) {d : List Nat} (h : ∀ a, a ∈ l → a.data ≠ d) : fdL L d = none := fd_none_of fun c hc e => by
  obtain ⟨a, a1, a2, _⟩ := hB.all c hc
  exact h a a1 (a2.trans e)
/-- the references of a chunk turn -/
theorem Both.upd (hB : Both L next l) (hT : TabOk L next B) (hi : l[i]? = some a) (hr : a.refs ≠ 0) {r : Int} (hr' : 1 ≤ r) (hr2 : r ≤ 65535) :
    Both (putC ⟨a.id, a.data, a.block, r⟩ L) next (l.set i { a with refs := r }) := by
  have hm := List.mem_of_getElem? hi
  have hg := hB.on a hm hr
  have hT' : TabOk (putC ⟨a.id, a.data, a.block, r⟩ L) next B := hT.upd (c := ⟨a.id, a.data, a.block, r⟩) hg rfl hr' hr2
  have hpm := putC_mem (c := ⟨a.id, a.data, a.block, r⟩) hT.ids hg
  have hsm := set_mem (x := { a with refs := r }) hB.nd hi
  have hmm := mem_set (x := { a with refs := r }) hi
  have hget : ∀ y, y ∈ l → y.data ≠ a.data → y.refs ≠ 0 → (⟨y.id, y.data, y.block, y.refs⟩ : Ch) ∈ L ∧ y.id ≠ a.id := fun y hy hne hyr => by
    obtain ⟨g1, _⟩ := gt_some (hB.on y hy hyr)
    refine ⟨g1, fun e => hne ?_⟩
    have := nodup_inj hT.ids g1 (gt_some hg).1 e
    exact (Ch.mk.inj this).2.1
  obtain ⟨p1, p2, p3, _⟩ := putC_upd (c0 := ⟨a.id, a.data, a.block, a.refs⟩) ⟨a.id, a.data, a.block, r⟩ hg rfl
  refine ⟨by rw [set_same (x := { a with refs := r }) hi rfl]; exact hB.nd, fun y hy h0 => ?_, fun y hy h0 => ?_, fun c hc => ?_, ?_, fun y hy => ?_⟩
  · rcases hsm y hy with rfl | ⟨y1, y2⟩
    · have : r = 0 := h0; omega
    · obtain ⟨q1, q2⟩ := hB.off y y1 h0
      refine ⟨gt_none_of fun c hc e => ?_, fd_none_of fun c hc e => ?_⟩
      · rcases (hpm c).1 hc with rfl | ⟨c1, _⟩
        · exact gt_none q1 _ (gt_some hg).1 e
        · exact gt_none q1 c c1 e
      · rcases (hpm c).1 hc with rfl | ⟨c1, _⟩
        · exact y2 e.symm
        · exact fd_none q2 c c1 e
  · rcases hsm y hy with rfl | ⟨y1, y2⟩
    · exact gt_of hT'.ids ((hpm _).2 (.inl rfl)) rfl
    · obtain ⟨g1, g2⟩ := hget y y1 y2 h0
      exact gt_of hT'.ids ((hpm _).2 (.inr ⟨g1, g2⟩)) rfl
  · rcases (hpm c).1 hc with rfl | ⟨c1, c2⟩
    · exact ⟨_, hmm.1, rfl, by show r ≠ 0; omega⟩
    · obtain ⟨y, y1, y2, y3⟩ := hB.all c c1
      refine ⟨y, hmm.2 y y1 fun e => c2 ?_, y2, y3⟩
      have := nodup_inj hT.datas c1 (gt_some hg).1 (by rw [← y2, e])
      rw [this]
  · have := cnt_set (x := { a with refs := r }) hi
    rw [if_neg hr, if_neg (show ¬ r = 0 by omega)] at this
    have := hB.cnt
    omega
  · rcases hsm y hy with rfl | ⟨y1, _⟩
    · obtain ⟨_, q⟩ := hB.ok a hm; exact ⟨by show 0 ≤ r; omega, q⟩
    · exact hB.ok y y1
/-- a chunk goes -/
theorem Both.cut (hB : Both L next l) (hT : TabOk L next B) (hi : l[i]? = some a) (hr : a.refs ≠ 0) : Both (cutC a.id L) next (l.set i { a with refs := 0 }) := by
  have hm := List.mem_of_getElem? hi
  have hg := hB.on a hm hr
  have hids : ((cutC a.id L).map Ch.id).Nodup := hT.ids.sublist ((cutC_sub a.id L).map _)
  have hpm := cutC_mem (id := a.id) hT.ids
  have hsm := set_mem (x := { a with refs := 0 }) hB.nd hi
  have hmm := mem_set (x := { a with refs := 0 }) hi
  refine ⟨by rw [set_same (x := { a with refs := 0 }) hi rfl]; exact hB.nd, fun y hy h0 => ?_, fun y hy h0 => ?_, fun c hc => ?_, ?_, fun y hy => ?_⟩
  · rcases hsm y hy with rfl | ⟨y1, y2⟩
    · refine ⟨gt_none_of fun c hc e => ((hpm c).1 hc).2 e, fd_none_of fun c hc e => ?_⟩
      obtain ⟨c1, c2⟩ := (hpm c).1 hc
      have := nodup_inj hT.datas c1 (gt_some hg).1 e
      exact c2 (by rw [this])
    · obtain ⟨q1, q2⟩ := hB.off y y1 h0
      exact ⟨gt_none_of fun c hc e => gt_none q1 c ((hpm c).1 hc).1 e, fd_none_of fun c hc e => fd_none q2 c ((hpm c).1 hc).1 e⟩
  · rcases hsm y hy with rfl | ⟨y1, y2⟩
    · exact absurd rfl h0
    · obtain ⟨g1, _⟩ := gt_some (hB.on y y1 h0)
      refine gt_of hids ((hpm _).2 ⟨g1, fun e => y2 ?_⟩) rfl
      have := nodup_inj hT.ids g1 (gt_some hg).1 e
      exact (Ch.mk.inj this).2.1
  · obtain ⟨c1, c2⟩ := (hpm c).1 hc
    obtain ⟨y, y1, y2, y3⟩ := hB.all c c1
    refine ⟨y, hmm.2 y y1 fun e => c2 ?_, y2, y3⟩
    have := nodup_inj hT.datas c1 (gt_some hg).1 (by rw [← y2, e])
    rw [this]
  · have := cnt_set (x := { a with refs := 0 }) hi
    rw [if_neg hr, if_pos rfl] at this
    have := hB.cnt
    have := cutC_len hg
    omega
  · rcases hsm y hy with rfl | ⟨y1, _⟩
    · obtain ⟨_, q⟩ := hB.ok a hm; exact ⟨Int.le_refl _, q⟩
    · exact hB.ok y y1
theorem snoc_ids (hT : TabOk L next B) (c : Ch) (hc : c.id = next) : ((L ++ [c]).map Ch.id).Nodup := by
  rw [List.map_append]
  exact nodup_snoc hT.ids fun hm => by obtain ⟨d, d1, d2⟩ := List.mem_map.1 hm; have := (hT.ch d d1).2.1; omega
/-- a chunk comes again -/
theorem Both.again (hB : Both L next l) (hT : TabOk L next B) (hi : l[i]? = some a) (hr : a.refs = 0) (blk : Int) : Both (L ++ [⟨next, a.data, blk, 1⟩]) (next + 1) (l.set i ⟨a.data, next, blk, 1⟩) := by
  have hm := List.mem_of_getElem? hi
  obtain ⟨o1, o2⟩ := hB.off a hm hr
  have hids := snoc_ids hT ⟨next, a.data, blk, 1⟩ rfl
  have hsm := set_mem (x := ⟨a.data, next, blk, 1⟩) hB.nd hi
  have hmm := mem_set (x := ⟨a.data, next, blk, 1⟩) hi
  refine ⟨by rw [set_same (x := ⟨a.data, next, blk, 1⟩) hi rfl]; exact hB.nd, fun y hy h0 => ?_, fun y hy h0 => ?_, fun c hc => ?_, ?_, fun y hy => ?_⟩
  · rcases hsm y hy with rfl | ⟨y1, y2⟩
    · exact absurd h0 (show ¬ (1 : Int) = 0 by decide)
    · obtain ⟨q1, q2⟩ := hB.off y y1 h0
      refine ⟨gt_none_of fun c hc e => ?_, fd_none_of fun c hc e => ?_⟩
      · rcases List.mem_append.1 hc with hc | hc
        · exact gt_none q1 c hc e
        · rw [List.mem_singleton] at hc; subst hc; have := (hB.ok y y1).2.2.1; have e : next = y.id := e; omega
      · rcases List.mem_append.1 hc with hc | hc
        · exact fd_none q2 c hc e
        · rw [List.mem_singleton] at hc; subst hc; exact y2 e.symm
  · rcases hsm y hy with rfl | ⟨y1, y2⟩
    · exact gt_of hids (List.mem_append_right _ (List.mem_singleton.2 rfl)) rfl
    · exact gt_of hids (List.mem_append_left _ (gt_some (hB.on y y1 h0)).1) rfl
  · rcases List.mem_append.1 hc with hc | hc
    · obtain ⟨y, y1, y2, y3⟩ := hB.all c hc
      exact ⟨y, hmm.2 y y1 fun e => fd_none o2 c hc (by rw [← y2, e]), y2, y3⟩
    · rw [List.mem_singleton] at hc; subst hc; exact ⟨_, hmm.1, rfl, (show ¬ (1 : Int) = 0 by decide)⟩
  · have := cnt_set (x := ⟨a.data, next, blk, 1⟩) hi
    rw [if_pos hr, if_neg (show ¬ (1 : Int) = 0 by decide)] at this
    have := hB.cnt
    rw [List.length_append, List.length_singleton]
    omega
  · have := hT.next
    rcases hsm y hy with rfl | ⟨y1, _⟩
    · obtain ⟨_, _, _, q⟩ := hB.ok a hm; exact ⟨(show (0 : Int) ≤ 1 by decide), this.1, by show next < next + 1; omega, q⟩
    · obtain ⟨q1, q2, q3, q⟩ := hB.ok y y1; exact ⟨q1, q2, by omega, q⟩
/-- a chunk comes for the first time -/
theorem Both.come (hB : Both L next l) (hT : TabOk L next B) {d : List Nat} (hd : ∀ a, a ∈ l → a.data ≠ d) (h1 : 1 ≤ d.length) (h2 : d.length ≤ 64) (hb : Byts d) (blk : Int) : Both (L ++ [⟨next, d, blk, 1⟩]) (next + 1) (l ++ [⟨d, next, blk, 1⟩]) := by
  have hids := snoc_ids hT ⟨next, d, blk, 1⟩ rfl
  refine ⟨?_, fun y hy h0 => ?_, fun y hy h0 => ?_, fun c hc => ?_, ?_, fun y hy => ?_⟩
  · rw [List.map_append]
    exact nodup_snoc hB.nd fun hm => by obtain ⟨y, y1, y2⟩ := List.mem_map.1 hm; exact hd y y1 y2
  · rcases List.mem_append.1 hy with hy | hy
    · obtain ⟨q1, q2⟩ := hB.off y hy h0
      refine ⟨gt_none_of fun c hc e => ?_, fd_none_of fun c hc e => ?_⟩
      · rcases List.mem_append.1 hc with hc | hc
        · exact gt_none q1 c hc e
        · rw [List.mem_singleton] at hc; subst hc; have := (hB.ok y hy).2.2.1; have e : next = y.id := e; omega
      · rcases List.mem_append.1 hc with hc | hc
        · exact fd_none q2 c hc e
        · rw [List.mem_singleton] at hc; subst hc; exact hd y hy e.symm
    · rw [List.mem_singleton] at hy; subst hy; exact absurd h0 (show ¬ (1 : Int) = 0 by decide)
  · rcases List.mem_append.1 hy with hy | hy
    · exact gt_of hids (List.mem_append_left _ (gt_some (hB.on y hy h0)).1) rfl
    · rw [List.mem_singleton] at hy; subst hy; exact gt_of hids (List.mem_append_right _ (List.mem_singleton.2 rfl)) rfl
  · rcases List.mem_append.1 hc with hc | hc
    · obtain ⟨y, y1, y2, y3⟩ := hB.all c hc
      exact ⟨y, List.mem_append_left _ y1, y2, y3⟩
    · rw [List.mem_singleton] at hc; subst hc; exact ⟨_, List.mem_append_right _ (List.mem_singleton.2 rfl), rfl, (show ¬ (1 : Int) = 0 by decide)⟩
  · rw [List.length_append, List.filter_append, List.length_append, hB.cnt]; rfl
  · have := hT.next
    rcases List.mem_append.1 hy with hy | hy
    · obtain ⟨q1, q2, q3, q⟩ := hB.ok y hy; exact ⟨q1, q2, by omega, q⟩
    · rw [List.mem_singleton] at hy; subst hy; exact ⟨(show (0 : Int) ≤ 1 by decide), this.1, by show next < next + 1; omega, h1, h2, hb⟩
end
end Go.Proofs.Ytlfednnfkejcjaa

namespace Go.Proofs.Ytlfednnfkejcjaa
open Go.Am
set_option maxRecDepth 10000
def argB (v : AV) : Nat → Prop := fun b => ∃ o n c g, v = .slice (some (b, o)) n c g
theorem els_sm {h h' : Heap} {v : AV} {n s : Nat} {cs : List AV} {G : Nat → Prop} (hv : Els h v n s cs) (hs : Sm G h h') (hG : ∀ b, argB v b → ¬ G b) : Els h' v n s cs := by
  obtain ⟨h0, a, c, g, rfl, h1, h2⟩ := id hv
  cases a with
  | none => exact ⟨h0, none, c, g, rfl, h1, (fun _ _ e => by cases e)⟩
  | some p =>
    obtain ⟨b, o⟩ := p
    exact hv.same (hs.2 b hv.lt (hG b ⟨o, n, c, g, rfl⟩)) hs.1
theorem elsr_sm {h h' : Heap} {v : AV} {n s : Nat} {cs : List AV} {G : Nat → Prop} (hv : ElsR h v n s cs) (hs : Sm G h h') (hG : ∀ b, argB v b → ¬ G b) : ElsR h' v n s cs := by
  obtain ⟨h0, a, c, g, rfl, h1, h2⟩ := hv
  refine ⟨h0, a, c, g, rfl, h1, fun b o e => ?_⟩
  subst e
  obtain ⟨h3, h4⟩ := h2 b o rfl
  refine ⟨Nat.lt_of_lt_of_le h3 hs.1, fun hn => ?_⟩
  rw [← h4 hn]
  unfold Heap.ld Heap.cells
  rw [hs.2 b h3 (hG b ⟨o, n, c, g, rfl⟩)]
theorem hc_put : ∀ (l : List Hd) (i : Nat) (x : Hd), i < l.length → putL (l.flatMap hc) (i * 4) (hc x) = (l.set i x).flatMap hc
  | [], _, _, h => by simp at h
  | b :: l, 0, x, _ => by
    unfold putL
    rw [Nat.zero_mul, List.take_zero, List.nil_append, List.set_cons_zero, List.flatMap_cons, List.flatMap_cons, Nat.zero_add]
    rfl
  | b :: l, i + 1, x, h => by
    have ih := hc_put l i x (by simpa using h)
    rw [List.set_cons_succ, List.flatMap_cons, List.flatMap_cons, ← ih]
    unfold putL
    have hb : (hc b).length = 4 := rfl
    have hx : (hc x).length = 4 := rfl
    rw [hx, List.take_append, List.drop_append, hb, List.take_of_length_le (by rw [hb]; omega), List.drop_eq_nil_of_le (by rw [hb]; omega), List.nil_append, show (i + 1) * 4 - 4 = i * 4 by omega, show (i + 1) * 4 + 4 - 4 = i * 4 + 4 by omega, List.append_assoc]
theorem hc_set (l : List Hd) (i : Nat) (a : Hd) (r : Int) (h : l[i]? = some a) : (l.flatMap hc).set (i * 4 + 3) (.int .i64 r) = (l.set i { a with refs := r }).flatMap hc := by
  have hlt := (List.getElem?_eq_some_iff.1 h).1
  rw [← hc_put l i _ hlt]
  have hlen := hc_len l
  apply List.ext_getElem?
  intro j
  rw [putL_get (by rw [hlen]; simp [hc]; omega), List.getElem?_set]
  by_cases e : i * 4 + 3 = j
  · subst e
    rw [if_pos rfl, if_pos (by omega), if_pos (by simp [hc])]
    rw [show i * 4 + 3 - i * 4 = 3 by omega]; rfl
  · rw [if_neg e]
    by_cases hin : i * 4 ≤ j ∧ j < i * 4 + (hc { a with refs := r }).length
    · rw [if_pos hin]
      have h4 : (hc { a with refs := r }).length = 4 := rfl
      obtain ⟨k, rfl⟩ : ∃ k, j = i * 4 + k := ⟨j - i * 4, by omega⟩
      rw [hc_get l i k a h (by omega), Nat.add_sub_cancel_left]
      have : k < 3 := by omega
      match k, this with
      | 0, _ => rfl
      | 1, _ => rfl
      | 2, _ => rfl
    · rw [if_neg hin]
theorem putL_app {cs rest us : List AV} {o : Nat} (h : o + us.length ≤ cs.length) : putL (cs ++ rest) o us = putL cs o us ++ rest := by
  unfold putL
  rw [List.take_append_of_le_length (by omega), List.drop_append_of_le_length h, List.append_assoc, List.append_assoc]
/-- what is kept turns in its place -/
theorem slo_store {h : Heap} {v : AV} {l : List Hd} {bs : List Nat} {i : Nat} (ho : SlO 32 4 h v l.length (l.flatMap hc) bs) (hi : i < l.length) :
    ∃ b c, v = .slice (some (b, 0)) l.length c (some 4) ∧ bs = [b] ∧ b < h.next ∧ (∀ k a, l[i]? = some a → k < 4 → h.ld1 b (i * 4 + k) = (hc a)[k]?) ∧
      (∀ x : Hd, ∃ h', h.sto b (i * 4) (hc x) = some h' ∧ SlO 32 4 h' v l.length ((l.set i x).flatMap hc) [b] ∧ h'.next = h.next ∧ ∀ c, c ≠ b → h'.bs.gt c = h.bs.gt c) ∧
      (∀ a r, l[i]? = some a → ∃ h', h.st1 b (i * 4 + 3) (.int .i64 r) = some h' ∧ SlO 32 4 h' v l.length ((l.set i { a with refs := r }).flatMap hc) [b] ∧ h'.next = h.next ∧ ∀ c, c ≠ b → h'.bs.gt c = h.bs.gt c) := by
  rcases ho with ⟨_, h0, _, _⟩ | ⟨b, c, rest, z, rfl, h1, h2, h3, h4, h5, rfl, rfl, h8⟩
  · omega
  have hlen := hc_len l
  have hone : ∀ x : Hd, (hc x).all AV.one = true := fun x => rfl
  have hall : ∀ l : List Hd, (l.flatMap hc).all AV.one = true := fun l => by
    induction l with
    | nil => rfl
    | cons x l ih => rw [List.flatMap_cons, List.all_append, ih, hone]; rfl
  refine ⟨b, c, rfl, rfl, h5, fun k a ha hk => ?_, fun x => ?_, fun a r ha => ?_⟩
  · rw [h4.ld1, List.getElem?_append_left (by omega), hc_get l i k a ha hk]
  · have hx : (hc x).length = 4 := rfl
    obtain ⟨s1, s2, s3, s4⟩ := h4.sto (o := i * 4) (us := hc x) (by rw [List.length_append, hx]; omega) (hone x)
    refine ⟨_, s1, .inr ⟨b, c, rest, _, rfl, ?_, ?_, h3, ?_, by omega, rfl, rfl, hall _⟩, s3, s4⟩
    · rw [hc_len, List.length_set]
    · rw [List.length_append] at h2 ⊢; rw [hc_len, List.length_set]; omega
    · rw [putL_app (by rw [hx]; omega), hc_put l i x hi] at s2; exact s2
  · obtain ⟨s1, s2, s3, s4⟩ := h4.st1 (o := i * 4 + 3) (v := .int .i64 r) (by rw [List.length_append]; omega) rfl
    refine ⟨_, s1, .inr ⟨b, c, rest, _, rfl, ?_, ?_, h3, ?_, by omega, rfl, rfl, hall _⟩, s3, s4⟩
    · rw [hc_len, List.length_set]
    · rw [List.length_append] at h2 ⊢; rw [hc_len, List.length_set]; omega
    · rw [List.set_append_left _ _ (by omega), hc_set l i a r ha] at s2; exact s2
end Go.Proofs.Ytlfednnfkejcjaa

namespace Go.Proofs.Ytlfednnfkejcjaa
open Go.Am
set_option maxRecDepth 10000
/-- ahead of a round of the law -/
def RInv (ss : List (List Nat)) (lv : AV) (j i : Nat) (tm : Tr AV) (h : Heap) : Prop :=
  ∃ tb L next F av l bs, TabAt h tb L next F ∧ SlO 32 4 h av l.length (l.flatMap hc) bs ∧ (∀ b, b ∈ bs → ¬ F b) ∧ ElsR h lv ss.length 1 (ss.map .str) ∧ (∀ b, argB lv b → ¬ F b ∧ b ∉ bs ∧ b < h.next) ∧ Both L next l ∧
    next ≤ j + 1 ∧ l.length ≤ j ∧ L.length ≤ j ∧ (∀ a, a ∈ l → a.refs ≤ j) ∧
    tm.gt 0 = some lv ∧ tm.gt 3 = some (.ptr (some (tb, 0))) ∧ tm.gt 4 = some av ∧ tm.gt 5 = some (u (next - 1)) ∧ tm.gt 6 = some (.int .i64 (i : Int)) ∧ tm.gt 152 = none
def dOf (s : List Nat) : List Nat := s.drop 1 ++ [46]
theorem byts_d {s : List Nat} (h : Byts s) : Byts (dOf s) := by
  intro i c hc
  unfold dOf at hc
  by_cases hi : i < (s.drop 1).length
  · rw [List.getElem?_append_left hi, List.getElem?_drop] at hc; exact h _ _ hc
  · rw [List.getElem?_append_right (by omega)] at hc
    have := List.mem_of_getElem? hc
    rw [List.mem_singleton] at this; omega
section
variable {ss : List (List Nat)} {lv : AV} {i m : Nat} {tm : Tr AV} {h : Heap} {k : List Wt} {QQ Q1 : XQ}
abbrev RunR (m : Nat) (c : AC) (k : List Wt) (tm : Tr AV) (h : Heap) (Q : XQ) : Prop := run (C m) 100000 152 3 none c k tm h Q
theorem bad_ok (hm : 1 ≤ m) (hI : RInv ss lv i i tm h) (hi : i < ss.length) (hbad : ¬ (1 ≤ (ss[i]).length ∧ (ss[i]).length ≤ 64))
    (hE : ∀ tm' h', tm'.gt 2 = some (.bool true) → tm'.gt 152 = none → Q1 .ret tm' h') : RunR m c3_21 [] tm h Q1 := by
  obtain ⟨tb, L, next, F, av, l, bs, _, _, _, hv, _, _, _, _, _, _, t0, t3, t4, t5, t6, t152⟩ := hI
  obtain ⟨_, a, c, g, rfl, _⟩ := id hv
  obtain ⟨b, o, rfl, hcell⟩ := hv.cell (by omega)
  have hc := hcell i (by omega)
  have hx : ss[i]? = some ss[i] := List.getElem?_eq_getElem hi
  rw [List.getElem?_map, hx, Option.map_some] at hc
  have hw := works_ok hm h
  by_cases h1 : (ss[i]).length < 1
  · have h1' : ((ss[i]).length : Int) < 1 := by omega
    simp only [RunR, r3_1, r3_4, r3_7, r3_8, r3_6, r3_9, r3_5, r3_3, r3_11, r3_13, r3_15, r3_18, r3_23, r3_25, r3_26, r3_24, r3_22, r3_31, r3_34, r3_35, r3_33, r3_36, r3_32, r3_30, r3_38, r3_40, r3_42, r3_45, r3_48, r3_49, r3_47, r3_50, r3_46, r3_44, r3_53, r3_56, r3_59, r3_61, r3_63, r3_66, r3_67, r3_65, r3_68, r3_64, r3_62, r3_60, r3_58, r3_69, r3_57, r3_55, r3_71, r3_75, r3_78, r3_79, r3_77, r3_80, r3_76, r3_74, r3_81, r3_73, r3_83, r3_86, r3_89, r3_90, r3_88, r3_91, r3_87, r3_85, r3_93, r3_96, r3_99, r3_100, r3_98, r3_101, r3_97, r3_95, r3_102, r3_94, r3_92, r3_84, r3_82, r3_72, r3_70, r3_54, r3_52, r3_104, r3_107, r3_108, r3_106, r3_109, r3_105, r3_103, r3_51, r3_43, r3_41, r3_39, r3_37, r3_29, r3_28, r3_110, r3_27, r3_21, r3_19, r3_17, r3_112, r3_113, r3_111, r3_16, r3_14, r3_12, r3_10, r3_2, r3_0, x_len_22, x_ia_22 hi, x_len_9, t0, t6, ret_seq, ret_seq_ret, ret_seq_exit, ret_blk, ret_blk_ret, ret_blk_exit, ret_nil, gt_same, gt_other, Nat.reduceBEq, gt_leaf, l1_one, l2_two, l3_three, g_loc0, g_locS, g_tmp, g_cst, b_lss, b_leq, b_gtr, b_geq, b_add, b_sub, b_mul, b_eql, b_neq, b_eqlS, b_neqS, u_not, w_true, w_false, eBool_bool, resA_nil, resA_tmp, resA_cell, okP_true, okP_false, tupled_nil, tupled_one, tupled_more, t_nth, m_load, m_loadN, m_store, n_ptr, reduceIte, List.getElem?_cons_zero, List.getElem?_cons_succ, Option.map_some, Bool.not_true, Bool.not_false, decide_true, decide_false, mx_int, mn_int, Nat.add_zero, Nat.zero_add, Nat.reduceEqDiff, Nat.reduceAdd, app'_eq, List.append_nil, List.nil_append, o_bool, o_int, o_str, o_ptr, o_slice, o_map, List.all_cons, List.all_nil, Bool.and_self, box_agg, st_agg, ptrTo, sliceTo, mapTo, List.length_cons, List.length_nil, Nat.mul_one, Nat.zero_mul, Nat.sub_zero, Nat.reduceMul, eq_self, Int.ofNat_lt, hi, hc, h1', hw]
    exact hE _ _ (by simp only [ret_seq, ret_seq_ret, ret_seq_exit, ret_blk, ret_blk_ret, ret_blk_exit, ret_nil, gt_same, gt_other, Nat.reduceBEq, gt_leaf, l1_one, l2_two, l3_three, g_loc0, g_locS, g_tmp, g_cst, b_lss, b_leq, b_gtr, b_geq, b_add, b_sub, b_mul, b_eql, b_neq, b_eqlS, b_neqS, u_not, w_true, w_false, eBool_bool, resA_nil, resA_tmp, resA_cell, okP_true, okP_false, tupled_nil, tupled_one, tupled_more, t_nth, m_load, m_loadN, m_store, n_ptr, reduceIte, List.getElem?_cons_zero, List.getElem?_cons_succ, Option.map_some, Bool.not_true, Bool.not_false, decide_true, decide_false, mx_int, mn_int, Nat.add_zero, Nat.zero_add, Nat.reduceEqDiff, Nat.reduceAdd, app'_eq, List.append_nil, List.nil_append, o_bool, o_int, o_str, o_ptr, o_slice, o_map, List.all_cons, List.all_nil, Bool.and_self, box_agg, st_agg, ptrTo, sliceTo, mapTo, List.length_cons, List.length_nil, Nat.mul_one, Nat.zero_mul, Nat.sub_zero, Nat.reduceMul, eq_self]) (by simp only [ret_seq, ret_seq_ret, ret_seq_exit, ret_blk, ret_blk_ret, ret_blk_exit, ret_nil, gt_same, gt_other, Nat.reduceBEq, gt_leaf, l1_one, l2_two, l3_three, g_loc0, g_locS, g_tmp, g_cst, b_lss, b_leq, b_gtr, b_geq, b_add, b_sub, b_mul, b_eql, b_neq, b_eqlS, b_neqS, u_not, w_true, w_false, eBool_bool, resA_nil, resA_tmp, resA_cell, okP_true, okP_false, tupled_nil, tupled_one, tupled_more, t_nth, m_load, m_loadN, m_store, n_ptr, reduceIte, List.getElem?_cons_zero, List.getElem?_cons_succ, Option.map_some, Bool.not_true, Bool.not_false, decide_true, decide_false, mx_int, mn_int, Nat.add_zero, Nat.zero_add, Nat.reduceEqDiff, Nat.reduceAdd, app'_eq, List.append_nil, List.nil_append, o_bool, o_int, o_str, o_ptr, o_slice, o_map, List.all_cons, List.all_nil, Bool.and_self, box_agg, st_agg, ptrTo, sliceTo, mapTo, List.length_cons, List.length_nil, Nat.mul_one, Nat.zero_mul, Nat.sub_zero, Nat.reduceMul, eq_self, t152])
  · have h1' : ¬ ((ss[i]).length : Int) < 1 := by omega
    have h2' : (64 : Int) < ((ss[i]).length : Int) := by omega
    simp only [RunR, r3_1, r3_4, r3_7, r3_8, r3_6, r3_9, r3_5, r3_3, r3_11, r3_13, r3_15, r3_18, r3_23, r3_25, r3_26, r3_24, r3_22, r3_31, r3_34, r3_35, r3_33, r3_36, r3_32, r3_30, r3_38, r3_40, r3_42, r3_45, r3_48, r3_49, r3_47, r3_50, r3_46, r3_44, r3_53, r3_56, r3_59, r3_61, r3_63, r3_66, r3_67, r3_65, r3_68, r3_64, r3_62, r3_60, r3_58, r3_69, r3_57, r3_55, r3_71, r3_75, r3_78, r3_79, r3_77, r3_80, r3_76, r3_74, r3_81, r3_73, r3_83, r3_86, r3_89, r3_90, r3_88, r3_91, r3_87, r3_85, r3_93, r3_96, r3_99, r3_100, r3_98, r3_101, r3_97, r3_95, r3_102, r3_94, r3_92, r3_84, r3_82, r3_72, r3_70, r3_54, r3_52, r3_104, r3_107, r3_108, r3_106, r3_109, r3_105, r3_103, r3_51, r3_43, r3_41, r3_39, r3_37, r3_29, r3_28, r3_110, r3_27, r3_21, r3_19, r3_17, r3_112, r3_113, r3_111, r3_16, r3_14, r3_12, r3_10, r3_2, r3_0, x_len_22, x_ia_22 hi, x_len_9, t0, t6, ret_seq, ret_seq_ret, ret_seq_exit, ret_blk, ret_blk_ret, ret_blk_exit, ret_nil, gt_same, gt_other, Nat.reduceBEq, gt_leaf, l1_one, l2_two, l3_three, g_loc0, g_locS, g_tmp, g_cst, b_lss, b_leq, b_gtr, b_geq, b_add, b_sub, b_mul, b_eql, b_neq, b_eqlS, b_neqS, u_not, w_true, w_false, eBool_bool, resA_nil, resA_tmp, resA_cell, okP_true, okP_false, tupled_nil, tupled_one, tupled_more, t_nth, m_load, m_loadN, m_store, n_ptr, reduceIte, List.getElem?_cons_zero, List.getElem?_cons_succ, Option.map_some, Bool.not_true, Bool.not_false, decide_true, decide_false, mx_int, mn_int, Nat.add_zero, Nat.zero_add, Nat.reduceEqDiff, Nat.reduceAdd, app'_eq, List.append_nil, List.nil_append, o_bool, o_int, o_str, o_ptr, o_slice, o_map, List.all_cons, List.all_nil, Bool.and_self, box_agg, st_agg, ptrTo, sliceTo, mapTo, List.length_cons, List.length_nil, Nat.mul_one, Nat.zero_mul, Nat.sub_zero, Nat.reduceMul, eq_self, Int.ofNat_lt, hi, hc, h1', h2', hw]
    exact hE _ _ (by simp only [ret_seq, ret_seq_ret, ret_seq_exit, ret_blk, ret_blk_ret, ret_blk_exit, ret_nil, gt_same, gt_other, Nat.reduceBEq, gt_leaf, l1_one, l2_two, l3_three, g_loc0, g_locS, g_tmp, g_cst, b_lss, b_leq, b_gtr, b_geq, b_add, b_sub, b_mul, b_eql, b_neq, b_eqlS, b_neqS, u_not, w_true, w_false, eBool_bool, resA_nil, resA_tmp, resA_cell, okP_true, okP_false, tupled_nil, tupled_one, tupled_more, t_nth, m_load, m_loadN, m_store, n_ptr, reduceIte, List.getElem?_cons_zero, List.getElem?_cons_succ, Option.map_some, Bool.not_true, Bool.not_false, decide_true, decide_false, mx_int, mn_int, Nat.add_zero, Nat.zero_add, Nat.reduceEqDiff, Nat.reduceAdd, app'_eq, List.append_nil, List.nil_append, o_bool, o_int, o_str, o_ptr, o_slice, o_map, List.all_cons, List.all_nil, Bool.and_self, box_agg, st_agg, ptrTo, sliceTo, mapTo, List.length_cons, List.length_nil, Nat.mul_one, Nat.zero_mul, Nat.sub_zero, Nat.reduceMul, eq_self]) (by simp only [ret_seq, ret_seq_ret, ret_seq_exit, ret_blk, ret_blk_ret, ret_blk_exit, ret_nil, gt_same, gt_other, Nat.reduceBEq, gt_leaf, l1_one, l2_two, l3_three, g_loc0, g_locS, g_tmp, g_cst, b_lss, b_leq, b_gtr, b_geq, b_add, b_sub, b_mul, b_eql, b_neq, b_eqlS, b_neqS, u_not, w_true, w_false, eBool_bool, resA_nil, resA_tmp, resA_cell, okP_true, okP_false, tupled_nil, tupled_one, tupled_more, t_nth, m_load, m_loadN, m_store, n_ptr, reduceIte, List.getElem?_cons_zero, List.getElem?_cons_succ, Option.map_some, Bool.not_true, Bool.not_false, decide_true, decide_false, mx_int, mn_int, Nat.add_zero, Nat.zero_add, Nat.reduceEqDiff, Nat.reduceAdd, app'_eq, List.append_nil, List.nil_append, o_bool, o_int, o_str, o_ptr, o_slice, o_map, List.all_cons, List.all_nil, Bool.and_self, box_agg, st_agg, ptrTo, sliceTo, mapTo, List.length_cons, List.length_nil, Nat.mul_one, Nat.zero_mul, Nat.sub_zero, Nat.reduceMul, eq_self, t152])
/-- the end of a round: all is held against the table -/
theorem fin_ok (hm : 6 ≤ m) (h40 : i ≤ 40) (hI : RInv ss lv (i + 1) i tm h) (hN : ∀ tm' h', RInv ss lv (i + 1) (i + 1) tm' h' → Q1 .normal tm' h') : RunR m c3_103 [.blk 1, .seq c3_110] tm h Q1 := by
  obtain ⟨tb, L, next, F, av, l, bs, ht, ho, hd, hv, ha, hB, b1, b2, b3, b4, t0, t3, t4, t5, t6, t152⟩ := hI
  obtain ⟨_, h1, ea, s1, rfl⟩ := kept_ok (n := m) (by omega) ht ho.els (by omega) hB
  have e7 : IntKind.i64.wrap ((i : Int) + 1) = ((i + 1 : Nat) : Int) := by rw [wrap_i64 (by omega) (by omega)]; simp
  simp only [RunR, r3_1, r3_4, r3_7, r3_8, r3_6, r3_9, r3_5, r3_3, r3_11, r3_13, r3_15, r3_18, r3_23, r3_25, r3_26, r3_24, r3_22, r3_31, r3_34, r3_35, r3_33, r3_36, r3_32, r3_30, r3_38, r3_40, r3_42, r3_45, r3_48, r3_49, r3_47, r3_50, r3_46, r3_44, r3_53, r3_56, r3_59, r3_61, r3_63, r3_66, r3_67, r3_65, r3_68, r3_64, r3_62, r3_60, r3_58, r3_69, r3_57, r3_55, r3_71, r3_75, r3_78, r3_79, r3_77, r3_80, r3_76, r3_74, r3_81, r3_73, r3_83, r3_86, r3_89, r3_90, r3_88, r3_91, r3_87, r3_85, r3_93, r3_96, r3_99, r3_100, r3_98, r3_101, r3_97, r3_95, r3_102, r3_94, r3_92, r3_84, r3_82, r3_72, r3_70, r3_54, r3_52, r3_104, r3_107, r3_108, r3_106, r3_109, r3_105, r3_103, r3_51, r3_43, r3_41, r3_39, r3_37, r3_29, r3_28, r3_110, r3_27, r3_21, r3_19, r3_17, r3_112, r3_113, r3_111, r3_16, r3_14, r3_12, r3_10, r3_2, r3_0, t3, t4, t6, ea, e7, ret_seq, ret_seq_ret, ret_seq_exit, ret_blk, ret_blk_ret, ret_blk_exit, ret_nil, gt_same, gt_other, Nat.reduceBEq, gt_leaf, l1_one, l2_two, l3_three, g_loc0, g_locS, g_tmp, g_cst, b_lss, b_leq, b_gtr, b_geq, b_add, b_sub, b_mul, b_eql, b_neq, b_eqlS, b_neqS, u_not, w_true, w_false, eBool_bool, resA_nil, resA_tmp, resA_cell, okP_true, okP_false, tupled_nil, tupled_one, tupled_more, t_nth, m_load, m_loadN, m_store, n_ptr, reduceIte, List.getElem?_cons_zero, List.getElem?_cons_succ, Option.map_some, Bool.not_true, Bool.not_false, decide_true, decide_false, mx_int, mn_int, Nat.add_zero, Nat.zero_add, Nat.reduceEqDiff, Nat.reduceAdd, app'_eq, List.append_nil, List.nil_append, o_bool, o_int, o_str, o_ptr, o_slice, o_map, List.all_cons, List.all_nil, Bool.and_self, box_agg, st_agg, ptrTo, sliceTo, mapTo, List.length_cons, List.length_nil, Nat.mul_one, Nat.zero_mul, Nat.sub_zero, Nat.reduceMul, eq_self]
  refine hN _ _ ⟨tb, L, next, F, av, l, bs, ht.sm s1 (fun _ _ h => h), ho.sm s1 (fun _ _ h => h), hd, elsr_sm hv s1 (fun _ _ h => h), fun b hb => ?_, hB, b1, b2, b3, b4, ?_⟩
  · obtain ⟨q1, q2, q3⟩ := ha b hb
    exact ⟨q1, q2, Nat.lt_of_lt_of_le q3 s1.1⟩
  · simp only [ret_seq, ret_seq_ret, ret_seq_exit, ret_blk, ret_blk_ret, ret_blk_exit, ret_nil, gt_same, gt_other, Nat.reduceBEq, gt_leaf, l1_one, l2_two, l3_three, g_loc0, g_locS, g_tmp, g_cst, b_lss, b_leq, b_gtr, b_geq, b_add, b_sub, b_mul, b_eql, b_neq, b_eqlS, b_neqS, u_not, w_true, w_false, eBool_bool, resA_nil, resA_tmp, resA_cell, okP_true, okP_false, tupled_nil, tupled_one, tupled_more, t_nth, m_load, m_loadN, m_store, n_ptr, reduceIte, List.getElem?_cons_zero, List.getElem?_cons_succ, Option.map_some, Bool.not_true, Bool.not_false, decide_true, decide_false, mx_int, mn_int, Nat.add_zero, Nat.zero_add, Nat.reduceEqDiff, Nat.reduceAdd, app'_eq, List.append_nil, List.nil_append, o_bool, o_int, o_str, o_ptr, o_slice, o_map, List.all_cons, List.all_nil, Bool.and_self, box_agg, st_agg, ptrTo, sliceTo, mapTo, List.length_cons, List.length_nil, Nat.mul_one, Nat.zero_mul, Nat.sub_zero, Nat.reduceMul, eq_self, t0, t3, t4, t5, t6, t152, and_self]
theorem round_ok (hm : 7 ≤ m) (h40 : i < 40) (hI : RInv ss lv i i tm h) (hi : i < ss.length) (hl1 : 1 ≤ (ss[i]).length) (hl2 : (ss[i]).length ≤ 64) (hby : Byts ss[i])
    (hN : ∀ tm' h', RInv ss lv (i + 1) (i + 1) tm' h' → Q1 .normal tm' h') : RunR m c3_21 [] tm h Q1 := by
  obtain ⟨tb, L, next, F, av, l, bs, ht, ho, hd, hv, ha, hB, b1, b2, b3, b4, t0, t3, t4, t5, t6, t152⟩ := hI
  have hT : ∃ B, TabOk L next B := by obtain ⟨_, _, _, _, B, _, _, _, _, _, q, _⟩ := ht.ex; exact ⟨B, q⟩
  obtain ⟨B, hT⟩ := hT
  obtain ⟨_, a, c, g, rfl, _⟩ := id hv
  obtain ⟨bb, o, rfl, hcell⟩ := hv.cell (by omega)
  have hc := hcell i (by omega)
  have hx : ss[i]? = some ss[i] := List.getElem?_eq_getElem hi
  rw [List.getElem?_map, hx, Option.map_some] at hc
  have harg : argB (AV.slice (some (bb, o)) ss.length c g) bb := ⟨o, _, c, g, rfl⟩
  generalize hs : ss[i] = s at hl1 hl2 hby hc hx
  have hdl : (dOf s).length = s.length := by unfold dOf; simp; omega
  have hdb := byts_d hby
  have q1 : sliceN P 9 true false false [.str s, .int .i64 1] = some (.str (s.drop 1)) := x_sl_9_100 (lo := 1) hl1
  have q2 : bin2 P .add 9 (.str (s.drop 1)) (.str [46]) = some (.str (dOf s)) := b_addS (by simp; omega)
  have q3 : index2 P 9 (.str s) (.int .i64 0) = some (.int .u8 ((s[0]'(by omega) : Nat) : Int)) := (x_ix_9 s 0).trans (by rw [List.getElem?_eq_getElem (by omega)]; rfl)
  generalize s[0]'(by omega) = s0 at q3
  have h1' : ¬ ((s.length : Nat) : Int) < 1 := by omega
  have h2' : ¬ (64 : Int) < ((s.length : Nat) : Int) := by omega
  obtain ⟨_, h0, ea, rfl, hfind⟩ := lfind_ok (n := m) (by omega) ho.els (by omega) (dOf s)
  obtain ⟨_, h1, eb, s1, rfl⟩ := tFind_ok (n := m) (by omega) ht (s := dOf s) (by omega) hdb
  have ht1 := ht.sm s1 (fun _ _ h => h)
  have ho1 := ho.sm s1 (fun _ _ h => h)
  have hv1 := elsr_sm hv s1 (fun _ _ h => h)
  have ha1 : ∀ b, argB (AV.slice (some (bb, o)) ss.length c g) b → ¬ F b ∧ b ∉ bs ∧ b < h1.next := fun b hb => by
    obtain ⟨q1, q2, q3⟩ := ha b hb
    exact ⟨q1, q2, Nat.lt_of_lt_of_le q3 s1.1⟩
  have hc1 : h1.ld1 bb (o + i) = some (.str s) := by
    obtain ⟨b', o', e', q⟩ := hv1.cell (by omega)
    cases e'
    have := q i (by omega)
    rw [List.getElem?_map, hx, Option.map_some] at this; exact this
  have e1 : IntKind.i64.wrap ((i : Int) + 1) = ((i + 1 : Nat) : Int) := by rw [wrap_i64 (by omega) (by omega)]; simp
  have hnx := hT.next
  rcases hfind with ⟨i0, x, hi0, hxd, rfl⟩ | ⟨hno, rfl⟩
  · have hlt0 := (List.getElem?_eq_some_iff.1 hi0).1
    obtain ⟨b, c', rfl, rfl, hblt, hld, hsto, hst⟩ := slo_store ho1 hlt0
    have hm0 := List.mem_of_getElem? hi0
    have hok := hB.ok x hm0
    have hxb := b4 x hm0
    have r3 : h1.ld1 b (i0 * 4 + 3) = some (.int .i64 x.refs) := hld 3 x hi0 (by decide)
    have hge : (0 : Int) ≤ (i0 : Int) := by omega
    have hneg : ¬ (i0 : Int) < 0 := by omega
    have hFb : ¬ F b := hd b (List.mem_singleton.2 rfl)
    have hbb : b ≠ bb := fun e => (ha1 bb harg).2.1 (List.mem_singleton.2 e.symm)
    have hset : ∀ (r : Int) a, a ∈ l.set i0 { x with refs := r } → a.refs = r ∨ a ∈ l := fun r a ha => (set_mem hB.nd hi0 a ha).imp (fun e => by rw [e]) And.left
    by_cases hr : x.refs = 0
    · have hf := (hB.off x hm0 hr).2
      rw [hxd] at hf
      rw [hf] at eb
      simp only at eb
      have hz0 : ¬ (0 : Int) < 0 := by decide
      rw [hr] at r3
      by_cases hpar : ((s0 : Nat) : Int).tmod 2 = 0
      · simp only [RunR, r3_1, r3_4, r3_7, r3_8, r3_6, r3_9, r3_5, r3_3, r3_11, r3_13, r3_15, r3_18, r3_23, r3_25, r3_26, r3_24, r3_22, r3_31, r3_34, r3_35, r3_33, r3_36, r3_32, r3_30, r3_38, r3_40, r3_42, r3_45, r3_48, r3_49, r3_47, r3_50, r3_46, r3_44, r3_53, r3_56, r3_59, r3_61, r3_63, r3_66, r3_67, r3_65, r3_68, r3_64, r3_62, r3_60, r3_58, r3_69, r3_57, r3_55, r3_71, r3_75, r3_78, r3_79, r3_77, r3_80, r3_76, r3_74, r3_81, r3_73, r3_83, r3_86, r3_89, r3_90, r3_88, r3_91, r3_87, r3_85, r3_93, r3_96, r3_99, r3_100, r3_98, r3_101, r3_97, r3_95, r3_102, r3_94, r3_92, r3_84, r3_82, r3_72, r3_70, r3_54, r3_52, r3_104, r3_107, r3_108, r3_106, r3_109, r3_105, r3_51, r3_43, r3_41, r3_39, r3_37, r3_29, r3_28, r3_110, r3_27, r3_21, r3_19, r3_17, r3_112, r3_113, r3_111, r3_16, r3_14, r3_12, r3_10, r3_2, r3_0, x_len_22, x_ia_22 hi, x_len_9, q1, q2, q3, b_rem (show (2 : Int) ≠ 0 by decide), t0, t3, t4, t5, t6, ret_seq, ret_seq_ret, ret_seq_exit, ret_blk, ret_blk_ret, ret_blk_exit, ret_nil, gt_same, gt_other, Nat.reduceBEq, gt_leaf, l1_one, l2_two, l3_three, g_loc0, g_locS, g_tmp, g_cst, b_lss, b_leq, b_gtr, b_geq, b_add, b_sub, b_mul, b_eql, b_neq, b_eqlS, b_neqS, u_not, w_true, w_false, eBool_bool, resA_nil, resA_tmp, resA_cell, okP_true, okP_false, tupled_nil, tupled_one, tupled_more, t_nth, m_load, m_loadN, m_store, n_ptr, reduceIte, List.getElem?_cons_zero, List.getElem?_cons_succ, Option.map_some, Bool.not_true, Bool.not_false, decide_true, decide_false, mx_int, mn_int, Nat.add_zero, Nat.zero_add, Nat.reduceEqDiff, Nat.reduceAdd, app'_eq, List.append_nil, List.nil_append, o_bool, o_int, o_str, o_ptr, o_slice, o_map, List.all_cons, List.all_nil, Bool.and_self, box_agg, st_agg, ptrTo, sliceTo, mapTo, List.length_cons, List.length_nil, Nat.mul_one, Nat.zero_mul, Nat.sub_zero, Nat.reduceMul, eq_self, Int.ofNat_lt, hi, hc, hc1, hs, h1', h2', ea, eb, x_ia_26 hlt0, x_fa_32_3, r3, hge, hz0, x_ne_4, beq_self_eq_true, hpar]
        refine fin_ok (by omega) (by omega) ⟨tb, L, next, F, _, l, [b], ht1, ho1, hd, hv1, ha1, hB, by omega, by omega, by omega, fun a ha' => by have := b4 a ha'; omega, ?_⟩ hN
        simp only [ret_seq, ret_seq_ret, ret_seq_exit, ret_blk, ret_blk_ret, ret_blk_exit, ret_nil, gt_same, gt_other, Nat.reduceBEq, gt_leaf, l1_one, l2_two, l3_three, g_loc0, g_locS, g_tmp, g_cst, b_lss, b_leq, b_gtr, b_geq, b_add, b_sub, b_mul, b_eql, b_neq, b_eqlS, b_neqS, u_not, w_true, w_false, eBool_bool, resA_nil, resA_tmp, resA_cell, okP_true, okP_false, tupled_nil, tupled_one, tupled_more, t_nth, m_load, m_loadN, m_store, n_ptr, reduceIte, List.getElem?_cons_zero, List.getElem?_cons_succ, Option.map_some, Bool.not_true, Bool.not_false, decide_true, decide_false, mx_int, mn_int, Nat.add_zero, Nat.zero_add, Nat.reduceEqDiff, Nat.reduceAdd, app'_eq, List.append_nil, List.nil_append, o_bool, o_int, o_str, o_ptr, o_slice, o_map, List.all_cons, List.all_nil, Bool.and_self, box_agg, st_agg, ptrTo, sliceTo, mapTo, List.length_cons, List.length_nil, Nat.mul_one, Nat.zero_mul, Nat.sub_zero, Nat.reduceMul, eq_self, t0, t3, t4, t5, t6, t152, and_self]
      · obtain ⟨_, h2, ec, rfl, F', ht2, s2, f2⟩ := tadd_ok (n := m) (by omega) ht1 (s := dOf s) (i : Int) (by omega) (by omega) hdb hf (by omega) (by omega)
        have ho2 := ho1.sm s2 hd
        have hv2 := elsr_sm hv1 s2 (fun b hb => (ha1 b hb).1)
        obtain ⟨b', c2, e', e'', hblt2, hld2, hsto2, _⟩ := slo_store ho2 hlt0
        cases e'
        obtain ⟨h3, w1, ho3, n3, g3⟩ := hsto2 ⟨dOf s, next, i, 1⟩
        have s3 : Sm (fun c => c = b) h2 h3 := ⟨by omega, fun c _ hc => g3 c hc⟩
        have hls : (l.set i0 ⟨dOf s, next, i, 1⟩).length = l.length := List.length_set ..
        rw [← hls] at ho3
        have hv3 := elsr_sm hv2 s3 (fun b' hb' e => (ha1 b' hb').2.1 (List.mem_singleton.2 e))
        have hF' : ∀ b', b' < h1.next → ¬ F b' → ¬ F' b' := fun b' hb' hn h9 => by rcases f2 b' h9 with h9 | h9; exact hn h9; omega
        have hFb' : ¬ F' b := hF' b hblt hFb
        have ht3 := ht2.sm s3 (fun b' hb' e => hFb' (e ▸ hb'))
        have hgt : ¬ next ≤ next - 1 := by omega
        have w1' : h2.sto b (i0 * 4) [.str (dOf s), u next, .int .i64 i, .int .i64 1] = some h3 := w1
        simp only [RunR, r3_1, r3_4, r3_7, r3_8, r3_6, r3_9, r3_5, r3_3, r3_11, r3_13, r3_15, r3_18, r3_23, r3_25, r3_26, r3_24, r3_22, r3_31, r3_34, r3_35, r3_33, r3_36, r3_32, r3_30, r3_38, r3_40, r3_42, r3_45, r3_48, r3_49, r3_47, r3_50, r3_46, r3_44, r3_53, r3_56, r3_59, r3_61, r3_63, r3_66, r3_67, r3_65, r3_68, r3_64, r3_62, r3_60, r3_58, r3_69, r3_57, r3_55, r3_71, r3_75, r3_78, r3_79, r3_77, r3_80, r3_76, r3_74, r3_81, r3_73, r3_83, r3_86, r3_89, r3_90, r3_88, r3_91, r3_87, r3_85, r3_93, r3_96, r3_99, r3_100, r3_98, r3_101, r3_97, r3_95, r3_102, r3_94, r3_92, r3_84, r3_82, r3_72, r3_70, r3_54, r3_52, r3_104, r3_107, r3_108, r3_106, r3_109, r3_105, r3_51, r3_43, r3_41, r3_39, r3_37, r3_29, r3_28, r3_110, r3_27, r3_21, r3_19, r3_17, r3_112, r3_113, r3_111, r3_16, r3_14, r3_12, r3_10, r3_2, r3_0, x_len_22, x_ia_22 hi, x_len_9, q1, q2, q3, b_rem (show (2 : Int) ≠ 0 by decide), t0, t3, t4, t5, t6, ret_seq, ret_seq_ret, ret_seq_exit, ret_blk, ret_blk_ret, ret_blk_exit, ret_nil, gt_same, gt_other, Nat.reduceBEq, gt_leaf, l1_one, l2_two, l3_three, g_loc0, g_locS, g_tmp, g_cst, b_lss, b_leq, b_gtr, b_geq, b_add, b_sub, b_mul, b_eql, b_neq, b_eqlS, b_neqS, u_not, w_true, w_false, eBool_bool, resA_nil, resA_tmp, resA_cell, okP_true, okP_false, tupled_nil, tupled_one, tupled_more, t_nth, m_load, m_loadN, m_store, n_ptr, reduceIte, List.getElem?_cons_zero, List.getElem?_cons_succ, Option.map_some, Bool.not_true, Bool.not_false, decide_true, decide_false, mx_int, mn_int, Nat.add_zero, Nat.zero_add, Nat.reduceEqDiff, Nat.reduceAdd, app'_eq, List.append_nil, List.nil_append, o_bool, o_int, o_str, o_ptr, o_slice, o_map, List.all_cons, List.all_nil, Bool.and_self, box_agg, st_agg, ptrTo, sliceTo, mapTo, List.length_cons, List.length_nil, Nat.mul_one, Nat.zero_mul, Nat.sub_zero, Nat.reduceMul, eq_self, Int.ofNat_lt, hi, hc, hc1, hs, h1', h2', ea, eb, x_ia_26 hlt0, x_fa_32_3, r3, hge, hneg, hz0, x_ne_4, beq_self_eq_true, hpar, ec, hgt, x_bd_32_0_1_2_3, w1']
        have hag := hB.again hT hi0 hr (i : Int)
        rw [hxd] at hag
        refine fin_ok (by omega) (by omega) ⟨tb, _, next + 1, F', _, _, [b], ht3, ho3, fun b' hb' => by rw [List.mem_singleton.1 hb']; exact hFb', hv3, fun b' hb' => ⟨hF' b' (ha1 b' hb').2.2 (ha1 b' hb').1, (ha1 b' hb').2.1, by have := (ha1 b' hb').2.2; have := s2.1; omega⟩, hag, by omega, by omega, by rw [List.length_append, List.length_singleton]; omega, ?_, ?_⟩ hN
        · intro a ha'
          rcases set_mem hB.nd hi0 a ha' with e | e
          · rw [e]; show (1 : Int) ≤ _; omega
          · have := b4 a e.1; omega
        · simp only [ret_seq, ret_seq_ret, ret_seq_exit, ret_blk, ret_blk_ret, ret_blk_exit, ret_nil, gt_same, gt_other, Nat.reduceBEq, gt_leaf, l1_one, l2_two, l3_three, g_loc0, g_locS, g_tmp, g_cst, b_lss, b_leq, b_gtr, b_geq, b_add, b_sub, b_mul, b_eql, b_neq, b_eqlS, b_neqS, u_not, w_true, w_false, eBool_bool, resA_nil, resA_tmp, resA_cell, okP_true, okP_false, tupled_nil, tupled_one, tupled_more, t_nth, m_load, m_loadN, m_store, n_ptr, reduceIte, List.getElem?_cons_zero, List.getElem?_cons_succ, Option.map_some, Bool.not_true, Bool.not_false, decide_true, decide_false, mx_int, mn_int, Nat.add_zero, Nat.zero_add, Nat.reduceEqDiff, Nat.reduceAdd, app'_eq, List.append_nil, List.nil_append, o_bool, o_int, o_str, o_ptr, o_slice, o_map, List.all_cons, List.all_nil, Bool.and_self, box_agg, st_agg, ptrTo, sliceTo, mapTo, List.length_cons, List.length_nil, Nat.mul_one, Nat.zero_mul, Nat.sub_zero, Nat.reduceMul, eq_self, t0, t3, t4, t5, t6, t152, and_self, hls, show next + 1 - 1 = next from by omega]
    · have hpos : (0 : Int) < x.refs := by omega
      have hf := hB.there hi0 hr hT
      rw [hxd] at hf
      rw [hf] at eb
      simp only at eb
      by_cases hpar : ((s0 : Nat) : Int).tmod 2 = 0
      · obtain ⟨_, h2, ec, s2, hrel⟩ := release_ok (n := m) (by omega) ht1 (hB.on x hm0 hr)
        have ho2 := ho1.sm s2 hd
        have hv2 := elsr_sm hv1 s2 (fun b hb => (ha1 b hb).1)
        obtain ⟨b', c2, e', e'', hblt2, hld2, _, hst2⟩ := slo_store ho2 hlt0
        cases e'
        obtain ⟨h3, w1, ho3, n3, g3⟩ := hst2 x (x.refs - 1) hi0
        have s3 : Sm (fun c => c = b) h2 h3 := ⟨by omega, fun c _ hc => g3 c hc⟩
        have hi3 : (l.set i0 { x with refs := x.refs - 1 })[i0]? = some { x with refs := x.refs - 1 } := by rw [List.getElem?_set, if_pos rfl, if_pos hlt0]
        have hls : (l.set i0 { x with refs := x.refs - 1 }).length = l.length := List.length_set ..
        rw [← hls] at ho3
        obtain ⟨b', c3, e', e'', _, hld3, _, _⟩ := slo_store ho3 (i := i0) (by omega)
        cases e'
        have r2 : h2.ld1 b (i0 * 4 + 3) = some (.int .i64 x.refs) := hld2 3 x hi0 (by decide)
        have r4 : h3.ld1 b (i0 * 4 + 3) = some (.int .i64 (x.refs - 1)) := hld3 3 _ hi3 (by decide)
        have ew : IntKind.i64.wrap (x.refs - 1) = x.refs - 1 := wrap_i64 (by omega) (by omega)
        have hv3 := elsr_sm hv2 s3 (fun b' hb' e => (ha1 b' hb').2.1 (List.mem_singleton.2 e))
        have hblt3 : ∀ b', argB (AV.slice (some (bb, o)) ss.length c g) b' → b' < h3.next := fun b' hb' => by have := (ha1 b' hb').2.2; have := s2.1; omega
        by_cases hone : 1 < x.refs
        · rw [if_pos hone] at hrel
          obtain ⟨rfl, ht2⟩ := hrel
          have ht3 := ht2.sm s3 (fun b' hb' e => hFb (e ▸ hb'))
          have hne0 : ¬ x.refs - 1 = 0 := by omega
          simp only [RunR, r3_1, r3_4, r3_7, r3_8, r3_6, r3_9, r3_5, r3_3, r3_11, r3_13, r3_15, r3_18, r3_23, r3_25, r3_26, r3_24, r3_22, r3_31, r3_34, r3_35, r3_33, r3_36, r3_32, r3_30, r3_38, r3_40, r3_42, r3_45, r3_48, r3_49, r3_47, r3_50, r3_46, r3_44, r3_53, r3_56, r3_59, r3_61, r3_63, r3_66, r3_67, r3_65, r3_68, r3_64, r3_62, r3_60, r3_58, r3_69, r3_57, r3_55, r3_71, r3_75, r3_78, r3_79, r3_77, r3_80, r3_76, r3_74, r3_81, r3_73, r3_83, r3_86, r3_89, r3_90, r3_88, r3_91, r3_87, r3_85, r3_93, r3_96, r3_99, r3_100, r3_98, r3_101, r3_97, r3_95, r3_102, r3_94, r3_92, r3_84, r3_82, r3_72, r3_70, r3_54, r3_52, r3_104, r3_107, r3_108, r3_106, r3_109, r3_105, r3_51, r3_43, r3_41, r3_39, r3_37, r3_29, r3_28, r3_110, r3_27, r3_21, r3_19, r3_17, r3_112, r3_113, r3_111, r3_16, r3_14, r3_12, r3_10, r3_2, r3_0, x_len_22, x_ia_22 hi, x_len_9, q1, q2, q3, b_rem (show (2 : Int) ≠ 0 by decide), t0, t3, t4, t5, t6, ret_seq, ret_seq_ret, ret_seq_exit, ret_blk, ret_blk_ret, ret_blk_exit, ret_nil, gt_same, gt_other, Nat.reduceBEq, gt_leaf, l1_one, l2_two, l3_three, g_loc0, g_locS, g_tmp, g_cst, b_lss, b_leq, b_gtr, b_geq, b_add, b_sub, b_mul, b_eql, b_neq, b_eqlS, b_neqS, u_not, w_true, w_false, eBool_bool, resA_nil, resA_tmp, resA_cell, okP_true, okP_false, tupled_nil, tupled_one, tupled_more, t_nth, m_load, m_loadN, m_store, n_ptr, reduceIte, List.getElem?_cons_zero, List.getElem?_cons_succ, Option.map_some, Bool.not_true, Bool.not_false, decide_true, decide_false, mx_int, mn_int, Nat.add_zero, Nat.zero_add, Nat.reduceEqDiff, Nat.reduceAdd, app'_eq, List.append_nil, List.nil_append, o_bool, o_int, o_str, o_ptr, o_slice, o_map, List.all_cons, List.all_nil, Bool.and_self, box_agg, st_agg, ptrTo, sliceTo, mapTo, List.length_cons, List.length_nil, Nat.mul_one, Nat.zero_mul, Nat.sub_zero, Nat.reduceMul, eq_self, Int.ofNat_lt, hi, hc, hc1, hs, h1', h2', ea, eb, x_ia_26 hlt0, x_fa_32_3, r3, hge, hpos, x_ne_4, beq_self_eq_true, hpar, ec, r2, ew, w1, r4, hne0]
          refine fin_ok (by omega) (by omega) ⟨tb, _, next, F, _, _, [b], ht3, ho3, hd, hv3, fun b' hb' => ⟨(ha1 b' hb').1, (ha1 b' hb').2.1, hblt3 b' hb'⟩, hB.upd hT hi0 hr (r := x.refs - 1) (by omega) (by omega), by omega, by omega, ?_, ?_, ?_⟩ hN
          · rw [(putC_upd (c0 := ⟨x.id, x.data, x.block, x.refs⟩) ⟨x.id, x.data, x.block, x.refs - 1⟩ (hB.on x hm0 hr) rfl).2.2.1]; omega
          · intro a ha'
            rcases hset _ a ha' with e | e
            · omega
            · have := b4 a e; omega
          · simp only [ret_seq, ret_seq_ret, ret_seq_exit, ret_blk, ret_blk_ret, ret_blk_exit, ret_nil, gt_same, gt_other, Nat.reduceBEq, gt_leaf, l1_one, l2_two, l3_three, g_loc0, g_locS, g_tmp, g_cst, b_lss, b_leq, b_gtr, b_geq, b_add, b_sub, b_mul, b_eql, b_neq, b_eqlS, b_neqS, u_not, w_true, w_false, eBool_bool, resA_nil, resA_tmp, resA_cell, okP_true, okP_false, tupled_nil, tupled_one, tupled_more, t_nth, m_load, m_loadN, m_store, n_ptr, reduceIte, List.getElem?_cons_zero, List.getElem?_cons_succ, Option.map_some, Bool.not_true, Bool.not_false, decide_true, decide_false, mx_int, mn_int, Nat.add_zero, Nat.zero_add, Nat.reduceEqDiff, Nat.reduceAdd, app'_eq, List.append_nil, List.nil_append, o_bool, o_int, o_str, o_ptr, o_slice, o_map, List.all_cons, List.all_nil, Bool.and_self, box_agg, st_agg, ptrTo, sliceTo, mapTo, List.length_cons, List.length_nil, Nat.mul_one, Nat.zero_mul, Nat.sub_zero, Nat.reduceMul, eq_self, t0, t3, t4, t5, t6, t152, and_self, hls]
        · rw [if_neg hone] at hrel
          obtain ⟨rfl, F', ht2, hFF⟩ := hrel
          have ht3 := ht2.sm s3 (fun b' hb' e => hFb (e ▸ hFF _ hb'))
          have h1r : x.refs = 1 := by omega
          have hzz : x.refs - 1 = 0 := by omega
          rw [hzz] at w1 r4 ew ho3 hls hi3
          simp only [RunR, r3_1, r3_4, r3_7, r3_8, r3_6, r3_9, r3_5, r3_3, r3_11, r3_13, r3_15, r3_18, r3_23, r3_25, r3_26, r3_24, r3_22, r3_31, r3_34, r3_35, r3_33, r3_36, r3_32, r3_30, r3_38, r3_40, r3_42, r3_45, r3_48, r3_49, r3_47, r3_50, r3_46, r3_44, r3_53, r3_56, r3_59, r3_61, r3_63, r3_66, r3_67, r3_65, r3_68, r3_64, r3_62, r3_60, r3_58, r3_69, r3_57, r3_55, r3_71, r3_75, r3_78, r3_79, r3_77, r3_80, r3_76, r3_74, r3_81, r3_73, r3_83, r3_86, r3_89, r3_90, r3_88, r3_91, r3_87, r3_85, r3_93, r3_96, r3_99, r3_100, r3_98, r3_101, r3_97, r3_95, r3_102, r3_94, r3_92, r3_84, r3_82, r3_72, r3_70, r3_54, r3_52, r3_104, r3_107, r3_108, r3_106, r3_109, r3_105, r3_51, r3_43, r3_41, r3_39, r3_37, r3_29, r3_28, r3_110, r3_27, r3_21, r3_19, r3_17, r3_112, r3_113, r3_111, r3_16, r3_14, r3_12, r3_10, r3_2, r3_0, x_len_22, x_ia_22 hi, x_len_9, q1, q2, q3, b_rem (show (2 : Int) ≠ 0 by decide), t0, t3, t4, t5, t6, ret_seq, ret_seq_ret, ret_seq_exit, ret_blk, ret_blk_ret, ret_blk_exit, ret_nil, gt_same, gt_other, Nat.reduceBEq, gt_leaf, l1_one, l2_two, l3_three, g_loc0, g_locS, g_tmp, g_cst, b_lss, b_leq, b_gtr, b_geq, b_add, b_sub, b_mul, b_eql, b_neq, b_eqlS, b_neqS, u_not, w_true, w_false, eBool_bool, resA_nil, resA_tmp, resA_cell, okP_true, okP_false, tupled_nil, tupled_one, tupled_more, t_nth, m_load, m_loadN, m_store, n_ptr, reduceIte, List.getElem?_cons_zero, List.getElem?_cons_succ, Option.map_some, Bool.not_true, Bool.not_false, decide_true, decide_false, mx_int, mn_int, Nat.add_zero, Nat.zero_add, Nat.reduceEqDiff, Nat.reduceAdd, app'_eq, List.append_nil, List.nil_append, o_bool, o_int, o_str, o_ptr, o_slice, o_map, List.all_cons, List.all_nil, Bool.and_self, box_agg, st_agg, ptrTo, sliceTo, mapTo, List.length_cons, List.length_nil, Nat.mul_one, Nat.zero_mul, Nat.sub_zero, Nat.reduceMul, eq_self, Int.ofNat_lt, hi, hc, hc1, hs, h1', h2', ea, eb, x_ia_26 hlt0, x_fa_32_3, r3, hge, hpos, x_ne_4, beq_self_eq_true, hpar, ec, r2, ew, hzz, w1, r4]
          refine fin_ok (by omega) (by omega) ⟨tb, _, next, F', _, _, [b], ht3, ho3, fun b' hb' h9 => hd b' hb' (hFF _ h9), hv3, fun b' hb' => ⟨fun h9 => (ha1 b' hb').1 (hFF _ h9), (ha1 b' hb').2.1, hblt3 b' hb'⟩, hB.cut hT hi0 hr, by omega, by omega, ?_, ?_, ?_⟩ hN
          · have := cutC_len (hB.on x hm0 hr); omega
          · intro a ha'
            rcases hset _ a ha' with e | e
            · omega
            · have := b4 a e; omega
          · simp only [ret_seq, ret_seq_ret, ret_seq_exit, ret_blk, ret_blk_ret, ret_blk_exit, ret_nil, gt_same, gt_other, Nat.reduceBEq, gt_leaf, l1_one, l2_two, l3_three, g_loc0, g_locS, g_tmp, g_cst, b_lss, b_leq, b_gtr, b_geq, b_add, b_sub, b_mul, b_eql, b_neq, b_eqlS, b_neqS, u_not, w_true, w_false, eBool_bool, resA_nil, resA_tmp, resA_cell, okP_true, okP_false, tupled_nil, tupled_one, tupled_more, t_nth, m_load, m_loadN, m_store, n_ptr, reduceIte, List.getElem?_cons_zero, List.getElem?_cons_succ, Option.map_some, Bool.not_true, Bool.not_false, decide_true, decide_false, mx_int, mn_int, Nat.add_zero, Nat.zero_add, Nat.reduceEqDiff, Nat.reduceAdd, app'_eq, List.append_nil, List.nil_append, o_bool, o_int, o_str, o_ptr, o_slice, o_map, List.all_cons, List.all_nil, Bool.and_self, box_agg, st_agg, ptrTo, sliceTo, mapTo, List.length_cons, List.length_nil, Nat.mul_one, Nat.zero_mul, Nat.sub_zero, Nat.reduceMul, eq_self, t0, t3, t4, t5, t6, t152, and_self, hls]
      · obtain ⟨_, h2, ec, rfl, ht2, s2⟩ := hold_ok (n := m) (by omega) ht1 (hB.on x hm0 hr) (by show x.refs < 65535; omega)
        have ho2 := ho1.sm s2 hd
        have hv2 := elsr_sm hv1 s2 (fun b hb => (ha1 b hb).1)
        obtain ⟨b', c2, e', e'', hblt2, hld2, _, hst2⟩ := slo_store ho2 hlt0
        cases e'
        obtain ⟨h3, w1, ho3, n3, g3⟩ := hst2 x (x.refs + 1) hi0
        have s3 : Sm (fun c => c = b) h2 h3 := ⟨by omega, fun c _ hc => g3 c hc⟩
        have hls : (l.set i0 { x with refs := x.refs + 1 }).length = l.length := List.length_set ..
        rw [← hls] at ho3
        have r2 : h2.ld1 b (i0 * 4 + 3) = some (.int .i64 x.refs) := hld2 3 x hi0 (by decide)
        have ew : IntKind.i64.wrap (x.refs + 1) = x.refs + 1 := wrap_i64 (by omega) (by omega)
        have hv3 := elsr_sm hv2 s3 (fun b' hb' e => (ha1 b' hb').2.1 (List.mem_singleton.2 e))
        have hblt3 : ∀ b', argB (AV.slice (some (bb, o)) ss.length c g) b' → b' < h3.next := fun b' hb' => by have := (ha1 b' hb').2.2; have := s2.1; omega
        have ht3 := ht2.sm s3 (fun b' hb' e => hFb (e ▸ hb'))
        simp only [RunR, r3_1, r3_4, r3_7, r3_8, r3_6, r3_9, r3_5, r3_3, r3_11, r3_13, r3_15, r3_18, r3_23, r3_25, r3_26, r3_24, r3_22, r3_31, r3_34, r3_35, r3_33, r3_36, r3_32, r3_30, r3_38, r3_40, r3_42, r3_45, r3_48, r3_49, r3_47, r3_50, r3_46, r3_44, r3_53, r3_56, r3_59, r3_61, r3_63, r3_66, r3_67, r3_65, r3_68, r3_64, r3_62, r3_60, r3_58, r3_69, r3_57, r3_55, r3_71, r3_75, r3_78, r3_79, r3_77, r3_80, r3_76, r3_74, r3_81, r3_73, r3_83, r3_86, r3_89, r3_90, r3_88, r3_91, r3_87, r3_85, r3_93, r3_96, r3_99, r3_100, r3_98, r3_101, r3_97, r3_95, r3_102, r3_94, r3_92, r3_84, r3_82, r3_72, r3_70, r3_54, r3_52, r3_104, r3_107, r3_108, r3_106, r3_109, r3_105, r3_51, r3_43, r3_41, r3_39, r3_37, r3_29, r3_28, r3_110, r3_27, r3_21, r3_19, r3_17, r3_112, r3_113, r3_111, r3_16, r3_14, r3_12, r3_10, r3_2, r3_0, x_len_22, x_ia_22 hi, x_len_9, q1, q2, q3, b_rem (show (2 : Int) ≠ 0 by decide), t0, t3, t4, t5, t6, ret_seq, ret_seq_ret, ret_seq_exit, ret_blk, ret_blk_ret, ret_blk_exit, ret_nil, gt_same, gt_other, Nat.reduceBEq, gt_leaf, l1_one, l2_two, l3_three, g_loc0, g_locS, g_tmp, g_cst, b_lss, b_leq, b_gtr, b_geq, b_add, b_sub, b_mul, b_eql, b_neq, b_eqlS, b_neqS, u_not, w_true, w_false, eBool_bool, resA_nil, resA_tmp, resA_cell, okP_true, okP_false, tupled_nil, tupled_one, tupled_more, t_nth, m_load, m_loadN, m_store, n_ptr, reduceIte, List.getElem?_cons_zero, List.getElem?_cons_succ, Option.map_some, Bool.not_true, Bool.not_false, decide_true, decide_false, mx_int, mn_int, Nat.add_zero, Nat.zero_add, Nat.reduceEqDiff, Nat.reduceAdd, app'_eq, List.append_nil, List.nil_append, o_bool, o_int, o_str, o_ptr, o_slice, o_map, List.all_cons, List.all_nil, Bool.and_self, box_agg, st_agg, ptrTo, sliceTo, mapTo, List.length_cons, List.length_nil, Nat.mul_one, Nat.zero_mul, Nat.sub_zero, Nat.reduceMul, eq_self, Int.ofNat_lt, hi, hc, hc1, hs, h1', h2', ea, eb, x_ia_26 hlt0, x_fa_32_3, r3, hge, hpos, x_ne_4, beq_self_eq_true, hpar, ec, r2, ew, w1]
        refine fin_ok (by omega) (by omega) ⟨tb, _, next, F, _, _, [b], ht3, ho3, hd, hv3, fun b' hb' => ⟨(ha1 b' hb').1, (ha1 b' hb').2.1, hblt3 b' hb'⟩, hB.upd hT hi0 hr (r := x.refs + 1) (by omega) (by omega), by omega, by omega, ?_, ?_, ?_⟩ hN
        · rw [(putC_upd (c0 := ⟨x.id, x.data, x.block, x.refs⟩) ⟨x.id, x.data, x.block, x.refs + 1⟩ (hB.on x hm0 hr) rfl).2.2.1]; omega
        · intro a ha'
          rcases hset _ a ha' with e | e
          · omega
          · have := b4 a e; omega
        · simp only [ret_seq, ret_seq_ret, ret_seq_exit, ret_blk, ret_blk_ret, ret_blk_exit, ret_nil, gt_same, gt_other, Nat.reduceBEq, gt_leaf, l1_one, l2_two, l3_three, g_loc0, g_locS, g_tmp, g_cst, b_lss, b_leq, b_gtr, b_geq, b_add, b_sub, b_mul, b_eql, b_neq, b_eqlS, b_neqS, u_not, w_true, w_false, eBool_bool, resA_nil, resA_tmp, resA_cell, okP_true, okP_false, tupled_nil, tupled_one, tupled_more, t_nth, m_load, m_loadN, m_store, n_ptr, reduceIte, List.getElem?_cons_zero, List.getElem?_cons_succ, Option.map_some, Bool.not_true, Bool.not_false, decide_true, decide_false, mx_int, mn_int, Nat.add_zero, Nat.zero_add, Nat.reduceEqDiff, Nat.reduceAdd, app'_eq, List.append_nil, List.nil_append, o_bool, o_int, o_str, o_ptr, o_slice, o_map, List.all_cons, List.all_nil, Bool.and_self, box_agg, st_agg, ptrTo, sliceTo, mapTo, List.length_cons, List.length_nil, Nat.mul_one, Nat.zero_mul, Nat.sub_zero, Nat.reduceMul, eq_self, t0, t3, t4, t5, t6, t152, and_self, hls]
  · have hf := hB.none hno
    rw [hf] at eb
    simp only at eb
    have hge : ¬ (0 : Int) ≤ -1 := by decide
    have hneg : (-1 : Int) < 0 := by decide
    by_cases hpar : ((s0 : Nat) : Int).tmod 2 = 0
    · simp only [RunR, r3_1, r3_4, r3_7, r3_8, r3_6, r3_9, r3_5, r3_3, r3_11, r3_13, r3_15, r3_18, r3_23, r3_25, r3_26, r3_24, r3_22, r3_31, r3_34, r3_35, r3_33, r3_36, r3_32, r3_30, r3_38, r3_40, r3_42, r3_45, r3_48, r3_49, r3_47, r3_50, r3_46, r3_44, r3_53, r3_56, r3_59, r3_61, r3_63, r3_66, r3_67, r3_65, r3_68, r3_64, r3_62, r3_60, r3_58, r3_69, r3_57, r3_55, r3_71, r3_75, r3_78, r3_79, r3_77, r3_80, r3_76, r3_74, r3_81, r3_73, r3_83, r3_86, r3_89, r3_90, r3_88, r3_91, r3_87, r3_85, r3_93, r3_96, r3_99, r3_100, r3_98, r3_101, r3_97, r3_95, r3_102, r3_94, r3_92, r3_84, r3_82, r3_72, r3_70, r3_54, r3_52, r3_104, r3_107, r3_108, r3_106, r3_109, r3_105, r3_51, r3_43, r3_41, r3_39, r3_37, r3_29, r3_28, r3_110, r3_27, r3_21, r3_19, r3_17, r3_112, r3_113, r3_111, r3_16, r3_14, r3_12, r3_10, r3_2, r3_0, x_len_22, x_ia_22 hi, x_len_9, q1, q2, q3, b_rem (show (2 : Int) ≠ 0 by decide), t0, t3, t4, t5, t6, ret_seq, ret_seq_ret, ret_seq_exit, ret_blk, ret_blk_ret, ret_blk_exit, ret_nil, gt_same, gt_other, Nat.reduceBEq, gt_leaf, l1_one, l2_two, l3_three, g_loc0, g_locS, g_tmp, g_cst, b_lss, b_leq, b_gtr, b_geq, b_add, b_sub, b_mul, b_eql, b_neq, b_eqlS, b_neqS, u_not, w_true, w_false, eBool_bool, resA_nil, resA_tmp, resA_cell, okP_true, okP_false, tupled_nil, tupled_one, tupled_more, t_nth, m_load, m_loadN, m_store, n_ptr, reduceIte, List.getElem?_cons_zero, List.getElem?_cons_succ, Option.map_some, Bool.not_true, Bool.not_false, decide_true, decide_false, mx_int, mn_int, Nat.add_zero, Nat.zero_add, Nat.reduceEqDiff, Nat.reduceAdd, app'_eq, List.append_nil, List.nil_append, o_bool, o_int, o_str, o_ptr, o_slice, o_map, List.all_cons, List.all_nil, Bool.and_self, box_agg, st_agg, ptrTo, sliceTo, mapTo, List.length_cons, List.length_nil, Nat.mul_one, Nat.zero_mul, Nat.sub_zero, Nat.reduceMul, eq_self, Int.ofNat_lt, hi, hc, hc1, hs, h1', h2', ea, eb, hge, x_ne_4, beq_self_eq_true, hpar]
      refine fin_ok (by omega) (by omega) ⟨tb, L, next, F, _, l, bs, ht1, ho1, hd, hv1, ha1, hB, by omega, by omega, by omega, fun a ha' => by have := b4 a ha'; omega, ?_⟩ hN
      simp only [ret_seq, ret_seq_ret, ret_seq_exit, ret_blk, ret_blk_ret, ret_blk_exit, ret_nil, gt_same, gt_other, Nat.reduceBEq, gt_leaf, l1_one, l2_two, l3_three, g_loc0, g_locS, g_tmp, g_cst, b_lss, b_leq, b_gtr, b_geq, b_add, b_sub, b_mul, b_eql, b_neq, b_eqlS, b_neqS, u_not, w_true, w_false, eBool_bool, resA_nil, resA_tmp, resA_cell, okP_true, okP_false, tupled_nil, tupled_one, tupled_more, t_nth, m_load, m_loadN, m_store, n_ptr, reduceIte, List.getElem?_cons_zero, List.getElem?_cons_succ, Option.map_some, Bool.not_true, Bool.not_false, decide_true, decide_false, mx_int, mn_int, Nat.add_zero, Nat.zero_add, Nat.reduceEqDiff, Nat.reduceAdd, app'_eq, List.append_nil, List.nil_append, o_bool, o_int, o_str, o_ptr, o_slice, o_map, List.all_cons, List.all_nil, Bool.and_self, box_agg, st_agg, ptrTo, sliceTo, mapTo, List.length_cons, List.length_nil, Nat.mul_one, Nat.zero_mul, Nat.sub_zero, Nat.reduceMul, eq_self, t0, t3, t4, t5, t6, t152, and_self]
    · obtain ⟨_, h2, ec, rfl, F', ht2, s2, f2⟩ := tadd_ok (n := m) (by omega) ht1 (s := dOf s) (i : Int) (by omega) (by omega) hdb hf (by omega) (by omega)
      have ho2 := ho1.sm s2 hd
      have hv2 := elsr_sm hv1 s2 (fun b hb => (ha1 b hb).1)
      obtain ⟨h3, e3, r3, n3, g3⟩ := Rw.alloc h2 (id := h2.next) (n := 4) (vs := [.str (dOf s), u 0, .int .i64 0, .int .i64 0]) (z := []) (ro := false) (Nat.le_refl _) rfl
      have s3 : Sm NoB h2 h3 := ⟨by omega, fun c hc _ => g3 c (by omega)⟩
      have ho3 := ho2.sm s3 (fun _ _ h => h)
      have hsrc : srcOf 4 (fun n => n) (.slice (some (h2.next, 0)) 1 1 none) h3 = some ([.str (dOf s), u 0, .int .i64 0, .int .i64 0], 1) := srcOf_row r3 (Nat.le_refl _)
      obtain ⟨v4, h4, bs4, e4, ho4, n4, g4, f4, _⟩ := app_own (t := 26) (id := h3.next) u_26 s_32 b_32 z_32 rfl ho3 hsrc (by decide) rfl rfl (room_le (by omega) (by omega)) (Nat.le_refl _)
      have hfl : l.flatMap Ytlfednnfkejcjaa.hc ++ [AV.str (dOf s), u 0, .int .i64 0, .int .i64 0] = (l ++ [(⟨dOf s, 0, 0, 0⟩ : Hd)]).flatMap Ytlfednnfkejcjaa.hc := by rw [List.flatMap_append]; rfl
      rw [hfl] at ho4
      have hl1' : l.length + 1 = (l ++ [(⟨dOf s, 0, 0, 0⟩ : Hd)]).length := by simp
      rw [hl1'] at ho4
      have hlt4 : l.length < (l ++ [(⟨dOf s, 0, 0, 0⟩ : Hd)]).length := by simp
      obtain ⟨b, c4, rfl, rfl, hblt4, hld4, hsto4, _⟩ := slo_store ho4 hlt4
      obtain ⟨h5, w1, ho5, n5, g5⟩ := hsto4 ⟨dOf s, next, i, 1⟩
      have hset : (l ++ [(⟨dOf s, 0, 0, 0⟩ : Hd)]).set l.length ⟨dOf s, next, i, 1⟩ = l ++ [⟨dOf s, next, i, 1⟩] := by
        rw [List.set_append_right _ _ (Nat.le_refl _), Nat.sub_self]; rfl
      rw [hset] at ho5
      rw [← hl1'] at ho5
      have hll : (l ++ [(⟨dOf s, next, i, 1⟩ : Hd)]).length = l.length + 1 := by simp
      rw [← hll] at ho5
      have w1' : h4.sto b (l.length * 4) [.str (dOf s), u next, .int .i64 i, .int .i64 1] = some h5 := w1
      have hgt : ¬ next ≤ next - 1 := by omega
      have e3' : h2.new h2.next (.cells (fillC [.str (dOf s), .int .u32 0, .int .i64 0, .int .i64 0] .leaf 0) [] 4 false) = h3 := e3
      have eww : IntKind.i64.wrap (((l ++ [(⟨dOf s, 0, 0, 0⟩ : Hd)]).length : Int) - 1) = (l.length : Int) := by rw [← hl1', wrap_i64 (by omega) (by omega)]; omega
      have q26 := x_ia_26 (k := .i64) (b := b) (o := 0) (c := c4) (g := some 4) hlt4
      simp only [RunR, r3_1, r3_4, r3_7, r3_8, r3_6, r3_9, r3_5, r3_3, r3_11, r3_13, r3_15, r3_18, r3_23, r3_25, r3_26, r3_24, r3_22, r3_31, r3_34, r3_35, r3_33, r3_36, r3_32, r3_30, r3_38, r3_40, r3_42, r3_45, r3_48, r3_49, r3_47, r3_50, r3_46, r3_44, r3_53, r3_56, r3_59, r3_61, r3_63, r3_66, r3_67, r3_65, r3_68, r3_64, r3_62, r3_60, r3_58, r3_69, r3_57, r3_55, r3_71, r3_75, r3_78, r3_79, r3_77, r3_80, r3_76, r3_74, r3_81, r3_73, r3_83, r3_86, r3_89, r3_90, r3_88, r3_91, r3_87, r3_85, r3_93, r3_96, r3_99, r3_100, r3_98, r3_101, r3_97, r3_95, r3_102, r3_94, r3_92, r3_84, r3_82, r3_72, r3_70, r3_54, r3_52, r3_104, r3_107, r3_108, r3_106, r3_109, r3_105, r3_51, r3_43, r3_41, r3_39, r3_37, r3_29, r3_28, r3_110, r3_27, r3_21, r3_19, r3_17, r3_112, r3_113, r3_111, r3_16, r3_14, r3_12, r3_10, r3_2, r3_0, x_len_22, x_ia_22 hi, x_len_9, q1, q2, q3, b_rem (show (2 : Int) ≠ 0 by decide), t0, t3, t4, t5, t6, ret_seq, ret_seq_ret, ret_seq_exit, ret_blk, ret_blk_ret, ret_blk_exit, ret_nil, gt_same, gt_other, Nat.reduceBEq, gt_leaf, l1_one, l2_two, l3_three, g_loc0, g_locS, g_tmp, g_cst, b_lss, b_leq, b_gtr, b_geq, b_add, b_sub, b_mul, b_eql, b_neq, b_eqlS, b_neqS, u_not, w_true, w_false, eBool_bool, resA_nil, resA_tmp, resA_cell, okP_true, okP_false, tupled_nil, tupled_one, tupled_more, t_nth, m_load, m_loadN, m_store, n_ptr, reduceIte, List.getElem?_cons_zero, List.getElem?_cons_succ, Option.map_some, Bool.not_true, Bool.not_false, decide_true, decide_false, mx_int, mn_int, Nat.add_zero, Nat.zero_add, Nat.reduceEqDiff, Nat.reduceAdd, app'_eq, List.append_nil, List.nil_append, o_bool, o_int, o_str, o_ptr, o_slice, o_map, List.all_cons, List.all_nil, Bool.and_self, box_agg, st_agg, ptrTo, sliceTo, mapTo, List.length_cons, List.length_nil, Nat.mul_one, Nat.zero_mul, Nat.sub_zero, Nat.reduceMul, eq_self, Int.ofNat_lt, hi, hc, hc1, hs, h1', h2', ea, eb, hge, hneg, x_ne_4, beq_self_eq_true, hpar, ec, hgt, x_bd_32_0, x_bs_26_1, e3', e4, x_len_26, eww, x_bd_32_0_1_2_3, q26, w1']
      have hF' : ∀ b', b' < h1.next → ¬ F b' → ¬ F' b' := fun b' hb' hn h9 => by rcases f2 b' h9 with h9 | h9; exact hn h9; omega
      have hlt2 : h1.next ≤ h2.next := s2.1
      have htl : ∀ b', F' b' → b' < h2.next := fun b' hb' => by
        obtain ⟨mb, x', es, k', B', X, q1', q2', q3', q4', _, q6', _, _, _, rfl⟩ := ht2.ex
        rcases hb' with rfl | rfl | rfl | ⟨j, hj, hb'⟩
        · exact ht2.lt
        · exact q6'
        · exact q4'.lt
        · obtain ⟨S, _, _, z3⟩ := q4'.ex
          obtain ⟨v, _, z5⟩ := z3 j hj
          exact z5.lt b' hb'
      have hbold : ∀ b', b' ∈ bs → b' < h1.next := fun b' hb' => ho1.lt b' hb'
      have hbn : ¬ F' b := by
        rcases f4 b (List.mem_singleton.2 rfl) with h9 | h9
        · exact hF' b (hbold b h9) (hd b h9)
        · intro h8; have := htl b h8; omega
      have s4 : Sm (fun c => c ∈ bs ∨ c = h3.next) h3 h4 := ⟨n4, fun c _ hc => g4 c (fun e => hc (.inl e)) (fun e => hc (.inr e))⟩
      have s5 : Sm (fun c => c = b) h4 h5 := ⟨by omega, fun c _ hc => g5 c hc⟩
      have hkeep : ∀ b', F' b' → ¬ (b' ∈ bs ∨ b' = h3.next) := fun b' hb' h9 => by
        rcases h9 with h9 | h9
        · exact hF' b' (hbold b' h9) (hd b' h9) hb'
        · have := htl b' hb'; omega
      have ht5 := ((ht2.sm s3 (fun _ _ h => h)).sm s4 hkeep).sm s5 (fun b' hb' e => hbn (e ▸ hb'))
      have hargk : ∀ b', argB (AV.slice (some (bb, o)) ss.length c g) b' → ¬ (b' ∈ bs ∨ b' = h3.next) := fun b' hb' h9 => by
        obtain ⟨z1, z2, z3⟩ := ha1 b' hb'
        rcases h9 with h9 | h9
        · exact z2 h9
        · omega
      have hargb : ∀ b', argB (AV.slice (some (bb, o)) ss.length c g) b' → ¬ b' = b := fun b' hb' e => by
        subst e
        rcases f4 b' (List.mem_singleton.2 rfl) with h9 | h9
        · exact hargk b' hb' (.inl h9)
        · exact hargk b' hb' (.inr h9)
      have hv5 := elsr_sm (elsr_sm (elsr_sm hv2 s3 (fun _ _ h => h)) s4 hargk) s5 hargb
      refine fin_ok (by omega) (by omega) ⟨tb, _, next + 1, F', _, _, [b], ht5, ho5, fun b' hb' => by rw [List.mem_singleton.1 hb']; exact hbn, hv5, fun b' hb' => ⟨hF' b' (ha1 b' hb').2.2 (ha1 b' hb').1, fun e => hargb b' hb' (List.mem_singleton.1 e), by have := (ha1 b' hb').2.2; omega⟩, hB.come hT hno (by omega) (by omega) hdb (i : Int), by omega, by omega, by rw [List.length_append, List.length_singleton]; omega, ?_, ?_⟩ hN
      · intro a ha'
        rcases List.mem_append.1 ha' with e | e
        · have := b4 a e; omega
        · rw [List.mem_singleton.1 e]; show (1 : Int) ≤ _; omega
      · simp only [ret_seq, ret_seq_ret, ret_seq_exit, ret_blk, ret_blk_ret, ret_blk_exit, ret_nil, gt_same, gt_other, Nat.reduceBEq, gt_leaf, l1_one, l2_two, l3_three, g_loc0, g_locS, g_tmp, g_cst, b_lss, b_leq, b_gtr, b_geq, b_add, b_sub, b_mul, b_eql, b_neq, b_eqlS, b_neqS, u_not, w_true, w_false, eBool_bool, resA_nil, resA_tmp, resA_cell, okP_true, okP_false, tupled_nil, tupled_one, tupled_more, t_nth, m_load, m_loadN, m_store, n_ptr, reduceIte, List.getElem?_cons_zero, List.getElem?_cons_succ, Option.map_some, Bool.not_true, Bool.not_false, decide_true, decide_false, mx_int, mn_int, Nat.add_zero, Nat.zero_add, Nat.reduceEqDiff, Nat.reduceAdd, app'_eq, List.append_nil, List.nil_append, o_bool, o_int, o_str, o_ptr, o_slice, o_map, List.all_cons, List.all_nil, Bool.and_self, box_agg, st_agg, ptrTo, sliceTo, mapTo, List.length_cons, List.length_nil, Nat.mul_one, Nat.zero_mul, Nat.sub_zero, Nat.reduceMul, eq_self, t0, t3, t4, t5, t6, t152, and_self, show next + 1 - 1 = next from by omega, ← hl1', hll]
end
theorem once_ok {n : Nat} (hn : 8 ≤ n) {h : Heap} {lv : AV} {ss : List (List Nat)} (hv : ElsR h lv ss.length 1 (ss.map .str)) (hby : ∀ s, s ∈ ss → Byts s) : WC (C n (.fn 3) [lv] h) fun r _ => r = .bool true := by
  obtain ⟨hlen, a, c, g, rfl, _⟩ := id hv
  obtain ⟨m, rfl⟩ : ∃ m, n = m + 1 := ⟨n - 1, by omega⟩
  refine call_fn _ f3A rfl (by simp [fn3]) fun QQ hQ => ?_
  simp only [fn3] at hQ
  simp only [fn3, fill_cons, fill_nil, Nat.zero_add, Nat.reduceAdd]
  by_cases h40 : (40 : Int) < (ss.length : Int)
  · have hw := works_ok (n := m) (by omega) h
    simp only [r3_1, r3_4, r3_7, r3_8, r3_6, r3_9, r3_5, r3_3, r3_11, r3_13, r3_15, r3_18, r3_23, r3_25, r3_26, r3_24, r3_22, r3_31, r3_34, r3_35, r3_33, r3_36, r3_32, r3_30, r3_38, r3_40, r3_42, r3_45, r3_48, r3_49, r3_47, r3_50, r3_46, r3_44, r3_53, r3_56, r3_59, r3_61, r3_63, r3_66, r3_67, r3_65, r3_68, r3_64, r3_62, r3_60, r3_58, r3_69, r3_57, r3_55, r3_71, r3_75, r3_78, r3_79, r3_77, r3_80, r3_76, r3_74, r3_81, r3_73, r3_83, r3_86, r3_89, r3_90, r3_88, r3_91, r3_87, r3_85, r3_93, r3_96, r3_99, r3_100, r3_98, r3_101, r3_97, r3_95, r3_102, r3_94, r3_92, r3_84, r3_82, r3_72, r3_70, r3_54, r3_52, r3_104, r3_107, r3_108, r3_106, r3_109, r3_105, r3_103, r3_51, r3_43, r3_41, r3_39, r3_37, r3_29, r3_28, r3_110, r3_27, r3_21, r3_19, r3_17, r3_112, r3_113, r3_111, r3_16, r3_14, r3_12, r3_10, r3_2, r3_0, x_len_22, h40, hw, ret_seq, ret_seq_ret, ret_seq_exit, ret_blk, ret_blk_ret, ret_blk_exit, ret_nil, gt_same, gt_other, Nat.reduceBEq, gt_leaf, l1_one, l2_two, l3_three, g_loc0, g_locS, g_tmp, g_cst, b_lss, b_leq, b_gtr, b_geq, b_add, b_sub, b_mul, b_eql, b_neq, b_eqlS, b_neqS, u_not, w_true, w_false, eBool_bool, resA_nil, resA_tmp, resA_cell, okP_true, okP_false, tupled_nil, tupled_one, tupled_more, t_nth, m_load, m_loadN, m_store, n_ptr, reduceIte, List.getElem?_cons_zero, List.getElem?_cons_succ, Option.map_some, Bool.not_true, Bool.not_false, decide_true, decide_false, mx_int, mn_int, Nat.add_zero, Nat.zero_add, Nat.reduceEqDiff, Nat.reduceAdd, app'_eq, List.append_nil, List.nil_append, o_bool, o_int, o_str, o_ptr, o_slice, o_map, List.all_cons, List.all_nil, Bool.and_self, box_agg, st_agg, ptrTo, sliceTo, mapTo, List.length_cons, List.length_nil, Nat.mul_one, Nat.zero_mul, Nat.sub_zero, Nat.reduceMul, eq_self]
    refine hQ _ _ _ _ (.inr rfl) (by simp only [ret_seq, ret_seq_ret, ret_seq_exit, ret_blk, ret_blk_ret, ret_blk_exit, ret_nil, gt_same, gt_other, Nat.reduceBEq, gt_leaf, l1_one, l2_two, l3_three, g_loc0, g_locS, g_tmp, g_cst, b_lss, b_leq, b_gtr, b_geq, b_add, b_sub, b_mul, b_eql, b_neq, b_eqlS, b_neqS, u_not, w_true, w_false, eBool_bool, resA_nil, resA_tmp, resA_cell, okP_true, okP_false, tupled_nil, tupled_one, tupled_more, t_nth, m_load, m_loadN, m_store, n_ptr, reduceIte, List.getElem?_cons_zero, List.getElem?_cons_succ, Option.map_some, Bool.not_true, Bool.not_false, decide_true, decide_false, mx_int, mn_int, Nat.add_zero, Nat.zero_add, Nat.reduceEqDiff, Nat.reduceAdd, app'_eq, List.append_nil, List.nil_append, o_bool, o_int, o_str, o_ptr, o_slice, o_map, List.all_cons, List.all_nil, Bool.and_self, box_agg, st_agg, ptrTo, sliceTo, mapTo, List.length_cons, List.length_nil, Nat.mul_one, Nat.zero_mul, Nat.sub_zero, Nat.reduceMul, eq_self]) (by simp only [ret_seq, ret_seq_ret, ret_seq_exit, ret_blk, ret_blk_ret, ret_blk_exit, ret_nil, gt_same, gt_other, Nat.reduceBEq, gt_leaf, l1_one, l2_two, l3_three, g_loc0, g_locS, g_tmp, g_cst, b_lss, b_leq, b_gtr, b_geq, b_add, b_sub, b_mul, b_eql, b_neq, b_eqlS, b_neqS, u_not, w_true, w_false, eBool_bool, resA_nil, resA_tmp, resA_cell, okP_true, okP_false, tupled_nil, tupled_one, tupled_more, t_nth, m_load, m_loadN, m_store, n_ptr, reduceIte, List.getElem?_cons_zero, List.getElem?_cons_succ, Option.map_some, Bool.not_true, Bool.not_false, decide_true, decide_false, mx_int, mn_int, Nat.add_zero, Nat.zero_add, Nat.reduceEqDiff, Nat.reduceAdd, app'_eq, List.append_nil, List.nil_append, o_bool, o_int, o_str, o_ptr, o_slice, o_map, List.all_cons, List.all_nil, Bool.and_self, box_agg, st_agg, ptrTo, sliceTo, mapTo, List.length_cons, List.length_nil, Nat.mul_one, Nat.zero_mul, Nat.sub_zero, Nat.reduceMul, eq_self]; rfl) ?_
    rfl
  · obtain ⟨_, h1, ea, tb, F, rfl, ht, s1, hF⟩ := tnew_ok (n := m) (by omega) (h := h)
    have hv1 := elsr_sm hv s1 (fun _ _ h => h)
    simp only [r3_1, r3_4, r3_7, r3_8, r3_6, r3_9, r3_5, r3_3, r3_11, r3_13, r3_15, r3_18, r3_23, r3_25, r3_26, r3_24, r3_22, r3_31, r3_34, r3_35, r3_33, r3_36, r3_32, r3_30, r3_38, r3_40, r3_42, r3_45, r3_48, r3_49, r3_47, r3_50, r3_46, r3_44, r3_53, r3_56, r3_59, r3_61, r3_63, r3_66, r3_67, r3_65, r3_68, r3_64, r3_62, r3_60, r3_58, r3_69, r3_57, r3_55, r3_71, r3_75, r3_78, r3_79, r3_77, r3_80, r3_76, r3_74, r3_81, r3_73, r3_83, r3_86, r3_89, r3_90, r3_88, r3_91, r3_87, r3_85, r3_93, r3_96, r3_99, r3_100, r3_98, r3_101, r3_97, r3_95, r3_102, r3_94, r3_92, r3_84, r3_82, r3_72, r3_70, r3_54, r3_52, r3_104, r3_107, r3_108, r3_106, r3_109, r3_105, r3_103, r3_51, r3_43, r3_41, r3_39, r3_37, r3_29, r3_28, r3_110, r3_27, r3_21, r3_19, r3_17, r3_112, r3_113, r3_111, r3_16, r3_14, r3_12, r3_10, r3_2, r3_0, x_len_22, h40, ea, ret_seq, ret_seq_ret, ret_seq_exit, ret_blk, ret_blk_ret, ret_blk_exit, ret_nil, gt_same, gt_other, Nat.reduceBEq, gt_leaf, l1_one, l2_two, l3_three, g_loc0, g_locS, g_tmp, g_cst, b_lss, b_leq, b_gtr, b_geq, b_add, b_sub, b_mul, b_eql, b_neq, b_eqlS, b_neqS, u_not, w_true, w_false, eBool_bool, resA_nil, resA_tmp, resA_cell, okP_true, okP_false, tupled_nil, tupled_one, tupled_more, t_nth, m_load, m_loadN, m_store, n_ptr, reduceIte, List.getElem?_cons_zero, List.getElem?_cons_succ, Option.map_some, Bool.not_true, Bool.not_false, decide_true, decide_false, mx_int, mn_int, Nat.add_zero, Nat.zero_add, Nat.reduceEqDiff, Nat.reduceAdd, app'_eq, List.append_nil, List.nil_append, o_bool, o_int, o_str, o_ptr, o_slice, o_map, List.all_cons, List.all_nil, Bool.and_self, box_agg, st_agg, ptrTo, sliceTo, mapTo, List.length_cons, List.length_nil, Nat.mul_one, Nat.zero_mul, Nat.sub_zero, Nat.reduceMul, eq_self]
    refine run_loop (c := c3_21) (I := fun k tm' h' => ∃ i, i ≤ ss.length ∧ k = ss.length - i ∧ RInv ss (.slice a ss.length c g) i i tm' h') (n := ss.length) ⟨0, Nat.zero_le _, rfl, ?_⟩ (by omega) ?_
    · refine ⟨tb, [], 1, F, _, [], [], ht, SlO.nil, (fun b hb => by cases hb), hv1, fun b hb => ⟨fun h9 => ?_, List.not_mem_nil, ?_⟩, ?_, by decide, Nat.le_refl _, Nat.le_refl _, (fun a ha => by cases ha), ?_⟩
      · obtain ⟨o, n', c', g', e⟩ := hb
        cases e
        have := hv.lt
        have := hF b h9
        omega
      · obtain ⟨o, n', c', g', e⟩ := hb
        cases e
        have := hv.lt
        exact Nat.lt_of_lt_of_le this s1.1
      · exact ⟨List.nodup_nil, (fun a ha => by cases ha), (fun a ha => by cases ha), (fun c hc => by cases hc), rfl, (fun a ha => by cases ha)⟩
      · simp only [ret_seq, ret_seq_ret, ret_seq_exit, ret_blk, ret_blk_ret, ret_blk_exit, ret_nil, gt_same, gt_other, Nat.reduceBEq, gt_leaf, l1_one, l2_two, l3_three, g_loc0, g_locS, g_tmp, g_cst, b_lss, b_leq, b_gtr, b_geq, b_add, b_sub, b_mul, b_eql, b_neq, b_eqlS, b_neqS, u_not, w_true, w_false, eBool_bool, resA_nil, resA_tmp, resA_cell, okP_true, okP_false, tupled_nil, tupled_one, tupled_more, t_nth, m_load, m_loadN, m_store, n_ptr, reduceIte, List.getElem?_cons_zero, List.getElem?_cons_succ, Option.map_some, Bool.not_true, Bool.not_false, decide_true, decide_false, mx_int, mn_int, Nat.add_zero, Nat.zero_add, Nat.reduceEqDiff, Nat.reduceAdd, app'_eq, List.append_nil, List.nil_append, o_bool, o_int, o_str, o_ptr, o_slice, o_map, List.all_cons, List.all_nil, Bool.and_self, box_agg, st_agg, ptrTo, sliceTo, mapTo, List.length_cons, List.length_nil, Nat.mul_one, Nat.zero_mul, Nat.sub_zero, Nat.reduceMul, eq_self, and_self, show (1 : Int) - 1 = 0 from rfl]
        trivial
    · rintro _ tm h2 ⟨i, hi, rfl, hI⟩ Q1 hN hE
      by_cases hlt : i < ss.length
      · by_cases hgood : 1 ≤ (ss[i]).length ∧ (ss[i]).length ≤ 64
        · exact round_ok (by omega) (by omega) hI hlt hgood.1 hgood.2 (hby _ (List.getElem_mem _)) fun tm' h' hI' => hN tm' h' (ss.length - (i + 1)) (by omega) ⟨i + 1, hlt, rfl, hI'⟩
        · refine bad_ok (by omega) hI hlt hgood fun tm' h' r2 r152 => hE _ _ _ (by simp) ?_
          simp only [ret_seq, ret_seq_ret, ret_seq_exit, ret_blk, ret_blk_ret, ret_blk_exit, ret_nil, gt_same, gt_other, Nat.reduceBEq, gt_leaf, l1_one, l2_two, l3_three, g_loc0, g_locS, g_tmp, g_cst, b_lss, b_leq, b_gtr, b_geq, b_add, b_sub, b_mul, b_eql, b_neq, b_eqlS, b_neqS, u_not, w_true, w_false, eBool_bool, resA_nil, resA_tmp, resA_cell, okP_true, okP_false, tupled_nil, tupled_one, tupled_more, t_nth, m_load, m_loadN, m_store, n_ptr, reduceIte, List.getElem?_cons_zero, List.getElem?_cons_succ, Option.map_some, Bool.not_true, Bool.not_false, decide_true, decide_false, mx_int, mn_int, Nat.add_zero, Nat.zero_add, Nat.reduceEqDiff, Nat.reduceAdd, app'_eq, List.append_nil, List.nil_append, o_bool, o_int, o_str, o_ptr, o_slice, o_map, List.all_cons, List.all_nil, Bool.and_self, box_agg, st_agg, ptrTo, sliceTo, mapTo, List.length_cons, List.length_nil, Nat.mul_one, Nat.zero_mul, Nat.sub_zero, Nat.reduceMul, eq_self]
          refine hQ _ _ _ _ (.inr rfl) r152 (by simp only [ret_seq, ret_seq_ret, ret_seq_exit, ret_blk, ret_blk_ret, ret_blk_exit, ret_nil, gt_same, gt_other, Nat.reduceBEq, gt_leaf, l1_one, l2_two, l3_three, g_loc0, g_locS, g_tmp, g_cst, b_lss, b_leq, b_gtr, b_geq, b_add, b_sub, b_mul, b_eql, b_neq, b_eqlS, b_neqS, u_not, w_true, w_false, eBool_bool, resA_nil, resA_tmp, resA_cell, okP_true, okP_false, tupled_nil, tupled_one, tupled_more, t_nth, m_load, m_loadN, m_store, n_ptr, reduceIte, List.getElem?_cons_zero, List.getElem?_cons_succ, Option.map_some, Bool.not_true, Bool.not_false, decide_true, decide_false, mx_int, mn_int, Nat.add_zero, Nat.zero_add, Nat.reduceEqDiff, Nat.reduceAdd, app'_eq, List.append_nil, List.nil_append, o_bool, o_int, o_str, o_ptr, o_slice, o_map, List.all_cons, List.all_nil, Bool.and_self, box_agg, st_agg, ptrTo, sliceTo, mapTo, List.length_cons, List.length_nil, Nat.mul_one, Nat.zero_mul, Nat.sub_zero, Nat.reduceMul, eq_self, r2]; rfl) rfl
      · obtain ⟨tb, L, next, F, av, l, bs, _, _, _, hv2, _, _, _, _, _, _, t0, t3, t4, t5, t6, t152⟩ := hI
        obtain rfl : i = ss.length := by omega
        have hw := works_ok (n := m) (by omega) h2
        simp only [r3_1, r3_4, r3_7, r3_8, r3_6, r3_9, r3_5, r3_3, r3_11, r3_13, r3_15, r3_18, r3_23, r3_25, r3_26, r3_24, r3_22, r3_31, r3_34, r3_35, r3_33, r3_36, r3_32, r3_30, r3_38, r3_40, r3_42, r3_45, r3_48, r3_49, r3_47, r3_50, r3_46, r3_44, r3_53, r3_56, r3_59, r3_61, r3_63, r3_66, r3_67, r3_65, r3_68, r3_64, r3_62, r3_60, r3_58, r3_69, r3_57, r3_55, r3_71, r3_75, r3_78, r3_79, r3_77, r3_80, r3_76, r3_74, r3_81, r3_73, r3_83, r3_86, r3_89, r3_90, r3_88, r3_91, r3_87, r3_85, r3_93, r3_96, r3_99, r3_100, r3_98, r3_101, r3_97, r3_95, r3_102, r3_94, r3_92, r3_84, r3_82, r3_72, r3_70, r3_54, r3_52, r3_104, r3_107, r3_108, r3_106, r3_109, r3_105, r3_103, r3_51, r3_43, r3_41, r3_39, r3_37, r3_29, r3_28, r3_110, r3_27, r3_21, r3_19, r3_17, r3_112, r3_113, r3_111, r3_16, r3_14, r3_12, r3_10, r3_2, r3_0, x_len_22, t0, t6, ret_seq, ret_seq_ret, ret_seq_exit, ret_blk, ret_blk_ret, ret_blk_exit, ret_nil, gt_same, gt_other, Nat.reduceBEq, gt_leaf, l1_one, l2_two, l3_three, g_loc0, g_locS, g_tmp, g_cst, b_lss, b_leq, b_gtr, b_geq, b_add, b_sub, b_mul, b_eql, b_neq, b_eqlS, b_neqS, u_not, w_true, w_false, eBool_bool, resA_nil, resA_tmp, resA_cell, okP_true, okP_false, tupled_nil, tupled_one, tupled_more, t_nth, m_load, m_loadN, m_store, n_ptr, reduceIte, List.getElem?_cons_zero, List.getElem?_cons_succ, Option.map_some, Bool.not_true, Bool.not_false, decide_true, decide_false, mx_int, mn_int, Nat.add_zero, Nat.zero_add, Nat.reduceEqDiff, Nat.reduceAdd, app'_eq, List.append_nil, List.nil_append, o_bool, o_int, o_str, o_ptr, o_slice, o_map, List.all_cons, List.all_nil, Bool.and_self, box_agg, st_agg, ptrTo, sliceTo, mapTo, List.length_cons, List.length_nil, Nat.mul_one, Nat.zero_mul, Nat.sub_zero, Nat.reduceMul, eq_self, Int.ofNat_lt, hlt]
        refine hE _ _ _ (by simp) ?_
        simp only [r3_1, r3_4, r3_7, r3_8, r3_6, r3_9, r3_5, r3_3, r3_11, r3_13, r3_15, r3_18, r3_23, r3_25, r3_26, r3_24, r3_22, r3_31, r3_34, r3_35, r3_33, r3_36, r3_32, r3_30, r3_38, r3_40, r3_42, r3_45, r3_48, r3_49, r3_47, r3_50, r3_46, r3_44, r3_53, r3_56, r3_59, r3_61, r3_63, r3_66, r3_67, r3_65, r3_68, r3_64, r3_62, r3_60, r3_58, r3_69, r3_57, r3_55, r3_71, r3_75, r3_78, r3_79, r3_77, r3_80, r3_76, r3_74, r3_81, r3_73, r3_83, r3_86, r3_89, r3_90, r3_88, r3_91, r3_87, r3_85, r3_93, r3_96, r3_99, r3_100, r3_98, r3_101, r3_97, r3_95, r3_102, r3_94, r3_92, r3_84, r3_82, r3_72, r3_70, r3_54, r3_52, r3_104, r3_107, r3_108, r3_106, r3_109, r3_105, r3_103, r3_51, r3_43, r3_41, r3_39, r3_37, r3_29, r3_28, r3_110, r3_27, r3_21, r3_19, r3_17, r3_112, r3_113, r3_111, r3_16, r3_14, r3_12, r3_10, r3_2, r3_0, hw, ret_seq, ret_seq_ret, ret_seq_exit, ret_blk, ret_blk_ret, ret_blk_exit, ret_nil, gt_same, gt_other, Nat.reduceBEq, gt_leaf, l1_one, l2_two, l3_three, g_loc0, g_locS, g_tmp, g_cst, b_lss, b_leq, b_gtr, b_geq, b_add, b_sub, b_mul, b_eql, b_neq, b_eqlS, b_neqS, u_not, w_true, w_false, eBool_bool, resA_nil, resA_tmp, resA_cell, okP_true, okP_false, tupled_nil, tupled_one, tupled_more, t_nth, m_load, m_loadN, m_store, n_ptr, reduceIte, List.getElem?_cons_zero, List.getElem?_cons_succ, Option.map_some, Bool.not_true, Bool.not_false, decide_true, decide_false, mx_int, mn_int, Nat.add_zero, Nat.zero_add, Nat.reduceEqDiff, Nat.reduceAdd, app'_eq, List.append_nil, List.nil_append, o_bool, o_int, o_str, o_ptr, o_slice, o_map, List.all_cons, List.all_nil, Bool.and_self, box_agg, st_agg, ptrTo, sliceTo, mapTo, List.length_cons, List.length_nil, Nat.mul_one, Nat.zero_mul, Nat.sub_zero, Nat.reduceMul, eq_self]
        refine hQ _ _ _ _ (.inr rfl) (by simp only [ret_seq, ret_seq_ret, ret_seq_exit, ret_blk, ret_blk_ret, ret_blk_exit, ret_nil, gt_same, gt_other, Nat.reduceBEq, gt_leaf, l1_one, l2_two, l3_three, g_loc0, g_locS, g_tmp, g_cst, b_lss, b_leq, b_gtr, b_geq, b_add, b_sub, b_mul, b_eql, b_neq, b_eqlS, b_neqS, u_not, w_true, w_false, eBool_bool, resA_nil, resA_tmp, resA_cell, okP_true, okP_false, tupled_nil, tupled_one, tupled_more, t_nth, m_load, m_loadN, m_store, n_ptr, reduceIte, List.getElem?_cons_zero, List.getElem?_cons_succ, Option.map_some, Bool.not_true, Bool.not_false, decide_true, decide_false, mx_int, mn_int, Nat.add_zero, Nat.zero_add, Nat.reduceEqDiff, Nat.reduceAdd, app'_eq, List.append_nil, List.nil_append, o_bool, o_int, o_str, o_ptr, o_slice, o_map, List.all_cons, List.all_nil, Bool.and_self, box_agg, st_agg, ptrTo, sliceTo, mapTo, List.length_cons, List.length_nil, Nat.mul_one, Nat.zero_mul, Nat.sub_zero, Nat.reduceMul, eq_self, t152]) (by simp only [ret_seq, ret_seq_ret, ret_seq_exit, ret_blk, ret_blk_ret, ret_blk_exit, ret_nil, gt_same, gt_other, Nat.reduceBEq, gt_leaf, l1_one, l2_two, l3_three, g_loc0, g_locS, g_tmp, g_cst, b_lss, b_leq, b_gtr, b_geq, b_add, b_sub, b_mul, b_eql, b_neq, b_eqlS, b_neqS, u_not, w_true, w_false, eBool_bool, resA_nil, resA_tmp, resA_cell, okP_true, okP_false, tupled_nil, tupled_one, tupled_more, t_nth, m_load, m_loadN, m_store, n_ptr, reduceIte, List.getElem?_cons_zero, List.getElem?_cons_succ, Option.map_some, Bool.not_true, Bool.not_false, decide_true, decide_false, mx_int, mn_int, Nat.add_zero, Nat.zero_add, Nat.reduceEqDiff, Nat.reduceAdd, app'_eq, List.append_nil, List.nil_append, o_bool, o_int, o_str, o_ptr, o_slice, o_map, List.all_cons, List.all_nil, Bool.and_self, box_agg, st_agg, ptrTo, sliceTo, mapTo, List.length_cons, List.length_nil, Nat.mul_one, Nat.zero_mul, Nat.sub_zero, Nat.reduceMul, eq_self]; rfl) rfl
end Go.Proofs.Ytlfednnfkejcjaa


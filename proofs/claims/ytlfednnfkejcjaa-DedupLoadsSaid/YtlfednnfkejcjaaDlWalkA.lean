import Derived.Test.YtlfednnfkejcjaaDlRulesA
import Derived.Sort.AssemblyPlain
set_option linter.unusedVariables false
set_option linter.unusedSimpArgs false
set_option linter.constructorNameAsVariable false
set_option linter.defProp false
set_option maxRecDepth 20000

namespace Go.Proofs.Ytlfednnfkejcjaa
open Go.Am
theorem v_0 {a : AV} {l : List AV} : (a :: l)[0]? = some a := List.getElem?_cons_zero
theorem v_s {a : AV} {l : List AV} {i : Nat} : (a :: l)[i + 1]? = l[i]? := List.getElem?_cons_succ
theorem v_an {l : List AV} : l ++ [] = l := List.append_nil l
theorem v_na {l : List AV} : [] ++ l = l := List.nil_append l
theorem v_ac {a : AV} {l : List AV} {p : AV → Bool} : (a :: l).all p = (p a && l.all p) := List.all_cons
theorem v_a0 {p : AV → Bool} : ([] : List AV).all p = true := List.all_nil
theorem v_lc {a : AV} {l : List AV} : (a :: l).length = l.length + 1 := List.length_cons
theorem v_l0 : ([] : List AV).length = 0 := List.length_nil
theorem v_nc {a : Nat} {l : List Nat} : (a :: l).length = l.length + 1 := List.length_cons
theorem v_n0 : ([] : List Nat).length = 0 := List.length_nil
theorem v_om {a : Nat × Nat} {f : Nat × Nat → Nat × Nat} : (some a).map f = some (f a) := Option.map_some _ _
theorem v_o2 {a : Nat} {f : Nat → AV} : (some a).map f = some (f a) := Option.map_some _ _
theorem v_w0 {a : Nat} {l : List Nat} : (a :: l)[0]? = some a := List.getElem?_cons_zero
theorem v_ws {a : Nat} {l : List Nat} {i : Nat} : (a :: l)[i + 1]? = l[i]? := List.getElem?_cons_succ
theorem v_pt {b : Nat} : ptrTo b = .ptr (some (b, 0)) := by unfold ptrTo; rfl
theorem v_st {n b : Nat} : sliceTo n b = .slice (some (b, 0)) n n none := by unfold sliceTo; rfl
theorem v_mt {b : Nat} : mapTo b = .map (some b) := by unfold mapTo; rfl
def SS := And.intro @k_seq <| And.intro @k_blk <| And.intro @k_cnd <| And.intro @k_cndC <| And.intro @rSkip <| And.intro @rExit <| And.intro @rRet <| And.intro @ri_nil <| And.intro @ri_gd <| And.intro @ri_mv <| And.intro @ri_p1 <| And.intro @ri_p2 <| And.intro @ri_pick <| And.intro @ri_pn <| And.intro @ri_ld1 <| And.intro @ri_ldn <| And.intro @ri_rd <| And.intro @ri_al <| And.intro @ri_st1 <| And.intro @ri_ef <| And.intro @ri_cl <| And.intro @ge_nil <| And.intro @ge_cons <| And.intro @po_nil <| And.intro @po_cons <| And.intro @g_cf <| And.intro @ap_fn <| And.intro @ap_yield <| And.intro @B_some <| And.intro @Ck_some <| And.intro @Wt_eq <| And.intro @ret_seq <| And.intro @ret_seq_ret <| And.intro @ret_seq_exit <| And.intro @ret_blk <| And.intro @ret_blk_ret <| And.intro @ret_blk_exit <| And.intro @ret_nil <| And.intro @gt_same <| And.intro @gt_other <| And.intro @gt_leaf <| And.intro @l1_one <| And.intro @l2_two <| And.intro @l3_three <| And.intro @g_loc0 <| And.intro @g_locS <| And.intro @g_tmp <| And.intro @g_cst <| And.intro @b_lss <| And.intro @b_leq <| And.intro @b_gtr <| And.intro @b_geq <| And.intro @b_add <| And.intro @b_sub <| And.intro @b_mul <| And.intro @b_eql <| And.intro @b_neq <| And.intro @b_eqlS <| And.intro @b_neqS <| And.intro @u_not <| And.intro @w_true <| And.intro @w_false <| And.intro @eBool_bool <| And.intro @resA_nil <| And.intro @resA_tmp <| And.intro @resA_cell <| And.intro @okP_true <| And.intro @okP_false <| And.intro @tupled_nil <| And.intro @tupled_one <| And.intro @tupled_more <| And.intro @t_nth <| And.intro @m_load <| And.intro @m_loadN <| And.intro @m_store <| And.intro @n_ptr <| And.intro @Bool.not_true <| And.intro @Bool.not_false <| And.intro @decide_true <| And.intro @decide_false <| And.intro @mx_int <| And.intro @mn_int <| And.intro @Nat.add_zero <| And.intro @Nat.zero_add <| And.intro @app'_eq <| And.intro @o_bool <| And.intro @o_int <| And.intro @o_str <| And.intro @o_ptr <| And.intro @o_slice <| And.intro @o_map <| And.intro @Bool.and_self <| And.intro @box_agg <| And.intro @st_agg <| And.intro @Nat.mul_one <| And.intro @Nat.zero_mul <| And.intro @Nat.sub_zero <| And.intro @v_0 <| And.intro @v_s <| And.intro @v_an <| And.intro @v_na <| And.intro @v_ac <| And.intro @v_a0 <| And.intro @v_lc <| And.intro @v_l0 <| And.intro @v_nc <| And.intro @v_n0 <| And.intro @v_om <| And.intro @v_o2 <| And.intro @v_w0 <| And.intro @v_ws <| And.intro @v_pt <| And.intro @v_st <| @v_mt
end Go.Proofs.Ytlfednnfkejcjaa

namespace Go.Proofs.Ytlfednnfkejcjaa
open Go.Am
set_option maxRecDepth 10000
noncomputable abbrev SC (n : Nat) : CallFn := callN P (keepF P) noPrims 100000 n
abbrev I (n : Nat) : AV := .int .i64 (n : Int)
theorem wAdd {x y : Nat} (h : x + y ≤ 1000000) : IntKind.i64.wrap ((x : Int) + (y : Int)) = ((x + y : Nat) : Int) := by rw [wrap_i64 (by omega) (by omega)]; simp
theorem wAdd1 {x : Nat} (h : x ≤ 1000000) : IntKind.i64.wrap ((x : Int) + 1) = ((x + 1 : Nat) : Int) := by rw [wrap_i64 (by omega) (by omega)]; simp
theorem wSub {x y : Nat} (h : y ≤ x) (h' : x ≤ 1000000) : IntKind.i64.wrap ((x : Int) - (y : Int)) = ((x - y : Nat) : Int) := by rw [wrap_i64 (by omega) (by omega)]; omega
theorem wSub1 {x : Nat} (h : 1 ≤ x) (h' : x ≤ 1000000) : IntKind.i64.wrap ((x : Int) - 1) = ((x - 1 : Nat) : Int) := by rw [wrap_i64 (by omega) (by omega)]; omega
theorem s_int {k : IntKind} {n : Int} : AV.same (.int k n) (.int k n) = true := by cases k <;> simp [AV.same]
theorem s_bool {b : Bool} : AV.same (.bool b) (.bool b) = true := by simp [AV.same]
theorem s_ptr {p : Option (Nat × Nat)} : AV.same (.ptr p) (.ptr p) = true := by simp [AV.same]
theorem s_slice {p : Option (Nat × Nat)} {n c : Nat} {g : Option Nat} : AV.same (.slice p n c g) (.slice p n c g) = true := by simp [AV.same]
theorem w_undef {b : Bool} : wanted b undefA = false := rfl
abbrev El := Int
abbrev en (x : El) : AV := .int .u32 x
abbrev ltE : El → El → Bool := Go.Sort.ltInt
theorem ltE_iff {x y : El} : ltE x y = decide (x < y) := rfl
structure Px where
  b : Nat
  N : Nat
  cap : Nat
  g : Option Nat
  rest : List AV
  z : List AV
abbrev Px.sv (X : Px) : AV := .slice (some (X.b, 0)) X.N X.cap X.g
structure Px.At (X : Px) (h : Heap) (D : Array El) : Prop where
  sz : D.size = X.N
  rw : Rw h X.b (D.toList.map en ++ X.rest) X.z false
  lt : X.b < h.next
abbrev PsB (X : Px) (h h' : Heap) : Prop := Sm (· = X.b) h h'
theorem PsB.tr {X : Px} {h h' h'' : Heap} (a : PsB X h h') (b : PsB X h' h'') : PsB X h h'' := a.trans b (fun _ _ h => h) (fun _ _ h => h)
theorem PsB.no {X : Px} {h h' : Heap} (a : Sm NoB h h') : PsB X h h' := a.no
section
variable {X : Px} {h h' : Heap} {D : Array El}
theorem el_get {i : Nat} (h : i < D.size) : (D.toList.map en)[i]? = some (en D[i]!) := by
  rw [List.getElem?_map, Array.getElem?_toList, getElem!_pos D i h, Array.getElem?_eq_getElem h]; rfl
theorem Px.At.ld (hA : X.At h D) {i : Nat} (hi : i < X.N) : h.ld1 X.b i = some (en D[i]!) := by
  have := hA.sz
  rw [hA.rw.ld1, List.getElem?_append_left (by simp; omega), el_get (by omega)]
theorem Px.At.sm (hA : X.At h D) (hs : Sm NoB h h') : X.At h' D := ⟨hA.sz, hA.rw.sm hs hA.lt (fun h => h), Nat.lt_of_lt_of_le hA.lt hs.1⟩
theorem Px.At.st1 (hA : X.At h D) {i : Nat} (x : El) (hi : i < X.N) : ∃ h1, h.st1 X.b i (en x) = some h1 ∧ X.At h1 (D.setIfInBounds i x) ∧ PsB X h h1 := by
  have hsz := hA.sz
  obtain ⟨a1, a2, a3, a4⟩ := hA.rw.st1 (o := i) (v := en x) (by simp; omega) rfl
  refine ⟨_, a1, ⟨by simpa using hsz, ?_, by rw [a3]; exact hA.lt⟩, ⟨by rw [a3]; exact Nat.le_refl _, fun c _ hc => a4 c hc⟩⟩
  rw [List.set_append_left _ _ (by simp; omega), ← List.map_set, ← Array.toList_setIfInBounds] at a2
  exact a2
theorem Px.At.swap (hA : X.At h D) {i j : Nat} (hi : i < X.N) (hj : j < X.N) :
    ∃ h1 h2, h.st1 X.b i (en D[j]!) = some h1 ∧ h1.st1 X.b j (en D[i]!) = some h2 ∧ X.At h2 (Go.Sort.swp D i j) ∧ PsB X h h2 := by
  obtain ⟨h1, a1, a2, a3⟩ := hA.st1 D[j]! hi
  obtain ⟨h2, b1, b2, b3⟩ := a2.st1 D[i]! hj
  exact ⟨h1, h2, a1, b1, b2, a3.tr b3⟩
end
theorem snan_ok' {n : Nat} (hn : 1 ≤ n) (x : El) (h : Heap) : WC (SC n (.fn 107) [en x] h) fun r h' => h' = h ∧ r = .bool false := by
  obtain ⟨m, rfl⟩ : ∃ m, n = m + 1 := ⟨n - 1, by omega⟩
  refine call_fn _ f107A rfl (by simp [fn107]) fun QQ hQ => ?_
  simp only [fn107] at hQ
  simp only [fn107, fill_cons, fill_nil, Nat.zero_add, Nat.reduceAdd]
  simp only [F107, SS, Nat.reduceBEq, Nat.reduceEqDiff, Nat.reduceAdd, reduceIte, Nat.reduceMul]
  exact hQ _ _ _ _ (.inr rfl) (by simp only [SS, Nat.reduceBEq]) (by simp only [SS, Nat.reduceBEq, Nat.reduceEqDiff, Nat.reduceAdd, reduceIte, Nat.reduceMul]; rfl) ⟨rfl, by simp [tupled_one]⟩
theorem snan_ok {n : Nat} (hn : 1 ≤ n) (x : El) (h : Heap) : SC n (.fn 107) [en x] h = some (.bool false, h) := by
  obtain ⟨r, h', e, rfl, rfl⟩ := snan_ok' hn x h
  exact e
theorem less_ok' {n : Nat} (hn : 2 ≤ n) (x y : El) (h : Heap) : WC (SC n (.fn 119) [en x, en y] h) fun r h' => h' = h ∧ r = .bool (ltE x y) := by
  have nan : ∀ n, 1 ≤ n → ∀ x : El, SC n (.fn 107) [en x] h = some (.bool false, h) := fun n hn x => snan_ok hn x h
  obtain ⟨m, rfl⟩ : ∃ m, n = m + 1 := ⟨n - 1, by omega⟩
  refine call_fn _ f119A rfl (by simp [fn119]) fun QQ hQ => ?_
  simp only [fn119] at hQ
  simp only [fn119, fill_cons, fill_nil, Nat.zero_add, Nat.reduceAdd]
  simp only [F119, SS, Nat.reduceBEq, Nat.reduceEqDiff, Nat.reduceAdd, reduceIte, Nat.reduceMul, nan m (by omega), w_undef]
  exact hQ _ _ _ _ (.inr rfl) (by simp only [SS, Nat.reduceBEq]) (by simp only [SS, Nat.reduceBEq, Nat.reduceEqDiff, Nat.reduceAdd, reduceIte, Nat.reduceMul]; rfl) ⟨rfl, by simp [tupled_one, ltE_iff]⟩
theorem less_ok {n : Nat} (hn : 2 ≤ n) (x y : El) (h : Heap) : SC n (.fn 119) [en x, en y] h = some (.bool (ltE x y), h) := by
  obtain ⟨r, h', e, rfl, rfl⟩ := less_ok' hn x y h
  exact e
end Go.Proofs.Ytlfednnfkejcjaa

namespace Go.Proofs.Ytlfednnfkejcjaa
open Go.Am Go.Sort
set_option maxRecDepth 10000
theorem insOuter_lt {a b i : Nat} {d : Array El} (h : i < b) : insOuter ltE a b i d = insOuter ltE a b (i + 1) (insInner ltE a i d) := by rw [insOuter, if_pos h]
theorem insOuter_ge {a b i : Nat} {d : Array El} (h : ¬ i < b) : insOuter ltE a b i d = d := by rw [insOuter, if_neg h]
theorem insI_ok {n : Nat} (hn : 3 ≤ n) {X : Px} (hN : X.N ≤ 40000) {h : Heap} {D : Array El} (hA : X.At h D) {a e : Nat} (hae : a ≤ e) (he : e ≤ X.N) :
    WC (SC n (.fn 113) [X.sv, I a, I e] h) fun r h' => X.At h' (insertionSort ltE D a e) ∧ PsB X h h' := by
  obtain ⟨m, rfl⟩ : ∃ m, n = m + 1 := ⟨n - 1, by omega⟩
  refine call_fn _ f113A rfl (by simp [fn113]) fun QQ hQ => ?_
  simp only [fn113] at hQ
  simp only [fn113, fill_cons, fill_nil, Nat.zero_add, Nat.reduceAdd]
  simp only [F113, SS, Nat.reduceBEq, Nat.reduceEqDiff, Nat.reduceAdd, reduceIte, Nat.reduceMul, wAdd1 (show a ≤ 1000000 by omega)]
  refine run_loop (c := c113_4) (I := fun m' tm' h' => ∃ i cur, (i ≤ e ∨ i = a + 1) ∧ m' = e - i ∧ X.At h' cur ∧ PsB X h h' ∧ insOuter ltE a e i cur = insertionSort ltE D a e ∧ tm'.gt 0 = some X.sv ∧ tm'.gt 1 = some (I a) ∧ tm'.gt 2 = some (I e) ∧ tm'.gt 6 = some (I i) ∧ tm'.gt 49 = none) (n := e - (a + 1))
    ⟨a + 1, D, .inr rfl, rfl, hA, Sm.refl _ _, rfl, by simp [gt_same, gt_other, gt_leaf]⟩ (by omega) ?_
  rintro _ tm h' ⟨i, cur, hie, rfl, hA', hS, hE0, t0, t1, t2, t6, t49⟩ Q1 hN1 hE
  by_cases hlt : i < e
  · simp only [F113, t0, t1, t2, t6, t49, SS, Nat.reduceBEq, Nat.reduceEqDiff, Nat.reduceAdd, reduceIte, Nat.reduceMul, Int.ofNat_lt, hlt]
    rw [insOuter_lt hlt] at hE0
    refine run_loop (c := c113_16) (I := fun m' tm' h2 => ∃ j cur2, j ≤ i ∧ m' = j ∧ X.At h2 cur2 ∧ PsB X h h2 ∧ insInner ltE a j cur2 = insInner ltE a i cur ∧ tm'.gt 0 = some X.sv ∧ tm'.gt 1 = some (I a) ∧ tm'.gt 2 = some (I e) ∧ tm'.gt 6 = some (I i) ∧ tm'.gt 7 = some (I j) ∧ tm'.gt 49 = none) (n := i)
      ⟨i, cur, by omega, rfl, hA', hS, rfl, by simp only [SS, Nat.reduceBEq, Nat.reduceEqDiff, Nat.reduceAdd, reduceIte, Nat.reduceMul, t0, t1, t2, t6, t49, and_self]⟩ (by omega) ?_
    rintro j tm h2 ⟨_, cur2, hji, rfl, hA2, hS2, hI, t0, t1, t2, t6, t7, t49⟩ Q2 hN2 hE2
    have e1 := wAdd1 (show i ≤ 1000000 by omega)
    by_cases hja : a < j
    · obtain ⟨j, rfl⟩ : ∃ j', j = j' + 1 := ⟨j - 1, by omega⟩
      obtain ⟨hb, eb, sb, _, _⟩ := Sm.bump h2 15
      have hAb := hA2.sm sb
      have l1 := hAb.ld (i := j + 1) (by omega)
      have l2 := hAb.ld (i := j) (by omega)
      have ej : IntKind.i64.wrap (((j + 1 : Nat) : Int) - 1) = (j : Int) := by rw [wrap_i64 (by omega) (by omega)]; omega
      have e3 := less_ok (n := m) (by omega) cur2[j + 1]! cur2[j]! hb
      have hS3 : PsB X h hb := hS2.tr (PsB.no sb)
      have x1 := x_ia_43 (k := .i64) (b := X.b) (o := 0) (n := X.N) (c := X.cap) (g := X.g) (show j + 1 < X.N by omega)
      have x2 := x_ia_43 (k := .i64) (b := X.b) (o := 0) (n := X.N) (c := X.cap) (g := X.g) (show j < X.N by omega)
      cases hr0 : ltE cur2[j + 1]! cur2[j]! with
      | true =>
        rw [hr0] at e3
        have hI' : insInner ltE a (j + 1) cur2 = insInner ltE a j (swp cur2 (j + 1) j) := by rw [insInner, if_pos]; rw [hr0, decide_eq_true (show j + 1 > a by omega)]; rfl
        obtain ⟨hc, ec, sc, _, _⟩ := Sm.bump hb 18
        have hAc := hAb.sm sc
        obtain ⟨h4, h5, e4, e5, a5, s5⟩ := hAc.swap (i := j + 1) (j := j) (by omega) (by omega)
        have l3 := hAc.ld (i := j + 1) (by omega)
        have l4 := hAc.ld (i := j) (by omega)
        simp only [F113, t0, t1, t2, t6, t7, t49, SS, Nat.reduceBEq, Nat.reduceEqDiff, Nat.reduceAdd, reduceIte, Nat.reduceMul, Int.ofNat_lt, hja, eb, ej, x1, x2, l1, l2, e3, ec, l3, l4, e4, e5, w_undef, s_int, s_ptr, s_slice, s_bool, and'_eq, iff'_true]
        refine hN2 _ _ j (by omega) ⟨j, _, by omega, rfl, a5, (hS3.tr (PsB.no sc)).tr s5, by rw [← hI, hI'], ?_⟩
        simp only [SS, Nat.reduceBEq, Nat.reduceEqDiff, Nat.reduceAdd, reduceIte, Nat.reduceMul, t0, t1, t2, t6, t7, t49, and_self]
      | false =>
        rw [hr0] at e3
        have hI' : insInner ltE a (j + 1) cur2 = cur2 := by rw [insInner, if_neg]; rw [hr0, Bool.and_false]; exact (fun h => by cases h)
        simp only [F113, t0, t1, t2, t6, t7, t49, SS, Nat.reduceBEq, Nat.reduceEqDiff, Nat.reduceAdd, reduceIte, Nat.reduceMul, Int.ofNat_lt, hja, eb, ej, x1, x2, l1, l2, e3, w_undef, s_int, s_ptr, s_slice, s_bool, and'_eq, iff'_true]
        refine hE2 _ _ _ (by simp) ?_
        simp only [F113, t0, t1, t2, t6, t7, t49, SS, Nat.reduceBEq, Nat.reduceEqDiff, Nat.reduceAdd, reduceIte, Nat.reduceMul, e1]
        refine hN1 _ _ (e - (i + 1)) (by omega) ⟨i + 1, cur2, by omega, rfl, hAb, hS3, by rw [← hE0, ← hI, hI'], ?_⟩
        simp only [SS, Nat.reduceBEq, Nat.reduceEqDiff, Nat.reduceAdd, reduceIte, Nat.reduceMul, t0, t1, t2, t6, t7, t49, and_self]
    · have hI' : insInner ltE a j cur2 = cur2 := by
        cases j with
        | zero => rfl
        | succ j => rw [insInner, if_neg]; rw [decide_eq_false (show ¬ j + 1 > a by omega)]; exact (fun h => by cases h)
      obtain ⟨hb, eb, sb, _, _⟩ := Sm.bump h2 15
      simp only [F113, t0, t1, t2, t6, t7, t49, SS, Nat.reduceBEq, Nat.reduceEqDiff, Nat.reduceAdd, reduceIte, Nat.reduceMul, Int.ofNat_lt, hja, eb, w_undef, s_int, s_ptr, s_slice, s_bool, and'_eq, iff'_true]
      refine hE2 _ _ _ (by simp) ?_
      simp only [F113, t0, t1, t2, t6, t7, t49, SS, Nat.reduceBEq, Nat.reduceEqDiff, Nat.reduceAdd, reduceIte, Nat.reduceMul, e1]
      refine hN1 _ _ (e - (i + 1)) (by omega) ⟨i + 1, cur2, by omega, rfl, hA2.sm sb, hS2.tr (PsB.no sb), by rw [← hE0, ← hI, hI'], ?_⟩
      simp only [SS, Nat.reduceBEq, Nat.reduceEqDiff, Nat.reduceAdd, reduceIte, Nat.reduceMul, t0, t1, t2, t6, t7, t49, and_self]
  · rw [insOuter_ge hlt] at hE0
    simp only [F113, t0, t1, t2, t6, t49, SS, Nat.reduceBEq, Nat.reduceEqDiff, Nat.reduceAdd, reduceIte, Nat.reduceMul, Int.ofNat_lt, hlt]
    refine hE _ _ _ (by simp) ?_
    simp only [SS, Nat.reduceBEq, Nat.reduceEqDiff, Nat.reduceAdd, reduceIte, Nat.reduceMul]
    exact hQ _ _ _ _ (.inl rfl) (by simp only [SS, Nat.reduceBEq, t49]) (by simp only [SS, Nat.reduceBEq, Nat.reduceEqDiff, Nat.reduceAdd, reduceIte, Nat.reduceMul]; rfl) ⟨by rw [← hE0]; exact hA', hS⟩
theorem rev_ok {n : Nat} (hn : 1 ≤ n) {X : Px} (hN : X.N ≤ 40000) {h : Heap} {D : Array El} (hA : X.At h D) {a e : Nat} (hae : a < e) (he : e ≤ X.N) :
    WC (SC n (.fn 117) [X.sv, I a, I e] h) fun r h' => ∃ D', X.At h' D' ∧ PermIn a e D D' ∧ PsB X h h' := by
  obtain ⟨m, rfl⟩ : ∃ m, n = m + 1 := ⟨n - 1, by omega⟩
  refine call_fn _ f117A rfl (by simp [fn117]) fun QQ hQ => ?_
  simp only [fn117] at hQ
  simp only [fn117, fill_cons, fill_nil, Nat.zero_add, Nat.reduceAdd]
  simp only [F117, SS, Nat.reduceBEq, Nat.reduceEqDiff, Nat.reduceAdd, reduceIte, Nat.reduceMul, wSub1 (show 1 ≤ e by omega) (show e ≤ 1000000 by omega)]
  have hsz := hA.sz
  refine run_loop (c := c117_6) (I := fun m' tm' h' => ∃ i j cur, a ≤ i ∧ j < e ∧ i ≤ e ∧ i ≤ j + 1 ∧ m' = j + 1 - i ∧ X.At h' cur ∧ PsB X h h' ∧ PermIn a e D cur ∧ tm'.gt 0 = some X.sv ∧ tm'.gt 6 = some (I i) ∧ tm'.gt 7 = some (I j) ∧ tm'.gt 32 = none) (n := e - 1 + 1 - a)
    ⟨a, e - 1, D, by omega, by omega, by omega, by omega, rfl, hA, Sm.refl _ _, permIn_refl _ _ _, by simp [gt_same, gt_other, gt_leaf]⟩ (by omega) ?_
  rintro _ tm h' ⟨i, j, cur, h1, h2, h3, h3', rfl, hA', hS, hP, t0, t6, t7, t32⟩ Q1 hN1 hE
  by_cases hlt : i < j
  · obtain ⟨hc, ec, sc, _, _⟩ := Sm.bump h' 16
    have hAc := hA'.sm sc
    obtain ⟨h4, h5, e4, e5, a5, s5⟩ := hAc.swap (i := i) (j := j) (by omega) (by omega)
    have l3 := hAc.ld (i := i) (by omega)
    have l4 := hAc.ld (i := j) (by omega)
    have x1 := x_ia_43 (k := .i64) (b := X.b) (o := 0) (n := X.N) (c := X.cap) (g := X.g) (show i < X.N by omega)
    have x2 := x_ia_43 (k := .i64) (b := X.b) (o := 0) (n := X.N) (c := X.cap) (g := X.g) (show j < X.N by omega)
    simp only [F117, t0, t6, t7, t32, SS, Nat.reduceBEq, Nat.reduceEqDiff, Nat.reduceAdd, reduceIte, Nat.reduceMul, Int.ofNat_lt, hlt, ec, x1, x2, l3, l4, e4, e5, wAdd1 (show i ≤ 1000000 by omega), wSub1 (show 1 ≤ j by omega) (show j ≤ 1000000 by omega), s_int, s_ptr, s_slice, s_bool, and'_eq, iff'_true]
    refine hN1 _ _ (j - 1 + 1 - (i + 1)) (by omega) ⟨i + 1, j - 1, _, by omega, by omega, by omega, by omega, rfl, a5, (hS.tr (PsB.no sc)).tr s5, permIn_trans _ _ _ _ _ hP (swp_permIn _ _ _ _ _ h1 (by omega) (by omega) h2 (by rw [hA'.sz]; omega)), ?_⟩
    simp only [SS, Nat.reduceBEq, Nat.reduceEqDiff, Nat.reduceAdd, reduceIte, Nat.reduceMul, t0, t6, t7, t32, and_self]
  · simp only [F117, t0, t6, t7, t32, SS, Nat.reduceBEq, Nat.reduceEqDiff, Nat.reduceAdd, reduceIte, Nat.reduceMul, Int.ofNat_lt, hlt]
    refine hE _ _ _ (by simp) ?_
    simp only [SS, Nat.reduceBEq, Nat.reduceEqDiff, Nat.reduceAdd, reduceIte, Nat.reduceMul]
    exact hQ _ _ _ _ (.inl rfl) (by simp only [SS, Nat.reduceBEq, t32]) (by simp only [SS, Nat.reduceBEq, Nat.reduceEqDiff, Nat.reduceAdd, reduceIte, Nat.reduceMul]; rfl) ⟨cur, hA', hP, hS⟩
end Go.Proofs.Ytlfednnfkejcjaa

namespace Go.Proofs.Ytlfednnfkejcjaa
open Go.Am Go.Sort
set_option maxRecDepth 10000
theorem wMul2 {x : Nat} (h : x ≤ 400000) : IntKind.i64.wrap (2 * (x : Int)) = ((2 * x : Nat) : Int) := by rw [wrap_i64 (by omega) (by omega)]; simp
theorem sift_end {hi F r : Nat} {d : Array El} (h : hi ≤ 2 * r + 1) : siftDown ltE hi F r d = d := by rw [siftDown, dif_pos h]
theorem sift_two {hi F r : Nat} {d : Array El} (h : 2 * r + 2 < hi) (hl : ltE d[F + (2 * r + 1)]! d[F + (2 * r + 1) + 1]! = true) :
    siftDown ltE hi F r d = if (!ltE d[F + r]! d[F + (2 * r + 2)]!) = true then d else siftDown ltE hi F (2 * r + 2) (swp d (F + r) (F + (2 * r + 2))) := by
  rw [siftDown, dif_neg (by omega), if_pos (by rw [hl, decide_eq_true (show 2 * r + 1 + 1 < hi by omega)]; rfl)]
  split
  · rfl
  · first | rfl | rw [dif_pos h]
theorem sift_one {hi F r : Nat} {d : Array El} (h : 2 * r + 1 < hi) (hl : ¬ (2 * r + 2 < hi) ∨ ltE d[F + (2 * r + 1)]! d[F + (2 * r + 1) + 1]! = false) :
    siftDown ltE hi F r d = if (!ltE d[F + r]! d[F + (2 * r + 1)]!) = true then d else siftDown ltE hi F (2 * r + 1) (swp d (F + r) (F + (2 * r + 1))) := by
  rw [siftDown, dif_neg (by omega), if_neg]
  intro hc
  rw [Bool.and_eq_true, decide_eq_true_eq] at hc
  rcases hl with h1 | h1
  · omega
  · rw [h1] at hc; exact absurd hc.2 (by simp)
theorem sift_ok {n : Nat} (hn : 3 ≤ n) {X : Px} (hN : X.N ≤ 40000) {h : Heap} {D : Array El} (hA : X.At h D) {lo hi F : Nat} (hlo : lo ≤ 40000) (hF : F + hi ≤ X.N) :
    WC (SC n (.fn 125) [X.sv, I lo, I hi, I F] h) fun r h' => X.At h' (siftDown ltE hi F lo D) ∧ PsB X h h' := by
  obtain ⟨m, rfl⟩ : ∃ m, n = m + 1 := ⟨n - 1, by omega⟩
  refine call_fn _ f125A rfl (by simp [fn125]) fun QQ hQ => ?_
  simp only [fn125] at hQ
  simp only [fn125, fill_cons, fill_nil, Nat.zero_add, Nat.reduceAdd]
  simp only [F125, r125_19, SS, Nat.reduceBEq, Nat.reduceEqDiff, Nat.reduceAdd, reduceIte, Nat.reduceMul]
  refine run_loop (c := c125_4) (I := fun m' tm' h' => ∃ r cur, r ≤ 40000 ∧ m' = hi - r ∧ X.At h' cur ∧ PsB X h h' ∧ siftDown ltE hi F r cur = siftDown ltE hi F lo D ∧ tm'.gt 0 = some X.sv ∧ tm'.gt 2 = some (I hi) ∧ tm'.gt 3 = some (I F) ∧ tm'.gt 8 = some (I r) ∧ tm'.gt 76 = none) (n := hi - lo)
    ⟨lo, D, hlo, rfl, hA, Sm.refl _ _, rfl, by simp [gt_same, gt_other, gt_leaf]⟩ (by omega) ?_
  rintro _ tm h' ⟨r, cur, hr, rfl, hA', hS, hE0, t0, t2, t3, t8, t76⟩ Q1 hN1 hE
  have fin : ∀ tm h2, X.At h2 cur → PsB X h h2 → siftDown ltE hi F r cur = cur → tm.gt 76 = none → ∀ e, (e = .normal ∨ e = .ret) → QQ e tm h2 := fun tm h2 a1 a2 a3 a4 e he =>
    hQ _ _ _ _ he a4 rfl ⟨by rw [← hE0, a3]; exact a1, a2⟩
  have go : ∀ ch tm h2, r < ch → ch < hi → siftDown ltE hi F r cur = (if (!ltE cur[F + r]! cur[F + ch]!) = true then cur else siftDown ltE hi F ch (swp cur (F + r) (F + ch))) → X.At h2 cur → PsB X h h2 →
      tm.gt 0 = some X.sv → tm.gt 2 = some (I hi) → tm.gt 3 = some (I F) → tm.gt 8 = some (I r) → tm.gt 9 = some (I ch) → tm.gt 76 = none → run (SC m) 100000 76 125 none c125_19 [.blk 1] tm h2 Q1 := by
    intro ch tm h2 hrc hch heq hA2 hS2 t0 t2 t3 t8 t9 t76
    obtain ⟨hb, eb, sb, _, _⟩ := Sm.bump h2 14
    have hAb := hA2.sm sb
    have hSb := hS2.tr (PsB.no sb)
    have l1 := hAb.ld (i := F + r) (by omega)
    have l2 := hAb.ld (i := F + ch) (by omega)
    have x1 := x_ia_43 (k := .i64) (b := X.b) (o := 0) (n := X.N) (c := X.cap) (g := X.g) (show F + r < X.N by omega)
    have x2 := x_ia_43 (k := .i64) (b := X.b) (o := 0) (n := X.N) (c := X.cap) (g := X.g) (show F + ch < X.N by omega)
    have e3 := less_ok (n := m) (by omega) cur[F + r]! cur[F + ch]! hb
    have w1 := wAdd (show F + r ≤ 1000000 by omega)
    have w2 := wAdd (show F + ch ≤ 1000000 by omega)
    cases hl : ltE cur[F + r]! cur[F + ch]! with
    | false =>
      rw [hl] at e3
      simp only [F125, r125_19, t0, t2, t3, t8, t9, t76, SS, Nat.reduceBEq, Nat.reduceEqDiff, Nat.reduceAdd, reduceIte, Nat.reduceMul, eb, w1, w2, x1, x2, l1, l2, e3]
      refine hE _ _ _ (by simp) ?_
      simp only [SS, Nat.reduceBEq, Nat.reduceEqDiff, Nat.reduceAdd, reduceIte, Nat.reduceMul]
      exact fin _ _ hAb hSb (by rw [heq, hl]; rfl) (by simp only [SS, Nat.reduceBEq, t76]) _ (.inr rfl)
    | true =>
      rw [hl] at e3
      obtain ⟨hc, ec, sc, _, _⟩ := Sm.bump hb 24
      have hAc := hAb.sm sc
      obtain ⟨h4, h5, e4, e5, a5, s5⟩ := hAc.swap (i := F + r) (j := F + ch) (by omega) (by omega)
      have l3 := hAc.ld (i := F + r) (by omega)
      have l4 := hAc.ld (i := F + ch) (by omega)
      simp only [F125, r125_19, t0, t2, t3, t8, t9, t76, SS, Nat.reduceBEq, Nat.reduceEqDiff, Nat.reduceAdd, reduceIte, Nat.reduceMul, eb, w1, w2, x1, x2, l1, l2, e3, ec, l3, l4, e4, e5]
      refine hN1 _ _ (hi - ch) (by omega) ⟨ch, _, by omega, rfl, a5, (hSb.tr (PsB.no sc)).tr s5, ?_, ?_⟩
      · rw [← hE0, heq, hl]; rfl
      · simp only [SS, Nat.reduceBEq, Nat.reduceEqDiff, Nat.reduceAdd, reduceIte, Nat.reduceMul, t0, t2, t3, t8, t9, t76, and_self]
  have w0 := wMul2 (show r ≤ 400000 by omega)
  have w1 := wAdd1 (show 2 * r ≤ 1000000 by omega)
  by_cases c1 : hi ≤ 2 * r + 1
  · have d1 : (hi : Int) ≤ ((2 * r + 1 : Nat) : Int) := by omega
    simp only [F125, r125_19, t0, t2, t3, t8, t76, SS, Nat.reduceBEq, Nat.reduceEqDiff, Nat.reduceAdd, reduceIte, Nat.reduceMul, w0, w1, d1]
    refine hE _ _ _ (by simp) ?_
    simp only [SS, Nat.reduceBEq, Nat.reduceEqDiff, Nat.reduceAdd, reduceIte, Nat.reduceMul]
    exact fin _ _ hA' hS (sift_end c1) (by simp only [SS, Nat.reduceBEq, t76]) _ (.inl rfl)
  · have d1 : ¬ (hi : Int) ≤ ((2 * r + 1 : Nat) : Int) := by omega
    have w2 := wAdd1 (show 2 * r + 1 ≤ 1000000 by omega)
    obtain ⟨hb, eb, sb, _, _⟩ := Sm.bump h' 20
    have hAb := hA'.sm sb
    have hSb := hS.tr (PsB.no sb)
    by_cases c2 : 2 * r + 1 + 1 < hi
    · have d2 : ((2 * r + 1 + 1 : Nat) : Int) < (hi : Int) := by omega
      have l1 := hAb.ld (i := F + (2 * r + 1)) (by omega)
      have l2 := hAb.ld (i := F + (2 * r + 1) + 1) (by omega)
      have x1 := x_ia_43 (k := .i64) (b := X.b) (o := 0) (n := X.N) (c := X.cap) (g := X.g) (show F + (2 * r + 1) < X.N by omega)
      have x2 := x_ia_43 (k := .i64) (b := X.b) (o := 0) (n := X.N) (c := X.cap) (g := X.g) (show F + (2 * r + 1) + 1 < X.N by omega)
      have e3 := less_ok (n := m) (by omega) cur[F + (2 * r + 1)]! cur[F + (2 * r + 1) + 1]! hb
      have w3 := wAdd (show F + (2 * r + 1) ≤ 1000000 by omega)
      have w4 := wAdd1 (show F + (2 * r + 1) ≤ 1000000 by omega)
      cases hl : ltE cur[F + (2 * r + 1)]! cur[F + (2 * r + 1) + 1]! with
      | true =>
        rw [hl] at e3
        simp only [F125, t0, t2, t3, t8, t76, SS, Nat.reduceBEq, Nat.reduceEqDiff, Nat.reduceAdd, reduceIte, Nat.reduceMul, w0, w1, w2, d1, d2, eb, w3, w4, x1, x2, l1, l2, e3, w_undef, s_int, s_ptr, s_slice, s_bool, and'_eq, iff'_true]
        exact go (2 * r + 1 + 1) _ _ (by omega) c2 (sift_two c2 hl) hAb hSb (by simp only [SS, Nat.reduceBEq, t0]) (by simp only [SS, Nat.reduceBEq, t2]) (by simp only [SS, Nat.reduceBEq, t3]) (by simp only [SS, Nat.reduceBEq, t8]) (by simp only [SS, Nat.reduceBEq]) (by simp only [SS, Nat.reduceBEq, t76])
      | false =>
        rw [hl] at e3
        simp only [F125, t0, t2, t3, t8, t76, SS, Nat.reduceBEq, Nat.reduceEqDiff, Nat.reduceAdd, reduceIte, Nat.reduceMul, w0, w1, w2, d1, d2, eb, w3, w4, x1, x2, l1, l2, e3, w_undef, s_int, s_ptr, s_slice, s_bool, and'_eq, iff'_true]
        exact go (2 * r + 1) _ _ (by omega) (by omega) (sift_one (by omega) (.inr hl)) hAb hSb (by simp only [SS, Nat.reduceBEq, t0]) (by simp only [SS, Nat.reduceBEq, t2]) (by simp only [SS, Nat.reduceBEq, t3]) (by simp only [SS, Nat.reduceBEq, t8]) (by simp only [SS, Nat.reduceBEq]) (by simp only [SS, Nat.reduceBEq, t76])
    · have d2 : ¬ ((2 * r + 1 + 1 : Nat) : Int) < (hi : Int) := by omega
      simp only [F125, t0, t2, t3, t8, t76, SS, Nat.reduceBEq, Nat.reduceEqDiff, Nat.reduceAdd, reduceIte, Nat.reduceMul, w0, w1, w2, d1, d2, eb, w_undef, s_int, s_ptr, s_slice, s_bool, and'_eq, iff'_true]
      exact go (2 * r + 1) _ _ (by omega) (by omega) (sift_one (by omega) (.inl (by omega))) hAb hSb (by simp only [SS, Nat.reduceBEq, t0]) (by simp only [SS, Nat.reduceBEq, t2]) (by simp only [SS, Nat.reduceBEq, t3]) (by simp only [SS, Nat.reduceBEq, t8]) (by simp only [SS, Nat.reduceBEq]) (by simp only [SS, Nat.reduceBEq, t76])
theorem quoI_nat {x y : Nat} (h : x ≤ 1000000) : quoI .i64 (x : Int) ((y + 1 : Nat) : Int) = some (I (x / (y + 1))) := by
  have h1 : x / (y + 1) ≤ x := Nat.div_le_self _ _
  show fit .i64 (x / (y + 1)) = _
  unfold fit
  rw [show Nat.ble (x / (y + 1)) (maxK .i64) = true from Nat.ble_eq_true_of_le (show x / (y + 1) ≤ 9223372036854775807 by omega)]
  rfl
theorem q_nat {t x y : Nat} (h : x ≤ 1000000) : bin2 P .quo t (.int .i64 (x : Int)) (.int .i64 ((y + 1 : Nat) : Int)) = some (I (x / (y + 1))) := by
  show kEq .i64 .i64 (quoI .i64 (x : Int) ((y + 1 : Nat) : Int)) = _
  rw [kEq_same, quoI_nat h]
theorem q2 {t x : Nat} (h : x ≤ 1000000) : bin2 P .quo t (.int .i64 (x : Int)) (.int .i64 2) = some (I (x / 2)) := q_nat (y := 1) h
theorem q4 {t x : Nat} (h : x ≤ 1000000) : bin2 P .quo t (.int .i64 (x : Int)) (.int .i64 4) = some (I (x / 4)) := q_nat (y := 3) h
theorem q8 {t x : Nat} (h : x ≤ 1000000) : bin2 P .quo t (.int .i64 (x : Int)) (.int .i64 8) = some (I (x / 8)) := q_nat (y := 7) h
theorem wDn {x : Nat} (h : x ≤ 1000000) : IntKind.i64.wrap ((x : Int) - 1) = (x : Int) - 1 := wrap_i64 (by omega) (by omega)
theorem dn_succ (k : Nat) : ((k + 1 : Nat) : Int) - 1 = (k : Int) := by omega
theorem heap_ok {n : Nat} (hn : 4 ≤ n) {X : Px} (hN : X.N ≤ 40000) {h : Heap} {D : Array El} (hA : X.At h D) {a e : Nat} (hae : a < e) (he : e ≤ X.N) :
    WC (SC n (.fn 114) [X.sv, I a, I e] h) fun r h' => X.At h' (heapSort ltE D a e) ∧ PsB X h h' := by
  obtain ⟨m, rfl⟩ : ∃ m, n = m + 1 := ⟨n - 1, by omega⟩
  refine call_fn _ f114A rfl (by simp [fn114]) fun QQ hQ => ?_
  simp only [fn114] at hQ
  simp only [fn114, fill_cons, fill_nil, Nat.zero_add, Nat.reduceAdd]
  have w0 := wSub (show a ≤ e by omega) (show e ≤ 1000000 by omega)
  have w1 := wSub1 (show 1 ≤ e - a by omega) (show e - a ≤ 1000000 by omega)
  simp only [F114, SS, Nat.reduceBEq, Nat.reduceEqDiff, Nat.reduceAdd, reduceIte, Nat.reduceMul, w0, w1, q2 (show e - a - 1 ≤ 1000000 by omega)]
  refine run_loop (c := c114_11) (I := fun m' tm' h' => ∃ k cur, k ≤ 40000 ∧ m' = k ∧ X.At h' cur ∧ PsB X h h' ∧ heapBuild ltE (e - a) a k cur = heapBuild ltE (e - a) a ((e - a - 1) / 2 + 1) D ∧ tm'.gt 0 = some X.sv ∧ tm'.gt 6 = some (I a) ∧ tm'.gt 7 = some (I 0) ∧ tm'.gt 8 = some (I (e - a)) ∧ tm'.gt 9 = some (.int .i64 ((k : Int) - 1)) ∧ tm'.gt 56 = none) (n := (e - a - 1) / 2 + 1)
    ⟨(e - a - 1) / 2 + 1, D, by omega, rfl, hA, Sm.refl _ _, rfl, by simp only [SS, Nat.reduceBEq], by simp only [SS, Nat.reduceBEq], by simp only [SS, Nat.reduceBEq, Nat.reduceEqDiff, Nat.reduceAdd, reduceIte, Nat.reduceMul]; rfl, by simp only [SS, Nat.reduceBEq], by simp only [SS, Nat.reduceBEq, Nat.reduceEqDiff, Nat.reduceAdd, reduceIte, Nat.reduceMul, dn_succ], by simp only [SS, Nat.reduceBEq]⟩ (by omega) ?_
  rintro k tm h' ⟨_, cur, hk, rfl, hA', hS, hE0, t0, t6, t7, t8, t9, t56⟩ Q1 hN1 hE
  cases k with
  | succ k =>
    rw [dn_succ] at t9
    have d1 : (0 : Int) ≤ (k : Int) := by omega
    obtain ⟨r1, h1, e1, a1, s1⟩ := sift_ok (n := m) (by omega) hN hA' (lo := k) (hi := e - a) (F := a) (by omega) (by omega)
    simp only [F114, t0, t6, t7, t8, t9, t56, SS, Nat.reduceBEq, Nat.reduceEqDiff, Nat.reduceAdd, reduceIte, Nat.reduceMul, d1, e1, wDn (show k ≤ 1000000 by omega)]
    refine hN1 _ _ k (by omega) ⟨k, _, by omega, rfl, a1, hS.tr s1, hE0, ?_⟩
    simp only [SS, Nat.reduceBEq, Nat.reduceEqDiff, Nat.reduceAdd, reduceIte, Nat.reduceMul, t0, t6, t7, t8, t9, t56, and_self]
  | zero =>
    have d1 : ¬ (0 : Int) ≤ ((0 : Nat) : Int) - 1 := by decide
    simp only [F114, t0, t6, t7, t8, t9, t56, SS, Nat.reduceBEq, Nat.reduceEqDiff, Nat.reduceAdd, reduceIte, Nat.reduceMul, d1]
    refine hE _ _ _ (by simp) ?_
    simp only [F114, t0, t6, t7, t8, t9, t56, SS, Nat.reduceBEq, Nat.reduceEqDiff, Nat.reduceAdd, reduceIte, Nat.reduceMul, wDn (show e - a ≤ 1000000 by omega)]
    have hE1 : cur = heapBuild ltE (e - a) a ((e - a - 1) / 2 + 1) D := hE0
    refine run_loop (c := c114_25) (I := fun m' tm' h2 => ∃ k cur2, k ≤ e - a ∧ m' = k ∧ X.At h2 cur2 ∧ PsB X h h2 ∧ heapPop ltE a k cur2 = heapSort ltE D a e ∧ tm'.gt 0 = some X.sv ∧ tm'.gt 6 = some (I a) ∧ tm'.gt 7 = some (I 0) ∧ tm'.gt 10 = some (.int .i64 ((k : Int) - 1)) ∧ tm'.gt 56 = none) (n := e - a)
      ⟨e - a, cur, by omega, rfl, hA', hS, by rw [hE1]; rfl, by simp only [SS, Nat.reduceBEq, Nat.reduceEqDiff, Nat.reduceAdd, reduceIte, Nat.reduceMul, t0, t6, t7, t56, and_self]⟩ (by omega) ?_
    rintro k tm h2 ⟨_, cur2, hk, rfl, hA2, hS2, hE2, t0, t6, t7, t10, t56⟩ Q2 hN2 hEE
    cases k with
    | succ k =>
      rw [dn_succ] at t10
      have d1 : (0 : Int) ≤ (k : Int) := by omega
      obtain ⟨hc, ec, sc, _, _⟩ := Sm.bump h2 20
      have hAc := hA2.sm sc
      obtain ⟨h4, h5, e4, e5, a5, s5⟩ := hAc.swap (i := a) (j := a + k) (by omega) (by omega)
      have l3 := hAc.ld (i := a) (by omega)
      have l4 := hAc.ld (i := a + k) (by omega)
      have x1 := x_ia_43 (k := .i64) (b := X.b) (o := 0) (n := X.N) (c := X.cap) (g := X.g) (show a < X.N by omega)
      have x2 := x_ia_43 (k := .i64) (b := X.b) (o := 0) (n := X.N) (c := X.cap) (g := X.g) (show a + k < X.N by omega)
      obtain ⟨r1, h6, e6, a6, s6⟩ := sift_ok (n := m) (by omega) hN a5 (lo := 0) (hi := k) (F := a) (by omega) (by omega)
      simp only [F114, t0, t6, t7, t10, t56, SS, Nat.reduceBEq, Nat.reduceEqDiff, Nat.reduceAdd, reduceIte, Nat.reduceMul, d1, ec, wAdd (show a + k ≤ 1000000 by omega), x1, x2, l3, l4, e4, e5, e6, s_int, s_ptr, s_slice, s_bool, and'_eq, iff'_true, wDn (show k ≤ 1000000 by omega)]
      refine hN2 _ _ k (by omega) ⟨k, _, by omega, rfl, a6, ((hS2.tr (PsB.no sc)).tr s5).tr s6, hE2, ?_⟩
      simp only [SS, Nat.reduceBEq, Nat.reduceEqDiff, Nat.reduceAdd, reduceIte, Nat.reduceMul, t0, t6, t7, t10, t56, and_self]
    | zero =>
      have d1 : ¬ (0 : Int) ≤ ((0 : Nat) : Int) - 1 := by decide
      simp only [F114, t0, t6, t7, t10, t56, SS, Nat.reduceBEq, Nat.reduceEqDiff, Nat.reduceAdd, reduceIte, Nat.reduceMul, d1]
      refine hEE _ _ _ (by simp) ?_
      simp only [SS, Nat.reduceBEq, Nat.reduceEqDiff, Nat.reduceAdd, reduceIte, Nat.reduceMul]
      exact hQ _ _ _ _ (.inl rfl) (by simp only [SS, Nat.reduceBEq, t56]) (by simp only [SS, Nat.reduceBEq, Nat.reduceEqDiff, Nat.reduceAdd, reduceIte, Nat.reduceMul]; rfl) ⟨by rw [← hE2]; exact hA2, hS2⟩
end Go.Proofs.Ytlfednnfkejcjaa

namespace Go.Proofs.Ytlfednnfkejcjaa
open Go.Am Go.Sort
set_option maxRecDepth 10000
structure SwAt (X : Px) (s : Nat) (h : Heap) (D : Array El) : Prop where
  at' : X.At h D
  ct : ∃ c z, Rw h s [.int .i64 c] z false
  lt : s < h.next
  ne : s ≠ X.b
abbrev SmS (s : Nat) (h h' : Heap) : Prop := Sm (· = s) h h'
theorem SmS.tr {s : Nat} {h h' h'' : Heap} (a : SmS s h h') (b : SmS s h' h'') : SmS s h h'' := a.trans b (fun _ _ h => h) (fun _ _ h => h)
theorem SwAt.no {X : Px} {s : Nat} {h h' : Heap} {D : Array El} (hA : SwAt X s h D) (hs : Sm NoB h h') : SwAt X s h' D := by
  obtain ⟨c, z, hc⟩ := hA.ct
  exact ⟨hA.at'.sm hs, ⟨c, z, hc.sm hs hA.lt (fun h => h)⟩, Nat.lt_of_lt_of_le hA.lt hs.1, hA.ne⟩
theorem ord_ok {n : Nat} (hn : 3 ≤ n) {X : Px} (hN : X.N ≤ 40000) {h : Heap} {D : Array El} {s : Nat} (hA : SwAt X s h D) {a b : Nat} (ha : a < X.N) (hb : b < X.N) :
    WC (SC n (.fn 131) [X.sv, I a, I b, .ptr (some (s, 0))] h) fun r h' => ∃ x y, r = .tuple [I x, I y] ∧ ((x = a ∧ y = b) ∨ (x = b ∧ y = a)) ∧ SwAt X s h' D ∧ SmS s h h' := by
  obtain ⟨m, rfl⟩ : ∃ m, n = m + 1 := ⟨n - 1, by omega⟩
  refine call_fn _ f131A rfl (by simp [fn131]) fun QQ hQ => ?_
  simp only [fn131] at hQ
  simp only [fn131, fill_cons, fill_nil, Nat.zero_add, Nat.reduceAdd]
  obtain ⟨h1, eb, sb, _, _⟩ := Sm.bump h 9
  have hA1 := hA.no sb
  have l1 := hA1.at'.ld (i := a) (by omega)
  have l2 := hA1.at'.ld (i := b) (by omega)
  have x1 := x_ia_43 (k := .i64) (b := X.b) (o := 0) (n := X.N) (c := X.cap) (g := X.g) ha
  have x2 := x_ia_43 (k := .i64) (b := X.b) (o := 0) (n := X.N) (c := X.cap) (g := X.g) hb
  have e3 := less_ok (n := m) (by omega) D[b]! D[a]! h1
  cases hl : ltE D[b]! D[a]! with
  | true =>
    rw [hl] at e3
    obtain ⟨c, z, hc⟩ := hA1.ct
    have lc := hc.ld1 0
    rw [List.getElem?_cons_zero] at lc
    obtain ⟨w1, w2, w3, w4⟩ := hc.st1 (o := 0) (v := .int .i64 (IntKind.i64.wrap (c + 1))) (by simp) rfl
    rw [show ([AV.int .i64 c] : List AV).set 0 (.int .i64 (IntKind.i64.wrap (c + 1))) = [.int .i64 (IntKind.i64.wrap (c + 1))] from rfl] at w2
    generalize h1.wr s 0 [.int .i64 (IntKind.i64.wrap (c + 1))] = h2 at w1 w2 w3 w4
    simp only [F131, SS, Nat.reduceBEq, Nat.reduceEqDiff, Nat.reduceAdd, reduceIte, Nat.reduceMul, eb, x1, x2, l1, l2, e3, lc, w1, w_undef, s_int, s_ptr, s_slice, s_bool, and'_eq, iff'_true]
    refine hQ _ _ _ _ (.inr rfl) (by simp only [SS, Nat.reduceBEq]) (by simp only [SS, Nat.reduceBEq, Nat.reduceEqDiff, Nat.reduceAdd, reduceIte, Nat.reduceMul]; rfl) ?_
    have s2 : SmS s h1 h2 := ⟨by omega, fun c _ hc => w4 c hc⟩
    exact ⟨b, a, rfl, .inr ⟨rfl, rfl⟩, ⟨⟨hA1.at'.sz, hA1.at'.rw.sm s2 hA1.at'.lt (fun e => hA.ne e.symm), Nat.lt_of_lt_of_le hA1.at'.lt s2.1⟩, ⟨_, _, w2⟩, Nat.lt_of_lt_of_le hA1.lt s2.1, hA.ne⟩, (sb.no (F := (· = s))).trans s2 (fun _ _ h => h) (fun _ _ h => h)⟩
  | false =>
    rw [hl] at e3
    simp only [F131, SS, Nat.reduceBEq, Nat.reduceEqDiff, Nat.reduceAdd, reduceIte, Nat.reduceMul, eb, x1, x2, l1, l2, e3, w_undef, s_int, s_ptr, s_slice, s_bool, and'_eq, iff'_true]
    refine hQ _ _ _ _ (.inr rfl) (by simp only [SS, Nat.reduceBEq]) (by simp only [SS, Nat.reduceBEq, Nat.reduceEqDiff, Nat.reduceAdd, reduceIte, Nat.reduceMul]; rfl) ?_
    exact ⟨a, b, rfl, .inl ⟨rfl, rfl⟩, hA1, sb.no (F := (· = s))⟩
theorem med_ok {n : Nat} (hn : 4 ≤ n) {X : Px} (hN : X.N ≤ 40000) {h : Heap} {D : Array El} {s : Nat} (hA : SwAt X s h D) {a b c : Nat} (ha : a < X.N) (hb : b < X.N) (hc : c < X.N) :
    WC (SC n (.fn 129) [X.sv, I a, I b, I c, .ptr (some (s, 0))] h) fun r h' => ∃ x, r = I x ∧ (∀ lo hi, lo ≤ a → lo ≤ b → lo ≤ c → a < hi → b < hi → c < hi → lo ≤ x ∧ x < hi) ∧ SwAt X s h' D ∧ SmS s h h' := by
  obtain ⟨m, rfl⟩ : ∃ m, n = m + 1 := ⟨n - 1, by omega⟩
  refine call_fn _ f129A rfl (by simp [fn129]) fun QQ hQ => ?_
  simp only [fn129] at hQ
  simp only [fn129, fill_cons, fill_nil, Nat.zero_add, Nat.reduceAdd]
  obtain ⟨_, h1, e1, a1, b1, rfl, c1, A1, s1⟩ := ord_ok (n := m) (by omega) hN hA ha hb
  have ha1 : a1 < X.N := by omega
  have hb1 : b1 < X.N := by omega
  obtain ⟨_, h2, e2, b2, c2', rfl, c2, A2, s2⟩ := ord_ok (n := m) (by omega) hN A1 hb1 hc
  have hb2 : b2 < X.N := by omega
  obtain ⟨_, h3, e3, a3, b3, rfl, c3, A3, s3⟩ := ord_ok (n := m) (by omega) hN A2 ha1 hb2
  simp only [F129, SS, Nat.reduceBEq, Nat.reduceEqDiff, Nat.reduceAdd, reduceIte, Nat.reduceMul, e1, e2, e3]
  refine hQ _ _ _ _ (.inr rfl) (by simp only [SS, Nat.reduceBEq]) (by simp only [SS, Nat.reduceBEq, Nat.reduceEqDiff, Nat.reduceAdd, reduceIte, Nat.reduceMul]; rfl) ?_
  exact ⟨b3, rfl, fun lo hi g1 g2 g3 g4 g5 g6 => by omega, A3, (s1.tr s2).tr s3⟩
theorem adj_ok {n : Nat} (hn : 5 ≤ n) {X : Px} (hN : X.N ≤ 40000) {h : Heap} {D : Array El} {s : Nat} (hA : SwAt X s h D) {a : Nat} (ha : 1 ≤ a) (ha' : a + 1 < X.N) :
    WC (SC n (.fn 128) [X.sv, I a, .ptr (some (s, 0))] h) fun r h' => ∃ x, r = I x ∧ (a - 1 ≤ x ∧ x < a + 2) ∧ SwAt X s h' D ∧ SmS s h h' := by
  obtain ⟨m, rfl⟩ : ∃ m, n = m + 1 := ⟨n - 1, by omega⟩
  refine call_fn _ f128A rfl (by simp [fn128]) fun QQ hQ => ?_
  simp only [fn128] at hQ
  simp only [fn128, fill_cons, fill_nil, Nat.zero_add, Nat.reduceAdd]
  obtain ⟨_, h1, e1, x, rfl, c1, A1, s1⟩ := med_ok (n := m) (by omega) hN hA (a := a - 1) (b := a) (c := a + 1) (by omega) (by omega) (by omega)
  simp only [F128, SS, Nat.reduceBEq, Nat.reduceEqDiff, Nat.reduceAdd, reduceIte, Nat.reduceMul, wSub1 ha (show a ≤ 1000000 by omega), wAdd1 (show a ≤ 1000000 by omega), e1]
  refine hQ _ _ _ _ (.inr rfl) (by simp only [SS, Nat.reduceBEq]) (by simp only [SS, Nat.reduceBEq, Nat.reduceEqDiff, Nat.reduceAdd, reduceIte, Nat.reduceMul]; rfl) ?_
  exact ⟨x, rfl, c1 (a - 1) (a + 2) (by omega) (by omega) (by omega) (by omega) (by omega) (by omega), A1, s1⟩
theorem wMul1 {x : Nat} (h : x ≤ 400000) : IntKind.i64.wrap ((x : Int) * 1) = (x : Int) := by rw [wrap_i64 (by omega) (by omega)]; omega
theorem wMulR2 {x : Nat} (h : x ≤ 400000) : IntKind.i64.wrap ((x : Int) * 2) = ((x * 2 : Nat) : Int) := by rw [wrap_i64 (by omega) (by omega)]; simp
theorem wMulR3 {x : Nat} (h : x ≤ 300000) : IntKind.i64.wrap ((x : Int) * 3) = ((x * 3 : Nat) : Int) := by rw [wrap_i64 (by omega) (by omega)]; simp
theorem pivot_ok {n : Nat} (hn : 6 ≤ n) {X : Px} (hN : X.N ≤ 40000) {h : Heap} {D : Array El} (hA : X.At h D) {a e : Nat} (hae : a + 12 < e) (he : e ≤ X.N) :
    WC (SC n (.fn 116) [X.sv, I a, I e] h) fun r h' => ∃ p hint, r = .tuple [I p, .int .i64 hint] ∧ a ≤ p ∧ p < e ∧ X.At h' D ∧ Sm NoB h h' := by
  obtain ⟨m, rfl⟩ : ∃ m, n = m + 1 := ⟨n - 1, by omega⟩
  refine call_fn _ f116A rfl (by simp [fn116]) fun QQ hQ => ?_
  simp only [fn116] at hQ
  simp only [fn116, fill_cons, fill_nil, Nat.zero_add, Nat.reduceAdd]
  have w0 := wSub (show a ≤ e by omega) (show e ≤ 1000000 by omega)
  obtain ⟨h1, e1, r1, n1, g1⟩ := Rw.alloc h (id := h.next) (n := 1) (vs := [.int .i64 0]) (z := tyMark 3 true) (ro := false) (Nat.le_refl _) rfl
  have s1 : Sm NoB h h1 := ⟨by omega, fun c hc _ => g1 c (by omega)⟩
  have hne : h.next ≠ X.b := by have := hA.lt; omega
  have A1 : SwAt X h.next h1 D := ⟨hA.sm s1, ⟨_, _, r1⟩, by omega, hne⟩
  obtain ⟨qd, hqd⟩ : ∃ qd, (e - a) / 4 = qd := ⟨_, rfl⟩
  have d4 : qd * 4 ≤ e - a ∧ e - a < qd * 4 + 4 := by omega
  have q4' : bin2 P .quo 3 (I (e - a)) (.int .i64 4) = some (I qd) := by rw [← hqd]; exact q4 (show e - a ≤ 1000000 by omega)
  clear hqd
  have d8 : (8 : Int) ≤ ((e - a : Nat) : Int) := by omega
  have w1 := wAdd (show a + qd ≤ 1000000 by omega)
  have w2 := wAdd (show a + qd * 2 ≤ 1000000 by omega)
  have w3 := wAdd (show a + qd * 3 ≤ 1000000 by omega)
  have out : ∀ {h' : Heap}, SmS h.next h1 h' → Sm NoB h h' := fun {h'} s => ⟨Nat.le_trans s1.1 s.1, fun c hc _ => by rw [s.2 c (by omega) (by omega), s1.2 c hc (fun h => h)]⟩
  -- what is told at the end
  have fin : ∀ tm p h2, SwAt X h.next h2 D → SmS h.next h1 h2 → a ≤ p → p < e → tm.gt 9 = some (.ptr (some (h.next, 0))) → tm.gt 11 = some (I p) → tm.gt 57 = none → run (SC m) 100000 57 116 none c116_28 [] tm h2 QQ := by
    intro tm p h2 A2 s2 hp1 hp2 t9 t11 t57
    obtain ⟨c, z, hc⟩ := A2.ct
    have lc := hc.ld1 0
    rw [List.getElem?_cons_zero] at lc
    by_cases c0 : c = 0
    · simp only [F116, r116_28, SS, Nat.reduceBEq, Nat.reduceEqDiff, Nat.reduceAdd, reduceIte, Nat.reduceMul, t9, t11, t57, lc, c0]
      refine hQ _ _ _ _ (.inr rfl) (by simp only [SS, Nat.reduceBEq, t57]) (by simp only [SS, Nat.reduceBEq, Nat.reduceEqDiff, Nat.reduceAdd, reduceIte, Nat.reduceMul]; rfl) ?_
      exact ⟨p, 1, rfl, hp1, hp2, A2.at', out s2⟩
    · by_cases c12 : c = 12
      · simp only [F116, r116_28, SS, Nat.reduceBEq, Nat.reduceEqDiff, Nat.reduceAdd, reduceIte, Nat.reduceMul, t9, t11, t57, lc, c0, c12]
        refine hQ _ _ _ _ (.inr rfl) (by simp only [SS, Nat.reduceBEq, t57]) (by simp only [SS, Nat.reduceBEq, Nat.reduceEqDiff, Nat.reduceAdd, reduceIte, Nat.reduceMul]; rfl) ?_
        exact ⟨p, 2, rfl, hp1, hp2, A2.at', out s2⟩
      · simp only [F116, r116_28, SS, Nat.reduceBEq, Nat.reduceEqDiff, Nat.reduceAdd, reduceIte, Nat.reduceMul, t9, t11, t57, lc, c0, c12]
        refine hQ _ _ _ _ (.inr rfl) (by simp only [SS, Nat.reduceBEq, t57]) (by simp only [SS, Nat.reduceBEq, Nat.reduceEqDiff, Nat.reduceAdd, reduceIte, Nat.reduceMul]; rfl) ?_
        exact ⟨p, 0, rfl, hp1, hp2, A2.at', out s2⟩
  by_cases c50 : 50 ≤ e - a
  · have d50 : (50 : Int) ≤ ((e - a : Nat) : Int) := by omega
    obtain ⟨_, h2, e2, i2, rfl, k2, A2, s2⟩ := adj_ok (n := m) (by omega) hN A1 (a := a + qd) (by omega) (by omega)
    obtain ⟨_, h3, e3, i3, rfl, k3, A3, s3⟩ := adj_ok (n := m) (by omega) hN A2 (a := a + qd * 2) (by omega) (by omega)
    obtain ⟨_, h4, e4, i4, rfl, k4, A4, s4⟩ := adj_ok (n := m) (by omega) hN A3 (a := a + qd * 3) (by omega) (by omega)
    obtain ⟨_, h5, e5, p, rfl, k5, A5, s5⟩ := med_ok (n := m) (by omega) hN A4 (a := i2) (b := i3) (c := i4) (by omega) (by omega) (by omega)
    simp only [F116, SS, Nat.reduceBEq, Nat.reduceEqDiff, Nat.reduceAdd, reduceIte, Nat.reduceMul, w0, x_al_3, e1, q4', wMul1 (show qd ≤ 400000 by omega), wMulR2 (show qd ≤ 400000 by omega), wMulR3 (show qd ≤ 300000 by omega), w1, w2, w3, d8, d50, e2, e3, e4, e5]
    obtain ⟨p1, p2⟩ := k5 a e (by omega) (by omega) (by omega) (by omega) (by omega) (by omega)
    exact fin _ p h5 A5 (((s2.tr s3).tr s4).tr s5) p1 p2 (by simp only [SS, Nat.reduceBEq]) (by simp only [SS, Nat.reduceBEq]) (by simp only [SS, Nat.reduceBEq])
  · have d50 : ¬ (50 : Int) ≤ ((e - a : Nat) : Int) := by omega
    obtain ⟨_, h5, e5, p, rfl, k5, A5, s5⟩ := med_ok (n := m) (by omega) hN A1 (a := a + qd) (b := a + qd * 2) (c := a + qd * 3) (by omega) (by omega) (by omega)
    simp only [F116, SS, Nat.reduceBEq, Nat.reduceEqDiff, Nat.reduceAdd, reduceIte, Nat.reduceMul, w0, x_al_3, e1, q4', wMul1 (show qd ≤ 400000 by omega), wMulR2 (show qd ≤ 400000 by omega), wMulR3 (show qd ≤ 300000 by omega), w1, w2, w3, d8, d50, e5]
    obtain ⟨p1, p2⟩ := k5 a e (by omega) (by omega) (by omega) (by omega) (by omega) (by omega)
    exact fin _ p h5 A5 s5 p1 p2 (by simp only [SS, Nat.reduceBEq]) (by simp only [SS, Nat.reduceBEq]) (by simp only [SS, Nat.reduceBEq])
end Go.Proofs.Ytlfednnfkejcjaa

namespace Go.Proofs.Ytlfednnfkejcjaa
open Go.Am Go.Sort
set_option maxRecDepth 10000
def U64 (v : Int) : Prop := 0 ≤ v ∧ v ≤ 18446744073709551615
theorem u64_wrap (n : Int) : U64 (IntKind.u64.wrap n) := by
  have h : IntKind.u64.wrap n = n % 18446744073709551616 := by
    show (n % (2 ^ 64 : Nat) : Int) = _
    rfl
  rw [h]
  unfold U64; omega
theorem fit_u (n : Nat) : ∃ v, fit .u64 n = some (.int .u64 v) ∧ U64 v := by
  unfold fit
  cases h : Nat.ble n (maxK .u64) with
  | true => exact ⟨(n : Int), rfl, by have : n ≤ 18446744073709551615 := Nat.le_of_ble_eq_true h; unfold U64; omega⟩
  | false => exact ⟨_, rfl, u64_wrap _⟩
theorem bit_u (g : Nat → Nat → Nat) (slow : IntKind → Int → Int → Option AV) {a b : Int} (ha : U64 a) (hb : U64 b) : ∃ v, bitI g slow .u64 a b = some (.int .u64 v) ∧ U64 v := by
  obtain ⟨x, rfl⟩ := Int.eq_ofNat_of_zero_le ha.1
  obtain ⟨y, rfl⟩ := Int.eq_ofNat_of_zero_le hb.1
  have h1 : Nat.ble x (maxK .u64) = true := Nat.ble_eq_true_of_le (show x ≤ 18446744073709551615 by have := ha.2; omega)
  have h2 : Nat.ble y (maxK .u64) = true := Nat.ble_eq_true_of_le (show y ≤ 18446744073709551615 by have := hb.2; omega)
  obtain ⟨v, e, hv⟩ := fit_u (g x y)
  refine ⟨v, ?_, hv⟩
  rw [← e]
  show (Bool.rec (motive := fun _ => Option AV) (slow .u64 x y) (Bool.rec (motive := fun _ => Option AV) (slow .u64 x y) (fit .u64 (g x y)) (Nat.ble y (maxK .u64))) (Nat.ble x (maxK .u64)) : Option AV) = _
  rw [h1, h2]
theorem xor_u {t : Nat} {a b : Int} (ha : U64 a) (hb : U64 b) : ∃ v, bin2 P .xor t (.int .u64 a) (.int .u64 b) = some (.int .u64 v) ∧ U64 v := by
  obtain ⟨v, e, hv⟩ := bit_u Nat.xor xorS ha hb
  exact ⟨v, by show kEq .u64 .u64 (bitI Nat.xor xorS .u64 a b) = _; rw [kEq_same, e], hv⟩
theorem and_u {t : Nat} {a : Int} {y : Nat} (ha : U64 a) (hy : y ≤ 1000000) : ∃ v : Nat, bin2 P .and t (.int .u64 a) (.int .u64 (y : Int)) = some (.int .u64 (v : Int)) ∧ v ≤ y := by
  obtain ⟨x, rfl⟩ := Int.eq_ofNat_of_zero_le ha.1
  have h1 : Nat.ble x (maxK .u64) = true := Nat.ble_eq_true_of_le (show x ≤ 18446744073709551615 by have := ha.2; omega)
  have h2 : Nat.ble y (maxK .u64) = true := Nat.ble_eq_true_of_le (show y ≤ 18446744073709551615 by omega)
  have h3 : Nat.land x y ≤ y := Nat.and_le_right
  refine ⟨Nat.land x y, ?_, h3⟩
  show kEq .u64 .u64 (bitI Nat.land andS .u64 (x : Int) (y : Int)) = _
  rw [kEq_same]
  show (Bool.rec (motive := fun _ => Option AV) (andS .u64 x y) (Bool.rec (motive := fun _ => Option AV) (andS .u64 x y) (fit .u64 (Nat.land x y)) (Nat.ble y (maxK .u64))) (Nat.ble x (maxK .u64)) : Option AV) = _
  rw [h1, h2]
  show fit .u64 (Nat.land x y) = _
  unfold fit
  rw [show Nat.ble (Nat.land x y) (maxK .u64) = true from Nat.ble_eq_true_of_le (show Nat.land x y ≤ 18446744073709551615 by omega)]
  rfl
theorem shl_u {t : Nat} {a : Int} {k : IntKind} {b : Int} (hb : 0 ≤ b) : ∃ v, bin2 P .shl t (.int .u64 a) (.int k b) = some (.int .u64 v) ∧ U64 v := by
  refine ⟨_, ?_, u64_wrap (a * 2 ^ min b.toNat IntKind.u64.bits)⟩
  show shlS .u64 a b = _
  unfold shlS
  rw [if_neg (by omega)]; rfl
theorem shl_n {t : Nat} {a : Int} {L : Nat} (hL : L ≤ 17) : bin2 P .shl t (.int .u64 a) (.int .i64 (L : Int)) = some (.int .u64 (IntKind.u64.wrap (a * 2 ^ L))) := by
  show shlS .u64 a (L : Int) = _
  unfold shlS
  rw [if_neg (by omega)]
  show wrapV .u64 _ = _
  rw [show min ((L : Int)).toNat IntKind.u64.bits = L from by show min ((L : Int)).toNat 64 = L; omega]; rfl
theorem shr_u {t : Nat} {a : Int} {b : Nat} (ha : U64 a) : ∃ v, bin2 P .shr t (.int .u64 a) (.int .u64 (b : Int)) = some (.int .u64 v) ∧ U64 v := by
  obtain ⟨x, rfl⟩ := Int.eq_ofNat_of_zero_le ha.1
  have h2 : ((x : Int)).fdiv (2 ^ min ((b : Int)).toNat IntKind.u64.bits) = ((x / 2 ^ min b 64 : Nat) : Int) := by
    rw [Int.fdiv_eq_ediv_of_nonneg]
    · show (x : Int) / (2 ^ min ((b : Int)).toNat 64) = _
      rw [Int.toNat_natCast]; norm_cast
    · exact Int.pow_nonneg (by decide)
  refine ⟨((x / 2 ^ min b 64 : Nat) : Int), ?_, ?_⟩
  · show shrS .u64 (x : Int) (b : Int) = _
    unfold shrS
    rw [if_neg (by omega), h2]
  · have h3 := Nat.div_le_self x (2 ^ min b 64)
    have h4 := ha.2
    generalize x / 2 ^ min b 64 = y at h3 ⊢
    unfold U64; omega
theorem shr8 {t : Nat} {x : Nat} : bin2 P .shr t (.int .u64 (x : Int)) (.int .u64 8) = some (.int .u64 ((x / 256 : Nat) : Int)) := by
  show shrS .u64 (x : Int) 8 = _
  unfold shrS
  rw [if_neg (by decide)]
  have : ((x : Int)).fdiv (2 ^ min ((8 : Int)).toNat IntKind.u64.bits) = ((x / 256 : Nat) : Int) := by
    rw [Int.fdiv_eq_ediv_of_nonneg]
    · show (x : Int) / (2 ^ 8) = _
      norm_cast
    · exact Int.pow_nonneg (by decide)
  rw [this]
def tab8 : List Nat := [0, 1, 2, 2, 3, 3, 3, 3, 4, 4, 4, 4, 4, 4, 4, 4, 5, 5, 5, 5, 5, 5, 5, 5, 5, 5, 5, 5, 5, 5, 5, 5, 6, 6, 6, 6, 6, 6, 6, 6, 6, 6, 6, 6, 6, 6, 6, 6, 6, 6, 6, 6, 6, 6, 6, 6, 6, 6, 6, 6, 6, 6, 6, 6, 7, 7, 7, 7, 7, 7, 7, 7, 7, 7, 7, 7, 7, 7, 7, 7, 7, 7, 7, 7, 7, 7, 7, 7, 7, 7, 7, 7, 7, 7, 7, 7, 7, 7, 7, 7, 7, 7, 7, 7, 7, 7, 7, 7, 7, 7, 7, 7, 7, 7, 7, 7, 7, 7, 7, 7, 7, 7, 7, 7, 7, 7, 7, 7, 8, 8, 8, 8, 8, 8, 8, 8, 8, 8, 8, 8, 8, 8, 8, 8, 8, 8, 8, 8, 8, 8, 8, 8, 8, 8, 8, 8, 8, 8, 8, 8, 8, 8, 8, 8, 8, 8, 8, 8, 8, 8, 8, 8, 8, 8, 8, 8, 8, 8, 8, 8, 8, 8, 8, 8, 8, 8, 8, 8, 8, 8, 8, 8, 8, 8, 8, 8, 8, 8, 8, 8, 8, 8, 8, 8, 8, 8, 8, 8, 8, 8, 8, 8, 8, 8, 8, 8, 8, 8, 8, 8, 8, 8, 8, 8, 8, 8, 8, 8, 8, 8, 8, 8, 8, 8, 8, 8, 8, 8, 8, 8, 8, 8, 8, 8, 8, 8, 8, 8, 8, 8, 8, 8, 8, 8, 8, 8]
theorem tab8_ok : ∀ y, y < 256 → ∃ L, tab8[y]? = some L ∧ L ≤ 8 ∧ (1 ≤ y → 2 ^ L ≤ 2 * y) := by
  have h : ∀ y : Fin 256, ∃ L, L < 9 ∧ tab8[y.val]? = some L ∧ (1 ≤ y.val → 2 ^ L ≤ 2 * y.val) := by decide +kernel
  intro y hy
  obtain ⟨L, h1, h2, h3⟩ := h ⟨y, hy⟩
  exact ⟨L, h2, by omega, h3⟩
theorem wU8 {x : Nat} (h : x < 256) : IntKind.u8.wrap (x : Int) = (x : Int) := wrap_u8 (by omega) (by omega)
theorem wI' {x : Nat} (h : x ≤ 1000000) : IntKind.i64.wrap (x : Int) = (x : Int) := wrap_i64 (by omega) (by omega)
theorem len64_ok {n : Nat} (hn : 1 ≤ n) {x : Nat} (hx : x ≤ 65535) (h : Heap) : WC (SC n (.fn 123) [.int .u64 (x : Int)] h) fun r h' => h' = h ∧ ∃ L, r = I L ∧ L ≤ 16 ∧ (1 ≤ x → 2 ^ L ≤ 2 * x) := by
  obtain ⟨m, rfl⟩ : ∃ m, n = m + 1 := ⟨n - 1, by omega⟩
  refine call_fn _ f123A rfl (by simp [fn123]) fun QQ hQ => ?_
  simp only [fn123] at hQ
  simp only [fn123, fill_cons, fill_nil, Nat.zero_add, Nat.reduceAdd]
  have c1 : ¬ (4294967296 : Int) ≤ (x : Int) := by omega
  have c2 : ¬ (65536 : Int) ≤ (x : Int) := by omega
  by_cases c3 : 256 ≤ x
  · have d3 : (256 : Int) ≤ (x : Int) := by omega
    obtain ⟨L, l1, l2, l3⟩ := tab8_ok (x / 256) (by omega)
    have w := wAdd (show 8 + L ≤ 1000000 by omega)
    have e8 : IntKind.i64.wrap (0 + 8) = ((8 : Nat) : Int) := by decide
    unfold tab8 at l1
    simp only [F123, SS, Nat.reduceBEq, Nat.reduceEqDiff, Nat.reduceAdd, reduceIte, Nat.reduceMul, c1, c2, d3, shr8, e8, x_cv_153_5, wU8 (show x / 256 < 256 by omega), x_ix_9, l1, x_cv_5_3, wI' (show L ≤ 1000000 by omega), w]
    refine hQ _ _ _ _ (.inr rfl) (by simp only [SS, Nat.reduceBEq]) (by simp only [SS, Nat.reduceBEq, Nat.reduceEqDiff, Nat.reduceAdd, reduceIte, Nat.reduceMul]; rfl) ?_
    refine ⟨rfl, 8 + L, rfl, by omega, fun _ => ?_⟩
    have := l3 (by omega)
    rw [Nat.pow_add]
    omega
  · have d3 : ¬ (256 : Int) ≤ (x : Int) := by omega
    obtain ⟨L, l1, l2, l3⟩ := tab8_ok x (by omega)
    have w : IntKind.i64.wrap (0 + (L : Int)) = (L : Int) := by rw [Int.zero_add]; exact wI' (by omega)
    unfold tab8 at l1
    simp only [F123, SS, Nat.reduceBEq, Nat.reduceEqDiff, Nat.reduceAdd, reduceIte, Nat.reduceMul, c1, c2, d3, x_cv_153_5, wU8 (show x < 256 by omega), x_ix_9, l1, x_cv_5_3, wI' (show L ≤ 1000000 by omega), w]
    refine hQ _ _ _ _ (.inr rfl) (by simp only [SS, Nat.reduceBEq]) (by simp only [SS, Nat.reduceBEq, Nat.reduceEqDiff, Nat.reduceAdd, reduceIte, Nat.reduceMul]; rfl) ?_
    exact ⟨rfl, L, rfl, by omega, l3⟩
theorem len_ok {n : Nat} (hn : 2 ≤ n) {x : Nat} (hx : x ≤ 65535) (h : Heap) : WC (SC n (.fn 110) [.int .u64 (x : Int)] h) fun r h' => h' = h ∧ ∃ L, r = I L ∧ L ≤ 16 ∧ (1 ≤ x → 2 ^ L ≤ 2 * x) := by
  obtain ⟨m, rfl⟩ : ∃ m, n = m + 1 := ⟨n - 1, by omega⟩
  refine call_fn _ f110A rfl (by simp [fn110]) fun QQ hQ => ?_
  simp only [fn110] at hQ
  simp only [fn110, fill_cons, fill_nil, Nat.zero_add, Nat.reduceAdd]
  obtain ⟨_, _, e1, rfl, L, rfl, l1, l2⟩ := len64_ok (n := m) (by omega) hx h
  simp only [F110, SS, Nat.reduceBEq, Nat.reduceEqDiff, Nat.reduceAdd, reduceIte, Nat.reduceMul, e1]
  refine hQ _ _ _ _ (.inr rfl) (by simp only [SS, Nat.reduceBEq]) (by simp only [SS, Nat.reduceBEq, Nat.reduceEqDiff, Nat.reduceAdd, reduceIte, Nat.reduceMul]; rfl) ?_
  exact ⟨rfl, L, rfl, l1, l2⟩
theorem wU64 {x : Nat} (h : x ≤ 1000000) : IntKind.u64.wrap (x : Int) = (x : Int) := by
  show ((x : Int) % (2 ^ 64 : Nat) : Int) = _
  exact Int.emod_eq_of_lt (by omega) (by omega)
theorem npow_ok {n : Nat} (hn : 3 ≤ n) {x : Nat} (hx : x ≤ 65535) (hx1 : 1 ≤ x) (h : Heap) : WC (SC n (.fn 126) [I x] h) fun r h' => h' = h ∧ ∃ M : Nat, r = .int .u64 (M : Int) ∧ 1 ≤ M ∧ M ≤ 2 * x := by
  obtain ⟨m, rfl⟩ : ∃ m, n = m + 1 := ⟨n - 1, by omega⟩
  refine call_fn _ f126A rfl (by simp [fn126]) fun QQ hQ => ?_
  simp only [fn126] at hQ
  simp only [fn126, fill_cons, fill_nil, Nat.zero_add, Nat.reduceAdd]
  obtain ⟨_, _, e1, rfl, L, rfl, l1, l2⟩ := len_ok (n := m) (by omega) hx h
  have hM := l2 hx1
  have hp : 1 ≤ 2 ^ L := Nat.one_le_two_pow
  have e2 : IntKind.u64.wrap (1 * 2 ^ L) = ((2 ^ L : Nat) : Int) := by
    rw [Int.one_mul, show ((2 : Int) ^ L) = ((2 ^ L : Nat) : Int) by norm_cast]
    exact wU64 (by omega)
  simp only [F126, SS, Nat.reduceBEq, Nat.reduceEqDiff, Nat.reduceAdd, reduceIte, Nat.reduceMul, x_cv_3_119, wU64 (show x ≤ 1000000 by omega), e1, shl_n (show L ≤ 17 by omega), e2]
  refine hQ _ _ _ _ (.inr rfl) (by simp only [SS, Nat.reduceBEq]) (by simp only [SS, Nat.reduceBEq, Nat.reduceEqDiff, Nat.reduceAdd, reduceIte, Nat.reduceMul]; rfl) ?_
  exact ⟨rfl, 2 ^ L, rfl, hp, hM⟩
end Go.Proofs.Ytlfednnfkejcjaa

namespace Go.Proofs.Ytlfednnfkejcjaa
open Go.Am Go.Sort
set_option maxRecDepth 10000
theorem xnext_ok {n : Nat} (hn : 1 ≤ n) {h : Heap} {s : Nat} {c : Int} {z : List AV} (hr : Rw h s [.int .u64 c] z false) (hs : s < h.next) (hc : U64 c) :
    WC (SC n (.fn 127) [.ptr (some (s, 0))] h) fun r h' => ∃ c', r = .int .u64 c' ∧ U64 c' ∧ Rw h' s [.int .u64 c'] z false ∧ SmS s h h' := by
  obtain ⟨m, rfl⟩ : ∃ m, n = m + 1 := ⟨n - 1, by omega⟩
  refine call_fn _ f127A rfl (by simp [fn127]) fun QQ hQ => ?_
  simp only [fn127] at hQ
  simp only [fn127, fill_cons, fill_nil, Nat.zero_add, Nat.reduceAdd]
  -- a round
  have step : ∀ (op : BinOp) (k : Nat) (h : Heap) (c : Int), (∀ c, U64 c → ∃ v, bin2 P op 182 (.int .u64 c) (.int .u64 (k : Int)) = some (.int .u64 v) ∧ U64 v) → Rw h s [.int .u64 c] z false → s < h.next → U64 c →
      ∃ hb h2 v w, Heap.mk h.bs (h.next + 10) = hb ∧ hb.ld1 s 0 = some (.int .u64 c) ∧ bin2 P op 182 (.int .u64 c) (.int .u64 (k : Int)) = some (.int .u64 v) ∧ bin2 P .xor 182 (.int .u64 c) (.int .u64 v) = some (.int .u64 w) ∧ hb.st1 s 0 (.int .u64 w) = some h2 ∧ U64 w ∧ Rw h2 s [.int .u64 w] z false ∧ s < h2.next ∧ SmS s h h2 := by
    intro op k h c hop hr hs hc
    obtain ⟨hb, eb, sb, _, _⟩ := Sm.bump h 10
    have hrb := hr.sm sb hs (fun h => h)
    obtain ⟨v, e1, hv⟩ := hop c hc
    obtain ⟨w, e2, hw⟩ := xor_u (t := 182) hc hv
    have lc := hrb.ld1 0
    rw [List.getElem?_cons_zero] at lc
    obtain ⟨w1, w2, w3, w4⟩ := hrb.st1 (o := 0) (v := .int .u64 w) (by simp) rfl
    have sb1 := sb.1
    exact ⟨hb, _, v, w, eb, lc, e1, e2, w1, hw, w2, by omega, (sb.no (F := (· = s))).trans ⟨by omega, fun c _ hc => w4 c hc⟩ (fun _ _ h => h) (fun _ _ h => h)⟩
  obtain ⟨hb1, h2, v1, w1, p1, p2, p3, p4, p5, p6, p7, p8, p9⟩ := step .shl 13 h c (fun c _ => shl_u (by decide)) hr hs hc
  obtain ⟨hb3, h4, v3, w3, q1, q2, q3, q4', q5, q6, q7, q8', q9⟩ := step .shr 7 h2 w1 (fun c hc => shr_u hc) p7 p8 p6
  obtain ⟨hb5, h6, v5, w5, r1, r2, r3, r4, r5, r6, r7, r8, r9⟩ := step .shl 17 h4 w3 (fun c _ => shl_u (by decide)) q7 q8' q6
  have l6 := r7.ld1 0
  rw [List.getElem?_cons_zero] at l6
  have p3' : bin2 P .shl 182 (.int .u64 c) (.int .u64 13) = some (.int .u64 v1) := p3
  have q3' : bin2 P .shr 182 (.int .u64 w1) (.int .u64 7) = some (.int .u64 v3) := q3
  have r3' : bin2 P .shl 182 (.int .u64 w3) (.int .u64 17) = some (.int .u64 v5) := r3
  simp only [F127, SS, Nat.reduceBEq, Nat.reduceEqDiff, Nat.reduceAdd, reduceIte, Nat.reduceMul, p1, p2, p3', p4, p5, q1, q2, q3', q4', q5, r1, r2, r3', r4, r5, l6, s_int, s_ptr, s_slice, s_bool, and'_eq, iff'_true]
  refine hQ _ _ _ _ (.inr rfl) (by simp only [SS, Nat.reduceBEq]) (by simp only [SS, Nat.reduceBEq, Nat.reduceEqDiff, Nat.reduceAdd, reduceIte, Nat.reduceMul]; rfl) ?_
  exact ⟨w5, rfl, r6, r7, (p9.tr q9).tr r9⟩
structure RnAt (X : Px) (s : Nat) (h : Heap) (D : Array El) : Prop where
  at' : X.At h D
  ct : ∃ c z, Rw h s [.int .u64 c] z false ∧ U64 c
  lt : s < h.next
  ne : s ≠ X.b
theorem break_ok {n : Nat} (hn : 4 ≤ n) {X : Px} (hN : X.N ≤ 40000) {h : Heap} {D : Array El} (hA : X.At h D) {a e : Nat} (hae : a + 12 < e) (he : e ≤ X.N) :
    WC (SC n (.fn 115) [X.sv, I a, I e] h) fun r h' => ∃ D', X.At h' D' ∧ PermIn a e D D' ∧ PsB X h h' := by
  obtain ⟨m, rfl⟩ : ∃ m, n = m + 1 := ⟨n - 1, by omega⟩
  refine call_fn _ f115A rfl (by simp [fn115]) fun QQ hQ => ?_
  simp only [fn115] at hQ
  simp only [fn115, fill_cons, fill_nil, Nat.zero_add, Nat.reduceAdd]
  have w0 := wSub (show a ≤ e by omega) (show e ≤ 1000000 by omega)
  obtain ⟨h1, e1, r1, n1, g1⟩ := Rw.alloc h (id := h.next) (n := 1) (vs := [.int .u64 0]) (z := tyMark 182 true) (ro := false) (Nat.le_refl _) rfl
  obtain ⟨y1, y2, y3, y4⟩ := r1.st1 (o := 0) (v := .int .u64 ((e - a : Nat) : Int)) (by simp) rfl
  rw [show ([AV.int .u64 0] : List AV).set 0 (.int .u64 ((e - a : Nat) : Int)) = [.int .u64 ((e - a : Nat) : Int)] from rfl] at y2
  generalize h1.wr h.next 0 [.int .u64 ((e - a : Nat) : Int)] = h2 at y1 y2 y3 y4
  have s2 : Sm NoB h h2 := ⟨by omega, fun c hc _ => by rw [y4 c (by omega), g1 c (by omega)]⟩
  have hne : h.next ≠ X.b := by have := hA.lt; omega
  have hlt0 := hA.lt
  have hU : U64 ((e - a : Nat) : Int) := by unfold U64; omega
  have A2 : RnAt X h.next h2 D := ⟨hA.sm s2, ⟨_, _, y2, hU⟩, by omega, hne⟩
  obtain ⟨qd, hqd⟩ : ∃ qd, (e - a) / 4 = qd := ⟨_, rfl⟩
  have d4 : qd * 4 ≤ e - a ∧ e - a < qd * 4 + 4 := by omega
  have q4' : bin2 P .quo 3 (I (e - a)) (.int .i64 4) = some (I qd) := by rw [← hqd]; exact q4 (show e - a ≤ 1000000 by omega)
  clear hqd
  have d8 : (8 : Int) ≤ ((e - a : Nat) : Int) := by omega
  obtain ⟨_, _, e3, rfl, M, rfl, m1, m2⟩ := npow_ok (n := m) (by omega) (x := e - a) (by omega) (by omega) h2
  rename_i h2
  have w2 := wAdd (show a + qd * 2 ≤ 1000000 by omega)
  have w3 := wSub1 (show 1 ≤ a + qd * 2 by omega) (show a + qd * 2 ≤ 1000000 by omega)
  have w4 := wAdd1 (show a + qd * 2 ≤ 1000000 by omega)
  simp only [F115, r115_29, SS, Nat.reduceBEq, Nat.reduceEqDiff, Nat.reduceAdd, reduceIte, Nat.reduceMul, w0, d8, x_cv_3_182, wU64 (show e - a ≤ 1000000 by omega), x_al_182, e1, y1, e3, q4', wMulR2 (show qd ≤ 400000 by omega), w2, w3]
  refine run_loop (c := c115_13) (I := fun m' tm' h' => ∃ i cur, a ≤ i ∧ i ≤ a + qd * 2 + 2 ∧ m' = a + qd * 2 + 2 - i ∧ RnAt X h.next h' cur ∧ Sm (fun b => b = X.b ∨ b = h.next) h2 h' ∧ PermIn a e D cur ∧ tm'.gt 0 = some X.sv ∧ tm'.gt 1 = some (I a) ∧ tm'.gt 6 = some (I (e - a)) ∧ tm'.gt 7 = some (.ptr (some (h.next, 0))) ∧ tm'.gt 8 = some (.int .u64 (M : Int)) ∧ tm'.gt 9 = some (I i) ∧ tm'.gt 65 = none) (n := a + qd * 2 + 2 - (a + qd * 2 - 1))
    ⟨a + qd * 2 - 1, D, by omega, by omega, rfl, A2, Sm.refl _ _, permIn_refl _ _ _, by simp [gt_same, gt_other, gt_leaf]⟩ (by omega) ?_
  rintro _ tm h' ⟨i, cur, hi1, hi2, rfl, hA', hS, hP, t0, t1, t6, t7, t8, t9, t65⟩ Q1 hN1 hE
  by_cases hlt : i ≤ a + qd * 2 + 1
  · have d1 : (i : Int) ≤ ((a + qd * 2 + 1 : Nat) : Int) := by omega
    obtain ⟨c, z, hc, hcu⟩ := hA'.ct
    obtain ⟨_, h3, e5, c', rfl, hcu', hc', s3⟩ := xnext_ok (n := m) (by omega) hc hA'.lt hcu
    have e6 : IntKind.u64.wrap ((M : Int) - 1) = ((M - 1 : Nat) : Int) := by rw [show (M : Int) - 1 = ((M - 1 : Nat) : Int) by omega]; exact wU64 (by omega)
    obtain ⟨v, e7, hv⟩ := and_u (t := 119) (y := M - 1) hcu' (by omega)
    have A3 : X.At h3 cur := ⟨hA'.at'.sz, hA'.at'.rw.sm s3 hA'.at'.lt (fun e => hne e.symm), Nat.lt_of_lt_of_le hA'.at'.lt s3.1⟩
    have hlt3 : h.next < h3.next := Nat.lt_of_lt_of_le hA'.lt s3.1
    -- the exchange
    have go : ∀ (o : Nat) tm, o < e - a → tm.gt 0 = some X.sv → tm.gt 1 = some (I a) → tm.gt 6 = some (I (e - a)) → tm.gt 7 = some (.ptr (some (h.next, 0))) → tm.gt 8 = some (.int .u64 (M : Int)) → tm.gt 9 = some (I i) → tm.gt 10 = some (I o) → tm.gt 65 = none → run (SC m) 100000 65 115 none c115_29 [.blk 1, .seq c115_30] tm h3 Q1 := by
      intro o tm ho t0 t1 t6 t7 t8 t9 t10 t65
      obtain ⟨hc2, ec, sc, _, _⟩ := Sm.bump h3 20
      have hAc := A3.sm sc
      obtain ⟨h4, h5, e4, e5', a5, s5⟩ := hAc.swap (i := i) (j := a + o) (by omega) (by omega)
      have l3 := hAc.ld (i := i) (by omega)
      have l4 := hAc.ld (i := a + o) (by omega)
      have x1 := x_ia_43 (k := .i64) (b := X.b) (o := 0) (n := X.N) (c := X.cap) (g := X.g) (show i < X.N by omega)
      have x2 := x_ia_43 (k := .i64) (b := X.b) (o := 0) (n := X.N) (c := X.cap) (g := X.g) (show a + o < X.N by omega)
      simp only [F115, r115_29, SS, Nat.reduceBEq, Nat.reduceEqDiff, Nat.reduceAdd, reduceIte, Nat.reduceMul, t0, t1, t6, t7, t8, t9, t10, t65, ec, wAdd (show a + o ≤ 1000000 by omega), x1, x2, l3, l4, e4, e5', s_int, s_ptr, s_slice, s_bool, and'_eq, iff'_true, wAdd1 (show i ≤ 1000000 by omega)]
      have s35 : PsB X h3 h5 := (PsB.no sc).tr s5
      refine hN1 _ _ (a + qd * 2 + 2 - (i + 1)) (by omega) ⟨i + 1, _, by omega, by omega, rfl, ⟨a5, ⟨c', z, hc'.sm s35 hlt3 hne, hcu'⟩, Nat.lt_of_lt_of_le hlt3 s35.1, hne⟩, ?_, permIn_trans _ _ _ _ _ hP (swp_permIn _ _ _ _ _ hi1 (by omega) (by omega) (by omega) (by rw [hA'.at'.sz]; omega)), ?_⟩
      · exact (hS.trans s3 (fun _ _ h => h) (fun _ _ h => Or.inr h)).trans s35 (fun _ _ h => h) (fun _ _ h => Or.inl h)
      · simp only [SS, Nat.reduceBEq, Nat.reduceEqDiff, Nat.reduceAdd, reduceIte, Nat.reduceMul, t0, t1, t6, t7, t8, t9, t65, and_self]
    by_cases ho : e - a ≤ v
    · have d2 : ((e - a : Nat) : Int) ≤ (v : Int) := by omega
      simp only [F115, SS, Nat.reduceBEq, Nat.reduceEqDiff, Nat.reduceAdd, reduceIte, Nat.reduceMul, t0, t1, t6, t7, t8, t9, t65, q4', wMulR2 (show qd ≤ 400000 by omega), w2, w4, d1, e5, e6, e7, x_cv_119_3, wI' (show v ≤ 1000000 by omega), d2, wSub ho (show v ≤ 1000000 by omega)]
      exact go (v - (e - a)) _ (by omega) (by simp only [SS, Nat.reduceBEq, t0]) (by simp only [SS, Nat.reduceBEq, t1]) (by simp only [SS, Nat.reduceBEq, t6]) (by simp only [SS, Nat.reduceBEq, t7]) (by simp only [SS, Nat.reduceBEq, t8]) (by simp only [SS, Nat.reduceBEq, t9]) (by simp only [SS, Nat.reduceBEq]) (by simp only [SS, Nat.reduceBEq, t65])
    · have d2 : ¬ ((e - a : Nat) : Int) ≤ (v : Int) := by omega
      simp only [F115, SS, Nat.reduceBEq, Nat.reduceEqDiff, Nat.reduceAdd, reduceIte, Nat.reduceMul, t0, t1, t6, t7, t8, t9, t65, q4', wMulR2 (show qd ≤ 400000 by omega), w2, w4, d1, e5, e6, e7, x_cv_119_3, wI' (show v ≤ 1000000 by omega), d2]
      exact go v _ (by omega) (by simp only [SS, Nat.reduceBEq, t0]) (by simp only [SS, Nat.reduceBEq, t1]) (by simp only [SS, Nat.reduceBEq, t6]) (by simp only [SS, Nat.reduceBEq, t7]) (by simp only [SS, Nat.reduceBEq, t8]) (by simp only [SS, Nat.reduceBEq, t9]) (by simp only [SS, Nat.reduceBEq]) (by simp only [SS, Nat.reduceBEq, t65])
  · have d1 : ¬ (i : Int) ≤ ((a + qd * 2 + 1 : Nat) : Int) := by omega
    simp only [F115, r115_29, SS, Nat.reduceBEq, Nat.reduceEqDiff, Nat.reduceAdd, reduceIte, Nat.reduceMul, t0, t1, t6, t7, t8, t9, t65, q4', wMulR2 (show qd ≤ 400000 by omega), w2, w4, d1]
    refine hE _ _ _ (by simp) ?_
    simp only [SS, Nat.reduceBEq, Nat.reduceEqDiff, Nat.reduceAdd, reduceIte, Nat.reduceMul]
    refine hQ _ _ _ _ (.inl rfl) (by simp only [SS, Nat.reduceBEq, t65]) (by simp only [SS, Nat.reduceBEq, Nat.reduceEqDiff, Nat.reduceAdd, reduceIte, Nat.reduceMul]; rfl) ⟨cur, hA'.at', hP, ?_⟩
    have := s2.1
    exact ⟨Nat.le_trans s2.1 hS.1, fun b hb hne' => by rw [hS.2 b (by omega) (by intro h; rcases h with h | h; exact hne' h; omega), s2.2 b hb (fun h => h)]⟩
end Go.Proofs.Ytlfednnfkejcjaa

namespace Go.Proofs.Ytlfednnfkejcjaa
open Go.Am Go.Sort
set_option maxRecDepth 10000
theorem scanU_step {p : El → Bool} {d : Array El} {j i : Nat} (h : i ≤ j) (hp : p d[i]! = true) : scanUp p d j i = scanUp p d j (i + 1) := by
  rw [scanUp, if_pos]; rw [hp, decide_eq_true h]; rfl
theorem scanU_stop {p : El → Bool} {d : Array El} {j i : Nat} (h : ¬ i ≤ j ∨ p d[i]! = false) : scanUp p d j i = i := by
  rw [scanUp, if_neg]
  intro hc
  rw [Bool.and_eq_true, decide_eq_true_eq] at hc
  rcases h with h | h
  · exact h hc.1
  · rw [h] at hc; exact absurd hc.2 (by simp)
theorem scanD_step {p : El → Bool} {d : Array El} {j i : Nat} (h : i ≤ j + 1) (hp : p d[j + 1]! = true) : scanDown p d i (j + 1) = scanDown p d i j := by
  rw [scanDown, if_pos]; rw [hp, decide_eq_true h]; rfl
theorem scanD_stop {p : El → Bool} {d : Array El} {j i : Nat} (hi : 1 ≤ i) (h : ¬ i ≤ j ∨ p d[j]! = false) : scanDown p d i j = j := by
  cases j with
  | zero => rfl
  | succ j =>
    rw [scanDown, if_neg]
    intro hc
    rw [Bool.and_eq_true, decide_eq_true_eq] at hc
    rcases h with h | h
    · exact h hc.1
    · rw [h] at hc; exact absurd hc.2 (by simp)
theorem parteq_ok {n : Nat} (hn : 3 ≤ n) {X : Px} (hN : X.N ≤ 40000) {h : Heap} {D : Array El} (hA : X.At h D) {a e p : Nat} (hap : a ≤ p) (hpe : p < e) (he : e ≤ X.N) :
    WC (SC n (.fn 120) [X.sv, I a, I e, I p] h) fun r h' => r = I (partitionEqual ltE D a e p).1 ∧ X.At h' (partitionEqual ltE D a e p).2 ∧ PsB X h h' := by
  obtain ⟨m, rfl⟩ : ∃ m, n = m + 1 := ⟨n - 1, by omega⟩
  refine call_fn _ f120A rfl (by simp [fn120]) fun QQ hQ => ?_
  simp only [fn120] at hQ
  simp only [fn120, fill_cons, fill_nil, Nat.zero_add, Nat.reduceAdd]
  obtain ⟨hb, eb, sb, _, _⟩ := Sm.bump h 16
  have hAb := hA.sm sb
  obtain ⟨h1, h2, e1, e2, a2, s2⟩ := hAb.swap (i := a) (j := p) (by omega) (by omega)
  have l1 := hAb.ld (i := a) (by omega)
  have l2 := hAb.ld (i := p) (by omega)
  have x1 := x_ia_43 (k := .i64) (b := X.b) (o := 0) (n := X.N) (c := X.cap) (g := X.g) (show a < X.N by omega)
  have x2 := x_ia_43 (k := .i64) (b := X.b) (o := 0) (n := X.N) (c := X.cap) (g := X.g) (show p < X.N by omega)
  simp only [F120, r120_32, r120_21, SS, Nat.reduceBEq, Nat.reduceEqDiff, Nat.reduceAdd, reduceIte, Nat.reduceMul, eb, x1, x2, l1, l2, e1, e2, s_int, s_ptr, s_slice, s_bool, and'_eq, iff'_true, wAdd1 (show a ≤ 1000000 by omega), wSub1 (show 1 ≤ e by omega) (show e ≤ 1000000 by omega)]
  refine run_loop (c := c120_9) (I := fun m' tm' h' => ∃ i j cur, a < i ∧ i ≤ j + 1 ∧ j < e ∧ m' = j + 1 - i ∧ X.At h' cur ∧ PsB X h h' ∧ partEqLoop ltE a i j cur = partitionEqual ltE D a e p ∧ tm'.gt 0 = some X.sv ∧ tm'.gt 1 = some (I a) ∧ tm'.gt 9 = some (I i) ∧ tm'.gt 10 = some (I j) ∧ tm'.gt 84 = none) (n := e - 1 + 1 - (a + 1))
    ⟨a + 1, e - 1, _, by omega, by omega, by omega, rfl, a2, (PsB.no sb).tr s2, rfl, by simp [gt_same, gt_other, gt_leaf]⟩ (by omega) ?_
  rintro _ tm h3 ⟨i0, j0, cur, hi0, hij0, hj0, rfl, hA3, hS3, hE0, t0, t1, t9, t10, t84⟩ Q1 hN1 hE
  rw [partEqLoop_eq] at hE0
  simp only [F120, r120_32, r120_21, SS, Nat.reduceBEq, Nat.reduceEqDiff, Nat.reduceAdd, reduceIte, Nat.reduceMul, t0, t1, t9, t10, t84]
  -- up
  refine run_loop (c := c120_13) (I := fun m' tm' h' => ∃ i, i0 ≤ i ∧ i ≤ j0 + 1 ∧ m' = j0 + 1 - i ∧ X.At h' cur ∧ PsB X h h' ∧ scanUp (fun x => !ltE cur[a]! x) cur j0 i0 = scanUp (fun x => !ltE cur[a]! x) cur j0 i ∧ tm'.gt 0 = some X.sv ∧ tm'.gt 1 = some (I a) ∧ tm'.gt 9 = some (I i) ∧ tm'.gt 10 = some (I j0) ∧ tm'.gt 84 = none) (n := j0 + 1 - i0)
    ⟨i0, by omega, by omega, rfl, hA3, hS3, rfl, by simp only [SS, Nat.reduceBEq, Nat.reduceEqDiff, Nat.reduceAdd, reduceIte, Nat.reduceMul, t0, t1, t9, t10, t84, and_self]⟩ (by omega) ?_
  rintro _ tm h4 ⟨i, hi, hij, rfl, hA4, hS4, hU, t0, t1, t9, t10, t84⟩ Q2 hN2 hE2
  obtain ⟨hb4, eb4, sb4, _, _⟩ := Sm.bump h4 15
  have hAb4 := hA4.sm sb4
  have hSb4 := hS4.tr (PsB.no sb4)
  -- down, from where i stands
  have go : (¬ i ≤ j0 ∨ (fun x => !ltE cur[a]! x) cur[i]! = false) → ∀ tm, tm.gt 0 = some X.sv → tm.gt 1 = some (I a) → tm.gt 9 = some (I i) → tm.gt 10 = some (I j0) → tm.gt 84 = none → run (SC m) 100000 84 120 none c120_21 [.blk 1] tm hb4 Q1 := by
    intro hstU tm t0 t1 t9 t10 t84
    rw [scanU_stop (p := fun x => !ltE cur[a]! x) hstU] at hU
    rw [hU] at hE0
    simp only [F120, r120_32, r120_21, SS, Nat.reduceBEq, Nat.reduceEqDiff, Nat.reduceAdd, reduceIte, Nat.reduceMul, t0, t1, t9, t10, t84]
    refine run_loop (c := c120_24) (I := fun m' tm' h' => ∃ j, i ≤ j + 1 ∧ j ≤ j0 ∧ m' = j ∧ X.At h' cur ∧ PsB X h h' ∧ scanDown (fun x => ltE cur[a]! x) cur i j0 = scanDown (fun x => ltE cur[a]! x) cur i j ∧ tm'.gt 0 = some X.sv ∧ tm'.gt 1 = some (I a) ∧ tm'.gt 9 = some (I i) ∧ tm'.gt 10 = some (I j) ∧ tm'.gt 84 = none) (n := j0)
      ⟨j0, by omega, by omega, rfl, hAb4, hSb4, rfl, by simp only [SS, Nat.reduceBEq, Nat.reduceEqDiff, Nat.reduceAdd, reduceIte, Nat.reduceMul, t0, t1, t9, t10, t84, and_self]⟩ (by omega) ?_
    rintro j tm h5 ⟨_, hij, hj, rfl, hA5, hS5, hD, t0, t1, t9, t10, t84⟩ Q3 hN3 hE3
    obtain ⟨hb5, eb5, sb5, _, _⟩ := Sm.bump h5 14
    have hAb5 := hA5.sm sb5
    have hSb5 := hS5.tr (PsB.no sb5)
    have go2 : (¬ i ≤ j ∨ (fun x => ltE cur[a]! x) cur[j]! = false) → ∀ tm, tm.gt 0 = some X.sv → tm.gt 1 = some (I a) → tm.gt 9 = some (I i) → tm.gt 10 = some (I j) → tm.gt 84 = none → run (SC m) 100000 84 120 none c120_32 [.blk 1] tm hb5 Q1 := by
      intro hst tm t0 t1 t9 t10 t84
      rw [scanD_stop (p := fun x => ltE cur[a]! x) (by omega) hst] at hD
      rw [hD] at hE0
      by_cases hgt : j < i
      · rw [if_pos hgt] at hE0
        simp only [F120, r120_32, r120_21, SS, Nat.reduceBEq, Nat.reduceEqDiff, Nat.reduceAdd, reduceIte, Nat.reduceMul, t0, t1, t9, t10, t84, Int.ofNat_lt, hgt]
        refine hE _ _ _ (by simp) ?_
        simp only [F120, r120_32, r120_21, SS, Nat.reduceBEq, Nat.reduceEqDiff, Nat.reduceAdd, reduceIte, Nat.reduceMul, t9, t84]
        refine hQ _ _ _ _ (.inr rfl) (by simp only [SS, Nat.reduceBEq, t84]) (by simp only [SS, Nat.reduceBEq, Nat.reduceEqDiff, Nat.reduceAdd, reduceIte, Nat.reduceMul]; rfl) ?_
        rw [← hE0]
        exact ⟨rfl, hAb5, hSb5⟩
      · rw [if_neg hgt] at hE0
        have hne : i ≠ j := by
          intro e
          subst e
          rcases hstU with h | h
          · omega
          · rcases hst with h' | h'
            · omega
            · have h1 : (!ltE cur[a]! cur[i]!) = false := h
              have h2 : ltE cur[a]! cur[i]! = false := h'
              rw [h2] at h1; cases h1
        obtain ⟨hc, ec, sc, _, _⟩ := Sm.bump hb5 16
        have hAc := hAb5.sm sc
        obtain ⟨h6, h7, e6, e7, a7, s7⟩ := hAc.swap (i := i) (j := j) (by omega) (by omega)
        have l3 := hAc.ld (i := i) (by omega)
        have l4 := hAc.ld (i := j) (by omega)
        have x3 := x_ia_43 (k := .i64) (b := X.b) (o := 0) (n := X.N) (c := X.cap) (g := X.g) (show i < X.N by omega)
        have x4 := x_ia_43 (k := .i64) (b := X.b) (o := 0) (n := X.N) (c := X.cap) (g := X.g) (show j < X.N by omega)
        simp only [F120, r120_32, r120_21, SS, Nat.reduceBEq, Nat.reduceEqDiff, Nat.reduceAdd, reduceIte, Nat.reduceMul, t0, t1, t9, t10, t84, Int.ofNat_lt, hgt, ec, x3, x4, l3, l4, e6, e7, s_int, s_ptr, s_slice, s_bool, and'_eq, iff'_true, wAdd1 (show i ≤ 1000000 by omega), wSub1 (show 1 ≤ j by omega) (show j ≤ 1000000 by omega)]
        refine hN1 _ _ (j - 1 + 1 - (i + 1)) (by omega) ⟨i + 1, j - 1, _, by omega, by omega, by omega, rfl, a7, (hSb5.tr (PsB.no sc)).tr s7, hE0, ?_⟩
        simp only [SS, Nat.reduceBEq, Nat.reduceEqDiff, Nat.reduceAdd, reduceIte, Nat.reduceMul, t0, t1, t9, t10, t84, and_self]
    have xa := x_ia_43 (k := .i64) (b := X.b) (o := 0) (n := X.N) (c := X.cap) (g := X.g) (show a < X.N by omega)
    have la := hAb5.ld (i := a) (by omega)
    by_cases c1 : i ≤ j
    · have d1 : (i : Int) ≤ (j : Int) := by omega
      have xj := x_ia_43 (k := .i64) (b := X.b) (o := 0) (n := X.N) (c := X.cap) (g := X.g) (show j < X.N by omega)
      have lj := hAb5.ld (i := j) (by omega)
      have e8 := less_ok (n := m) (by omega) cur[a]! cur[j]! hb5
      cases hl : ltE cur[a]! cur[j]! with
      | true =>
        rw [hl] at e8
        obtain ⟨j, rfl⟩ : ∃ j', j = j' + 1 := ⟨j - 1, by omega⟩
        simp only [F120, r120_32, r120_21, SS, Nat.reduceBEq, Nat.reduceEqDiff, Nat.reduceAdd, reduceIte, Nat.reduceMul, t0, t1, t9, t10, t84, eb5, d1, xa, xj, la, lj, e8, w_undef, s_int, s_ptr, s_slice, s_bool, and'_eq, iff'_true, wSub1 (show 1 ≤ j + 1 by omega) (show j + 1 ≤ 1000000 by omega), Nat.add_sub_cancel]
        exact hN3 _ _ j (by omega) ⟨j, by omega, by omega, rfl, hAb5, hSb5, by rw [hD]; exact scanD_step (p := fun x => ltE cur[a]! x) c1 hl, by simp only [SS, Nat.reduceBEq, Nat.reduceEqDiff, Nat.reduceAdd, reduceIte, Nat.reduceMul, t0, t1, t9, t10, t84, and_self]⟩
      | false =>
        rw [hl] at e8
        simp only [F120, r120_21, SS, Nat.reduceBEq, Nat.reduceEqDiff, Nat.reduceAdd, reduceIte, Nat.reduceMul, t0, t1, t9, t10, t84, eb5, d1, xa, xj, la, lj, e8, w_undef, s_int, s_ptr, s_slice, s_bool, and'_eq, iff'_true]
        refine hE3 _ _ _ (by simp) ?_
        simp only [SS, Nat.reduceBEq, Nat.reduceEqDiff, Nat.reduceAdd, reduceIte, Nat.reduceMul]
        exact go2 (.inr hl) _ (by simp only [SS, Nat.reduceBEq, t0]) (by simp only [SS, Nat.reduceBEq, t1]) (by simp only [SS, Nat.reduceBEq, t9]) (by simp only [SS, Nat.reduceBEq, t10]) (by simp only [SS, Nat.reduceBEq, t84])
    · have d1 : ¬ (i : Int) ≤ (j : Int) := by omega
      simp only [F120, r120_21, SS, Nat.reduceBEq, Nat.reduceEqDiff, Nat.reduceAdd, reduceIte, Nat.reduceMul, t0, t1, t9, t10, t84, eb5, d1, w_undef, s_int, s_ptr, s_slice, s_bool, and'_eq, iff'_true]
      refine hE3 _ _ _ (by simp) ?_
      simp only [SS, Nat.reduceBEq, Nat.reduceEqDiff, Nat.reduceAdd, reduceIte, Nat.reduceMul]
      exact go2 (.inl c1) _ (by simp only [SS, Nat.reduceBEq, t0]) (by simp only [SS, Nat.reduceBEq, t1]) (by simp only [SS, Nat.reduceBEq, t9]) (by simp only [SS, Nat.reduceBEq, t10]) (by simp only [SS, Nat.reduceBEq, t84])
  have xa := x_ia_43 (k := .i64) (b := X.b) (o := 0) (n := X.N) (c := X.cap) (g := X.g) (show a < X.N by omega)
  have la := hAb4.ld (i := a) (by omega)
  by_cases c1 : i ≤ j0
  · have d1 : (i : Int) ≤ (j0 : Int) := by omega
    have xi := x_ia_43 (k := .i64) (b := X.b) (o := 0) (n := X.N) (c := X.cap) (g := X.g) (show i < X.N by omega)
    have li := hAb4.ld (i := i) (by omega)
    have e8 := less_ok (n := m) (by omega) cur[a]! cur[i]! hb4
    cases hl : ltE cur[a]! cur[i]! with
    | false =>
      rw [hl] at e8
      simp only [F120, r120_32, r120_21, SS, Nat.reduceBEq, Nat.reduceEqDiff, Nat.reduceAdd, reduceIte, Nat.reduceMul, t0, t1, t9, t10, t84, eb4, d1, xa, xi, la, li, e8, w_undef, s_int, s_ptr, s_slice, s_bool, and'_eq, iff'_true, wAdd1 (show i ≤ 1000000 by omega)]
      exact hN2 _ _ (j0 + 1 - (i + 1)) (by omega) ⟨i + 1, by omega, by omega, rfl, hAb4, hSb4, by rw [hU]; exact scanU_step c1 (show (!ltE cur[a]! cur[i]!) = true by rw [hl]; rfl), by simp only [SS, Nat.reduceBEq, Nat.reduceEqDiff, Nat.reduceAdd, reduceIte, Nat.reduceMul, t0, t1, t9, t10, t84, and_self]⟩
    | true =>
      rw [hl] at e8
      simp only [F120, r120_32, SS, Nat.reduceBEq, Nat.reduceEqDiff, Nat.reduceAdd, reduceIte, Nat.reduceMul, t0, t1, t9, t10, t84, eb4, d1, xa, xi, la, li, e8, w_undef, s_int, s_ptr, s_slice, s_bool, and'_eq, iff'_true]
      refine hE2 _ _ _ (by simp) ?_
      simp only [SS, Nat.reduceBEq, Nat.reduceEqDiff, Nat.reduceAdd, reduceIte, Nat.reduceMul]
      exact go (.inr (show (!ltE cur[a]! cur[i]!) = false by rw [hl]; rfl)) _ (by simp only [SS, Nat.reduceBEq, t0]) (by simp only [SS, Nat.reduceBEq, t1]) (by simp only [SS, Nat.reduceBEq, t9]) (by simp only [SS, Nat.reduceBEq, t10]) (by simp only [SS, Nat.reduceBEq, t84])
  · have d1 : ¬ (i : Int) ≤ (j0 : Int) := by omega
    simp only [F120, r120_32, SS, Nat.reduceBEq, Nat.reduceEqDiff, Nat.reduceAdd, reduceIte, Nat.reduceMul, t0, t1, t9, t10, t84, eb4, d1, w_undef, s_int, s_ptr, s_slice, s_bool, and'_eq, iff'_true]
    refine hE2 _ _ _ (by simp) ?_
    simp only [SS, Nat.reduceBEq, Nat.reduceEqDiff, Nat.reduceAdd, reduceIte, Nat.reduceMul]
    exact go (.inl c1) _ (by simp only [SS, Nat.reduceBEq, t0]) (by simp only [SS, Nat.reduceBEq, t1]) (by simp only [SS, Nat.reduceBEq, t9]) (by simp only [SS, Nat.reduceBEq, t10]) (by simp only [SS, Nat.reduceBEq, t84])
end Go.Proofs.Ytlfednnfkejcjaa

namespace Go.Proofs.Ytlfednnfkejcjaa
open Go.Am Go.Sort
set_option maxRecDepth 10000
theorem pu1 {m : Nat} (hm : 2 ≤ m) {X : Px} (hN : X.N ≤ 40000) {h : Heap} {cur : Array El} (hA : X.At h cur) {a i0 j0 : Nat} (ha : a < i0) (hij : i0 ≤ j0 + 1) (hj : j0 < X.N) {K : List Wt} {Q : XQ} {tm : Tr AV}
    (ht : tm.gt 0 = some X.sv ∧ tm.gt 1 = some (I a) ∧ tm.gt 10 = some (I i0) ∧ tm.gt 11 = some (I j0) ∧ tm.gt 168 = none)
    (hK : ∀ i tm2 h2, i0 ≤ i → i ≤ j0 + 1 → scanUp (fun x => ltE x cur[a]!) cur j0 i0 = i → (¬ i ≤ j0 ∨ (ltE cur[i]! cur[a]!) = false) → X.At h2 cur → PsB X h h2 → tm2.gt 0 = some X.sv ∧ tm2.gt 1 = some (I a) ∧ tm2.gt 10 = some (I i) ∧ tm2.gt 11 = some (I j0) ∧ tm2.gt 168 = none → ret (SC m) 100000 168 121 none (.exit 0) K tm2 h2 Q) :
    run (SC m) 100000 168 121 none c121_8 K tm h Q := by
  refine run_loop (c := c121_9) (I := fun m' tm h' => ∃ i, i0 ≤ i ∧ i ≤ j0 + 1 ∧ m' = j0 + 1 - i ∧ X.At h' cur ∧ PsB X h h' ∧ scanUp (fun x => ltE x cur[a]!) cur j0 i0 = scanUp (fun x => ltE x cur[a]!) cur j0 i ∧ tm.gt 0 = some X.sv ∧ tm.gt 1 = some (I a) ∧ tm.gt 10 = some (I i) ∧ tm.gt 11 = some (I j0) ∧ tm.gt 168 = none) (n := j0 + 1 - i0)
    ⟨i0, by omega, by omega, rfl, hA, Sm.refl _ _, rfl, ht⟩ (by omega) ?_
  rintro _ tm h4 ⟨i, hi, hij, rfl, hA4, hS4, hU, t0, t1, ti, tj, tn⟩ Q2 hN2 hE2
  obtain ⟨hb4, eb4, sb4, _, _⟩ := Sm.bump h4 14
  have hAb4 := hA4.sm sb4
  have hSb4 := hS4.tr (PsB.no sb4)
  have xa := x_ia_43 (k := .i64) (b := X.b) (o := 0) (n := X.N) (c := X.cap) (g := X.g) (show a < X.N by omega)
  have la := hAb4.ld (i := a) (by omega)
  by_cases c1 : i ≤ j0
  · have d1 : (i : Int) ≤ (j0 : Int) := by omega
    have xi := x_ia_43 (k := .i64) (b := X.b) (o := 0) (n := X.N) (c := X.cap) (g := X.g) (show i < X.N by omega)
    have li := hAb4.ld (i := i) (by omega)
    have e8 := less_ok (n := m) (by omega) cur[i]! cur[a]! hb4
    cases hl : ltE cur[i]! cur[a]! with
    | true =>
      rw [hl] at e8
      simp only [F121, SS, Nat.reduceBEq, Nat.reduceEqDiff, Nat.reduceAdd, reduceIte, Nat.reduceMul, t0, t1, ti, tj, tn, eb4, d1, xa, xi, la, li, e8, w_undef, s_int, s_ptr, s_slice, s_bool, and'_eq, iff'_true, wAdd1 (show i ≤ 1000000 by omega)]
      exact hN2 _ _ (j0 + 1 - (i + 1)) (by omega) ⟨i + 1, by omega, by omega, rfl, hAb4, hSb4, by rw [hU]; exact scanU_step (p := fun x => ltE x cur[a]!) c1 (show (ltE cur[i]! cur[a]!) = true by simp [hl]), by simp only [SS, Nat.reduceBEq, Nat.reduceEqDiff, Nat.reduceAdd, reduceIte, Nat.reduceMul, t0, t1, ti, tj, tn, and_self]⟩
    | false =>
      rw [hl] at e8
      simp only [F121, SS, Nat.reduceBEq, Nat.reduceEqDiff, Nat.reduceAdd, reduceIte, Nat.reduceMul, t0, t1, ti, tj, tn, eb4, d1, xa, xi, la, li, e8, w_undef, s_int, s_ptr, s_slice, s_bool, and'_eq, iff'_true]
      have hst : ¬ i ≤ j0 ∨ (ltE cur[i]! cur[a]!) = false := .inr (by simp [hl])
      rw [scanU_stop (p := fun x => ltE x cur[a]!) hst] at hU
      exact hE2 _ _ _ (by simp) (hK i _ _ hi hij hU hst hAb4 hSb4 (by simp only [SS, Nat.reduceBEq, Nat.reduceEqDiff, Nat.reduceAdd, reduceIte, Nat.reduceMul, t0, t1, ti, tj, tn, and_self]))
  · have d1 : ¬ (i : Int) ≤ (j0 : Int) := by omega
    simp only [F121, SS, Nat.reduceBEq, Nat.reduceEqDiff, Nat.reduceAdd, reduceIte, Nat.reduceMul, t0, t1, ti, tj, tn, eb4, d1, w_undef, s_int, s_ptr, s_slice, s_bool, and'_eq, iff'_true]
    have hst : ¬ i ≤ j0 ∨ (ltE cur[i]! cur[a]!) = false := .inl c1
    rw [scanU_stop (p := fun x => ltE x cur[a]!) hst] at hU
    exact hE2 _ _ _ (by simp) (hK i _ _ hi hij hU hst hAb4 hSb4 (by simp only [SS, Nat.reduceBEq, Nat.reduceEqDiff, Nat.reduceAdd, reduceIte, Nat.reduceMul, t0, t1, ti, tj, tn, and_self]))
theorem pd1 {m : Nat} (hm : 2 ≤ m) {X : Px} (hN : X.N ≤ 40000) {h : Heap} {cur : Array El} (hA : X.At h cur) {a i j0 : Nat} (ha : a < i) (hij : i ≤ j0 + 1) (hj : j0 < X.N) {K : List Wt} {Q : XQ} {tm : Tr AV}
    (ht : tm.gt 0 = some X.sv ∧ tm.gt 1 = some (I a) ∧ tm.gt 10 = some (I i) ∧ tm.gt 11 = some (I j0) ∧ tm.gt 168 = none)
    (hK : ∀ j tm2 h2, i ≤ j + 1 → j ≤ j0 → scanDown (fun x => !ltE x cur[a]!) cur i j0 = j → (¬ i ≤ j ∨ (!ltE cur[j]! cur[a]!) = false) → X.At h2 cur → PsB X h h2 → tm2.gt 0 = some X.sv ∧ tm2.gt 1 = some (I a) ∧ tm2.gt 10 = some (I i) ∧ tm2.gt 11 = some (I j) ∧ tm2.gt 168 = none → ret (SC m) 100000 168 121 none (.exit 2) K tm2 h2 Q) :
    run (SC m) 100000 168 121 none c121_19 K tm h Q := by
  refine run_loop (c := c121_20) (I := fun m' tm h' => ∃ j, i ≤ j + 1 ∧ j ≤ j0 ∧ m' = j ∧ X.At h' cur ∧ PsB X h h' ∧ scanDown (fun x => !ltE x cur[a]!) cur i j0 = scanDown (fun x => !ltE x cur[a]!) cur i j ∧ tm.gt 0 = some X.sv ∧ tm.gt 1 = some (I a) ∧ tm.gt 10 = some (I i) ∧ tm.gt 11 = some (I j) ∧ tm.gt 168 = none) (n := j0)
    ⟨j0, by omega, by omega, rfl, hA, Sm.refl _ _, rfl, ht⟩ (by omega) ?_
  rintro j tm h4 ⟨_, hij, hj, rfl, hA4, hS4, hD, t0, t1, ti, tj, tn⟩ Q2 hN2 hE2
  obtain ⟨hb4, eb4, sb4, _, _⟩ := Sm.bump h4 15
  have hAb4 := hA4.sm sb4
  have hSb4 := hS4.tr (PsB.no sb4)
  have xa := x_ia_43 (k := .i64) (b := X.b) (o := 0) (n := X.N) (c := X.cap) (g := X.g) (show a < X.N by omega)
  have la := hAb4.ld (i := a) (by omega)
  by_cases c1 : i ≤ j
  · have d1 : (i : Int) ≤ (j : Int) := by omega
    have xi := x_ia_43 (k := .i64) (b := X.b) (o := 0) (n := X.N) (c := X.cap) (g := X.g) (show j < X.N by omega)
    have li := hAb4.ld (i := j) (by omega)
    have e8 := less_ok (n := m) (by omega) cur[j]! cur[a]! hb4
    cases hl : ltE cur[j]! cur[a]! with
    | false =>
      rw [hl] at e8
      obtain ⟨j, rfl⟩ : ∃ j', j = j' + 1 := ⟨j - 1, by omega⟩
      simp only [F121, SS, Nat.reduceBEq, Nat.reduceEqDiff, Nat.reduceAdd, reduceIte, Nat.reduceMul, t0, t1, ti, tj, tn, eb4, d1, xa, xi, la, li, e8, w_undef, s_int, s_ptr, s_slice, s_bool, and'_eq, iff'_true, wSub1 (show 1 ≤ j + 1 by omega) (show j + 1 ≤ 1000000 by omega), Nat.add_sub_cancel]
      exact hN2 _ _ j (by omega) ⟨j, by omega, by omega, rfl, hAb4, hSb4, by rw [hD]; exact scanD_step (p := fun x => !ltE x cur[a]!) c1 (show (!ltE cur[j + 1]! cur[a]!) = true by simp [hl]), by simp only [SS, Nat.reduceBEq, Nat.reduceEqDiff, Nat.reduceAdd, reduceIte, Nat.reduceMul, t0, t1, ti, tj, tn, and_self]⟩
    | true =>
      rw [hl] at e8
      simp only [F121, SS, Nat.reduceBEq, Nat.reduceEqDiff, Nat.reduceAdd, reduceIte, Nat.reduceMul, t0, t1, ti, tj, tn, eb4, d1, xa, xi, la, li, e8, w_undef, s_int, s_ptr, s_slice, s_bool, and'_eq, iff'_true]
      have hst : ¬ i ≤ j ∨ (!ltE cur[j]! cur[a]!) = false := .inr (by simp [hl])
      rw [scanD_stop (p := fun x => !ltE x cur[a]!) (by omega) hst] at hD
      exact hE2 _ _ _ (by simp) (hK j _ _ hij hj hD hst hAb4 hSb4 (by simp only [SS, Nat.reduceBEq, Nat.reduceEqDiff, Nat.reduceAdd, reduceIte, Nat.reduceMul, t0, t1, ti, tj, tn, and_self]))
  · have d1 : ¬ (i : Int) ≤ (j : Int) := by omega
    simp only [F121, SS, Nat.reduceBEq, Nat.reduceEqDiff, Nat.reduceAdd, reduceIte, Nat.reduceMul, t0, t1, ti, tj, tn, eb4, d1, w_undef, s_int, s_ptr, s_slice, s_bool, and'_eq, iff'_true]
    have hst : ¬ i ≤ j ∨ (!ltE cur[j]! cur[a]!) = false := .inl c1
    rw [scanD_stop (p := fun x => !ltE x cur[a]!) (by omega) hst] at hD
    exact hE2 _ _ _ (by simp) (hK j _ _ hij hj hD hst hAb4 hSb4 (by simp only [SS, Nat.reduceBEq, Nat.reduceEqDiff, Nat.reduceAdd, reduceIte, Nat.reduceMul, t0, t1, ti, tj, tn, and_self]))
theorem pu2 {m : Nat} (hm : 2 ≤ m) {X : Px} (hN : X.N ≤ 40000) {h : Heap} {cur : Array El} (hA : X.At h cur) {a i0 j0 : Nat} (ha : a < i0) (hij : i0 ≤ j0 + 1) (hj : j0 < X.N) {K : List Wt} {Q : XQ} {tm : Tr AV}
    (ht : tm.gt 0 = some X.sv ∧ tm.gt 1 = some (I a) ∧ tm.gt 10 = some (I i0) ∧ tm.gt 11 = some (I j0) ∧ tm.gt 168 = none)
    (hK : ∀ i tm2 h2, i0 ≤ i → i ≤ j0 + 1 → scanUp (fun x => ltE x cur[a]!) cur j0 i0 = i → (¬ i ≤ j0 ∨ (ltE cur[i]! cur[a]!) = false) → X.At h2 cur → PsB X h h2 → tm2.gt 0 = some X.sv ∧ tm2.gt 1 = some (I a) ∧ tm2.gt 10 = some (I i) ∧ tm2.gt 11 = some (I j0) ∧ tm2.gt 168 = none → ret (SC m) 100000 168 121 none (.exit 6) K tm2 h2 Q) :
    run (SC m) 100000 168 121 none c121_50 K tm h Q := by
  refine run_loop (c := c121_51) (I := fun m' tm h' => ∃ i, i0 ≤ i ∧ i ≤ j0 + 1 ∧ m' = j0 + 1 - i ∧ X.At h' cur ∧ PsB X h h' ∧ scanUp (fun x => ltE x cur[a]!) cur j0 i0 = scanUp (fun x => ltE x cur[a]!) cur j0 i ∧ tm.gt 0 = some X.sv ∧ tm.gt 1 = some (I a) ∧ tm.gt 10 = some (I i) ∧ tm.gt 11 = some (I j0) ∧ tm.gt 168 = none) (n := j0 + 1 - i0)
    ⟨i0, by omega, by omega, rfl, hA, Sm.refl _ _, rfl, ht⟩ (by omega) ?_
  rintro _ tm h4 ⟨i, hi, hij, rfl, hA4, hS4, hU, t0, t1, ti, tj, tn⟩ Q2 hN2 hE2
  obtain ⟨hb4, eb4, sb4, _, _⟩ := Sm.bump h4 14
  have hAb4 := hA4.sm sb4
  have hSb4 := hS4.tr (PsB.no sb4)
  have xa := x_ia_43 (k := .i64) (b := X.b) (o := 0) (n := X.N) (c := X.cap) (g := X.g) (show a < X.N by omega)
  have la := hAb4.ld (i := a) (by omega)
  by_cases c1 : i ≤ j0
  · have d1 : (i : Int) ≤ (j0 : Int) := by omega
    have xi := x_ia_43 (k := .i64) (b := X.b) (o := 0) (n := X.N) (c := X.cap) (g := X.g) (show i < X.N by omega)
    have li := hAb4.ld (i := i) (by omega)
    have e8 := less_ok (n := m) (by omega) cur[i]! cur[a]! hb4
    cases hl : ltE cur[i]! cur[a]! with
    | true =>
      rw [hl] at e8
      simp only [F121, SS, Nat.reduceBEq, Nat.reduceEqDiff, Nat.reduceAdd, reduceIte, Nat.reduceMul, t0, t1, ti, tj, tn, eb4, d1, xa, xi, la, li, e8, w_undef, s_int, s_ptr, s_slice, s_bool, and'_eq, iff'_true, wAdd1 (show i ≤ 1000000 by omega)]
      exact hN2 _ _ (j0 + 1 - (i + 1)) (by omega) ⟨i + 1, by omega, by omega, rfl, hAb4, hSb4, by rw [hU]; exact scanU_step (p := fun x => ltE x cur[a]!) c1 (show (ltE cur[i]! cur[a]!) = true by simp [hl]), by simp only [SS, Nat.reduceBEq, Nat.reduceEqDiff, Nat.reduceAdd, reduceIte, Nat.reduceMul, t0, t1, ti, tj, tn, and_self]⟩
    | false =>
      rw [hl] at e8
      simp only [F121, SS, Nat.reduceBEq, Nat.reduceEqDiff, Nat.reduceAdd, reduceIte, Nat.reduceMul, t0, t1, ti, tj, tn, eb4, d1, xa, xi, la, li, e8, w_undef, s_int, s_ptr, s_slice, s_bool, and'_eq, iff'_true]
      have hst : ¬ i ≤ j0 ∨ (ltE cur[i]! cur[a]!) = false := .inr (by simp [hl])
      rw [scanU_stop (p := fun x => ltE x cur[a]!) hst] at hU
      exact hE2 _ _ _ (by simp) (hK i _ _ hi hij hU hst hAb4 hSb4 (by simp only [SS, Nat.reduceBEq, Nat.reduceEqDiff, Nat.reduceAdd, reduceIte, Nat.reduceMul, t0, t1, ti, tj, tn, and_self]))
  · have d1 : ¬ (i : Int) ≤ (j0 : Int) := by omega
    simp only [F121, SS, Nat.reduceBEq, Nat.reduceEqDiff, Nat.reduceAdd, reduceIte, Nat.reduceMul, t0, t1, ti, tj, tn, eb4, d1, w_undef, s_int, s_ptr, s_slice, s_bool, and'_eq, iff'_true]
    have hst : ¬ i ≤ j0 ∨ (ltE cur[i]! cur[a]!) = false := .inl c1
    rw [scanU_stop (p := fun x => ltE x cur[a]!) hst] at hU
    exact hE2 _ _ _ (by simp) (hK i _ _ hi hij hU hst hAb4 hSb4 (by simp only [SS, Nat.reduceBEq, Nat.reduceEqDiff, Nat.reduceAdd, reduceIte, Nat.reduceMul, t0, t1, ti, tj, tn, and_self]))
theorem pd2 {m : Nat} (hm : 2 ≤ m) {X : Px} (hN : X.N ≤ 40000) {h : Heap} {cur : Array El} (hA : X.At h cur) {a i j0 : Nat} (ha : a < i) (hij : i ≤ j0 + 1) (hj : j0 < X.N) {K : List Wt} {Q : XQ} {tm : Tr AV}
    (ht : tm.gt 0 = some X.sv ∧ tm.gt 1 = some (I a) ∧ tm.gt 10 = some (I i) ∧ tm.gt 11 = some (I j0) ∧ tm.gt 168 = none)
    (hK : ∀ j tm2 h2, i ≤ j + 1 → j ≤ j0 → scanDown (fun x => !ltE x cur[a]!) cur i j0 = j → (¬ i ≤ j ∨ (!ltE cur[j]! cur[a]!) = false) → X.At h2 cur → PsB X h h2 → tm2.gt 0 = some X.sv ∧ tm2.gt 1 = some (I a) ∧ tm2.gt 10 = some (I i) ∧ tm2.gt 11 = some (I j) ∧ tm2.gt 168 = none → ret (SC m) 100000 168 121 none (.exit 8) K tm2 h2 Q) :
    run (SC m) 100000 168 121 none c121_61 K tm h Q := by
  refine run_loop (c := c121_62) (I := fun m' tm h' => ∃ j, i ≤ j + 1 ∧ j ≤ j0 ∧ m' = j ∧ X.At h' cur ∧ PsB X h h' ∧ scanDown (fun x => !ltE x cur[a]!) cur i j0 = scanDown (fun x => !ltE x cur[a]!) cur i j ∧ tm.gt 0 = some X.sv ∧ tm.gt 1 = some (I a) ∧ tm.gt 10 = some (I i) ∧ tm.gt 11 = some (I j) ∧ tm.gt 168 = none) (n := j0)
    ⟨j0, by omega, by omega, rfl, hA, Sm.refl _ _, rfl, ht⟩ (by omega) ?_
  rintro j tm h4 ⟨_, hij, hj, rfl, hA4, hS4, hD, t0, t1, ti, tj, tn⟩ Q2 hN2 hE2
  obtain ⟨hb4, eb4, sb4, _, _⟩ := Sm.bump h4 15
  have hAb4 := hA4.sm sb4
  have hSb4 := hS4.tr (PsB.no sb4)
  have xa := x_ia_43 (k := .i64) (b := X.b) (o := 0) (n := X.N) (c := X.cap) (g := X.g) (show a < X.N by omega)
  have la := hAb4.ld (i := a) (by omega)
  by_cases c1 : i ≤ j
  · have d1 : (i : Int) ≤ (j : Int) := by omega
    have xi := x_ia_43 (k := .i64) (b := X.b) (o := 0) (n := X.N) (c := X.cap) (g := X.g) (show j < X.N by omega)
    have li := hAb4.ld (i := j) (by omega)
    have e8 := less_ok (n := m) (by omega) cur[j]! cur[a]! hb4
    cases hl : ltE cur[j]! cur[a]! with
    | false =>
      rw [hl] at e8
      obtain ⟨j, rfl⟩ : ∃ j', j = j' + 1 := ⟨j - 1, by omega⟩
      simp only [F121, SS, Nat.reduceBEq, Nat.reduceEqDiff, Nat.reduceAdd, reduceIte, Nat.reduceMul, t0, t1, ti, tj, tn, eb4, d1, xa, xi, la, li, e8, w_undef, s_int, s_ptr, s_slice, s_bool, and'_eq, iff'_true, wSub1 (show 1 ≤ j + 1 by omega) (show j + 1 ≤ 1000000 by omega), Nat.add_sub_cancel]
      exact hN2 _ _ j (by omega) ⟨j, by omega, by omega, rfl, hAb4, hSb4, by rw [hD]; exact scanD_step (p := fun x => !ltE x cur[a]!) c1 (show (!ltE cur[j + 1]! cur[a]!) = true by simp [hl]), by simp only [SS, Nat.reduceBEq, Nat.reduceEqDiff, Nat.reduceAdd, reduceIte, Nat.reduceMul, t0, t1, ti, tj, tn, and_self]⟩
    | true =>
      rw [hl] at e8
      simp only [F121, SS, Nat.reduceBEq, Nat.reduceEqDiff, Nat.reduceAdd, reduceIte, Nat.reduceMul, t0, t1, ti, tj, tn, eb4, d1, xa, xi, la, li, e8, w_undef, s_int, s_ptr, s_slice, s_bool, and'_eq, iff'_true]
      have hst : ¬ i ≤ j ∨ (!ltE cur[j]! cur[a]!) = false := .inr (by simp [hl])
      rw [scanD_stop (p := fun x => !ltE x cur[a]!) (by omega) hst] at hD
      exact hE2 _ _ _ (by simp) (hK j _ _ hij hj hD hst hAb4 hSb4 (by simp only [SS, Nat.reduceBEq, Nat.reduceEqDiff, Nat.reduceAdd, reduceIte, Nat.reduceMul, t0, t1, ti, tj, tn, and_self]))
  · have d1 : ¬ (i : Int) ≤ (j : Int) := by omega
    simp only [F121, SS, Nat.reduceBEq, Nat.reduceEqDiff, Nat.reduceAdd, reduceIte, Nat.reduceMul, t0, t1, ti, tj, tn, eb4, d1, w_undef, s_int, s_ptr, s_slice, s_bool, and'_eq, iff'_true]
    have hst : ¬ i ≤ j ∨ (!ltE cur[j]! cur[a]!) = false := .inl c1
    rw [scanD_stop (p := fun x => !ltE x cur[a]!) (by omega) hst] at hD
    exact hE2 _ _ _ (by simp) (hK j _ _ hij hj hD hst hAb4 hSb4 (by simp only [SS, Nat.reduceBEq, Nat.reduceEqDiff, Nat.reduceAdd, reduceIte, Nat.reduceMul, t0, t1, ti, tj, tn, and_self]))
theorem swap_at {X : Px} {h : Heap} {D : Array El} (hA : X.At h D) {i j : Nat} (n : Nat) (hi : i < X.N) (hj : j < X.N) :
    ∃ hb h1 h2, Heap.mk h.bs (h.next + n) = hb ∧ hb.ld1 X.b i = some (en D[i]!) ∧ hb.ld1 X.b j = some (en D[j]!) ∧ hb.st1 X.b i (en D[j]!) = some h1 ∧ h1.st1 X.b j (en D[i]!) = some h2 ∧ X.At h2 (swp D i j) ∧ PsB X h h2 := by
  obtain ⟨hb, eb, sb, _, _⟩ := Sm.bump h n
  have hAb := hA.sm sb
  obtain ⟨h1, h2, e1, e2, a2, s2⟩ := hAb.swap hi hj
  exact ⟨hb, h1, h2, eb, hAb.ld hi, hAb.ld hj, e1, e2, a2, (PsB.no sb).tr s2⟩
theorem part_ok {n : Nat} (hn : 3 ≤ n) {X : Px} (hN : X.N ≤ 40000) {h : Heap} {D : Array El} (hA : X.At h D) {a e p : Nat} (hap : a ≤ p) (hpe : p < e) (he : e ≤ X.N) :
    WC (SC n (.fn 121) [X.sv, I a, I e, I p] h) fun r h' => r = .tuple [I (partition ltE D a e p).1, .bool (partition ltE D a e p).2.1] ∧ X.At h' (partition ltE D a e p).2.2 ∧ PsB X h h' := by
  obtain ⟨m, rfl⟩ : ∃ m, n = m + 1 := ⟨n - 1, by omega⟩
  refine call_fn _ f121A rfl (by simp [fn121]) fun QQ hQ => ?_
  simp only [fn121] at hQ
  simp only [fn121, fill_cons, fill_nil, Nat.zero_add, Nat.reduceAdd]
  obtain ⟨hb, h1, h2, eb, l1, l2, e1, e2, a2, s2⟩ := swap_at hA 16 (i := a) (j := p) (by omega) (by omega)
  have xa := x_ia_43 (k := .i64) (b := X.b) (o := 0) (n := X.N) (c := X.cap) (g := X.g) (show a < X.N by omega)
  have xp := x_ia_43 (k := .i64) (b := X.b) (o := 0) (n := X.N) (c := X.cap) (g := X.g) (show p < X.N by omega)
  simp only [F121, SS, Nat.reduceBEq, Nat.reduceEqDiff, Nat.reduceAdd, reduceIte, Nat.reduceMul, eb, xa, xp, l1, l2, e1, e2, s_int, s_ptr, s_slice, s_bool, and'_eq, iff'_true, wAdd1 (show a ≤ 1000000 by omega), wSub1 (show 1 ≤ e by omega) (show e ≤ 1000000 by omega)]
  obtain ⟨cur, hcur⟩ : ∃ cur, swp D a p = cur := ⟨_, rfl⟩
  rw [hcur] at a2
  refine pu1 (m := m) (by omega) hN a2 (a := a) (i0 := a + 1) (j0 := e - 1) (by omega) (by omega) (by omega) (by simp only [SS, Nat.reduceBEq, Nat.reduceEqDiff, Nat.reduceAdd, reduceIte, Nat.reduceMul, and_self]) ?_
  intro i tm h3 hi1 hi2 hU hst3 A3 s3 ⟨t0, t1, t10, t11, tn⟩
  simp only [F121, SS, Nat.reduceBEq, Nat.reduceEqDiff, Nat.reduceAdd, reduceIte, Nat.reduceMul, t0, t1, t10, t11, tn]
  refine pd1 (m := m) (by omega) hN A3 (a := a) (i := i) (j0 := e - 1) (by omega) (by omega) (by omega) (by simp only [SS, Nat.reduceBEq, Nat.reduceEqDiff, Nat.reduceAdd, reduceIte, Nat.reduceMul, t0, t1, t10, t11, tn, and_self]) ?_
  intro j tm h4 hj1 hj2 hD hst4 A4 s4 ⟨t0, t1, t10, t11, tn⟩
  have s04 : PsB X h h4 := (s2.tr s3).tr s4
  have hdef : partition ltE D a e p = if i > j then (j, true, swp cur j a) else ((partLoop ltE a (i + 1) (j - 1) (swp cur i j)).1, false, swp (partLoop ltE a (i + 1) (j - 1) (swp cur i j)).2 (partLoop ltE a (i + 1) (j - 1) (swp cur i j)).1 a) := by
    unfold partition
    simp only [hcur, hU, hD]
  rw [hdef] at hQ
  have xj := x_ia_43 (k := .i64) (b := X.b) (o := 0) (n := X.N) (c := X.cap) (g := X.g) (show j < X.N by omega)
  by_cases c1 : j < i
  · rw [if_pos c1] at hQ
    obtain ⟨hb5, h5, h6, eb5, l5, l6, e5, e6, a6, s6⟩ := swap_at A4 16 (i := j) (j := a) (by omega) (by omega)
    simp only [F121, SS, Nat.reduceBEq, Nat.reduceEqDiff, Nat.reduceAdd, reduceIte, Nat.reduceMul, t0, t1, t10, t11, tn, Int.ofNat_lt, c1, eb5, xa, xj, l5, l6, e5, e6, s_int, s_ptr, s_slice, s_bool, and'_eq, iff'_true]
    refine hQ _ _ _ _ (.inr rfl) (by simp only [SS, Nat.reduceBEq, Nat.reduceEqDiff, Nat.reduceAdd, reduceIte, Nat.reduceMul, tn]) (by simp only [SS, Nat.reduceBEq, Nat.reduceEqDiff, Nat.reduceAdd, reduceIte, Nat.reduceMul]; rfl) ?_
    exact ⟨rfl, a6, s04.tr s6⟩
  · rw [if_neg c1] at hQ
    have hne : i ≠ j := by
      intro e
      subst e
      rcases hst3 with h | h
      · omega
      · rcases hst4 with h' | h'
        · omega
        · rw [h] at h'; cases h'
    obtain ⟨hb5, h5, h6, eb5, l5, l6, e5, e6, a6, s6⟩ := swap_at A4 16 (i := i) (j := j) (by omega) (by omega)
    have xi := x_ia_43 (k := .i64) (b := X.b) (o := 0) (n := X.N) (c := X.cap) (g := X.g) (show i < X.N by omega)
    simp only [F121, SS, Nat.reduceBEq, Nat.reduceEqDiff, Nat.reduceAdd, reduceIte, Nat.reduceMul, t0, t1, t10, t11, tn, Int.ofNat_lt, c1, eb5, xi, xj, l5, l6, e5, e6, s_int, s_ptr, s_slice, s_bool, and'_eq, iff'_true, wAdd1 (show i ≤ 1000000 by omega), wSub1 (show 1 ≤ j by omega) (show j ≤ 1000000 by omega)]
    obtain ⟨R, hR⟩ : ∃ R, partLoop ltE a (i + 1) (j - 1) (swp cur i j) = R := ⟨_, rfl⟩
    rw [hR] at hQ
    refine run_loop (c := c121_47) (I := fun m' tm' h' => ∃ i j cur, a < i ∧ i ≤ j + 1 ∧ j < e ∧ m' = j + 1 - i ∧ X.At h' cur ∧ PsB X h h' ∧ partLoop ltE a i j cur = R ∧ tm'.gt 0 = some X.sv ∧ tm'.gt 1 = some (I a) ∧ tm'.gt 10 = some (I i) ∧ tm'.gt 11 = some (I j) ∧ tm'.gt 168 = none) (n := j - 1 + 1 - (i + 1))
      ⟨i + 1, j - 1, _, by omega, by omega, by omega, rfl, a6, s04.tr s6, hR, by simp only [SS, Nat.reduceBEq, Nat.reduceEqDiff, Nat.reduceAdd, reduceIte, Nat.reduceMul, t0, t1, tn, and_self]⟩ (by omega) ?_
    clear hdef hU hD hR hst3 hst4 c1 hcur
    rintro _ tm h7 ⟨i0, j0, cur, hi0, hij0, hj0, rfl, A7, s7, hE0, t0, t1, t10, t11, tn⟩ Q1 hN1 hE
    rw [partLoop_eq] at hE0
    simp only [F121, SS, Nat.reduceBEq, Nat.reduceEqDiff, Nat.reduceAdd, reduceIte, Nat.reduceMul, t0, t1, t10, t11, tn]
    refine pu2 (m := m) (by omega) hN A7 (a := a) (i0 := i0) (j0 := j0) (by omega) (by omega) (by omega) (by simp only [SS, Nat.reduceBEq, Nat.reduceEqDiff, Nat.reduceAdd, reduceIte, Nat.reduceMul, t0, t1, t10, t11, tn, and_self]) ?_
    intro i tm h8 hi1 hi2 hU hst8 A8 s8 ⟨t0, t1, t10, t11, tn⟩
    simp only [F121, SS, Nat.reduceBEq, Nat.reduceEqDiff, Nat.reduceAdd, reduceIte, Nat.reduceMul, t0, t1, t10, t11, tn]
    refine pd2 (m := m) (by omega) hN A8 (a := a) (i := i) (j0 := j0) (by omega) (by omega) (by omega) (by simp only [SS, Nat.reduceBEq, Nat.reduceEqDiff, Nat.reduceAdd, reduceIte, Nat.reduceMul, t0, t1, t10, t11, tn, and_self]) ?_
    intro j tm h9 hj1 hj2 hD hst9 A9 s9 ⟨t0, t1, t10, t11, tn⟩
    have s09 : PsB X h h9 := (s7.tr s8).tr s9
    simp only [hU, hD] at hE0
    by_cases c1 : j < i
    · rw [if_pos c1] at hE0
      simp only [F121, SS, Nat.reduceBEq, Nat.reduceEqDiff, Nat.reduceAdd, reduceIte, Nat.reduceMul, t0, t1, t10, t11, tn, Int.ofNat_lt, c1]
      refine hE _ _ _ (by simp) ?_
      obtain ⟨hb5, h5, h6, eb5, l5, l6, e5, e6, a6, s6⟩ := swap_at A9 16 (i := j) (j := a) (by omega) (by omega)
      have xj := x_ia_43 (k := .i64) (b := X.b) (o := 0) (n := X.N) (c := X.cap) (g := X.g) (show j < X.N by omega)
      simp only [F121, SS, Nat.reduceBEq, Nat.reduceEqDiff, Nat.reduceAdd, reduceIte, Nat.reduceMul, t0, t1, t10, t11, tn, eb5, xa, xj, l5, l6, e5, e6, s_int, s_ptr, s_slice, s_bool, and'_eq, iff'_true]
      refine hQ _ _ _ _ (.inr rfl) (by simp only [SS, Nat.reduceBEq, Nat.reduceEqDiff, Nat.reduceAdd, reduceIte, Nat.reduceMul, tn]) (by simp only [SS, Nat.reduceBEq, Nat.reduceEqDiff, Nat.reduceAdd, reduceIte, Nat.reduceMul]; rfl) ?_
      rw [← hE0]
      exact ⟨rfl, a6, s09.tr s6⟩
    · rw [if_neg c1] at hE0
      have hne : i ≠ j := by
        intro e
        subst e
        rcases hst8 with h | h
        · omega
        · rcases hst9 with h' | h'
          · omega
          · rw [h] at h'; cases h'
      obtain ⟨hb5, h5, h6, eb5, l5, l6, e5, e6, a6, s6⟩ := swap_at A9 16 (i := i) (j := j) (by omega) (by omega)
      have xi := x_ia_43 (k := .i64) (b := X.b) (o := 0) (n := X.N) (c := X.cap) (g := X.g) (show i < X.N by omega)
      have xj := x_ia_43 (k := .i64) (b := X.b) (o := 0) (n := X.N) (c := X.cap) (g := X.g) (show j < X.N by omega)
      simp only [F121, SS, Nat.reduceBEq, Nat.reduceEqDiff, Nat.reduceAdd, reduceIte, Nat.reduceMul, t0, t1, t10, t11, tn, Int.ofNat_lt, c1, eb5, xi, xj, l5, l6, e5, e6, s_int, s_ptr, s_slice, s_bool, and'_eq, iff'_true, wAdd1 (show i ≤ 1000000 by omega), wSub1 (show 1 ≤ j by omega) (show j ≤ 1000000 by omega)]
      exact hN1 _ _ (j - 1 + 1 - (i + 1)) (by omega) ⟨i + 1, j - 1, _, by omega, by omega, by omega, rfl, a6, s09.tr s6, hE0, by simp only [SS, Nat.reduceBEq, Nat.reduceEqDiff, Nat.reduceAdd, reduceIte, Nat.reduceMul, t0, t1, tn, and_self]⟩
end Go.Proofs.Ytlfednnfkejcjaa

namespace Go.Proofs.Ytlfednnfkejcjaa
open Go.Am Go.Sort
set_option maxRecDepth 10000
theorem pi_scan {m : Nat} (hm : 2 ≤ m) {X : Px} (hN : X.N ≤ 40000) {h : Heap} {cur : Array El} (hA : X.At h cur) {e i0 : Nat} {J : Int} (h1 : 1 ≤ i0) (hie : i0 ≤ e) (he : e ≤ X.N) {a : Nat} {K : List Wt} {Q : XQ} {tm : Tr AV}
    (ht : tm.gt 0 = some X.sv ∧ tm.gt 1 = some (I a) ∧ tm.gt 2 = some (I e) ∧ tm.gt 7 = some (I i0) ∧ tm.gt 8 = some (.int .i64 J) ∧ tm.gt 133 = none)
    (hK : ∀ i tm2 h2, i0 ≤ i → i ≤ e → scanSorted ltE cur e i0 = i → X.At h2 cur → PsB X h h2 → tm2.gt 0 = some X.sv ∧ tm2.gt 1 = some (I a) ∧ tm2.gt 2 = some (I e) ∧ tm2.gt 7 = some (I i) ∧ tm2.gt 8 = some (.int .i64 J) ∧ tm2.gt 133 = none → ret (SC m) 100000 133 118 none (.exit 2) K tm2 h2 Q) :
    run (SC m) 100000 133 118 none c118_19 K tm h Q := by
  refine run_loop (c := c118_20) (I := fun m' tm h' => ∃ i, i0 ≤ i ∧ i ≤ e ∧ m' = e - i ∧ X.At h' cur ∧ PsB X h h' ∧ scanSorted ltE cur e i0 = scanSorted ltE cur e i ∧ tm.gt 0 = some X.sv ∧ tm.gt 1 = some (I a) ∧ tm.gt 2 = some (I e) ∧ tm.gt 7 = some (I i) ∧ tm.gt 8 = some (.int .i64 J) ∧ tm.gt 133 = none) (n := e - i0)
    ⟨i0, by omega, by omega, rfl, hA, Sm.refl _ _, rfl, ht⟩ (by omega) ?_
  rintro _ tm h4 ⟨i, hi, hie, rfl, hA4, hS4, hU, t0, t1, t2, t7, t8, tn⟩ Q2 hN2 hE2
  obtain ⟨hb4, eb4, sb4, _, _⟩ := Sm.bump h4 16
  have hAb4 := hA4.sm sb4
  have hSb4 := hS4.tr (PsB.no sb4)
  by_cases c1 : i < e
  · have xa := x_ia_43 (k := .i64) (b := X.b) (o := 0) (n := X.N) (c := X.cap) (g := X.g) (show i < X.N by omega)
    have xb := x_ia_43 (k := .i64) (b := X.b) (o := 0) (n := X.N) (c := X.cap) (g := X.g) (show i - 1 < X.N by omega)
    have la := hAb4.ld (i := i) (by omega)
    have lb := hAb4.ld (i := i - 1) (by omega)
    have e8 := less_ok (n := m) (by omega) cur[i]! cur[i - 1]! hb4
    cases hl : ltE cur[i]! cur[i - 1]! with
    | false =>
      rw [hl] at e8
      simp only [F118, r118_71, r118_95, SS, Nat.reduceBEq, Nat.reduceEqDiff, Nat.reduceAdd, reduceIte, Nat.reduceMul, t0, t1, t2, t7, t8, tn, eb4, Int.ofNat_lt, c1, xa, xb, la, lb, wSub1 (show 1 ≤ i by omega) (show i ≤ 1000000 by omega), e8, w_undef, s_int, s_ptr, s_slice, s_bool, and'_eq, iff'_true, wAdd1 (show i ≤ 1000000 by omega)]
      exact hN2 _ _ (e - (i + 1)) (by omega) ⟨i + 1, by omega, by omega, rfl, hAb4, hSb4, by rw [hU, scanSorted, if_pos]; simp [c1, hl], by simp only [SS, Nat.reduceBEq, Nat.reduceEqDiff, Nat.reduceAdd, reduceIte, Nat.reduceMul, t0, t1, t2, t7, t8, tn, and_self]⟩
    | true =>
      rw [hl] at e8
      simp only [F118, r118_71, r118_95, SS, Nat.reduceBEq, Nat.reduceEqDiff, Nat.reduceAdd, reduceIte, Nat.reduceMul, t0, t1, t2, t7, t8, tn, eb4, Int.ofNat_lt, c1, xa, xb, la, lb, wSub1 (show 1 ≤ i by omega) (show i ≤ 1000000 by omega), e8, w_undef, s_int, s_ptr, s_slice, s_bool, and'_eq, iff'_true]
      exact hE2 _ _ _ (by simp) (hK i _ _ hi hie (by rw [hU, scanSorted, if_neg]; simp [hl]) hAb4 hSb4 (by simp only [SS, Nat.reduceBEq, Nat.reduceEqDiff, Nat.reduceAdd, reduceIte, Nat.reduceMul, t0, t1, t2, t7, t8, tn, and_self]))
  · simp only [F118, r118_71, r118_95, SS, Nat.reduceBEq, Nat.reduceEqDiff, Nat.reduceAdd, reduceIte, Nat.reduceMul, t0, t1, t2, t7, t8, tn, eb4, Int.ofNat_lt, c1, w_undef, s_int, s_ptr, s_slice, s_bool, and'_eq, iff'_true]
    exact hE2 _ _ _ (by simp) (hK i _ _ hi hie (by rw [hU, scanSorted, if_neg]; simp [c1]) hAb4 hSb4 (by simp only [SS, Nat.reduceBEq, Nat.reduceEqDiff, Nat.reduceAdd, reduceIte, Nat.reduceMul, t0, t1, t2, t7, t8, tn, and_self]))
theorem pi_down {m : Nat} (hm : 2 ≤ m) {X : Px} (hN : X.N ≤ 40000) {h : Heap} {D : Array El} (hA : X.At h D) {e i a j0 : Nat} {J : Int} (hj : j0 < X.N) {K : List Wt} {Q : XQ} {tm : Tr AV}
    (ht : tm.gt 0 = some X.sv ∧ tm.gt 1 = some (I a) ∧ tm.gt 2 = some (I e) ∧ tm.gt 7 = some (I i) ∧ tm.gt 8 = some (.int .i64 J) ∧ tm.gt 9 = some (I j0) ∧ tm.gt 133 = none)
    (hK : ∀ tm2 h2, X.At h2 (shiftDown ltE j0 D) → PsB X h h2 → tm2.gt 0 = some X.sv ∧ tm2.gt 1 = some (I a) ∧ tm2.gt 2 = some (I e) ∧ tm2.gt 7 = some (I i) ∧ tm2.gt 8 = some (.int .i64 J) ∧ tm2.gt 133 = none → ret (SC m) 100000 133 118 none (.exit 4) K tm2 h2 Q) :
    run (SC m) 100000 133 118 none c118_53 K tm h Q := by
  refine run_loop (c := c118_54) (I := fun m' tm h' => ∃ j cur, j ≤ j0 ∧ m' = j ∧ X.At h' cur ∧ PsB X h h' ∧ shiftDown ltE j cur = shiftDown ltE j0 D ∧ tm.gt 0 = some X.sv ∧ tm.gt 1 = some (I a) ∧ tm.gt 2 = some (I e) ∧ tm.gt 7 = some (I i) ∧ tm.gt 8 = some (.int .i64 J) ∧ tm.gt 9 = some (I j) ∧ tm.gt 133 = none) (n := j0)
    ⟨j0, D, by omega, rfl, hA, Sm.refl _ _, rfl, ht⟩ (by omega) ?_
  rintro j tm h4 ⟨_, cur, hjj, rfl, hA4, hS4, hU, t0, t1, t2, t7, t8, t9, tn⟩ Q2 hN2 hE2
  cases j with
  | zero =>
    have d1 : ¬ (1 : Int) ≤ ((0 : Nat) : Int) := by decide
    simp only [F118, r118_71, r118_95, SS, Nat.reduceBEq, Nat.reduceEqDiff, Nat.reduceAdd, reduceIte, Nat.reduceMul, t0, t1, t2, t7, t8, t9, tn, d1]
    exact hE2 _ _ _ (by simp) (hK _ _ (by rw [← hU]; exact hA4) hS4 (by simp only [SS, Nat.reduceBEq, Nat.reduceEqDiff, Nat.reduceAdd, reduceIte, Nat.reduceMul, t0, t1, t2, t7, t8, tn, and_self]))
  | succ j =>
    have d1 : (1 : Int) ≤ ((j + 1 : Nat) : Int) := by omega
    obtain ⟨hb4, eb4, sb4, _, _⟩ := Sm.bump h4 11
    have hAb4 := hA4.sm sb4
    have hSb4 := hS4.tr (PsB.no sb4)
    have xa := x_ia_43 (k := .i64) (b := X.b) (o := 0) (n := X.N) (c := X.cap) (g := X.g) (show j + 1 < X.N by omega)
    have xb := x_ia_43 (k := .i64) (b := X.b) (o := 0) (n := X.N) (c := X.cap) (g := X.g) (show j < X.N by omega)
    have la := hAb4.ld (i := j + 1) (by omega)
    have lb := hAb4.ld (i := j) (by omega)
    have ew : IntKind.i64.wrap (((j + 1 : Nat) : Int) - 1) = (j : Int) := by rw [wrap_i64 (by omega) (by omega)]; omega
    have e8 := less_ok (n := m) (by omega) cur[j + 1]! cur[j]! hb4
    cases hl : ltE cur[j + 1]! cur[j]! with
    | true =>
      rw [hl] at e8
      obtain ⟨hb5, h5, h6, eb5, l5, l6, e5, e6, a6, s6⟩ := swap_at hAb4 18 (i := j + 1) (j := j) (by omega) (by omega)
      simp only [F118, r118_71, r118_95, SS, Nat.reduceBEq, Nat.reduceEqDiff, Nat.reduceAdd, reduceIte, Nat.reduceMul, t0, t1, t2, t7, t8, t9, tn, d1, eb4, xa, xb, la, lb, ew, e8, eb5, l5, l6, e5, e6, w_undef, s_int, s_ptr, s_slice, s_bool, and'_eq, iff'_true]
      exact hN2 _ _ j (by omega) ⟨j, _, by omega, rfl, a6, hSb4.tr s6, by rw [← hU, shiftDown, if_neg]; simp [hl], by simp only [SS, Nat.reduceBEq, Nat.reduceEqDiff, Nat.reduceAdd, reduceIte, Nat.reduceMul, t0, t1, t2, t7, t8, tn, and_self]⟩
    | false =>
      rw [hl] at e8
      simp only [F118, r118_71, r118_95, SS, Nat.reduceBEq, Nat.reduceEqDiff, Nat.reduceAdd, reduceIte, Nat.reduceMul, t0, t1, t2, t7, t8, t9, tn, d1, eb4, xa, xb, la, lb, ew, e8, w_undef, s_int, s_ptr, s_slice, s_bool, and'_eq, iff'_true]
      exact hE2 _ _ _ (by simp) (hK _ _ (by rw [← hU, shiftDown, if_pos (by simp [hl])]; exact hAb4) hSb4 (by simp only [SS, Nat.reduceBEq, Nat.reduceEqDiff, Nat.reduceAdd, reduceIte, Nat.reduceMul, t0, t1, t2, t7, t8, tn, and_self]))
theorem pi_up {m : Nat} (hm : 2 ≤ m) {X : Px} (hN : X.N ≤ 40000) {h : Heap} {D : Array El} (hA : X.At h D) {e i a j0 : Nat} {J : Int} (hj1 : 1 ≤ j0) (hj : j0 ≤ e) (he : e ≤ X.N) {K : List Wt} {Q : XQ} {tm : Tr AV}
    (ht : tm.gt 0 = some X.sv ∧ tm.gt 1 = some (I a) ∧ tm.gt 2 = some (I e) ∧ tm.gt 7 = some (I i) ∧ tm.gt 8 = some (.int .i64 J) ∧ tm.gt 10 = some (I j0) ∧ tm.gt 133 = none)
    (hK : ∀ tm2 h2, X.At h2 (shiftUp ltE e j0 D) → PsB X h h2 → tm2.gt 0 = some X.sv ∧ tm2.gt 1 = some (I a) ∧ tm2.gt 2 = some (I e) ∧ tm2.gt 7 = some (I i) ∧ tm2.gt 8 = some (.int .i64 J) ∧ tm2.gt 133 = none → ret (SC m) 100000 133 118 none (.exit 6) K tm2 h2 Q) :
    run (SC m) 100000 133 118 none c118_77 K tm h Q := by
  refine run_loop (c := c118_78) (I := fun m' tm h' => ∃ j cur, j0 ≤ j ∧ j ≤ e ∧ m' = e - j ∧ X.At h' cur ∧ PsB X h h' ∧ shiftUp ltE e j cur = shiftUp ltE e j0 D ∧ tm.gt 0 = some X.sv ∧ tm.gt 1 = some (I a) ∧ tm.gt 2 = some (I e) ∧ tm.gt 7 = some (I i) ∧ tm.gt 8 = some (.int .i64 J) ∧ tm.gt 10 = some (I j) ∧ tm.gt 133 = none) (n := e - j0)
    ⟨j0, D, by omega, by omega, rfl, hA, Sm.refl _ _, rfl, ht⟩ (by omega) ?_
  rintro _ tm h4 ⟨j, cur, hjj, hje, rfl, hA4, hS4, hU, t0, t1, t2, t7, t8, t10, tn⟩ Q2 hN2 hE2
  by_cases c1 : j < e
  · obtain ⟨hb4, eb4, sb4, _, _⟩ := Sm.bump h4 11
    have hAb4 := hA4.sm sb4
    have hSb4 := hS4.tr (PsB.no sb4)
    have xa := x_ia_43 (k := .i64) (b := X.b) (o := 0) (n := X.N) (c := X.cap) (g := X.g) (show j < X.N by omega)
    have xb := x_ia_43 (k := .i64) (b := X.b) (o := 0) (n := X.N) (c := X.cap) (g := X.g) (show j - 1 < X.N by omega)
    have la := hAb4.ld (i := j) (by omega)
    have lb := hAb4.ld (i := j - 1) (by omega)
    have ew := wSub1 (show 1 ≤ j by omega) (show j ≤ 1000000 by omega)
    have e8 := less_ok (n := m) (by omega) cur[j]! cur[j - 1]! hb4
    cases hl : ltE cur[j]! cur[j - 1]! with
    | true =>
      rw [hl] at e8
      obtain ⟨hb5, h5, h6, eb5, l5, l6, e5, e6, a6, s6⟩ := swap_at hAb4 18 (i := j) (j := j - 1) (by omega) (by omega)
      simp only [F118, r118_71, r118_95, SS, Nat.reduceBEq, Nat.reduceEqDiff, Nat.reduceAdd, reduceIte, Nat.reduceMul, t0, t1, t2, t7, t8, t10, tn, Int.ofNat_lt, c1, eb4, xa, xb, la, lb, ew, e8, eb5, l5, l6, e5, e6, w_undef, s_int, s_ptr, s_slice, s_bool, and'_eq, iff'_true, wAdd1 (show j ≤ 1000000 by omega)]
      exact hN2 _ _ (e - (j + 1)) (by omega) ⟨j + 1, _, by omega, by omega, rfl, a6, hSb4.tr s6, by rw [← hU]; conv => rhs; rw [shiftUp, if_pos c1, if_neg (by simp [hl])], by simp only [SS, Nat.reduceBEq, Nat.reduceEqDiff, Nat.reduceAdd, reduceIte, Nat.reduceMul, t0, t1, t2, t7, t8, tn, and_self]⟩
    | false =>
      rw [hl] at e8
      simp only [F118, r118_71, r118_95, SS, Nat.reduceBEq, Nat.reduceEqDiff, Nat.reduceAdd, reduceIte, Nat.reduceMul, t0, t1, t2, t7, t8, t10, tn, Int.ofNat_lt, c1, eb4, xa, xb, la, lb, ew, e8, w_undef, s_int, s_ptr, s_slice, s_bool, and'_eq, iff'_true]
      exact hE2 _ _ _ (by simp) (hK _ _ (by rw [← hU, shiftUp, if_pos c1, if_pos (by simp [hl])]; exact hAb4) hSb4 (by simp only [SS, Nat.reduceBEq, Nat.reduceEqDiff, Nat.reduceAdd, reduceIte, Nat.reduceMul, t0, t1, t2, t7, t8, tn, and_self]))
  · simp only [F118, r118_71, r118_95, SS, Nat.reduceBEq, Nat.reduceEqDiff, Nat.reduceAdd, reduceIte, Nat.reduceMul, t0, t1, t2, t7, t8, t10, tn, Int.ofNat_lt, c1]
    exact hE2 _ _ _ (by simp) (hK _ _ (by rw [← hU, shiftUp, if_neg c1]; exact hA4) hS4 (by simp only [SS, Nat.reduceBEq, Nat.reduceEqDiff, Nat.reduceAdd, reduceIte, Nat.reduceMul, t0, t1, t2, t7, t8, tn, and_self]))
theorem pins_ok {n : Nat} (hn : 3 ≤ n) {X : Px} (hN : X.N ≤ 40000) {h : Heap} {D : Array El} (hA : X.At h D) {a e : Nat} (hae : a < e) (he : e ≤ X.N) :
    WC (SC n (.fn 118) [X.sv, I a, I e] h) fun r h' => r = .bool (partialInsertionSort ltE D a e).2 ∧ X.At h' (partialInsertionSort ltE D a e).1 ∧ PsB X h h' := by
  obtain ⟨m, rfl⟩ : ∃ m, n = m + 1 := ⟨n - 1, by omega⟩
  refine call_fn _ f118A rfl (by simp [fn118]) fun QQ hQ => ?_
  simp only [fn118] at hQ
  simp only [fn118, fill_cons, fill_nil, Nat.zero_add, Nat.reduceAdd]
  obtain ⟨R, hR⟩ : ∃ R, partialInsertionSort ltE D a e = R := ⟨_, rfl⟩
  rw [hR] at hQ
  have hR : partialIns ltE a e 5 (a + 1) D = R := hR
  simp only [F118, r118_71, r118_95, SS, Nat.reduceBEq, Nat.reduceEqDiff, Nat.reduceAdd, reduceIte, Nat.reduceMul, wAdd1 (show a ≤ 1000000 by omega)]
  refine run_loop (c := c118_9) (I := fun m' tm' h' => ∃ s i cur, s ≤ 5 ∧ m' = s ∧ a + 1 ≤ i ∧ i ≤ e ∧ X.At h' cur ∧ PsB X h h' ∧ partialIns ltE a e s i cur = R ∧ tm'.gt 0 = some X.sv ∧ tm'.gt 1 = some (I a) ∧ tm'.gt 2 = some (I e) ∧ tm'.gt 7 = some (I i) ∧ tm'.gt 8 = some (I (5 - s)) ∧ tm'.gt 133 = none) (n := 5)
    ⟨5, a + 1, D, by omega, rfl, by omega, by omega, hA, Sm.refl _ _, hR, by simp [gt_same, gt_other, gt_leaf]⟩ (by omega) ?_
  rintro s tm h1 ⟨_, i0, cur, hs, rfl, hi1, hi2, A1, s1, hE0, t0, t1, t2, t7, t8, tn⟩ Q1 hN1 hE
  cases s with
  | zero =>
    have d1 : ¬ ((5 - 0 : Nat) : Int) < 5 := by decide
    simp only [F118, r118_71, r118_95, SS, Nat.reduceBEq, Nat.reduceEqDiff, Nat.reduceAdd, reduceIte, Nat.reduceMul, t0, t1, t2, t7, t8, tn, d1]
    refine hE _ _ _ (by simp) ?_
    simp only [F118, r118_71, r118_95, SS, Nat.reduceBEq, Nat.reduceEqDiff, Nat.reduceAdd, reduceIte, Nat.reduceMul, tn]
    refine hQ _ _ _ _ (.inr rfl) (by simp only [SS, Nat.reduceBEq, Nat.reduceEqDiff, Nat.reduceAdd, reduceIte, Nat.reduceMul, tn]) (by simp only [SS, Nat.reduceBEq, Nat.reduceEqDiff, Nat.reduceAdd, reduceIte, Nat.reduceMul]; rfl) ?_
    rw [← hE0]; exact ⟨rfl, A1, s1⟩
  | succ s =>
    rw [partialIns_succ] at hE0
    unfold fixUp fixDown at hE0
    have d1 : ((5 - (s + 1) : Nat) : Int) < 5 := by omega
    simp only [F118, r118_71, r118_95, SS, Nat.reduceBEq, Nat.reduceEqDiff, Nat.reduceAdd, reduceIte, Nat.reduceMul, t0, t1, t2, t7, t8, tn, d1]
    refine pi_scan (J := ((5 - (s + 1) : Nat) : Int)) (m := m) (by omega) hN A1 (e := e) (i0 := i0) (a := a) (by omega) hi2 he (by simp only [SS, Nat.reduceBEq, Nat.reduceEqDiff, Nat.reduceAdd, reduceIte, Nat.reduceMul, t0, t1, t2, t7, t8, tn, and_self]) ?_
    rintro i tm h2 hi3 hi4 hU A2 s2 ⟨t0, t1, t2, t7, t8, tn⟩
    rw [hU] at hE0
    have s02 := s1.tr s2
    by_cases c1 : i = e
    · rw [if_pos c1] at hE0
      subst c1
      simp only [F118, r118_71, r118_95, SS, Nat.reduceBEq, Nat.reduceEqDiff, Nat.reduceAdd, reduceIte, Nat.reduceMul, t0, t1, t2, t7, t8, tn]
      refine hE _ _ _ (by simp) ?_
      simp only [SS, Nat.reduceBEq, Nat.reduceEqDiff, Nat.reduceAdd, reduceIte, Nat.reduceMul]
      refine hQ _ _ _ _ (.inr rfl) (by simp only [SS, Nat.reduceBEq, Nat.reduceEqDiff, Nat.reduceAdd, reduceIte, Nat.reduceMul, tn]) (by simp only [SS, Nat.reduceBEq, Nat.reduceEqDiff, Nat.reduceAdd, reduceIte, Nat.reduceMul]; rfl) ?_
      rw [← hE0]; exact ⟨rfl, A2, s02⟩
    · rw [if_neg c1] at hE0
      have c1' : ¬ (i : Int) = (e : Int) := by omega
      have w0 := wSub (show a ≤ e by omega) (show e ≤ 1000000 by omega)
      by_cases c2 : e - a < 50
      · rw [if_pos c2] at hE0
        have d2 : ((e - a : Nat) : Int) < 50 := by omega
        simp only [F118, r118_71, r118_95, SS, Nat.reduceBEq, Nat.reduceEqDiff, Nat.reduceAdd, reduceIte, Nat.reduceMul, t0, t1, t2, t7, t8, tn, c1', w0, d2]
        refine hE _ _ _ (by simp) ?_
        simp only [SS, Nat.reduceBEq, Nat.reduceEqDiff, Nat.reduceAdd, reduceIte, Nat.reduceMul]
        refine hQ _ _ _ _ (.inr rfl) (by simp only [SS, Nat.reduceBEq, Nat.reduceEqDiff, Nat.reduceAdd, reduceIte, Nat.reduceMul, tn]) (by simp only [SS, Nat.reduceBEq, Nat.reduceEqDiff, Nat.reduceAdd, reduceIte, Nat.reduceMul]; rfl) ?_
        rw [← hE0]; exact ⟨rfl, A2, s02⟩
      · rw [if_neg c2] at hE0
        have d2 : ¬ ((e - a : Nat) : Int) < 50 := by omega
        obtain ⟨hb5, h5, h6, eb5, l5, l6, e5, e6, a6, s6⟩ := swap_at A2 18 (i := i) (j := i - 1) (by omega) (by omega)
        have xa := x_ia_43 (k := .i64) (b := X.b) (o := 0) (n := X.N) (c := X.cap) (g := X.g) (show i < X.N by omega)
        have xb := x_ia_43 (k := .i64) (b := X.b) (o := 0) (n := X.N) (c := X.cap) (g := X.g) (show i - 1 < X.N by omega)
        have w1 := wSub1 (show 1 ≤ i by omega) (show i ≤ 1000000 by omega)
        have w2 := wSub (show a ≤ i by omega) (show i ≤ 1000000 by omega)
        have w3 := wSub (show i ≤ e by omega) (show e ≤ 1000000 by omega)
        -- behind both shifts
        have nx : ∀ tm h7 cur7, X.At h7 cur7 → PsB X h h7 → partialIns ltE a e s i cur7 = R → tm.gt 0 = some X.sv → tm.gt 1 = some (I a) → tm.gt 2 = some (I e) → tm.gt 7 = some (I i) → tm.gt 8 = some (I (5 - (s + 1))) → tm.gt 133 = none → run (SC m) 100000 133 118 none c118_95 [] tm h7 Q1 := by
          intro tm h7 cur7 A7 s7 hE7 t0 t1 t2 t7 t8 tn
          have w9 := wAdd1 (show 5 - (s + 1) ≤ 1000000 by omega)
          simp only [F118, r118_71, r118_95, SS, Nat.reduceBEq, Nat.reduceEqDiff, Nat.reduceAdd, reduceIte, Nat.reduceMul, t0, t1, t2, t7, t8, tn, w9]
          exact hN1 _ _ s (by omega) ⟨s, i, cur7, by omega, rfl, by omega, by omega, A7, s7, hE7, by simp only [SS, Nat.reduceBEq, Nat.reduceEqDiff, Nat.reduceAdd, reduceIte, Nat.reduceMul, t0, t1, t2, t7, tn, true_and, and_true]; rw [show 5 - (s + 1) + 1 = 5 - s by omega]⟩
        -- behind the first shift
        have up : ∀ tm h7 cur7, X.At h7 cur7 → PsB X h h7 → partialIns ltE a e s i (if e - i ≥ 2 then shiftUp ltE e (i + 1) cur7 else cur7) = R → tm.gt 0 = some X.sv → tm.gt 1 = some (I a) → tm.gt 2 = some (I e) → tm.gt 7 = some (I i) → tm.gt 8 = some (I (5 - (s + 1))) → tm.gt 133 = none → run (SC m) 100000 133 118 none c118_71 [.blk 1, .seq c118_95] tm h7 Q1 := by
          intro tm h7 cur7 A7 s7 hE7 t0 t1 t2 t7 t8 tn
          by_cases c4 : 2 ≤ e - i
          · rw [if_pos c4] at hE7
            have d4 : (2 : Int) ≤ ((e - i : Nat) : Int) := by omega
            simp only [F118, r118_71, SS, Nat.reduceBEq, Nat.reduceEqDiff, Nat.reduceAdd, reduceIte, Nat.reduceMul, t0, t1, t2, t7, t8, tn, w3, d4, wAdd1 (show i ≤ 1000000 by omega)]
            refine pi_up (J := ((5 - (s + 1) : Nat) : Int)) (m := m) (by omega) hN A7 (e := e) (i := i) (a := a) (j0 := i + 1) (by omega) (by omega) he (by simp only [SS, Nat.reduceBEq, Nat.reduceEqDiff, Nat.reduceAdd, reduceIte, Nat.reduceMul, t0, t1, t2, t7, t8, tn, and_self]) ?_
            rintro tm h8 A8 s8 ⟨t0, t1, t2, t7, t8, tn⟩
            simp only [SS, Nat.reduceBEq, Nat.reduceEqDiff, Nat.reduceAdd, reduceIte, Nat.reduceMul]
            exact nx _ _ _ A8 (s7.tr s8) hE7 t0 t1 t2 t7 t8 tn
          · rw [if_neg c4] at hE7
            have d4 : ¬ (2 : Int) ≤ ((e - i : Nat) : Int) := by omega
            simp only [F118, r118_71, SS, Nat.reduceBEq, Nat.reduceEqDiff, Nat.reduceAdd, reduceIte, Nat.reduceMul, t0, t1, t2, t7, t8, tn, w3, d4]
            exact nx _ _ _ A7 s7 hE7 (by simp only [SS, Nat.reduceBEq, t0]) (by simp only [SS, Nat.reduceBEq, t1]) (by simp only [SS, Nat.reduceBEq, t2]) (by simp only [SS, Nat.reduceBEq, t7]) (by simp only [SS, Nat.reduceBEq, t8]) (by simp only [SS, Nat.reduceBEq, Nat.reduceEqDiff, Nat.reduceAdd, reduceIte, Nat.reduceMul, tn])
        by_cases c3 : 2 ≤ i - a
        · rw [if_pos (show i - a ≥ 2 from c3)] at hE0
          have d3 : (2 : Int) ≤ ((i - a : Nat) : Int) := by omega
          simp only [F118, r118_95, SS, Nat.reduceBEq, Nat.reduceEqDiff, Nat.reduceAdd, reduceIte, Nat.reduceMul, t0, t1, t2, t7, t8, tn, c1', w0, d2, eb5, xa, xb, w1, l5, l6, e5, e6, w2, d3, s_int, s_ptr, s_slice, s_bool, and'_eq, iff'_true]
          refine pi_down (J := ((5 - (s + 1) : Nat) : Int)) (m := m) (by omega) hN a6 (e := e) (i := i) (a := a) (j0 := i - 1) (by omega) (by simp only [SS, Nat.reduceBEq, Nat.reduceEqDiff, Nat.reduceAdd, reduceIte, Nat.reduceMul, t0, t1, t2, t7, t8, tn, and_self]) ?_
          rintro tm h8 A8 s8 ⟨t0, t1, t2, t7, t8, tn⟩
          simp only [SS, Nat.reduceBEq, Nat.reduceEqDiff, Nat.reduceAdd, reduceIte, Nat.reduceMul]
          exact up _ _ _ A8 ((s02.tr s6).tr s8) hE0 t0 t1 t2 t7 t8 tn
        · rw [if_neg (show ¬ i - a ≥ 2 from c3)] at hE0
          have d3 : ¬ (2 : Int) ≤ ((i - a : Nat) : Int) := by omega
          simp only [F118, r118_95, SS, Nat.reduceBEq, Nat.reduceEqDiff, Nat.reduceAdd, reduceIte, Nat.reduceMul, t0, t1, t2, t7, t8, tn, c1', w0, d2, eb5, xa, xb, w1, l5, l6, e5, e6, w2, d3, s_int, s_ptr, s_slice, s_bool, and'_eq, iff'_true]
          exact up _ _ _ a6 (s02.tr s6) hE0 (by simp only [SS, Nat.reduceBEq, t0]) (by simp only [SS, Nat.reduceBEq, t1]) (by simp only [SS, Nat.reduceBEq, t2]) (by simp only [SS, Nat.reduceBEq, t7]) (by simp only [SS, Nat.reduceBEq, t8]) (by simp only [SS, Nat.reduceBEq, Nat.reduceEqDiff, Nat.reduceAdd, reduceIte, Nat.reduceMul, tn])
end Go.Proofs.Ytlfednnfkejcjaa

namespace Go.Proofs.Ytlfednnfkejcjaa
open Go.Am Go.Sort
set_option maxRecDepth 10000
theorem swoE : SWO ltE := swo_ltInt
def PdqAt (X : Px) (L : Nat) : Prop := ∀ {n : Nat} {h : Heap} {D : Array El} {a e lim : Nat}, L + 7 ≤ n → bitsLen (e - a) ≤ L → X.At h D → a ≤ e → e ≤ X.N → lim ≤ 1000 → Below ltE a e D →
    WC (SC n (.fn 109) [X.sv, I a, I e, I lim] h) fun r h' => ∃ D', X.At h' D' ∧ PermIn a e D D' ∧ SortedIn ltE a e D' ∧ PsB X h h'
theorem pdq_zero {X : Px} (hN : X.N ≤ 40000) : PdqAt X 0 := by
  intro n h D a e lim hn hL hA hae he hlim hB
  have h0 : e - a < 2 ^ 0 := (bitsLen_le_iff _ _).1 hL
  have h12 : ((e - a : Nat) : Int) ≤ 12 := by omega
  obtain ⟨m, rfl⟩ : ∃ m, n = m + 1 := ⟨n - 1, by omega⟩
  refine call_fn _ f109A rfl (by simp [fn109]) fun QQ hQ => ?_
  simp only [fn109] at hQ
  simp only [fn109, fill_cons, fill_nil, Nat.zero_add, Nat.reduceAdd]
  obtain ⟨_, h1, e1, a1, s1⟩ := insI_ok (n := m) (by omega) hN hA hae he
  obtain ⟨p1, p2⟩ := insertionSort_holds swoE D a e hae (by rw [hA.sz]; exact he)
  have w0 := wSub hae (show e ≤ 1000000 by omega)
  simp only [F109, r109_65, r109_55, r109_45, r109_33, SS, Nat.reduceBEq, Nat.reduceEqDiff, Nat.reduceAdd, reduceIte, Nat.reduceMul]
  refine run_loop (c := c109_6) (I := fun m' tm' h' => m' = 0 ∧ h' = h ∧ tm'.gt 0 = some X.sv ∧ tm'.gt 1 = some (I a) ∧ tm'.gt 2 = some (I e) ∧ tm'.gt 134 = none) (n := 0) ⟨rfl, rfl, by simp [gt_same, gt_other, gt_leaf]⟩ (by omega) ?_
  rintro _ tm h' ⟨rfl, rfl, t0, t1, t2, tn⟩ Q1 hN1 hE
  simp only [F109, r109_65, r109_55, r109_45, r109_33, SS, Nat.reduceBEq, Nat.reduceEqDiff, Nat.reduceAdd, reduceIte, Nat.reduceMul, t0, t1, t2, tn, w0, h12, e1]
  refine hE _ _ _ (by simp) ?_
  simp only [SS, Nat.reduceBEq, Nat.reduceEqDiff, Nat.reduceAdd, reduceIte, Nat.reduceMul]
  exact hQ _ _ _ _ (.inr rfl) (by simp only [SS, Nat.reduceBEq, Nat.reduceEqDiff, Nat.reduceAdd, reduceIte, Nat.reduceMul, tn]) (by simp only [SS, Nat.reduceBEq, Nat.reduceEqDiff, Nat.reduceAdd, reduceIte, Nat.reduceMul]; rfl) ⟨_, a1, p1, p2, s1⟩
set_option maxHeartbeats 1000000 in
theorem pdq_succ {X : Px} (hN : X.N ≤ 40000) {L : Nat} (ih : PdqAt X L) : PdqAt X (L + 1) := by
  intro n h D a e lim hn hL hA hae he hlim hB
  obtain ⟨m, rfl⟩ : ∃ m, n = m + 1 := ⟨n - 1, by omega⟩
  refine call_fn _ f109A rfl (by simp [fn109]) fun QQ hQ => ?_
  simp only [fn109] at hQ
  simp only [fn109, fill_cons, fill_nil, Nat.zero_add, Nat.reduceAdd]
  simp only [F109, r109_65, r109_55, r109_45, r109_33, SS, Nat.reduceBEq, Nat.reduceEqDiff, Nat.reduceAdd, reduceIte, Nat.reduceMul]
  have hsz := hA.sz
  refine run_loop (c := c109_6) (I := fun m' tm' h' => ∃ a' e' lim wb wp cur, m' = e' - a' ∧ a ≤ a' ∧ a' ≤ e' ∧ e' ≤ e ∧ lim ≤ 1000 ∧ X.At h' cur ∧ PsB X h h' ∧ Below ltE a' e' cur ∧ (∀ R, PermIn a' e' cur R → SortedIn ltE a' e' R → PermIn a e D R ∧ SortedIn ltE a e R) ∧ tm'.gt 0 = some X.sv ∧ tm'.gt 1 = some (I a') ∧ tm'.gt 2 = some (I e') ∧ tm'.gt 3 = some (I lim) ∧ tm'.gt 8 = some (.bool wb) ∧ tm'.gt 9 = some (.bool wp) ∧ tm'.gt 134 = none) (n := e - a)
    ⟨a, e, lim, true, true, D, rfl, by omega, hae, by omega, hlim, hA, Sm.refl _ _, hB, fun R h1 h2 => ⟨h1, h2⟩, by simp [gt_same, gt_other, gt_leaf]⟩ (by omega) ?_
  rintro _ tm h1 ⟨x, y, lim, wb, wp, cur, rfl, hx1, hxy, hy, hlim, A1, s1, B1, fin, t0, t1, t2, t3, t8, t9, tn⟩ Q1 hN1 hE
  have hyN : y ≤ X.N := by omega
  have hszc : cur.size = X.N := A1.sz
  have w0 := wSub hxy (show y ≤ 1000000 by omega)
  by_cases c12 : y - x ≤ 12
  · have d12 : ((y - x : Nat) : Int) ≤ 12 := by omega
    obtain ⟨_, h2, e2, A2, s2⟩ := insI_ok (n := m) (by omega) hN A1 hxy hyN
    obtain ⟨p1, p2⟩ := insertionSort_holds swoE cur x y hxy (by omega)
    obtain ⟨f1, f2⟩ := fin _ p1 p2
    simp only [F109, r109_65, r109_55, r109_45, r109_33, SS, Nat.reduceBEq, Nat.reduceEqDiff, Nat.reduceAdd, reduceIte, Nat.reduceMul, t0, t1, t2, t3, t8, t9, tn, w0, d12, e2]
    refine hE _ _ _ (by simp) ?_
    simp only [SS, Nat.reduceBEq, Nat.reduceEqDiff, Nat.reduceAdd, reduceIte, Nat.reduceMul]
    exact hQ _ _ _ _ (.inr rfl) (by simp only [SS, Nat.reduceBEq, Nat.reduceEqDiff, Nat.reduceAdd, reduceIte, Nat.reduceMul, tn]) (by simp only [SS, Nat.reduceBEq, Nat.reduceEqDiff, Nat.reduceAdd, reduceIte, Nat.reduceMul]; rfl) ⟨_, A2, f1, f2, s1.tr s2⟩
  have d12 : ¬ ((y - x : Nat) : Int) ≤ 12 := by omega
  by_cases cl : lim = 0
  · subst cl
    obtain ⟨_, h2, e2, A2, s2⟩ := heap_ok (n := m) (by omega) hN A1 (show x < y by omega) hyN
    obtain ⟨p1, p2⟩ := heapSort_holds swoE cur x y hxy (by omega)
    obtain ⟨f1, f2⟩ := fin _ p1 p2
    have dl : ((0 : Nat) : Int) = 0 := rfl
    simp only [F109, r109_65, r109_55, r109_45, r109_33, SS, Nat.reduceBEq, Nat.reduceEqDiff, Nat.reduceAdd, reduceIte, Nat.reduceMul, t0, t1, t2, t3, t8, t9, tn, w0, d12, dl, e2]
    refine hE _ _ _ (by simp) ?_
    simp only [SS, Nat.reduceBEq, Nat.reduceEqDiff, Nat.reduceAdd, reduceIte, Nat.reduceMul]
    exact hQ _ _ _ _ (.inr rfl) (by simp only [SS, Nat.reduceBEq, Nat.reduceEqDiff, Nat.reduceAdd, reduceIte, Nat.reduceMul, tn]) (by simp only [SS, Nat.reduceBEq, Nat.reduceEqDiff, Nat.reduceAdd, reduceIte, Nat.reduceMul]; rfl) ⟨_, A2, f1, f2, s1.tr s2⟩
  have dl : ¬ (lim : Int) = 0 := by omega
  have hbl : bitsLen (y - x) ≤ L + 1 := Nat.le_trans (bitsLen_mono (by omega)) hL
  -- the cut
  have k3 : ∀ tm h2 D2 p lim wb wp, lim ≤ 1000 → x ≤ p → p < y → X.At h2 D2 → PsB X h h2 → PermIn x y cur D2 → tm.gt 0 = some X.sv → tm.gt 1 = some (I x) → tm.gt 2 = some (I y) → tm.gt 3 = some (I lim) → tm.gt 8 = some (.bool wb) → tm.gt 9 = some (.bool wp) → tm.gt 10 = some (I (y - x)) → tm.gt 11 = some (I p) → tm.gt 134 = none →
      run (SC m) 100000 134 109 none c109_55 [.blk 1] tm h2 Q1 := by
    intro tm h2 D2 p lim wb wp hlim hp1 hp2 A2 s2 P2 t0 t1 t2 t3 t8 t9 t10 t11 tn
    have hsz2 : D2.size = X.N := A2.sz
    have B2 : Below ltE x y D2 := B1.perm (by omega) P2
    obtain ⟨hb, eb, sb, _, _⟩ := Sm.bump h2 15
    have Ab := A2.sm sb
    have sB := s2.tr (PsB.no sb)
    -- by partition
    have kp : ∀ tm, tm.gt 0 = some X.sv → tm.gt 1 = some (I x) → tm.gt 2 = some (I y) → tm.gt 3 = some (I lim) → tm.gt 8 = some (.bool wb) → tm.gt 9 = some (.bool wp) → tm.gt 10 = some (I (y - x)) → tm.gt 11 = some (I p) → tm.gt 134 = none →
        run (SC m) 100000 134 109 none c109_65 [.blk 1] tm hb Q1 := by
      intro tm t0 t1 t2 t3 t8 t9 t10 t11 tn
      obtain ⟨_, h3, e3, rfl, A3, s3⟩ := part_ok (n := m) (by omega) hN Ab hp1 hp2 hyN
      obtain ⟨mid, ap, D4, hpt⟩ : ∃ mid ap D4, partition ltE D2 x y p = (mid, ap, D4) := ⟨_, _, _, rfl⟩
      rw [hpt] at e3 A3
      simp only at e3 A3
      obtain ⟨g1, g2, g3, g4, g5, g6, g7⟩ := round_part swoE (partition_holds ltE) hp1 hp2 (by omega) B2 hpt
      have w1 := wSub (show x ≤ mid by omega) (show mid ≤ 1000000 by omega)
      have w2 := wSub (show mid ≤ y by omega) (show y ≤ 1000000 by omega)
      have w3 := wAdd1 (show mid ≤ 1000000 by omega)
      have s23 := sB.tr s3
      have q8' := q8 (t := 3) (show y - x ≤ 1000000 by omega)
      by_cases cm : mid - x < y - mid
      · have dm : ((mid - x : Nat) : Int) < ((y - mid : Nat) : Int) := by omega
        have hb2 : bitsLen (mid - x) ≤ L := by have := bitsLen_half (x := mid - x) (y := y - x) (by omega) (by omega); omega
        obtain ⟨_, h5, e5, D5, A5, P5, S5, s5⟩ := ih (n := m) (lim := lim) (by omega) hb2 A3 (show x ≤ mid by omega) (by omega) hlim g4
        obtain ⟨B6, f6⟩ := g6 D5 P5 S5
        simp only [F109, r109_65, r109_55, r109_45, r109_33, SS, Nat.reduceBEq, Nat.reduceEqDiff, Nat.reduceAdd, reduceIte, Nat.reduceMul, t0, t1, t2, t3, t8, t9, t10, t11, tn, e3, w1, w2, w3, q8', dm, e5]
        refine hN1 _ _ (y - (mid + 1)) (by omega) ⟨mid + 1, y, lim, _, ap, D5, rfl, by omega, by omega, hy, hlim, A5, s23.tr s5, B6, fun R r1 r2 => ?_, by simp only [SS, Nat.reduceBEq, t0], by simp only [SS, Nat.reduceBEq], by simp only [SS, Nat.reduceBEq, t2], by simp only [SS, Nat.reduceBEq, t3], by simp only [SS, Nat.reduceBEq, Nat.reduceEqDiff, Nat.reduceAdd, reduceIte, Nat.reduceMul]; rfl, by simp only [SS, Nat.reduceBEq], by simp only [SS, Nat.reduceBEq, Nat.reduceEqDiff, Nat.reduceAdd, reduceIte, Nat.reduceMul, tn]⟩
        obtain ⟨f7, f8⟩ := f6 R r1 r2
        exact fin R (permIn_trans _ _ _ _ _ P2 f7) f8
      · have dm : ¬ ((mid - x : Nat) : Int) < ((y - mid : Nat) : Int) := by omega
        have hb2 : bitsLen (y - (mid + 1)) ≤ L := by have := bitsLen_half (x := y - (mid + 1)) (y := y - x) (by omega) (by omega); omega
        obtain ⟨_, h5, e5, D5, A5, P5, S5, s5⟩ := ih (n := m) (lim := lim) (by omega) hb2 A3 (show mid + 1 ≤ y by omega) hyN hlim g5
        obtain ⟨B6, f6⟩ := g7 D5 P5 S5
        simp only [F109, r109_65, r109_55, r109_45, r109_33, SS, Nat.reduceBEq, Nat.reduceEqDiff, Nat.reduceAdd, reduceIte, Nat.reduceMul, t0, t1, t2, t3, t8, t9, t10, t11, tn, e3, w1, w2, w3, q8', dm, e5]
        refine hN1 _ _ (mid - x) (by omega) ⟨x, mid, lim, _, ap, D5, rfl, hx1, by omega, by omega, hlim, A5, s23.tr s5, B6, fun R r1 r2 => ?_, by simp only [SS, Nat.reduceBEq, t0], by simp only [SS, Nat.reduceBEq, t1], by simp only [SS, Nat.reduceBEq], by simp only [SS, Nat.reduceBEq, t3], by simp only [SS, Nat.reduceBEq, Nat.reduceEqDiff, Nat.reduceAdd, reduceIte, Nat.reduceMul]; rfl, by simp only [SS, Nat.reduceBEq], by simp only [SS, Nat.reduceBEq, Nat.reduceEqDiff, Nat.reduceAdd, reduceIte, Nat.reduceMul, tn]⟩
        obtain ⟨f7, f8⟩ := f6 R r1 r2
        exact fin R (permIn_trans _ _ _ _ _ P2 f7) f8
    by_cases cx : 0 < x
    · have dx : (0 : Int) < (x : Int) := by omega
      have xa := x_ia_43 (k := .i64) (b := X.b) (o := 0) (n := X.N) (c := X.cap) (g := X.g) (show x - 1 < X.N by omega)
      have xb := x_ia_43 (k := .i64) (b := X.b) (o := 0) (n := X.N) (c := X.cap) (g := X.g) (show p < X.N by omega)
      have la := Ab.ld (i := x - 1) (by omega)
      have lb := Ab.ld (i := p) (by omega)
      have e8 := less_ok (n := m) (by omega) D2[x - 1]! D2[p]! hb
      cases hl : ltE D2[x - 1]! D2[p]! with
      | true =>
        rw [hl] at e8
        simp only [F109, r109_55, r109_45, r109_33, SS, Nat.reduceBEq, Nat.reduceEqDiff, Nat.reduceAdd, reduceIte, Nat.reduceMul, t0, t1, t2, t3, t8, t9, t10, t11, tn, eb, dx, xa, xb, la, lb, wSub1 (show 1 ≤ x by omega) (show x ≤ 1000000 by omega), e8, w_undef, s_int, s_ptr, s_slice, s_bool, and'_eq, iff'_true]
        exact kp _ (by simp only [SS, Nat.reduceBEq, t0]) (by simp only [SS, Nat.reduceBEq, t1]) (by simp only [SS, Nat.reduceBEq, t2]) (by simp only [SS, Nat.reduceBEq, t3]) (by simp only [SS, Nat.reduceBEq, t8]) (by simp only [SS, Nat.reduceBEq, t9]) (by simp only [SS, Nat.reduceBEq, t10]) (by simp only [SS, Nat.reduceBEq, t11]) (by simp only [SS, Nat.reduceBEq, Nat.reduceEqDiff, Nat.reduceAdd, reduceIte, Nat.reduceMul, tn])
      | false =>
        rw [hl] at e8
        obtain ⟨_, h3, e3, rfl, A3, s3⟩ := parteq_ok (n := m) (by omega) hN Ab hp1 hp2 hyN
        obtain ⟨mid, D4, hpt⟩ : ∃ mid D4, partitionEqual ltE D2 x y p = (mid, D4) := ⟨_, _, rfl⟩
        rw [hpt] at e3 A3
        simp only at e3 A3
        obtain ⟨g1, g2, g3, g4, g5⟩ := round_eq swoE (partitionEqual_holds ltE) cx hp1 hp2 (by omega) B2 hl hpt
        simp only [F109, r109_55, r109_45, r109_33, SS, Nat.reduceBEq, Nat.reduceEqDiff, Nat.reduceAdd, reduceIte, Nat.reduceMul, t0, t1, t2, t3, t8, t9, t10, t11, tn, eb, dx, xa, xb, la, lb, wSub1 (show 1 ≤ x by omega) (show x ≤ 1000000 by omega), e8, e3, w_undef, s_int, s_ptr, s_slice, s_bool, and'_eq, iff'_true]
        refine hN1 _ _ (y - mid) (by omega) ⟨mid, y, lim, wb, wp, D4, rfl, by omega, g2, hy, hlim, A3, sB.tr s3, g4, fun R r1 r2 => ?_, by simp only [SS, Nat.reduceBEq, t0], by simp only [SS, Nat.reduceBEq], by simp only [SS, Nat.reduceBEq, t2], by simp only [SS, Nat.reduceBEq, t3], by simp only [SS, Nat.reduceBEq, t8], by simp only [SS, Nat.reduceBEq, t9], by simp only [SS, Nat.reduceBEq, Nat.reduceEqDiff, Nat.reduceAdd, reduceIte, Nat.reduceMul, tn]⟩
        obtain ⟨f7, f8⟩ := g5 R r1 r2
        exact fin R (permIn_trans _ _ _ _ _ P2 f7) f8
    · have dx : ¬ (0 : Int) < (x : Int) := by omega
      simp only [F109, r109_55, r109_45, r109_33, SS, Nat.reduceBEq, Nat.reduceEqDiff, Nat.reduceAdd, reduceIte, Nat.reduceMul, t0, t1, t2, t3, t8, t9, t10, t11, tn, eb, dx, w_undef, s_int, s_ptr, s_slice, s_bool, and'_eq, iff'_true]
      exact kp _ (by simp only [SS, Nat.reduceBEq, t0]) (by simp only [SS, Nat.reduceBEq, t1]) (by simp only [SS, Nat.reduceBEq, t2]) (by simp only [SS, Nat.reduceBEq, t3]) (by simp only [SS, Nat.reduceBEq, t8]) (by simp only [SS, Nat.reduceBEq, t9]) (by simp only [SS, Nat.reduceBEq, t10]) (by simp only [SS, Nat.reduceBEq, t11]) (by simp only [SS, Nat.reduceBEq, Nat.reduceEqDiff, Nat.reduceAdd, reduceIte, Nat.reduceMul, tn])
  -- is it sorted already?
  have k2 : ∀ tm h2 D2 p (hint : Int) lim wb wp, lim ≤ 1000 → x ≤ p → p < y → X.At h2 D2 → PsB X h h2 → PermIn x y cur D2 → tm.gt 0 = some X.sv → tm.gt 1 = some (I x) → tm.gt 2 = some (I y) → tm.gt 3 = some (I lim) → tm.gt 8 = some (.bool wb) → tm.gt 9 = some (.bool wp) → tm.gt 10 = some (I (y - x)) → tm.gt 11 = some (I p) → tm.gt 12 = some (.int .i64 hint) → tm.gt 134 = none →
      run (SC m) 100000 134 109 none c109_45 [.blk 1] tm h2 Q1 := by
    intro tm h2 D2 p hint lim wb wp hlim hp1 hp2 A2 s2 P2 t0 t1 t2 t3 t8 t9 t10 t11 t12 tn
    have hsz2 : D2.size = X.N := A2.sz
    have B2 : Below ltE x y D2 := B1.perm (by omega) P2
    have no : ∀ tm, tm.gt 0 = some X.sv → tm.gt 1 = some (I x) → tm.gt 2 = some (I y) → tm.gt 3 = some (I lim) → tm.gt 8 = some (.bool wb) → tm.gt 9 = some (.bool wp) → tm.gt 10 = some (I (y - x)) → tm.gt 11 = some (I p) → tm.gt 134 = none →
        run (SC m) 100000 134 109 none c109_55 [.blk 1] tm h2 Q1 := fun tm t0 t1 t2 t3 t8 t9 t10 t11 tn => k3 tm h2 D2 p lim wb wp hlim hp1 hp2 A2 s2 P2 t0 t1 t2 t3 t8 t9 t10 t11 tn
    cases wb with
    | false =>
      simp only [F109, r109_65, r109_45, r109_33, SS, Nat.reduceBEq, Nat.reduceEqDiff, Nat.reduceAdd, reduceIte, Nat.reduceMul, t0, t1, t2, t3, t8, t9, t10, t11, t12, tn, w_undef]
      exact no _ (by simp only [SS, Nat.reduceBEq, t0]) (by simp only [SS, Nat.reduceBEq, t1]) (by simp only [SS, Nat.reduceBEq, t2]) (by simp only [SS, Nat.reduceBEq, t3]) (by simp only [SS, Nat.reduceBEq, t8]) (by simp only [SS, Nat.reduceBEq, t9]) (by simp only [SS, Nat.reduceBEq, t10]) (by simp only [SS, Nat.reduceBEq, t11]) (by simp only [SS, Nat.reduceBEq, Nat.reduceEqDiff, Nat.reduceAdd, reduceIte, Nat.reduceMul, tn])
    | true =>
    cases wp with
    | false =>
      simp only [F109, r109_65, r109_45, r109_33, SS, Nat.reduceBEq, Nat.reduceEqDiff, Nat.reduceAdd, reduceIte, Nat.reduceMul, t0, t1, t2, t3, t8, t9, t10, t11, t12, tn, w_undef]
      exact no _ (by simp only [SS, Nat.reduceBEq, t0]) (by simp only [SS, Nat.reduceBEq, t1]) (by simp only [SS, Nat.reduceBEq, t2]) (by simp only [SS, Nat.reduceBEq, t3]) (by simp only [SS, Nat.reduceBEq, t8]) (by simp only [SS, Nat.reduceBEq, t9]) (by simp only [SS, Nat.reduceBEq, t10]) (by simp only [SS, Nat.reduceBEq, t11]) (by simp only [SS, Nat.reduceBEq, Nat.reduceEqDiff, Nat.reduceAdd, reduceIte, Nat.reduceMul, tn])
    | true =>
    by_cases ch : hint = 1
    · obtain ⟨_, h3, e3, rfl, A3, s3⟩ := pins_ok (n := m) (by omega) hN A2 (show x < y by omega) hyN
      obtain ⟨q1, q2⟩ := partialInsertionSort_holds swoE D2 x y (by omega) (by omega) B2
      cases hb : (partialInsertionSort ltE D2 x y).2 with
      | true =>
        rw [hb] at e3
        obtain ⟨f1, f2⟩ := fin _ (permIn_trans _ _ _ _ _ P2 q1) (q2 hb)
        simp only [F109, r109_65, r109_45, r109_33, SS, Nat.reduceBEq, Nat.reduceEqDiff, Nat.reduceAdd, reduceIte, Nat.reduceMul, t0, t1, t2, t3, t8, t9, t10, t11, t12, tn, ch, e3, w_undef]
        refine hE _ _ _ (by simp) ?_
        simp only [SS, Nat.reduceBEq, Nat.reduceEqDiff, Nat.reduceAdd, reduceIte, Nat.reduceMul]
        exact hQ _ _ _ _ (.inr rfl) (by simp only [SS, Nat.reduceBEq, Nat.reduceEqDiff, Nat.reduceAdd, reduceIte, Nat.reduceMul, tn]) (by simp only [SS, Nat.reduceBEq, Nat.reduceEqDiff, Nat.reduceAdd, reduceIte, Nat.reduceMul]; rfl) ⟨_, A3, f1, f2, s2.tr s3⟩
      | false =>
        rw [hb] at e3
        simp only [F109, r109_65, r109_45, r109_33, SS, Nat.reduceBEq, Nat.reduceEqDiff, Nat.reduceAdd, reduceIte, Nat.reduceMul, t0, t1, t2, t3, t8, t9, t10, t11, t12, tn, ch, e3, w_undef]
        exact k3 _ h3 _ p lim true true hlim hp1 hp2 A3 (s2.tr s3) (permIn_trans _ _ _ _ _ P2 q1) (by simp only [SS, Nat.reduceBEq, t0]) (by simp only [SS, Nat.reduceBEq, t1]) (by simp only [SS, Nat.reduceBEq, t2]) (by simp only [SS, Nat.reduceBEq, t3]) (by simp only [SS, Nat.reduceBEq, t8]) (by simp only [SS, Nat.reduceBEq, t9]) (by simp only [SS, Nat.reduceBEq, t10]) (by simp only [SS, Nat.reduceBEq, t11]) (by simp only [SS, Nat.reduceBEq, Nat.reduceEqDiff, Nat.reduceAdd, reduceIte, Nat.reduceMul, tn])
    · simp only [F109, r109_65, r109_45, r109_33, SS, Nat.reduceBEq, Nat.reduceEqDiff, Nat.reduceAdd, reduceIte, Nat.reduceMul, t0, t1, t2, t3, t8, t9, t10, t11, t12, tn, ch, w_undef]
      exact no _ (by simp only [SS, Nat.reduceBEq, t0]) (by simp only [SS, Nat.reduceBEq, t1]) (by simp only [SS, Nat.reduceBEq, t2]) (by simp only [SS, Nat.reduceBEq, t3]) (by simp only [SS, Nat.reduceBEq, t8]) (by simp only [SS, Nat.reduceBEq, t9]) (by simp only [SS, Nat.reduceBEq, t10]) (by simp only [SS, Nat.reduceBEq, t11]) (by simp only [SS, Nat.reduceBEq, Nat.reduceEqDiff, Nat.reduceAdd, reduceIte, Nat.reduceMul, tn])
  -- the pivot
  have k1 : ∀ tm h2 D2 lim wb wp, lim ≤ 1000 → X.At h2 D2 → PsB X h h2 → PermIn x y cur D2 → tm.gt 0 = some X.sv → tm.gt 1 = some (I x) → tm.gt 2 = some (I y) → tm.gt 3 = some (I lim) → tm.gt 8 = some (.bool wb) → tm.gt 9 = some (.bool wp) → tm.gt 10 = some (I (y - x)) → tm.gt 134 = none →
      run (SC m) 100000 134 109 none c109_33 [.blk 1] tm h2 Q1 := by
    intro tm h2 D2 lim wb wp hlim A2 s2 P2 t0 t1 t2 t3 t8 t9 t10 tn
    obtain ⟨_, h3, e3, p, hint, rfl, hp1, hp2, A3, s3⟩ := pivot_ok (n := m) (by omega) hN A2 (show x + 12 < y by omega) hyN
    have s23 := s2.tr (PsB.no s3)
    by_cases ch : hint = 2
    · obtain ⟨_, h4, e4, D4, A4, P4, s4⟩ := rev_ok (n := m) (by omega) hN A3 (show x < y by omega) hyN
      have w1 := wSub1 (show 1 ≤ y by omega) (show y ≤ 1000000 by omega)
      have w2 := wSub (show x ≤ p by omega) (show p ≤ 1000000 by omega)
      have w3 := wSub (show p - x ≤ y - 1 by omega) (show y - 1 ≤ 1000000 by omega)
      simp only [F109, r109_65, r109_55, r109_33, SS, Nat.reduceBEq, Nat.reduceEqDiff, Nat.reduceAdd, reduceIte, Nat.reduceMul, t0, t1, t2, t3, t8, t9, t10, tn, e3, ch, e4, w1, w2, w3]
      exact k2 _ h4 D4 (y - 1 - (p - x)) 1 lim wb wp hlim (by omega) (by omega) A4 (s23.tr s4) (permIn_trans _ _ _ _ _ P2 P4) (by simp only [SS, Nat.reduceBEq, t0]) (by simp only [SS, Nat.reduceBEq, t1]) (by simp only [SS, Nat.reduceBEq, t2]) (by simp only [SS, Nat.reduceBEq, t3]) (by simp only [SS, Nat.reduceBEq, t8]) (by simp only [SS, Nat.reduceBEq, t9]) (by simp only [SS, Nat.reduceBEq, t10]) (by simp only [SS, Nat.reduceBEq]) (by simp only [SS, Nat.reduceBEq]) (by simp only [SS, Nat.reduceBEq, Nat.reduceEqDiff, Nat.reduceAdd, reduceIte, Nat.reduceMul, tn])
    · simp only [F109, r109_65, r109_55, r109_33, SS, Nat.reduceBEq, Nat.reduceEqDiff, Nat.reduceAdd, reduceIte, Nat.reduceMul, t0, t1, t2, t3, t8, t9, t10, tn, e3, ch]
      exact k2 _ h3 D2 p hint lim wb wp hlim hp1 hp2 A3 s23 P2 (by simp only [SS, Nat.reduceBEq, t0]) (by simp only [SS, Nat.reduceBEq, t1]) (by simp only [SS, Nat.reduceBEq, t2]) (by simp only [SS, Nat.reduceBEq, t3]) (by simp only [SS, Nat.reduceBEq, t8]) (by simp only [SS, Nat.reduceBEq, t9]) (by simp only [SS, Nat.reduceBEq, t10]) (by simp only [SS, Nat.reduceBEq]) (by simp only [SS, Nat.reduceBEq]) (by simp only [SS, Nat.reduceBEq, Nat.reduceEqDiff, Nat.reduceAdd, reduceIte, Nat.reduceMul, tn])
  cases wb with
  | true =>
    simp only [F109, r109_65, r109_55, r109_45, SS, Nat.reduceBEq, Nat.reduceEqDiff, Nat.reduceAdd, reduceIte, Nat.reduceMul, t0, t1, t2, t3, t8, t9, tn, w0, d12, dl]
    exact k1 _ h1 cur lim true wp hlim A1 s1 (permIn_refl _ _ _) (by simp only [SS, Nat.reduceBEq, t0]) (by simp only [SS, Nat.reduceBEq, t1]) (by simp only [SS, Nat.reduceBEq, t2]) (by simp only [SS, Nat.reduceBEq, t3]) (by simp only [SS, Nat.reduceBEq, t8]) (by simp only [SS, Nat.reduceBEq, t9]) (by simp only [SS, Nat.reduceBEq]) (by simp only [SS, Nat.reduceBEq, Nat.reduceEqDiff, Nat.reduceAdd, reduceIte, Nat.reduceMul, tn])
  | false =>
    obtain ⟨_, h2, e2, D2, A2, P2, s2⟩ := break_ok (n := m) (by omega) hN A1 (show x + 12 < y by omega) hyN
    simp only [F109, r109_65, r109_55, r109_45, SS, Nat.reduceBEq, Nat.reduceEqDiff, Nat.reduceAdd, reduceIte, Nat.reduceMul, t0, t1, t2, t3, t8, t9, tn, w0, d12, dl, e2, wSub1 (show 1 ≤ lim by omega) (show lim ≤ 1000000 by omega)]
    exact k1 _ h2 D2 (lim - 1) false wp (by omega) A2 (s1.tr s2) P2 (by simp only [SS, Nat.reduceBEq, t0]) (by simp only [SS, Nat.reduceBEq, t1]) (by simp only [SS, Nat.reduceBEq, t2]) (by simp only [SS, Nat.reduceBEq]) (by simp only [SS, Nat.reduceBEq, t8]) (by simp only [SS, Nat.reduceBEq, t9]) (by simp only [SS, Nat.reduceBEq]) (by simp only [SS, Nat.reduceBEq, Nat.reduceEqDiff, Nat.reduceAdd, reduceIte, Nat.reduceMul, tn])
theorem pdq_ok {X : Px} (hN : X.N ≤ 40000) : ∀ (L : Nat), PdqAt X L
  | 0 => pdq_zero hN
  | L + 1 => pdq_succ hN (pdq_ok hN L)
theorem sort_ok {X : Px} (hN : X.N ≤ 40000) {n : Nat} (hn : 30 ≤ n) {h : Heap} {D : Array El} (hA : X.At h D) :
    WC (SC n (.fn 102) [X.sv] h) fun r h' => ∃ D', X.At h' D' ∧ PermIn 0 D.size D D' ∧ SortedIn ltE 0 D.size D' ∧ PsB X h h' := by
  obtain ⟨m, rfl⟩ : ∃ m, n = m + 1 := ⟨n - 1, by omega⟩
  refine call_fn _ f102A rfl (by simp [fn102]) fun QQ hQ => ?_
  simp only [fn102] at hQ
  simp only [fn102, fill_cons, fill_nil, Nat.zero_add, Nat.reduceAdd]
  have hsz := hA.sz
  obtain ⟨_, h0, e1, rfl, L, rfl, l1, _⟩ := len_ok (n := m) (by omega) (x := X.N) (by omega) h
  have hb : bitsLen (X.N - 0) ≤ 16 := (bitsLen_le_iff _ _).2 (by omega)
  obtain ⟨_, h2, e2, D2, A2, P2, S2, s2⟩ := pdq_ok hN 16 (n := m) (lim := L) (by omega) hb hA (Nat.zero_le _) (Nat.le_refl _) (by omega) (.inl rfl)
  have e2' : SC m (.fn 109) [X.sv, .int .i64 0, I X.N, I L] h0 = some (_, h2) := e2
  simp only [F102, SS, Nat.reduceBEq, Nat.reduceEqDiff, Nat.reduceAdd, reduceIte, Nat.reduceMul, x_len_43, x_cv_3_119, wU64 (show X.N ≤ 1000000 by omega), e1, e2']
  exact hQ _ _ _ _ (.inl rfl) (by simp only [SS, Nat.reduceBEq]) (by simp only [SS, Nat.reduceBEq, Nat.reduceEqDiff, Nat.reduceAdd, reduceIte, Nat.reduceMul]; rfl) ⟨D2, A2, by rw [hsz]; exact P2, by rw [hsz]; exact S2, s2⟩
end Go.Proofs.Ytlfednnfkejcjaa

namespace Go.Proofs.Ytlfednnfkejcjaa
open Go.Am Go.Sort
set_option maxRecDepth 10000
noncomputable def ltU (x y : AV) : Option Bool := match x, y with | .int _ a, .int _ b => some (Go.Am.ltI a b) | _, _ => none
def insI (x : Int) : List Int → List Int
  | [] => [x]
  | y :: l => if x < y then x :: y :: l else y :: insI x l
def isort : List Int → List Int
  | [] => []
  | x :: l => insI x (isort l)
theorem insI_perm (x : Int) : ∀ l, (insI x l).Perm (x :: l)
  | [] => List.Perm.refl _
  | y :: l => by
    unfold insI
    split
    · exact List.Perm.refl _
    · exact ((insI_perm x l).cons y).trans (List.Perm.swap x y l)
theorem isort_perm : ∀ l, (isort l).Perm l
  | [] => List.Perm.refl _
  | x :: l => (insI_perm x _).trans ((isort_perm l).cons x)
theorem insI_sorted {x : Int} : ∀ {l : List Int}, l.Pairwise (· ≤ ·) → (insI x l).Pairwise (· ≤ ·)
  | [], _ => List.pairwise_singleton _ _
  | y :: l, h => by
    obtain ⟨h1, h2⟩ := List.pairwise_cons.1 h
    unfold insI
    split
    · refine List.pairwise_cons.2 ⟨fun z hz => ?_, h⟩
      rcases List.mem_cons.1 hz with rfl | hz
      · omega
      · have := h1 z hz; omega
    · refine List.pairwise_cons.2 ⟨fun z hz => ?_, insI_sorted h2⟩
      rcases List.mem_cons.1 ((insI_perm x l).mem_iff.1 hz) with rfl | hz
      · omega
      · exact h1 z hz
theorem isort_sorted : ∀ l, (isort l).Pairwise (· ≤ ·)
  | [] => List.Pairwise.nil
  | _ :: l => insI_sorted (isort_sorted l)
theorem sorted_eq : ∀ {l m : List Int}, l.Perm m → l.Pairwise (· ≤ ·) → m.Pairwise (· ≤ ·) → l = m
  | [], m, h, _, _ => (List.nil_perm.1 h).symm
  | x :: l, [], h, _, _ => by cases List.perm_nil.1 h
  | x :: l, y :: m, h, hl, hm => by
    obtain ⟨l1, l2⟩ := List.pairwise_cons.1 hl
    obtain ⟨m1, m2⟩ := List.pairwise_cons.1 hm
    have e : x = y := by
      have hx : x ∈ y :: m := h.mem_iff.1 (List.mem_cons_self ..)
      have hy : y ∈ x :: l := h.mem_iff.2 (List.mem_cons_self ..)
      rcases List.mem_cons.1 hx with e | hx
      · exact e
      · rcases List.mem_cons.1 hy with e | hy
        · exact e.symm
        · have := m1 x hx; have := l1 y hy; omega
    subst e
    rw [sorted_eq ((List.perm_cons x).1 h) l2 m2]
theorem en_len (l : List Int) : (cellsL (l.map en)) = l.map en := by
  rw [cellsL_eq]
  induction l with
  | nil => rfl
  | cons x l ih => rw [List.map_cons, List.flatMap_cons, ih]; rfl
theorem insK_en (x : Int) : ∀ l : List Int, insK ltU (en x) (l.map en) = some ((insI x l).map en)
  | [] => rfl
  | y :: l => by
    have ih := insK_en x l
    have e : Go.Am.ltI x y = decide (x < y) := Go.Am.ltI_eq x y
    show ob (ltU (en x) (en y)) (fun b => Bool.rec (motive := fun _ => Option (List AV)) (ob (insK ltU (en x) (l.map en)) fun l => some (en y :: l)) (some (en x :: en y :: l.map en)) b) = _
    show (Bool.rec (motive := fun _ => Option (List AV)) (ob (insK ltU (en x) (l.map en)) fun l => some (en y :: l)) (some (en x :: en y :: l.map en)) (Go.Am.ltI x y) : Option (List AV)) = _
    rw [e, ih]
    rw [show insI x (y :: l) = if x < y then x :: y :: l else y :: insI x l from rfl]
    by_cases h : x < y
    · rw [if_pos h, decide_eq_true h]; rfl
    · rw [if_neg h, decide_eq_false h]; rfl
theorem sortK_en : ∀ l : List Int, sortK ltU (l.map en) = some ((isort l).map en)
  | [] => rfl
  | x :: l => by
    show ob (sortK ltU (l.map en)) (fun l => insK ltU (en x) l) = _
    rw [sortK_en l]
    exact insK_en x (isort l)
theorem insA_perm {x : AV} : ∀ {l m : List AV}, m ∈ insA x l → m.Perm (x :: l)
  | [], m, h => by rw [insA, List.mem_singleton] at h; rw [h]
  | y :: l, m, h => by
    rw [insA, List.mem_cons] at h
    rcases h with rfl | h
    · exact List.Perm.refl _
    · obtain ⟨q, hq, rfl⟩ := List.mem_map.1 h
      exact ((insA_perm hq).cons y).trans (List.Perm.swap x y l)
theorem permsA_perm : ∀ {l m : List AV}, m ∈ permsA l → m.Perm l
  | [], m, h => by rw [permsA, List.mem_singleton] at h; rw [h]
  | x :: l, m, h => by
    rw [permsA] at h
    obtain ⟨q, hq, hm⟩ := List.mem_flatMap.1 h
    exact (insA_perm hm).trans ((permsA_perm hq).cons x)
theorem allTo_mk {call : CallFn} {T : FuncId} {sz n : Nat} {ds : List AV} : ∀ {πs : List (List AV)}, (∀ π ∈ πs, sortsTo call T sz n ds π = true) → allTo call T sz n ds πs = true
  | [], _ => rfl
  | x :: xs, h => by
    show and' (sortsTo call T sz n ds x) (allTo call T sz n ds xs) = true
    rw [and'_eq, h x (List.mem_cons_self ..), allTo_mk fun π hp => h π (List.mem_cons_of_mem _ hp)]; rfl
def unE : AV → Int
  | .int _ n => n
  | _ => 0
theorem perm_en {l : List Int} {π : List AV} (h : π.Perm (l.map en)) : ∃ m : List Int, π = m.map en ∧ m.Perm l := by
  refine ⟨π.map unE, ?_, ?_⟩
  · rw [List.map_map]
    symm
    rw [List.map_congr_left (g := id)]
    · exact List.map_id _
    · intro a ha
      obtain ⟨x, _, rfl⟩ := List.mem_map.1 (h.mem_iff.1 ha)
      rfl
  · have := h.map unE
    rw [List.map_map] at this
    rwa [show (unE ∘ en) = id from rfl, List.map_id] at this
theorem sortIn_pw {D : Array Int} (h : SortedIn ltE 0 D.size D) : D.toList.Pairwise (· ≤ ·) := by
  rw [List.pairwise_iff_getElem]
  intro i j hi hj hij
  have hi' : i < D.size := by simpa using hi
  have hj' : j < D.size := by simpa using hj
  have := h i j (Nat.zero_le _) hij hj'
  rw [getElem!_pos D i hi', getElem!_pos D j hj'] at this
  have this : decide (D[j] < D[i]) = false := this
  rw [decide_eq_false_iff_not] at this
  rw [Array.getElem_toList, Array.getElem_toList]
  omega
theorem sames_refl : ∀ l : List Int, AV.sames (l.map en) (l.map en) = true
  | [] => by simp [AV.sames]
  | x :: l => by
    show AV.sames (en x :: l.map en) (en x :: l.map en) = true
    unfold AV.sames
    rw [s_int, sames_refl l]; rfl
theorem sortsTo_ok {l m : List Int} (hp : m.Perm l) (hl : l.length ≤ 40000) {n : Nat} (hn : 30 ≤ n) : sortsTo (SC n) 102 1 l.length (cellsL ((isort l).map en)) (m.map en) = true := by
  have hml : m.length = l.length := hp.length_eq
  let X : Px := ⟨0, l.length, l.length, some 1, [], []⟩
  have hA : X.At (minH (m.map en)) m.toArray := by
    refine ⟨by simp [X, hml], ⟨fillC (m.map en) .leaf 0, ?_, ?_⟩, ?_⟩
    · show (minH (m.map en)).bs.gt 0 = _
      rw [minH_get, if_pos rfl]
      show some (Blk.cells _ [] (m.map en).length false) = some (Blk.cells _ [] ((m.toArray.toList.map en ++ []).length) false)
      simp
    · intro i hi
      have hi' : i < (m.map en).length := by simpa [X] using hi
      rw [cellAt_fill _ _ _ hi']
      simp [X]
    · show (0 : Nat) < 1; decide
  obtain ⟨r, h', e, D', A', P', S', _⟩ := sort_ok (X := X) (show l.length ≤ 40000 from hl) hn hA
  unfold sortsTo
  rw [en_len, en_len]
  have e' : SC n (.fn 102) [.slice (some (0, 0)) l.length l.length (some 1)] (minH (m.map en)) = some (r, h') := e
  rw [e']
  show rowIs h' ((isort l).map en) = true
  have hsz : D'.size = m.toArray.size := P'.1
  have hperm : D'.toList.Perm l := by
    have := P'.2.2
    have e1 : D'.extract 0 m.toArray.size = D' := by rw [← hsz]; exact Array.extract_size
    have e2 : m.toArray.extract 0 m.toArray.size = m.toArray := Array.extract_size
    rw [e1, e2] at this
    exact this.trans hp
  rw [← hsz] at S'
  have hD : D'.toList = isort l := sorted_eq (hperm.trans (isort_perm l).symm) (sortIn_pw S') (isort_sorted l)
  obtain ⟨t, g1, g2⟩ := A'.rw
  have g1' : h'.bs.gt 0 = some (.cells t [] ((isort l).map en).length false) := by
    have := g1
    rw [hD] at this
    simpa [X] using this
  have g2' : ∀ i, i < ((isort l).map en).length → cellAt t [] i = ((isort l).map en)[i]? := by
    intro i hi
    have := g2 i (by rw [hD]; simpa [X] using hi)
    rw [hD] at this
    simpa [X] using this
  have hlc : loadC t [] ((isort l).map en).length 0 = some ((isort l).map en) := Go.Am.loadC_of (vs := (isort l).map en) (i := 0) (fun j hj => by rw [Nat.zero_add]; exact g2' j hj)
  unfold rowIs
  rw [cells_of g1', len'_eq]
  show (Option.rec (motive := fun _ => Bool) false (fun l' => AV.sames l' ((isort l).map en)) (iff' (and' (notB false) (Nat.beq ((isort l).map en).length ((isort l).map en).length)) (loadC t [] ((isort l).map en).length 0)) : Bool) = true
  rw [Nat.beq_refl, hlc]
  exact sames_refl _
theorem sortedR_ok {n : Nat} (hn : 30 ≤ n) {gs : List FuncId} {bs : Nat} {fine : AV → Bool} {g cb mb clock : Nat} {h : Heap} {es : List MEnt} {l : List Int} (hg : gs.contains g = true) (hc : h.ld1 cb 0 = some (.map (some mb))) (hm : h.bs.gt mb = some (.map es clock)) (hk : es.map (·.key) = l.map en) (hb : bornB clock es = true)
    (hf : fineB fine es = true) (hr : room bs l.length = true) (hl : l.length ≤ 40000) (hnil : ∃ r, SC n (.fn 102) [.slice none 0 0 none] ⟨.leaf, 0⟩ = some r) :
    sortedR (SC n) 102 gs 1 bs ltU fine (.func (.func g) [] [.ptr (some (cb, 0))]) h =
      some (if l = [] then (.slice none 0 0 none, h) else (.slice (some (h.next, 0)) l.length l.length (some 1), h.new h.next (.cells (fillC ((isort l).map en) .leaf 0) [] ((isort l).map en).length false))) := by
  have hel : es.length = l.length := by have := congrArg List.length hk; simpa using this
  have hkl : keysL es = l.map en := by rw [keysL_eq]; exact hk
  have hall : allTo (SC n) 102 1 es.length (cellsL ((isort l).map en)) (permsA (l.map en)) = true := by
    refine allTo_mk fun π hp => ?_
    obtain ⟨m, rfl, hm⟩ := perm_en (permsA_perm hp)
    rw [hel]
    exact sortsTo_ok hm hl hn
  show iff' (gs.contains g) (ob (h.ld1 cb 0) fun m => mapAt m fun mb => h.theMap mb fun es clock =>
    iff' (and' (bornB clock es) (and' (fineB fine es) (room bs (len' es)))) (ob (sortK ltU (keysL es)) fun ks =>
      iff' (allTo (SC n) 102 1 (len' es) (cellsL ks) (permsA (keysL es)))
        (Nat.rec (motive := fun _ => Res) (ob (SC n (.fn 102) [.slice none 0 0 none] ⟨.leaf, 0⟩) fun _ => some (.slice none 0 0 none, h))
          (fun _ _ => some (.slice (some (h.next, 0)) (len' es) (len' es) (some 1), h.new h.next (.cells (fillC (cellsL ks) .leaf 0) [] (cellsL ks).length false))) (len' es)))) = _
  rw [hg, hc]
  show h.theMap mb _ = _
  unfold Heap.theMap
  rw [hm]
  show iff' (and' (bornB clock es) (and' (fineB fine es) (room bs (len' es)))) _ = _
  rw [hb, hf, len'_eq, hel, hr, hkl, sortK_en]
  show iff' (allTo (SC n) 102 1 l.length (cellsL ((isort l).map en)) (permsA (l.map en))) _ = _
  rw [← hel, hall, hel]
  cases l with
  | nil =>
    obtain ⟨r, hr⟩ := hnil
    show (ob (SC n (.fn 102) [.slice none 0 0 none] ⟨.leaf, 0⟩) fun _ => some (.slice none 0 0 none, h) : Res) = _
    rw [hr]; rfl
  | cons x l =>
    rw [if_neg (by simp), en_len]
    rfl
end Go.Proofs.Ytlfednnfkejcjaa

namespace Go.Proofs.Ytlfednnfkejcjaa
open Go.Am
theorem namesQ : Am.NamesOk Try.prog := by unfold Am.NamesOk; kernel_rfl
theorem mixed : Try.prog.follows .mixedOrders = true := by kernel_rfl
noncomputable def suApp : Am.AppCode Try.prog (Am.keepF Try.prog) 108 43 0 (Am.buildSliceN Try.prog 43 1 [0]) :=
  ⟨Try.f108, _, _, _, _, _, _, _, _, Try.func108, rfl, rfl, by kernel_rfl, by decide, by kernel_rfl, by kernel_rfl, by kernel_rfl, rfl, by kernel_rfl, by kernel_rfl, by kernel_rfl, by kernel_rfl, by kernel_rfl⟩
theorem suCol : ∃ fn c, Try.prog.funcs[(101 : Nat)]? = some fn ∧ fn.body = some c ∧ Am.CollectCode 108 c ∧ fn.results = #[.tmp 2] ∧ 5 ≤ fn.ntmps :=
  ⟨Try.f101, _, Try.func101, rfl, ⟨_, _, _, _, _, _, _, rfl, ⟨rfl, rfl, rfl⟩, ⟨rfl, rfl, rfl⟩, ⟨rfl, rfl, rfl⟩, ⟨rfl, rfl, rfl⟩⟩, rfl, by decide⟩
theorem suSor : ∃ fn c, Try.prog.funcs[(88 : Nat)]? = some fn ∧ fn.body = some c ∧ Am.SortedCode 101 102 c ∧ fn.results = #[.tmp 2] ∧ 9 ≤ fn.ntmps :=
  ⟨Try.f88, _, Try.func88, rfl, ⟨_, _, _, _, _, _, _, _, _, _, _, _, _, _, rfl, ⟨rfl, rfl, rfl⟩, ⟨rfl, rfl, rfl⟩, ⟨rfl, rfl, rfl⟩, ⟨rfl, rfl, rfl⟩, ⟨rfl, rfl, rfl⟩, ⟨rfl, rfl, rfl⟩, ⟨rfl, rfl, rfl⟩, ⟨rfl, rfl, rfl⟩⟩, rfl, by decide⟩
theorem keysFn103 : Am.KeysFn Try.prog 103 :=
  ⟨Try.f103, _, 84, _, _, Try.func103, rfl, ⟨_, _, _, _, _, _, _, _, _, _, _, _, _, _, _, _, _, _, _, rfl, ⟨rfl, rfl, rfl⟩, ⟨rfl, rfl, rfl⟩, ⟨rfl, rfl, rfl⟩, ⟨rfl, rfl, rfl⟩, ⟨rfl, rfl, rfl⟩, ⟨rfl, rfl, rfl⟩, ⟨rfl, rfl, rfl⟩, ⟨rfl, rfl, rfl⟩, ⟨rfl, rfl, rfl⟩, ⟨rfl, rfl, rfl⟩, ⟨rfl, rfl, rfl⟩⟩, rfl, by decide, Try.underlying84, by kernel_rfl⟩
def suFine : Am.AV → Bool := fun k => match k with | .int .u32 _ => true | _ => false
theorem suFineOk (k : Am.AV) (hk : suFine k = true) : Am.buildSliceN Try.prog 43 1 [0] [k] = some (Am.rowBlk k.cells, Am.sliceTo 1) ∧ k.cells.length = 0 + 1 ∧ ∀ c ∈ k.cells, Am.plainCell c = true := by
  cases k with
  | int kk n =>
    cases kk with
    | u32 => exact ⟨by kernel_rfl, rfl, fun c hc => by obtain rfl := List.mem_singleton.1 hc; rfl⟩
    | _ => cases hk
  | _ => cases hk
noncomputable def suPrim : Am.Prims := Am.sortedP (Am.callN Try.prog (Am.keepF Try.prog) Am.noPrims 100000 (40 + 1)) 88 102 [103] 1 4 ltU suFine
theorem suGs : ∀ g ∈ ([103] : List Nat), Am.KeysFn Try.prog g := by
  intro g hg
  simp only [List.mem_cons, List.not_mem_nil, or_false] at hg
  rcases hg with rfl
  exact keysFn103
theorem suOk : Am.PrimsOk Try.prog (Am.keepF Try.prog) suPrim :=
  Am.sortedP_ok mixed namesQ suApp Try.underlying43 (by kernel_rfl) (by kernel_rfl) (by kernel_rfl) suCol ⟨_, _, Try.func102, rfl⟩ suSor suGs suFineOk
end Go.Proofs.Ytlfednnfkejcjaa

namespace Go.Proofs.Ytlfednnfkejcjaa
open Go.Am
noncomputable abbrev prW : Prims := (pureP 11 [] (.bool true)).or suPrim
noncomputable abbrev C (n : Nat) : CallFn := callN P (keepF P) prW 100000 n
theorem works_ok {n : Nat} (hn : 1 ≤ n) (h : Heap) : C n (.fn 11) [] h = some (.bool true, h) := by
  obtain ⟨m, rfl⟩ : ∃ m, n = m + 1 := ⟨n - 1, by omega⟩
  rfl
def bterm (s : List Nat) (i : Nat) : Nat := (s[i]?.getD 0) * (i % 7 * 2 + 1)
def bsum (s : List Nat) : Nat → Nat
  | 0 => s.length
  | i + 1 => bsum s i + bterm s i
def Byts (s : List Nat) : Prop := ∀ (i c : Nat), s[i]? = some c → c < 256
theorem bterm_le {s : List Nat} (hb : Byts s) (i : Nat) : bterm s i ≤ 3315 := by
  unfold bterm
  have h3 : i % 7 * 2 + 1 ≤ 13 := by omega
  have h4 : s[i]?.getD 0 ≤ 255 := by
    cases hc : s[i]? with
    | none => simp
    | some c => have := hb i c hc; simp; omega
  exact Nat.mul_le_mul h4 h3
theorem bsum_le {s : List Nat} (hb : Byts s) : ∀ i, bsum s i ≤ s.length + i * 3315
  | 0 => by simp [bsum]
  | i + 1 => by
    have ih := bsum_le hb i
    have h2 := bterm_le hb i
    show bsum s i + bterm s i ≤ _
    omega
theorem bucket_ok {n : Nat} (hn : 1 ≤ n) (s : List Nat) (h : Heap) (hl : s.length ≤ 1000) (hb : Byts s) : WC (C n (.fn 79) [.str s] h) fun v h' => v = .int .u8 ((bsum s s.length % 16 : Nat) : Int) ∧ h' = h := by
  obtain ⟨m, rfl⟩ : ∃ m, n = m + 1 := ⟨n - 1, by omega⟩
  refine call_fn _ f79A rfl (by simp [fn79]) fun QQ hQ => ?_
  simp only [fn79] at hQ
  simp only [fn79, fill_cons, fill_nil, Nat.zero_add, Nat.reduceAdd]
  simp only [F79, x_len_9, SS, Nat.reduceBEq, Nat.reduceEqDiff, Nat.reduceAdd, reduceIte, Nat.reduceMul]
  refine run_loop (c := c79_9) (I := fun m tm' h' => ∃ i, i ≤ s.length ∧ m = s.length - i ∧ h' = h ∧ tm'.gt 0 = some (.str s) ∧ tm'.gt 9 = some (.int .i64 (i : Int)) ∧ tm'.gt 8 = some (.int .i64 (s.length : Int)) ∧ tm'.gt 3 = some (.int .i64 (bsum s i : Int)) ∧ tm'.gt 27 = none) (n := s.length)
    ⟨0, by simp [gt_same, gt_other, gt_leaf, bsum]⟩ (by omega) ?_
  rintro _ tm h ⟨i, hi, rfl, rfl, t0, t9, t8, t3, t27⟩ Q1 hN hE
  by_cases hlt : i < s.length
  · have hbs := bsum_le hb i
    have hbt := bterm_le hb i
    have hc := List.getElem?_eq_getElem hlt
    have hcb := hb i _ hc
    simp only [F79, x_ix_9, x_cv_5_3, t0, t9, t8, t3, SS, Nat.reduceBEq, Nat.reduceEqDiff, Nat.reduceAdd, reduceIte, Nat.reduceMul, Int.ofNat_lt, hlt, hc, b_rem (show (7 : Int) ≠ 0 by decide)]
    refine hN _ _ (s.length - (i + 1)) (by omega) ⟨i + 1, hlt, rfl, rfl, ?_⟩
    have e1 : IntKind.i64.wrap (s[i] : Int) = (s[i] : Int) := wrap_i64 (by omega) (by omega)
    have e2 : ((i : Int)).tmod 7 = ((i % 7 : Nat) : Int) := rfl
    have e3 : IntKind.i64.wrap (((i % 7 : Nat) : Int) * 2) = (((i % 7) * 2 : Nat) : Int) := by rw [wrap_i64 (by omega) (by omega)]; simp
    have e4 : IntKind.i64.wrap ((((i % 7) * 2 : Nat) : Int) + 1) = (((i % 7) * 2 + 1 : Nat) : Int) := by rw [wrap_i64 (by omega) (by omega)]; simp
    have hbe : bterm s i = s[i] * (i % 7 * 2 + 1) := by simp [bterm, hc]
    have e5 : IntKind.i64.wrap ((s[i] : Int) * (((i % 7) * 2 + 1 : Nat) : Int)) = (bterm s i : Int) := by
      rw [← Int.natCast_mul, ← hbe, wrap_i64 (by omega) (by omega)]
    have e6 : IntKind.i64.wrap ((bsum s i : Int) + (bterm s i : Int)) = (bsum s (i + 1) : Int) := by
      rw [wrap_i64 (by omega) (by omega)]; simp [bsum]
    have e7 : IntKind.i64.wrap ((i : Int) + 1) = ((i + 1 : Nat) : Int) := by rw [wrap_i64 (by omega) (by omega)]; simp
    simp only [SS, Nat.reduceBEq, Nat.reduceEqDiff, Nat.reduceAdd, reduceIte, Nat.reduceMul, t0, t9, t8, t3, t27, e1, e2, e3, e4, e5, e6, e7, and_self]
  · have hbs := bsum_le hb i
    obtain rfl : i = s.length := by omega
    simp only [F79, t0, t9, t8, t3, SS, Nat.reduceBEq, Nat.reduceEqDiff, Nat.reduceAdd, reduceIte, Nat.reduceMul, Int.ofNat_lt, hlt]
    refine hE _ _ _ (by simp) ?_
    simp only [F79, t0, t9, t8, t3, SS, Nat.reduceBEq, Nat.reduceEqDiff, Nat.reduceAdd, reduceIte, Nat.reduceMul, b_rem (show (16 : Int) ≠ 0 by decide), x_cv_3_5]
    refine hQ _ _ _ _ (.inr rfl) ?_ (by simp only [SS, Nat.reduceBEq, Nat.reduceEqDiff, Nat.reduceAdd, reduceIte, Nat.reduceMul, fn79]; rfl) ?_
    · simp only [SS, Nat.reduceBEq, Nat.reduceEqDiff, Nat.reduceAdd, reduceIte, Nat.reduceMul, fn79, t27]
    · simp only [SS, Nat.reduceBEq, Nat.reduceEqDiff, Nat.reduceAdd, reduceIte, Nat.reduceMul]
      have e2 : ((bsum s s.length : Nat) : Int).tmod 16 = ((bsum s s.length % 16 : Nat) : Int) := rfl
      rw [e2, wrap_u8 (by omega) (by omega)]; exact ⟨rfl, trivial⟩
end Go.Proofs.Ytlfednnfkejcjaa

namespace Go.Proofs.Ytlfednnfkejcjaa
open Go.Am
set_option maxRecDepth 10000
abbrev u (n : Int) : AV := .int .u32 n
def First (ids : List Int) (x : Int) (r : AV) : Prop :=
  (∃ i : Nat, ids[i]? = some x ∧ (∀ j, j < i → ids[j]? ≠ some x) ∧ r = .int .i64 (i : Int)) ∨ ((∀ j : Nat, ids[j]? ≠ some x) ∧ r = .int .i64 (-1))
theorem index_ok {n : Nat} (hn : 1 ≤ n) {h : Heap} {v : AV} {l : Nat} {ids : List Int} (x : Int) (hv : Els h v l 1 (ids.map u)) (hl : l < 90000) : WC (C n (.fn 80) [v, u x] h) fun r h' => h' = h ∧ First ids x r := by
  obtain ⟨hlen, a, c, g, rfl, _⟩ := id hv
  rw [List.length_map, Nat.mul_one] at hlen
  obtain ⟨m, rfl⟩ : ∃ m, n = m + 1 := ⟨n - 1, by omega⟩
  refine call_fn _ f80A rfl (by simp [fn80]) fun QQ hQ => ?_
  simp only [fn80] at hQ
  simp only [fn80, fill_cons, fill_nil, Nat.zero_add, Nat.reduceAdd]
  simp only [F80, x_len_43, SS, Nat.reduceBEq, Nat.reduceEqDiff, Nat.reduceAdd, reduceIte, Nat.reduceMul]
  refine run_loop (c := c80_7) (I := fun k tm' h' => ∃ i, i ≤ l ∧ k = l - i ∧ h' = h ∧ (∀ j, j < i → ids[j]? ≠ some x) ∧ tm'.gt 0 = some (.slice a l c g) ∧ tm'.gt 1 = some (u x) ∧ tm'.gt 7 = some (.int .i64 (l : Int)) ∧ tm'.gt 8 = some (.int .i64 (i : Int)) ∧ tm'.gt 19 = none) (n := l)
    ⟨0, by simp [gt_same, gt_other, gt_leaf]⟩ (by omega) ?_
  rintro _ tm h0 ⟨i, hi, rfl, rfl, hno, t0, t1, t7, t8, t19⟩ Q1 hN hE
  by_cases hlt : i < l
  · obtain ⟨b, o, rfl, hcell⟩ := hv.cell (by omega)
    have hc := hcell i (by omega)
    have hx : ids[i]? = some ids[i] := List.getElem?_eq_getElem (by omega)
    rw [List.getElem?_map, hx, Option.map_some] at hc
    by_cases he : x = ids[i]
    · simp only [F80, x_ia_43 hlt, Nat.mul_one, t0, t1, t7, t8, t19, SS, Nat.reduceBEq, Nat.reduceEqDiff, Nat.reduceAdd, reduceIte, Nat.reduceMul, Int.ofNat_lt, hlt, hc, ← he]
      refine hE _ _ _ (by simp) ?_
      simp only [SS, Nat.reduceBEq, Nat.reduceEqDiff, Nat.reduceAdd, reduceIte, Nat.reduceMul]
      refine hQ _ _ _ _ (.inr rfl) (by simp only [SS, Nat.reduceBEq, t19]) (by simp only [SS, Nat.reduceBEq, Nat.reduceEqDiff, Nat.reduceAdd, reduceIte, Nat.reduceMul]; rfl) ⟨rfl, .inl ⟨i, by rw [hx, he], hno, rfl⟩⟩
    · simp only [F80, x_ia_43 hlt, Nat.mul_one, t0, t1, t7, t8, t19, SS, Nat.reduceBEq, Nat.reduceEqDiff, Nat.reduceAdd, reduceIte, Nat.reduceMul, Int.ofNat_lt, hlt, hc, he]
      refine hN _ _ (l - (i + 1)) (by omega) ⟨i + 1, hlt, rfl, rfl, fun j hj => ?_, ?_⟩
      · by_cases e : j = i
        · subst e; rw [hx]; exact fun e => he (Option.some.inj e).symm
        · exact hno j (by omega)
      · have e7 : IntKind.i64.wrap ((i : Int) + 1) = ((i + 1 : Nat) : Int) := by rw [wrap_i64 (by omega) (by omega)]; simp
        simp only [SS, Nat.reduceBEq, Nat.reduceEqDiff, Nat.reduceAdd, reduceIte, Nat.reduceMul, t0, t1, t7, t8, t19, e7, and_self]
  · obtain rfl : i = l := by omega
    simp only [F80, t0, t1, t7, t8, t19, SS, Nat.reduceBEq, Nat.reduceEqDiff, Nat.reduceAdd, reduceIte, Nat.reduceMul, Int.ofNat_lt, hlt]
    refine hE _ _ _ (by simp) ?_
    simp only [F80, t0, t1, t7, t8, t19, SS, Nat.reduceBEq, Nat.reduceEqDiff, Nat.reduceAdd, reduceIte, Nat.reduceMul]
    refine hQ _ _ _ _ (.inr rfl) (by simp only [SS, Nat.reduceBEq, t19]) (by simp only [SS, Nat.reduceBEq, Nat.reduceEqDiff, Nat.reduceAdd, reduceIte, Nat.reduceMul]; rfl) ⟨rfl, .inr ⟨fun j => ?_, rfl⟩⟩
    by_cases e : j < i
    · exact hno j e
    · rw [List.getElem?_eq_none (by omega)]; simp
theorem contains_ok {n : Nat} (hn : 2 ≤ n) {h : Heap} {v : AV} {l : Nat} {ids : List Int} (x : Int) (hv : Els h v l 1 (ids.map u)) (hl : l < 90000) : WC (C n (.fn 96) [v, u x] h) fun r h' => h' = h ∧ r = .bool (decide (x ∈ ids)) := by
  obtain ⟨m, rfl⟩ : ∃ m, n = m + 1 := ⟨n - 1, by omega⟩
  refine call_fn _ f96A rfl (by simp [fn96]) fun QQ hQ => ?_
  simp only [fn96] at hQ
  simp only [fn96, fill_cons, fill_nil, Nat.zero_add, Nat.reduceAdd]
  obtain ⟨r, h', e, rfl, hF⟩ := index_ok (n := m) (by omega) x hv hl
  rcases hF with ⟨i, h1, h2, rfl⟩ | ⟨h1, rfl⟩
  · simp only [F96, SS, Nat.reduceBEq, Nat.reduceEqDiff, Nat.reduceAdd, reduceIte, Nat.reduceMul, e]
    have hp : (0 : Int) ≤ (i : Int) := by omega
    have hm : x ∈ ids := List.mem_of_getElem? h1
    refine hQ _ _ _ _ (.inr rfl) (by simp only [SS, Nat.reduceBEq]) (by simp only [SS, Nat.reduceBEq, Nat.reduceEqDiff, Nat.reduceAdd, reduceIte, Nat.reduceMul]; rfl) ⟨rfl, by simp [hp, hm, tupled_one]⟩
  · simp only [F96, SS, Nat.reduceBEq, Nat.reduceEqDiff, Nat.reduceAdd, reduceIte, Nat.reduceMul, e]
    have hm : ¬ x ∈ ids := fun h => by obtain ⟨j, hj⟩ := List.getElem?_of_mem h; exact h1 j hj
    refine hQ _ _ _ _ (.inr rfl) (by simp only [SS, Nat.reduceBEq]) (by simp only [SS, Nat.reduceBEq, Nat.reduceEqDiff, Nat.reduceAdd, reduceIte, Nat.reduceMul]; rfl) ⟨rfl, by simp [hm, tupled_one]⟩
theorem one_map (ids : List Int) : (ids.map u).all AV.one = true := by
  rw [List.all_eq_true]; intro x hx; obtain ⟨i, _, rfl⟩ := List.mem_map.1 hx; rfl
theorem clone_ok {n : Nat} (hn : 1 ≤ n) {h : Heap} {v : AV} {l : Nat} {ids : List Int} (hv : Els h v l 1 (ids.map u)) (hl : l < 90000) : WC (C n (.fn 78) [v] h) fun r h' => Els h' r l 1 (ids.map u) ∧ Sm NoB h h' := by
  obtain ⟨hlen, a, c, g, rfl, hnone, _⟩ := id hv
  obtain ⟨m, rfl⟩ : ∃ m, n = m + 1 := ⟨n - 1, by omega⟩
  refine call_fn _ f78A rfl (by simp [fn78]) fun QQ hQ => ?_
  simp only [fn78] at hQ
  simp only [fn78, fill_cons, fill_nil, Nat.zero_add, Nat.reduceAdd]
  cases a with
  | none =>
    obtain rfl := hnone rfl
    simp only [F78, x_eq_43, Option.isNone_none, SS, Nat.reduceBEq, Nat.reduceEqDiff, Nat.reduceAdd, reduceIte, Nat.reduceMul]
    exact hQ _ _ _ _ (.inr rfl) (by simp only [SS, Nat.reduceBEq]) (by simp only [SS, Nat.reduceBEq, Nat.reduceEqDiff, Nat.reduceAdd, reduceIte, Nat.reduceMul]; rfl) ⟨⟨hlen, none, 0, none, rfl, fun _ => rfl, (fun _ _ e => by cases e)⟩, Sm.refl _ _⟩
  | some p =>
    obtain ⟨b, o⟩ := p
    obtain ⟨h1, e1, r1, n1, g1⟩ := Rw.alloc h (id := h.next) (n := 0) (vs := []) (z := []) (ro := false) (Nat.le_refl _) rfl
    have hbn := hv.lt
    have hv1 := hv.same (h' := h1) (g1 b (by omega)) (by omega)
    have ha := app_zero (t := 43) (id := h1.next) u_43 s_27 b_27 z_27 rfl hv1.src hlen (one_map ids) (room_le (by omega) (by omega)) (b := h.next) (by rw [r1.ld (Nat.le_refl _)]; rfl)
    simp only [F78, x_eq_43, Option.isNone_some, x_bs_43_0, sliceTo, e1, ha, SS, Nat.reduceBEq, Nat.reduceEqDiff, Nat.reduceAdd, reduceIte, Nat.reduceMul]
    by_cases hl0 : l = 0
    · subst hl0
      simp only [SS, Nat.reduceBEq, Nat.reduceEqDiff, Nat.reduceAdd, reduceIte, Nat.reduceMul]
      refine hQ _ _ _ _ (.inr rfl) (by simp only [SS, Nat.reduceBEq]) (by simp only [SS, Nat.reduceBEq, Nat.reduceEqDiff, Nat.reduceAdd, reduceIte, Nat.reduceMul]; rfl) ⟨⟨hlen, _, _, _, rfl, (fun e => by cases e), fun b' o' e => ?_⟩, ?_⟩
      · cases e
        refine ⟨by omega, ?_⟩
        rw [r1.ld (Nat.le_refl _)]
        rw [List.eq_nil_of_length_eq_zero (show (ids.map u).length = 0 by omega)]; rfl
      · exact ⟨by omega, fun c hc _ => g1 c (by omega)⟩
    · obtain ⟨h2, e2, r2, n2, g2⟩ := Rw.alloc h1 (id := h1.next) (vs := ids.map u) (z := tyMark 27 false) (ro := false) (Nat.le_refl _) rfl
      simp only [hl0, e2, SS, Nat.reduceBEq, Nat.reduceEqDiff, Nat.reduceAdd, reduceIte, Nat.reduceMul]
      refine hQ _ _ _ _ (.inr rfl) (by simp only [SS, Nat.reduceBEq]) (by simp only [SS, Nat.reduceBEq, Nat.reduceEqDiff, Nat.reduceAdd, reduceIte, Nat.reduceMul]; rfl) ⟨⟨hlen, _, _, _, rfl, (fun e => by cases e), fun b' o' e => ?_⟩, ?_⟩
      · cases e
        refine ⟨by omega, ?_⟩
        rw [r2.ld (by omega), List.drop_zero, List.take_of_length_le (by omega)]
      · refine ⟨by omega, fun c hc _ => ?_⟩
        rw [g2 c (by omega), g1 c (by omega)]
structure IxAt (h : Heap) (x : Nat) (B : Nat → List Int) (F : Nat → List Nat) : Prop where
  ex : ∃ S : List AV, S.length = 16 ∧ Rw h x (.bool true :: S) [] false ∧ ∀ i, i < 16 → ∃ v, S[i]? = some v ∧ SlO 27 1 h v (B i).length ((B i).map u) (F i)
  lt : x < h.next
  fx : ∀ i, i < 16 → x ∉ F i
  ff : ∀ i j, i < 16 → j < 16 → i ≠ j → ∀ b, b ∈ F i → b ∉ F j
  sz : ∀ i, i < 16 → (B i).length < 10000
def IxF (x : Nat) (F : Nat → List Nat) : Nat → Prop := fun b => b = x ∨ ∃ i, i < 16 ∧ b ∈ F i
theorem IxAt.sm {h h' : Heap} {x : Nat} {B : Nat → List Int} {F : Nat → List Nat} {G : Nat → Prop} (hx : IxAt h x B F) (hs : Sm G h h') (hG : ∀ b, IxF x F b → ¬ G b) : IxAt h' x B F := by
  obtain ⟨S, h1, h2, h3⟩ := hx.ex
  refine ⟨⟨S, h1, h2.sm hs hx.lt (hG x (.inl rfl)), fun i hi => ?_⟩, Nat.lt_of_lt_of_le hx.lt hs.1, hx.fx, hx.ff, hx.sz⟩
  obtain ⟨v, g1, g2⟩ := h3 i hi
  exact ⟨v, g1, g2.sm hs fun b hb => hG b (.inr ⟨i, hi, hb⟩)⟩
def bk (s : List Nat) : Nat := bsum s s.length % 16
theorem bk_lt (s : List Nat) : bk s < 16 := Nat.mod_lt _ (by decide)
theorem ixis_ok {n : Nat} (hn : 1 ≤ n) {h : Heap} {x : Nat} {B : Nat → List Int} {F : Nat → List Nat} (hx : IxAt h x B F) : WC (C n (.fn 77) [.ptr (some (x, 0))] h) fun r h' => h' = h ∧ r = .bool true := by
  obtain ⟨S, h1, h2, h3⟩ := hx.ex
  obtain ⟨m, rfl⟩ : ∃ m, n = m + 1 := ⟨n - 1, by omega⟩
  refine call_fn _ f77A rfl (by simp [fn77]) fun QQ hQ => ?_
  simp only [fn77] at hQ
  simp only [fn77, fill_cons, fill_nil, Nat.zero_add, Nat.reduceAdd]
  simp only [F77, x_ne_85, x_fa_135_0, h2.ld1, Option.isSome_some, SS, Nat.reduceBEq, Nat.reduceEqDiff, Nat.reduceAdd, reduceIte, Nat.reduceMul]
  exact hQ _ _ _ _ (.inr rfl) (by simp only [SS, Nat.reduceBEq]) (by simp only [SS, Nat.reduceBEq, Nat.reduceEqDiff, Nat.reduceAdd, reduceIte, Nat.reduceMul]; rfl) ⟨rfl, rfl⟩
theorem ixnew_ok {n : Nat} (hn : 1 ≤ n) {h : Heap} : WC (C n (.fn 51) [] h) fun r h' => ∃ x, r = .ptr (some (x, 0)) ∧ IxAt h' x (fun _ => []) (fun _ => []) ∧ Sm NoB h h' ∧ h.next ≤ x := by
  obtain ⟨m, rfl⟩ : ∃ m, n = m + 1 := ⟨n - 1, by omega⟩
  refine call_fn _ f51A rfl (by simp [fn51]) fun QQ hQ => ?_
  simp only [fn51] at hQ
  simp only [fn51, fill_cons, fill_nil, Nat.zero_add, Nat.reduceAdd]
  obtain ⟨h1, e1, r1, n1, g1⟩ := Rw.alloc h (id := h.next) (n := 17) (vs := .bool true :: List.replicate 16 (.slice none 0 0 none)) (z := []) (ro := false) (Nat.le_refl _) rfl
  simp only [List.replicate_succ, List.replicate_zero] at e1
  simp only [F51, x_bd_135_0, e1, SS, Nat.reduceBEq, Nat.reduceEqDiff, Nat.reduceAdd, reduceIte, Nat.reduceMul]
  refine hQ _ _ _ _ (.inr rfl) (by simp only [SS, Nat.reduceBEq]) (by simp only [SS, Nat.reduceBEq, Nat.reduceEqDiff, Nat.reduceAdd, reduceIte, Nat.reduceMul]; rfl) ⟨h.next, rfl, ⟨⟨_, by simp, r1, fun i hi => ⟨.slice none 0 0 none, ?_, SlO.nil⟩⟩, by omega, (fun _ _ h => by cases h), (fun _ _ _ _ _ _ h => by cases h), (fun _ _ => by simp)⟩, ⟨by omega, fun c hc _ => g1 c (by omega)⟩, Nat.le_refl _⟩
  rw [List.getElem?_replicate, if_pos hi]
theorem ixfind_ok {n : Nat} (hn : 2 ≤ n) {h : Heap} {x : Nat} {B : Nat → List Int} {F : Nat → List Nat} (hx : IxAt h x B F) {s : List Nat} (hl : s.length ≤ 1000) (hb : Byts s) :
    WC (C n (.fn 53) [.ptr (some (x, 0)), .str s] h) fun r h' => Els h' r (B (bk s)).length 1 ((B (bk s)).map u) ∧ Sm NoB h h' := by
  obtain ⟨m, rfl⟩ : ∃ m, n = m + 1 := ⟨n - 1, by omega⟩
  refine call_fn _ f53A rfl (by simp [fn53]) fun QQ hQ => ?_
  simp only [fn53] at hQ
  simp only [fn53, fill_cons, fill_nil, Nat.zero_add, Nat.reduceAdd]
  obtain ⟨_, h0, ea, rfl, rfl⟩ := ixis_ok (n := m) (by omega) hx
  obtain ⟨hm, eb, sb, _⟩ := Sm.bump h0 9
  have hx' := hx.sm sb (fun _ _ h => h)
  obtain ⟨_, h1, ec, rfl, rfl⟩ := bucket_ok (n := m) (by omega) s hm hl hb
  obtain ⟨S, h2, h3, h4⟩ := hx'.ex
  obtain ⟨v, g1, g2⟩ := h4 (bk s) (bk_lt s)
  obtain ⟨r, h5, ed, f1, f2⟩ := clone_ok (n := m) (by omega) g2.els (by have := hx.sz _ (bk_lt s); omega)
  have hv : h1.ld1 x (1 + bk s) = some v := by rw [h3.ld1, Nat.add_comm, List.getElem?_cons_succ]; exact g1
  have ec' : C m (.fn 79) [.str s] h1 = some (.int .u8 ((bk s : Nat) : Int), h1) := ec
  simp only [F53, ea, eb, ec', x_fa_135_1, x_ia_133 (bk_lt s), Nat.mul_one, hv, ed, SS, Nat.reduceBEq, Nat.reduceEqDiff, Nat.reduceAdd, reduceIte, Nat.reduceMul]
  refine hQ _ _ _ _ (.inr rfl) (by simp only [SS, Nat.reduceBEq]) (by simp only [SS, Nat.reduceBEq, Nat.reduceEqDiff, Nat.reduceAdd, reduceIte, Nat.reduceMul]; rfl) ?_
  exact ⟨f1, sb.trans f2 (fun _ _ h => h) (fun _ _ h => h)⟩
def setF {α : Type} (B : Nat → α) (i : Nat) (v : α) : Nat → α := fun j => if j = i then v else B j
theorem setF_same {α : Type} (B : Nat → α) (i : Nat) (v : α) : setF B i v i = v := if_pos rfl
theorem setF_other {α : Type} (B : Nat → α) {i j : Nat} (v : α) (h : j ≠ i) : setF B i v j = B j := if_neg h
theorem IxAt.put {h h' : Heap} {x : Nat} {B : Nat → List Int} {F : Nat → List Nat} (hx : IxAt h x B F) {S : List AV} {i : Nat} {v : AV} {ids : List Int} {bs : List Nat} (hi : i < 16) (hS : S.length = 16) (hS2 : ∀ j, j < 16 → j ≠ i → ∃ v, S[j]? = some v ∧ SlO 27 1 h v (B j).length ((B j).map u) (F j))
    (hr : Rw h' x (.bool true :: S.set i v) [] false) (ho : SlO 27 1 h' v ids.length (ids.map u) bs) (hbs : ∀ b, b ∈ bs → b ∈ F i ∨ h.next ≤ b) (hn : h.next ≤ h'.next) (hsm : ∀ c, c < h.next → c ≠ x → c ∉ F i → h'.bs.gt c = h.bs.gt c) (hl : ids.length < 10000) :
    IxAt h' x (setF B i ids) (setF F i bs) := by
  have hff : ∀ j, j < 16 → j ≠ i → ∀ b, b ∈ F j → b ∉ bs ∧ b ≠ x ∧ b < h.next ∧ b ∉ F i := by
    intro j hj hne b hb
    obtain ⟨v', _, g⟩ := hS2 j hj hne
    have hlt := g.lt b hb
    refine ⟨fun hb2 => ?_, fun e => hx.fx j hj (e ▸ hb), hlt, hx.ff j i hj hi hne b hb⟩
    rcases hbs b hb2 with h1 | h1
    · exact hx.ff j i hj hi hne b hb h1
    · omega
  refine ⟨⟨S.set i v, by simpa using hS, hr, fun j hj => ?_⟩, Nat.lt_of_lt_of_le hx.lt hn, fun j hj => ?_, fun j k hj hk hne b hb => ?_, fun j hj => ?_⟩
  · by_cases e : j = i
    · subst e
      rw [setF_same, setF_same]
      exact ⟨v, by rw [List.getElem?_set_self (by omega)], ho⟩
    · rw [setF_other _ _ e, setF_other _ _ e]
      obtain ⟨v', g1, g2⟩ := hS2 j hj e
      refine ⟨v', by rw [List.getElem?_set_ne (fun h => e h.symm)]; exact g1, g2.same (fun b hb => ?_) hn⟩
      obtain ⟨_, h2, h3, h4⟩ := hff j hj e b hb
      exact hsm b h3 h2 h4
  · by_cases e : j = i
    · subst e
      rw [setF_same]
      intro hb
      rcases hbs x hb with h1 | h1
      · exact hx.fx j hj h1
      · have := hx.lt; omega
    · rw [setF_other _ _ e]; exact hx.fx j hj
  · by_cases e : j = i
    · subst e
      rw [setF_same] at hb
      rw [setF_other _ _ (fun h => hne h.symm)]
      intro hb2
      exact (hff k hk (fun h => hne h.symm) b hb2).1 hb
    · rw [setF_other _ _ e] at hb
      by_cases e' : k = i
      · subst e'
        rw [setF_same]; exact (hff j hj e b hb).1
      · rw [setF_other _ _ e']; exact hx.ff j k hj hk hne b hb
  · by_cases e : j = i
    · subst e; rw [setF_same]; exact hl
    · rw [setF_other _ _ e]; exact hx.sz j hj
theorem ixadd_ok {n : Nat} (hn : 3 ≤ n) {h : Heap} {x : Nat} {B : Nat → List Int} {F : Nat → List Nat} (hx : IxAt h x B F) {s : List Nat} (hl : s.length ≤ 1000) (hb : Byts s) (id : Int) (hid : id ∉ B (bk s)) (hlen : (B (bk s)).length < 9999) :
    WC (C n (.fn 82) [.ptr (some (x, 0)), .str s, u id] h) fun r h' => r = .int .i64 0 ∧ ∃ bs, IxAt h' x (setF B (bk s) (B (bk s) ++ [id])) (setF F (bk s) bs) ∧ Sm (IxF x F) h h' ∧ ∀ b, b ∈ bs → b ∈ F (bk s) ∨ h.next ≤ b := by
  obtain ⟨m, rfl⟩ : ∃ m, n = m + 1 := ⟨n - 1, by omega⟩
  refine call_fn _ f82A rfl (by simp [fn82]) fun QQ hQ => ?_
  simp only [fn82] at hQ
  simp only [fn82, fill_cons, fill_nil, Nat.zero_add, Nat.reduceAdd]
  obtain ⟨_, h0, ea, rfl, rfl⟩ := ixis_ok (n := m) (by omega) hx
  obtain ⟨hm, eb, sb, _⟩ := Sm.bump h0 7
  have hx' := hx.sm sb (fun _ _ h => h)
  obtain ⟨_, h1, ec, rfl, rfl⟩ := bucket_ok (n := m) (by omega) s hm hl hb
  obtain ⟨S, h2, h3, h4⟩ := hx'.ex
  obtain ⟨v, g1, g2⟩ := h4 (bk s) (bk_lt s)
  have hv : h1.ld1 x (1 + bk s) = some v := by rw [h3.ld1, Nat.add_comm, List.getElem?_cons_succ]; exact g1
  have ec' : C m (.fn 79) [.str s] h1 = some (.int .u8 ((bk s : Nat) : Int), h1) := ec
  obtain ⟨_, h5, ed, e5, rfl⟩ := contains_ok (n := m) (by omega) id g2.els (by omega)
  subst e5
  obtain ⟨h6, e6, r6, n6, q6⟩ := Rw.alloc h5 (id := h5.next) (n := 1) (vs := [u id]) (z := []) (ro := false) (Nat.le_refl _) rfl
  have g6 : SlO 27 1 h6 v (B (bk s)).length ((B (bk s)).map u) (F (bk s)) := g2.same (fun b hb => q6 b (by have := g2.lt b hb; omega)) (by omega)
  have hs6 : srcOf 1 (fun n => n) (.slice (some (h5.next, 0)) 1 1 none) h6 = some ([u id], 1) := srcOf_row r6 (Nat.le_refl _)
  obtain ⟨v7, h7, bs, e7, o7, n7, q7, b7, _⟩ := app_own (t := 43) (id := h6.next) u_43 s_27 b_27 z_27 rfl g6 hs6 (by decide) rfl rfl (room_le (by omega) (by omega)) (Nat.le_refl _)
  have r7 : Rw h7 x (.bool true :: S) [] false := h3.same (by rw [q7 x (hx.fx _ (bk_lt s)) (by have := hx'.lt; omega), q6 x (by have := hx'.lt; omega)])
  obtain ⟨w1, w2, w3, w4⟩ := r7.st1 (o := 1 + bk s) (v := v7) (by simp [h2]; have := bk_lt s; omega) (by rcases o7 with ⟨rfl, _⟩ | ⟨_, _, _, _, rfl, _⟩ <;> rfl)
  simp only [F82, ea, eb, ec', x_fa_135_1, x_ia_133 (bk_lt s), Nat.mul_one, hv, ed, hid, x_bs_43_1, e6, e7, w1, SS, Nat.reduceBEq, Nat.reduceEqDiff, Nat.reduceAdd, reduceIte, Nat.reduceMul]
  refine hQ _ _ _ _ (.inr rfl) (by simp only [SS, Nat.reduceBEq]) (by simp only [SS, Nat.reduceBEq, Nat.reduceEqDiff, Nat.reduceAdd, reduceIte, Nat.reduceMul]; rfl) ?_
  have hbk := bk_lt s
  refine ⟨rfl, bs, ?_, ⟨by omega, fun c hc hF => ?_⟩, fun b hb' => ?_⟩
  · refine hx'.put (h' := h7.wr x (1 + bk s) [v7]) (v := v7) (S := S) hbk h2 (fun j hj _ => h4 j hj) ?_ ?_ ?_ (by omega) ?_ (by simp; omega)
    · rw [show (AV.bool true :: S).set (1 + bk s) v7 = .bool true :: S.set (bk s) v7 from by rw [Nat.add_comm]; rfl] at w2; exact w2
    · have := o7.same (h' := h7.wr x (1 + bk s) [v7]) (fun b hb' => w4 b ?_) (by omega)
      · rw [List.length_append, List.map_append]; exact this
      · rintro rfl
        rcases b7 b hb' with h1 | h1
        · exact hx.fx _ hbk h1
        · have := hx'.lt; omega
    · intro b hb'
      rcases b7 b hb' with h1 | h1
      · exact .inl h1
      · exact .inr (by omega)
    · intro c hc hcx hcF
      rw [w4 c hcx, q7 c hcF (by omega), q6 c (by omega)]
  · have hcx : c ≠ x := fun e => hF (.inl e)
    have hcF : c ∉ F (bk s) := fun e => hF (.inr ⟨_, hbk, e⟩)
    have hc5 : c < h5.next := Nat.lt_of_lt_of_le hc sb.1
    rw [w4 c hcx, q7 c hcF (by omega), q6 c (by omega), sb.2 c hc (fun h => h)]
  · have := sb.1
    rcases b7 b hb' with h1 | h1
    · exact .inl h1
    · exact .inr (by omega)
theorem delete_ok {n : Nat} (hn : 1 ≤ n) {h : Heap} {v : AV} {l i : Nat} {ids : List Int} {bs : List Nat} (ho : SlO 27 1 h v l (ids.map u) bs) (hi : i < l) (hl : l < 90000) :
    WC (C n (.fn 81) [v, .int .i64 (i : Int), .int .i64 ((i + 1 : Nat) : Int)] h) fun r h' => SlO 27 1 h' r (l - 1) ((ids.eraseIdx i).map u) bs ∧ h.next ≤ h'.next ∧ ∀ c, c ∉ bs → c < h.next → h'.bs.gt c = h.bs.gt c := by
  rcases ho with ⟨_, rfl, _, _⟩ | ⟨b, c, rest, z, rfl, h1, h2, h3, h4, h5, rfl, rfl, h8⟩
  · omega
  rw [Nat.mul_one, List.length_map] at h1
  rw [Nat.mul_one, List.length_append, List.length_map] at h2
  obtain ⟨m, rfl⟩ : ∃ m, n = m + 1 := ⟨n - 1, by omega⟩
  refine call_fn _ f81A rfl (by simp [fn81]) fun QQ hQ => ?_
  simp only [fn81] at hQ
  simp only [fn81, fill_cons, fill_nil, Nat.zero_add, Nat.reduceAdd]
  obtain ⟨h9, e9, s9, b9, n9⟩ := Sm.bump h 8
  have r9 : Rw h9 b (ids.map u ++ rest) (tyMark 27 false) false := h4.same (by rw [b9])
  have hsrc : srcOf 1 (fun n => n) (.slice (some (b, i + 1)) (l - (i + 1)) (c - (i + 1)) (some 1)) h9 = some ((ids.drop (i + 1)).map u, l - (i + 1)) := by
    rw [srcOf_row r9 (by rw [List.length_append, List.length_map]; omega), Nat.mul_one, List.drop_append, ← List.map_drop, List.take_append_of_le_length (by simp; omega), List.take_of_length_le (by simp; omega)]
  have hle : (ids.drop (i + 1)).length = l - (i + 1) := by simp; omega
  obtain ⟨ha, ea, ra, na, ga⟩ := app_in (t := 43) (id := h.next + 8) (len := i) (cap := c) (o := 0) (g := some 1) u_43 s_27 b_27 z_27 rfl hsrc (by rw [List.length_map, hle, Nat.mul_one]) (one_map _) (room_le (by omega) (by omega)) r9 (by omega) (by rw [List.length_append, List.length_map, List.length_map, hle]; omega)
  have hlen : i + (l - (i + 1)) = l - 1 := by omega
  rw [hlen] at ea
  have hc1 : putL (ids.map u ++ rest) (0 + i * 1) ((ids.drop (i + 1)).map u) = (ids.eraseIdx i).map u ++ (ids.map u ++ rest).drop (l - 1) := by
    unfold putL
    rw [Nat.zero_add, Nat.mul_one, List.length_map, hle, hlen, ← List.append_assoc, List.eraseIdx_eq_take_drop_succ, List.map_append, List.take_append_of_le_length (by simp; omega), List.map_take]
  rw [hc1] at ra
  have hce : (ids.eraseIdx i).length = l - 1 := by rw [List.length_eraseIdx]; split <;> omega
  have hdl : ((ids.map u ++ rest).drop (l - 1)).length = c - (l - 1) := by simp; omega
  obtain ⟨hb, eb, rb, nb, gb⟩ := clear_sl (t := 43) (o := l - 1) (len := l - (l - 1)) (cap := c - (l - 1)) (g := some 1) u_43 z_27 ra (by rw [List.length_append, List.length_map, hce, hdl]; simp [AV.cells]; omega) rfl
  have hii : ¬ ((i : Int) = ((i + 1 : Nat) : Int)) := by omega
  have q1 := x_sl_43_111 (a := some (b, 0)) (n := l) (g := some 1) (k := .i64) (k' := .i64) (k'' := .i64) h3 (show i + 1 ≤ l by omega) (Nat.le_succ i)
  have q2 := x_sl_43_010 (a := some (b, 0)) (n := l) (c := c) (g := some 1) (k := .i64) rfl (show i ≤ c by omega)
  have q3 := x_sl_43_100 (a := some (b, 0)) (n := l) (c := c) (g := some 1) (k := .i64) rfl (show i + 1 ≤ l by omega)
  have q4 := x_sl_43_110 (a := some (b, 0)) (n := l - 1) (c := c) (g := some 1) (k := .i64) (k' := .i64) rfl h3 (show l - 1 ≤ l by omega)
  simp only [F81, x_len_43, q1, q2, q3, q4, hii, e9, ea, eb, SS, Nat.reduceBEq, Nat.reduceEqDiff, Nat.reduceAdd, reduceIte, Nat.reduceMul]
  refine hQ _ _ _ _ (.inr rfl) (by simp only [SS, Nat.reduceBEq]) (by simp only [SS, Nat.reduceBEq, Nat.reduceEqDiff, Nat.reduceAdd, reduceIte, Nat.reduceMul]; rfl) ?_
  refine ⟨.inr ⟨b, c, (ids.map u ++ rest).drop l |>.cons (u 0), _, rfl, by rw [List.length_map, hce, Nat.mul_one], ?_, by omega, ?_, by omega, rfl, rfl, one_map _⟩, by omega, fun c' hc' hlt => ?_⟩
  · simp [hce]; omega
  · have : putL ((ids.eraseIdx i).map u ++ (ids.map u ++ rest).drop (l - 1)) (l - 1) (List.replicate (l - (l - 1)) (AV.int IntKind.u32 0).cells).flatten = (ids.eraseIdx i).map u ++ (u 0 :: (ids.map u ++ rest).drop l) := by
      rw [show l - (l - 1) = 1 by omega]
      unfold putL
      rw [List.take_append_of_le_length (by simp [hce]), List.take_of_length_le (by simp [hce])]
      congr 1
      show [u 0] ++ _ = _
      rw [List.singleton_append]
      congr 1
      rw [show (List.replicate 1 (AV.int IntKind.u32 0).cells).flatten.length = 1 from rfl, List.drop_append, List.drop_eq_nil_of_le (by simp [hce]), List.nil_append, List.drop_drop]
      congr 1
      first | omega | (simp [hce]; omega) | simp [hce]
    rw [← this]; exact rb
  · rw [gb c' (fun e => hc' (List.mem_singleton.2 e)), ga c' (fun e => hc' (List.mem_singleton.2 e)), b9]
theorem ixdrop_ok {n : Nat} (hn : 3 ≤ n) {h : Heap} {x : Nat} {B : Nat → List Int} {F : Nat → List Nat} (hx : IxAt h x B F) {s : List Nat} (hl : s.length ≤ 1000) (hb : Byts s) (id : Int) (hid : id ∈ B (bk s)) :
    WC (C n (.fn 55) [.ptr (some (x, 0)), .str s, u id] h) fun r h' => r = .int .i64 0 ∧ ∃ bs i, (B (bk s))[i]? = some id ∧ IxAt h' x (setF B (bk s) ((B (bk s)).eraseIdx i)) (setF F (bk s) bs) ∧ Sm (IxF x F) h h' ∧ ∀ b, b ∈ bs → b ∈ F (bk s) := by
  obtain ⟨m, rfl⟩ : ∃ m, n = m + 1 := ⟨n - 1, by omega⟩
  refine call_fn _ f55A rfl (by simp [fn55]) fun QQ hQ => ?_
  simp only [fn55] at hQ
  simp only [fn55, fill_cons, fill_nil, Nat.zero_add, Nat.reduceAdd]
  obtain ⟨_, h0, ea, rfl, rfl⟩ := ixis_ok (n := m) (by omega) hx
  obtain ⟨hm, eb, sb, _⟩ := Sm.bump h0 7
  have hx' := hx.sm sb (fun _ _ h => h)
  obtain ⟨_, h1, ec, rfl, rfl⟩ := bucket_ok (n := m) (by omega) s hm hl hb
  obtain ⟨S, h2, h3, h4⟩ := hx'.ex
  have hbk := bk_lt s
  obtain ⟨v, g1, g2⟩ := h4 (bk s) hbk
  have hsz := hx.sz _ hbk
  have hv : h1.ld1 x (1 + bk s) = some v := by rw [h3.ld1, Nat.add_comm, List.getElem?_cons_succ]; exact g1
  have ec' : C m (.fn 79) [.str s] h1 = some (.int .u8 ((bk s : Nat) : Int), h1) := ec
  obtain ⟨_, h5, ed, e5, hF⟩ := index_ok (n := m) (by omega) id g2.els (by omega)
  subst e5
  rcases hF with ⟨i, i1, i2, rfl⟩ | ⟨i1, _⟩
  · have hi : i < (B (bk s)).length := (List.getElem?_eq_some_iff.1 i1).1
    obtain ⟨v7, h7, e7, o7, n7, q7⟩ := delete_ok (n := m) (by omega) g2 hi (by omega)
    have e8 : IntKind.i64.wrap ((i : Int) + 1) = ((i + 1 : Nat) : Int) := by rw [wrap_i64 (by omega) (by omega)]; simp
    have hneg : ¬ ((i : Int) < 0) := by omega
    have r7 : Rw h7 x (.bool true :: S) [] false := h3.same (by rw [q7 x (hx.fx _ hbk) hx'.lt])
    obtain ⟨w1, w2, w3, w4⟩ := r7.st1 (o := 1 + bk s) (v := v7) (by simp [h2]; omega) (by rcases o7 with ⟨rfl, _⟩ | ⟨_, _, _, _, rfl, _⟩ <;> rfl)
    simp only [F55, ea, eb, ec', x_fa_135_1, x_ia_133 hbk, hv, ed, hneg, e8, e7, w1, SS, Nat.reduceBEq, Nat.reduceEqDiff, Nat.reduceAdd, reduceIte, Nat.reduceMul]
    refine hQ _ _ _ _ (.inr rfl) (by simp only [SS, Nat.reduceBEq]) (by simp only [SS, Nat.reduceBEq, Nat.reduceEqDiff, Nat.reduceAdd, reduceIte, Nat.reduceMul]; rfl) ?_
    have hlen : ((B (bk s)).eraseIdx i).length = (B (bk s)).length - 1 := by rw [List.length_eraseIdx]; split <;> omega
    refine ⟨rfl, F (bk s), i, i1, ?_, ⟨by have := sb.1; omega, fun c hc hF => ?_⟩, fun b hb' => hb'⟩
    · refine hx'.put (h' := h7.wr x (1 + bk s) [v7]) (v := v7) (S := S) hbk h2 (fun j hj _ => h4 j hj) ?_ ?_ (fun b hb' => .inl hb') (by omega) ?_ (by omega)
      · rw [show (AV.bool true :: S).set (1 + bk s) v7 = .bool true :: S.set (bk s) v7 from by rw [Nat.add_comm]; rfl] at w2; exact w2
      · rw [hlen]
        exact o7.same (fun b hb' => w4 b (fun e => hx.fx _ hbk (e ▸ hb'))) (by omega)
      · intro c hc hcx hcF
        rw [w4 c hcx, q7 c hcF hc]
    · have hcx : c ≠ x := fun e => hF (.inl e)
      have hcF : c ∉ F (bk s) := fun e => hF (.inr ⟨_, hbk, e⟩)
      rw [w4 c hcx, q7 c hcF (Nat.lt_of_lt_of_le hc sb.1), sb.2 c hc (fun h => h)]
  · obtain ⟨j, hj⟩ := List.getElem?_of_mem hid
    exact absurd hj (i1 j)
end Go.Proofs.Ytlfednnfkejcjaa

namespace Go.Proofs.Ytlfednnfkejcjaa
open Go.Am
set_option maxRecDepth 10000
structure Ch where
  id : Int
  data : List Nat
  block : Int
  refs : Int
def Ch.val (c : Ch) : AV := .agg [.str c.data, .int .i64 c.block, .int .i64 c.refs]
def Ents (es : List MEnt) (L : List Ch) : Prop := es.map (fun e => (e.key, e.val)) = L.map fun c => (u c.id, c.val)
def gtL (L : List Ch) (id : Int) : Option Ch := L.find? fun c => c.id == id
def putC (c : Ch) : List Ch → List Ch
  | [] => [c]
  | d :: L => if d.id == c.id then c :: L else d :: putC c L
def cutC (id : Int) : List Ch → List Ch
  | [] => []
  | d :: L => if d.id == id then L else d :: cutC id L
theorem Ents.nil {es : List MEnt} : Ents es [] ↔ es = [] := by unfold Ents; simp
theorem Ents.cons {es : List MEnt} {c : Ch} {L : List Ch} (h : Ents es (c :: L)) : ∃ e es', es = e :: es' ∧ e.key = u c.id ∧ e.val = c.val ∧ Ents es' L := by
  cases es with
  | nil => cases h
  | cons e es' =>
    unfold Ents at h
    simp only [List.map_cons, List.cons.injEq, Prod.mk.injEq] at h
    exact ⟨e, es', rfl, h.1.1, h.1.2, h.2⟩
theorem Ents.mk {es : List MEnt} {e : MEnt} {c : Ch} {L : List Ch} (h : Ents es L) (h1 : e.key = u c.id) (h2 : e.val = c.val) : Ents (e :: es) (c :: L) := by
  unfold Ents at h ⊢
  rw [List.map_cons, List.map_cons, h, h1, h2]
theorem Ents.all : ∀ {L : List Ch} {es : List MEnt}, Ents es L → AllInt .u32 es
  | [], es, h => by rw [Ents.nil.1 h]; intro e he; cases he
  | c :: L, es, h => by
    obtain ⟨e, es', rfl, h1, _, h3⟩ := h.cons
    intro x hx
    rcases List.mem_cons.1 hx with rfl | hx
    · exact ⟨_, h1⟩
    · exact h3.all x hx
theorem kInt_key {e : MEnt} {n id : Int} (h : e.key = u n) : kInt .u32 id e = (n == id) := by
  unfold kInt; rw [h]
  show (IntKind.u32 == IntKind.u32 && n == id) = _
  rw [show (IntKind.u32 == IntKind.u32) = true from rfl, Bool.true_and]
theorem Ents.len {L : List Ch} {es : List MEnt} (h : Ents es L) : es.length = L.length := by
  have := congrArg List.length h; simpa using this
theorem Ents.find : ∀ {L : List Ch} {es : List MEnt} (_ : Ents es L) (id : Int), (es.find? (kInt .u32 id)).map (·.val) = (gtL L id).map Ch.val
  | [], es, h, id => by rw [Ents.nil.1 h]; rfl
  | c :: L, es, h, id => by
    obtain ⟨e, es', rfl, h1, h2, h3⟩ := h.cons
    unfold gtL
    rw [List.find?_cons, List.find?_cons, kInt_key h1]
    cases c.id == id with
    | true => simp [h2]
    | false => exact h3.find id
theorem Ents.put : ∀ {L : List Ch} {es : List MEnt} (_ : Ents es L) (c : Ch) (k : Nat), Ents (putE .u32 c.id c.val k es) (putC c L)
  | [], es, h, c, k => by rw [Ents.nil.1 h]; rfl
  | d :: L, es, h, c, k => by
    obtain ⟨e, es', rfl, h1, h2, h3⟩ := h.cons
    rw [putE, putC, kInt_key h1]
    cases d.id == c.id with
    | true => exact h3.mk rfl rfl
    | false => exact (h3.put c k).mk h1 h2
theorem Ents.cut : ∀ {L : List Ch} {es : List MEnt} (_ : Ents es L) (id : Int), Ents (cutE .u32 id es) (cutC id L)
  | [], es, h, id => by rw [Ents.nil.1 h]; rfl
  | d :: L, es, h, id => by
    obtain ⟨e, es', rfl, h1, h2, h3⟩ := h.cons
    rw [cutE, cutC, kInt_key h1]
    cases d.id == id with
    | true => exact h3
    | false => exact (h3.cut id).mk h1 h2
section
variable {h : Heap} {mb k : Nat} {es : List MEnt} {L : List Ch} {id : Int} {c : Ch}
theorem Ents.findS (h : Ents es L) (hg : gtL L id = some c) : ∃ x, es.find? (kInt .u32 id) = some x ∧ x.val = c.val := by
  have := h.find id
  rw [hg] at this
  cases he : es.find? (kInt .u32 id) with
  | none => rw [he] at this; cases this
  | some x => rw [he] at this; exact ⟨x, rfl, Option.some.inj this⟩
theorem Ents.findN (h : Ents es L) (hg : gtL L id = none) : es.find? (kInt .u32 id) = none := by
  have := h.find id
  rw [hg] at this
  cases he : es.find? (kInt .u32 id) with
  | none => rfl
  | some x => rw [he] at this; cases this
theorem lkT_some (hb : h.bs.gt mb = some (.map es k)) (he : Ents es L) (hg : gtL L id = some c) : lookup2 P 84 true (.map (some mb)) (u id) h = some (.tuple [c.val, .bool true]) := by
  obtain ⟨x, h1, h2⟩ := he.findS hg
  rw [x_lk_84_true hb he.all, h1]
  show some (AV.tuple [x.val, .bool true]) = _
  rw [h2]
theorem lkF_some (hb : h.bs.gt mb = some (.map es k)) (he : Ents es L) (hg : gtL L id = some c) : lookup2 P 84 false (.map (some mb)) (u id) h = some c.val := by
  obtain ⟨x, h1, h2⟩ := he.findS hg
  rw [x_lk_84_false hb he.all, h1]
  show some x.val = _
  rw [h2]
theorem lkT_none (hb : h.bs.gt mb = some (.map es k)) (he : Ents es L) (hg : gtL L id = none) : lookup2 P 84 true (.map (some mb)) (u id) h = some (.tuple [.agg [.str [], .int .i64 0, .int .i64 0], .bool false]) := by
  rw [x_lk_84_true hb he.all, he.findN hg]; rfl
end
structure EntsB (k : Nat) (es : List MEnt) (L : List Ch) : Prop where
  e : Ents es L
  b : bornOk es k
theorem putE_new {k n : Nat} {id : Int} {v : AV} : ∀ {es : List MEnt}, es.any (kInt .u32 id) = false → bornOk es k → n = k + 1 → bornOk (putE .u32 id v k es) n := by
  intro es ha hb hn
  subst hn
  rw [putE_end ha]
  refine ⟨fun e he => ?_, ?_⟩
  · rcases List.mem_append.1 he with h | h
    · have := hb.1 e h; omega
    · rw [List.mem_singleton.1 h]; exact Nat.lt_succ_self _
  · rw [List.pairwise_append]
    refine ⟨hb.2, List.pairwise_singleton _ _, fun a ha b hb' => ?_⟩
    have := hb.1 a ha
    rw [List.mem_singleton.1 hb']
    show a.born ≠ k
    omega
theorem putE_borns {c : Nat} {id : Int} {v : AV} : ∀ {es : List MEnt}, es.any (kInt .u32 id) = true → (putE .u32 id v c es).map (·.born) = es.map (·.born)
  | [], h => by cases h
  | e :: es, h => by
    unfold putE
    cases hk : kInt .u32 id e with
    | true => rfl
    | false =>
      rw [List.any_cons, hk, Bool.false_or] at h
      show e.born :: _ = e.born :: _
      rw [putE_borns h]
theorem bornOk_of {k : Nat} {es es' : List MEnt} (h : bornOk es k) (he : es'.map (·.born) = es.map (·.born)) : bornOk es' k := by
  refine ⟨fun e hm => ?_, ?_⟩
  · have : e.born ∈ es.map (·.born) := by rw [← he]; exact List.mem_map.2 ⟨e, hm, rfl⟩
    obtain ⟨d, d1, d2⟩ := List.mem_map.1 this
    rw [← d2]; exact h.1 d d1
  · have h2 : (es.map (·.born)).Pairwise (· ≠ ·) := List.pairwise_map.2 h.2
    rw [← he] at h2
    exact List.pairwise_map.1 h2
theorem putE_upd {k : Nat} {id : Int} {v : AV} {es : List MEnt} (ha : es.any (kInt .u32 id) = true) (hb : bornOk es k) : bornOk (putE .u32 id v k es) k := bornOk_of hb (putE_borns ha)
theorem cutE_sub (id : Int) : ∀ es : List MEnt, (cutE .u32 id es).Sublist es
  | [] => List.Sublist.refl _
  | e :: es => by
    unfold cutE
    split
    · exact List.sublist_cons_self _ _
    · exact (cutE_sub id es).cons_cons e
theorem cutE_born {k : Nat} {id : Int} {es : List MEnt} (hb : bornOk es k) : bornOk (cutE .u32 id es) k :=
  ⟨fun e he => hb.1 e ((cutE_sub id es).subset he), hb.2.sublist (cutE_sub id es)⟩
structure TabOk (L : List Ch) (next : Int) (B : Nat → List Int) : Prop where
  ids : (L.map Ch.id).Nodup
  datas : (L.map Ch.data).Nodup
  ch : ∀ c, c ∈ L → 1 ≤ c.id ∧ c.id < next ∧ 1 ≤ c.data.length ∧ c.data.length ≤ 64 ∧ Byts c.data ∧ 1 ≤ c.refs ∧ c.refs ≤ 65535
  next : 1 ≤ next ∧ next ≤ 4294967295
  inB : ∀ c, c ∈ L → c.id ∈ B (bk c.data)
  ofB : ∀ i, i < 16 → ∀ id, id ∈ B i → ∃ c, c ∈ L ∧ c.id = id ∧ bk c.data = i
  ndB : ∀ i, i < 16 → (B i).Nodup
  len : L.length < 5000
structure TabAt (h : Heap) (tb : Nat) (L : List Ch) (next : Int) (F : Nat → Prop) : Prop where
  ex : ∃ mb x es c B X, Rw h tb [.map (some mb), .ptr (some (x, 0)), u next] [] false ∧ h.bs.gt mb = some (.map es c) ∧ EntsB c es L ∧ IxAt h x B X ∧ TabOk L next B ∧ mb < h.next ∧ tb ≠ mb ∧ ¬ IxF x X tb ∧ ¬ IxF x X mb ∧ F = fun b => b = tb ∨ b = mb ∨ IxF x X b
  lt : tb < h.next
theorem TabAt.sm {h h' : Heap} {tb : Nat} {L : List Ch} {next : Int} {F G : Nat → Prop} (ht : TabAt h tb L next F) (hs : Sm G h h') (hG : ∀ b, F b → ¬ G b) : TabAt h' tb L next F := by
  obtain ⟨mb, x, es, c, B, X, h1, h2, h3, h4, h5, h6, h7, h8, h9, rfl⟩ := ht.ex
  exact ⟨⟨mb, x, es, c, B, X, h1.sm hs ht.lt (hG tb (.inl rfl)), (hs.2 mb h6 (hG mb (.inr (.inl rfl)))).trans h2, h3, h4.sm hs (fun b hb => hG b (.inr (.inr hb))), h5, Nat.lt_of_lt_of_le h6 hs.1, h7, h8, h9, rfl⟩, Nat.lt_of_lt_of_le ht.lt hs.1⟩
theorem tis_ok {n : Nat} (hn : 1 ≤ n) {h : Heap} {tb : Nat} {L : List Ch} {next : Int} {F : Nat → Prop} (ht : TabAt h tb L next F) : WC (C n (.fn 52) [.ptr (some (tb, 0))] h) fun r h' => h' = h ∧ r = .bool true := by
  obtain ⟨mb, x, es, c, B, X, h1, _⟩ := ht.ex
  obtain ⟨m, rfl⟩ : ∃ m, n = m + 1 := ⟨n - 1, by omega⟩
  refine call_fn _ f52A rfl (by simp [fn52]) fun QQ hQ => ?_
  simp only [fn52] at hQ
  simp only [fn52, fill_cons, fill_nil, Nat.zero_add, Nat.reduceAdd]
  simp only [F52, x_ne_24, x_fa_87_0, x_ne_84, h1.ld1, Option.isSome_some, SS, Nat.reduceBEq, Nat.reduceEqDiff, Nat.reduceAdd, reduceIte, Nat.reduceMul]
  refine hQ _ _ _ _ (.inr rfl) (by simp only [SS, Nat.reduceBEq]) (by simp only [SS, Nat.reduceBEq, Nat.reduceEqDiff, Nat.reduceAdd, reduceIte, Nat.reduceMul]; rfl) ?_
  exact ⟨rfl, rfl⟩
theorem count_ok {n : Nat} (hn : 2 ≤ n) {h : Heap} {tb : Nat} {L : List Ch} {next : Int} {F : Nat → Prop} (ht : TabAt h tb L next F) : WC (C n (.fn 39) [.ptr (some (tb, 0))] h) fun r h' => h' = h ∧ r = .int .i64 (L.length : Int) := by
  obtain ⟨mb, x, es, c, B, X, h1, h2, h3, _⟩ := ht.ex
  have h3 := h3.e
  obtain ⟨m, rfl⟩ : ∃ m, n = m + 1 := ⟨n - 1, by omega⟩
  refine call_fn _ f39A rfl (by simp [fn39]) fun QQ hQ => ?_
  simp only [fn39] at hQ
  simp only [fn39, fill_cons, fill_nil, Nat.zero_add, Nat.reduceAdd]
  obtain ⟨_, h0, ea, rfl, rfl⟩ := tis_ok (n := m) (by omega) ht
  simp only [F39, ea, x_fa_87_0, h1.ld1, len_map _ h2, h3.len, SS, Nat.reduceBEq, Nat.reduceEqDiff, Nat.reduceAdd, reduceIte, Nat.reduceMul]
  refine hQ _ _ _ _ (.inr rfl) (by simp only [SS, Nat.reduceBEq]) (by simp only [SS, Nat.reduceBEq, Nat.reduceEqDiff, Nat.reduceAdd, reduceIte, Nat.reduceMul]; rfl) ?_
  exact ⟨rfl, rfl⟩
def zCh : AV := .agg [.str [], .int .i64 0, .int .i64 0]
theorem tfind_ok {n : Nat} (hn : 2 ≤ n) {h : Heap} {tb : Nat} {L : List Ch} {next : Int} {F : Nat → Prop} (ht : TabAt h tb L next F) (id : Int) : WC (C n (.fn 54) [.ptr (some (tb, 0)), u id] h) fun r h' => Sm NoB h h' ∧ r = match gtL L id with
    | some c => .tuple [c.val, .int .i64 0]
    | none => .tuple [zCh, .int .i64 5] := by
  obtain ⟨mb, x, es, c, B, X, h1, h2, h3, _, _, hmb, _⟩ := ht.ex
  have h3 := h3.e
  obtain ⟨m, rfl⟩ : ∃ m, n = m + 1 := ⟨n - 1, by omega⟩
  refine call_fn _ f54A rfl (by simp [fn54]) fun QQ hQ => ?_
  simp only [fn54] at hQ
  simp only [fn54, fill_cons, fill_nil, Nat.zero_add, Nat.reduceAdd]
  obtain ⟨h5, e5, r5, n5, g5⟩ := Rw.alloc h (id := h.next) (n := 3) (vs := [.str [], .int .i64 0, .int .i64 0]) (z := tyMark 91 true) (ro := false) (Nat.le_refl _) rfl
  have s5 : Sm NoB h h5 := ⟨by omega, fun c hc _ => g5 c (by omega)⟩
  have ht5 := ht.sm s5 (fun _ _ h => h)
  have h0' : h5.bs.gt mb = some (.map es c) := (g5 mb (by omega)).trans h2
  have r1 : Rw h5 tb [.map (some mb), .ptr (some (x, 0)), u next] [] false := h1.sm s5 ht.lt (fun h => h)
  obtain ⟨_, h0, ea, rfl, rfl⟩ := tis_ok (n := m) (by omega) ht5
  obtain ⟨h6, e6, r6, n6, g6⟩ := Rw.alloc h0 (id := h0.next) (n := 3) (vs := [.str [], .int .i64 0, .int .i64 0]) (z := tyMark 91 true) (ro := false) (Nat.le_refl _) rfl
  have rc : resC P 91 = loadN 3 := by kernel_rfl
  have key : ∀ us : List AV, us.length = 3 → us.all AV.one = true → ∀ ws : List AV, ws.length = 3 → ws.all AV.one = true → ∃ h7 h8, h6.sto h0.next 0 us = some h7 ∧ h7.ld h0.next 0 3 = some us ∧ h7.sto h.next 0 ws = some h8 ∧ h8.ld h.next 0 3 = some ws ∧ Sm NoB h h8 := by
    intro us hu1 hu2 ws hw1 hw2
    obtain ⟨w1, w2, w3, w4⟩ := r6.sto (o := 0) (us := us) (by simp [hu1]) hu2
    have r7 : Rw (h6.wr h0.next 0 us) h.next [.str [], .int .i64 0, .int .i64 0] (tyMark 91 true) false := r5.same (by rw [w4 _ (by omega), g6 _ (by omega)])
    obtain ⟨v1, v2, v3, v4⟩ := r7.sto (o := 0) (us := ws) (by simp [hw1]) hw2
    have full : ∀ (l us : List AV), l.length = 3 → us.length = 3 → putL l 0 us = us := by
      intro l us h1 h2
      unfold putL
      rw [List.take_zero, List.nil_append, Nat.zero_add, h2, List.drop_eq_nil_of_le (by omega), List.append_nil]
    rw [full _ _ rfl hu1] at w2
    rw [full _ _ rfl hw1] at v2
    refine ⟨_, _, w1, ?_, v1, ?_, ⟨by omega, fun c hc _ => ?_⟩⟩
    · rw [w2.ld (by omega), List.drop_zero, List.take_of_length_le (by omega)]
    · rw [v2.ld (by omega), List.drop_zero, List.take_of_length_le (by omega)]
    · rw [v4 c (by omega), w4 c (by omega), g6 c (by omega), g5 c (Nat.ne_of_lt hc)]
  cases hg : gtL L id with
  | none =>
    obtain ⟨h7, h8, k1, k2, k3, k4, k5⟩ := key [.str [], .int .i64 0, .int .i64 0] rfl rfl [.str [], .int .i64 0, .int .i64 0] rfl rfl
    simp only [F54, x_al_91, e5, ea, x_fa_87_0, r1.ld1, lkT_none h0' h3 hg, e6, x_bd_91_, k1, k3, SS, Nat.reduceBEq, Nat.reduceEqDiff, Nat.reduceAdd, reduceIte, Nat.reduceMul]
    refine hQ _ _ _ _ (.inr rfl) (by simp only [SS, Nat.reduceBEq]) (by simp only [SS, Nat.reduceBEq, Nat.reduceEqDiff, Nat.reduceAdd, reduceIte, Nat.reduceMul, rc, k4]; rfl) ?_
    exact ⟨k5, by rw [hg]; rfl⟩
  | some ch =>
    obtain ⟨h7, h8, k1, k2, k3, k4, k5⟩ := key [.str ch.data, .int .i64 ch.block, .int .i64 ch.refs] rfl rfl [.str ch.data, .int .i64 ch.block, .int .i64 ch.refs] rfl rfl
    have hl := lkT_some h0' h3 hg
    unfold Ch.val at hl
    simp only [F54, x_al_91, e5, ea, x_fa_87_0, r1.ld1, hl, e6, k1, k2, k3, SS, Nat.reduceBEq, Nat.reduceEqDiff, Nat.reduceAdd, reduceIte, Nat.reduceMul]
    refine hQ _ _ _ _ (.inr rfl) (by simp only [SS, Nat.reduceBEq]) (by simp only [SS, Nat.reduceBEq, Nat.reduceEqDiff, Nat.reduceAdd, reduceIte, Nat.reduceMul, rc, k4]; rfl) ?_
    exact ⟨k5, by rw [hg]; rfl⟩
def fdL (L : List Ch) (d : List Nat) : Option Ch := L.find? fun c => c.data == d
theorem gt_some {L : List Ch} {id : Int} {c : Ch} (h : gtL L id = some c) : c ∈ L ∧ c.id = id := by
  have h1 := List.find?_some h
  exact ⟨List.mem_of_find?_eq_some h, by simpa using h1⟩
theorem gt_none {L : List Ch} {id : Int} (h : gtL L id = none) : ∀ c, c ∈ L → c.id ≠ id := by
  intro c hc e
  have := List.find?_eq_none.1 h c hc
  simp [e] at this
theorem fd_some {L : List Ch} {d : List Nat} {c : Ch} (h : fdL L d = some c) : c ∈ L ∧ c.data = d := by
  have h1 := List.find?_some h
  exact ⟨List.mem_of_find?_eq_some h, by simpa using h1⟩
theorem fd_none {L : List Ch} {d : List Nat} (h : fdL L d = none) : ∀ c, c ∈ L → c.data ≠ d := by
  intro c hc e
  have := List.find?_eq_none.1 h c hc
  simp [e] at this
theorem nodup_inj {α β : Type} {f : α → β} : ∀ {L : List α}, (L.map f).Nodup → ∀ {c d : α}, c ∈ L → d ∈ L → f c = f d → c = d
  | [], _, c, d, hc, _, _ => by cases hc
  | a :: L, hn, c, d, hc, hd, he => by
    rw [List.map_cons, List.nodup_cons] at hn
    rcases List.mem_cons.1 hc with rfl | hc'
    · rcases List.mem_cons.1 hd with rfl | hd'
      · rfl
      · exact absurd (List.mem_map.2 ⟨d, hd', he.symm⟩) hn.1
    · rcases List.mem_cons.1 hd with rfl | hd'
      · exact absurd (List.mem_map.2 ⟨c, hc', he⟩) hn.1
      · exact nodup_inj hn.2 hc' hd' he
theorem gt_mem {L : List Ch} (hn : (L.map Ch.id).Nodup) {c : Ch} (hc : c ∈ L) : gtL L c.id = some c := by
  cases hg : gtL L c.id with
  | none => exact absurd rfl (gt_none hg c hc)
  | some d =>
    obtain ⟨h1, h2⟩ := gt_some hg
    rw [nodup_inj hn h1 hc h2]
theorem fd_mem {L : List Ch} (hn : (L.map Ch.data).Nodup) {c : Ch} (hc : c ∈ L) : fdL L c.data = some c := by
  cases hg : fdL L c.data with
  | none => exact absurd rfl (fd_none hg c hc)
  | some d =>
    obtain ⟨h1, h2⟩ := fd_some hg
    rw [nodup_inj hn h1 hc h2]
theorem tFind_ok {n : Nat} (hn : 4 ≤ n) {h : Heap} {tb : Nat} {L : List Ch} {next : Int} {F : Nat → Prop} (ht : TabAt h tb L next F) {s : List Nat} (hl : s.length ≤ 1000) (hb : Byts s) : WC (C n (.fn 14) [.ptr (some (tb, 0)), .str s] h) fun r h' => Sm NoB h h' ∧ r = match fdL L s with
    | some c => .tuple [u c.id, .bool true]
    | none => .tuple [u 0, .bool false] := by
  obtain ⟨mb, x, es, c, B, X, h1, h2, h3, h4, h5, hmb, _⟩ := ht.ex
  have h3 := h3.e
  obtain ⟨m, rfl⟩ : ∃ m, n = m + 1 := ⟨n - 1, by omega⟩
  refine call_fn _ f14A rfl (by simp [fn14]) fun QQ hQ => ?_
  simp only [fn14] at hQ
  simp only [fn14, fill_cons, fill_nil, Nat.zero_add, Nat.reduceAdd]
  obtain ⟨_, h0, ea, rfl, rfl⟩ := tis_ok (n := m) (by omega) ht
  obtain ⟨v, h6, eb, hv, s6⟩ := ixfind_ok (n := m) (by omega) h4 hl hb
  have hbk := bk_lt s
  have hsz := h4.sz _ hbk
  obtain ⟨hlen, a, cp, g, rfl, _⟩ := id hv
  have h2' : h6.bs.gt mb = some (.map es c) := (s6.2 mb hmb (fun h => h)).trans h2
  have r1 : Rw h6 tb [.map (some mb), .ptr (some (x, 0)), u next] [] false := h1.sm s6 ht.lt (fun h => h)
  simp only [F14, ea, x_fa_87_1, h1.ld1, eb, x_len_43, SS, Nat.reduceBEq, Nat.reduceEqDiff, Nat.reduceAdd, reduceIte, Nat.reduceMul]
  refine run_loop (c := c14_15) (I := fun k tm' h' => ∃ i, i ≤ (B (bk s)).length ∧ k = (B (bk s)).length - i ∧ h' = h6 ∧ (∀ (j : Nat) id c, j < i → (B (bk s))[j]? = some id → gtL L id = some c → c.data ≠ s) ∧ tm'.gt 0 = some (.ptr (some (tb, 0))) ∧ tm'.gt 1 = some (.str s) ∧ tm'.gt 16 = some (.slice a (B (bk s)).length cp g) ∧ tm'.gt 17 = some (.int .i64 ((B (bk s)).length : Int)) ∧ tm'.gt 18 = some (.int .i64 (i : Int)) ∧ tm'.gt 33 = none) (n := (B (bk s)).length)
    ⟨0, by simp [gt_same, gt_other, gt_leaf]⟩ (by omega) ?_
  rintro _ tm h9 ⟨i, hi, rfl, rfl, hno, t0, t1, t16, t17, t18, t33⟩ Q1 hN hE
  by_cases hlt : i < (B (bk s)).length
  · obtain ⟨b, o, rfl, hcell⟩ := hv.cell (by omega)
    have hc := hcell i (by omega)
    have hx : (B (bk s))[i]? = some (B (bk s))[i] := List.getElem?_eq_getElem (by omega)
    rw [List.getElem?_map, hx, Option.map_some] at hc
    obtain ⟨ch, c1, c2, c3⟩ := h5.ofB _ hbk _ (List.mem_of_getElem? hx)
    have hg := gt_mem h5.ids c1
    rw [c2] at hg
    have hlk := lkF_some h2' h3 hg
    unfold Ch.val at hlk
    by_cases he : ch.data = s
    · simp only [F14, x_ia_43 hlt, x_fa_87_0, r1.ld1, hlk, x_fd_91_0, t0, t1, t16, t17, t18, t33, SS, Nat.reduceBEq, Nat.reduceEqDiff, Nat.reduceAdd, reduceIte, Nat.reduceMul, Int.ofNat_lt, hlt, hc, he]
      refine hE _ _ _ (by simp) ?_
      simp only [SS, Nat.reduceBEq, Nat.reduceEqDiff, Nat.reduceAdd, reduceIte, Nat.reduceMul]
      refine hQ _ _ _ _ (.inr rfl) (by simp only [SS, Nat.reduceBEq, t33]) (by simp only [SS, Nat.reduceBEq, Nat.reduceEqDiff, Nat.reduceAdd, reduceIte, Nat.reduceMul]; rfl) ?_
      refine ⟨s6, ?_⟩
      have hf := fd_mem h5.datas c1
      rw [he] at hf
      rw [hf, ← c2]; rfl
    · simp only [F14, x_ia_43 hlt, x_fa_87_0, r1.ld1, hlk, x_fd_91_0, t0, t1, t16, t17, t18, t33, SS, Nat.reduceBEq, Nat.reduceEqDiff, Nat.reduceAdd, reduceIte, Nat.reduceMul, Int.ofNat_lt, hlt, hc, he]
      refine hN _ _ ((B (bk s)).length - (i + 1)) (by omega) ⟨i + 1, hlt, rfl, rfl, fun j id c' hj h1' h2' => ?_, ?_⟩
      · by_cases e : j = i
        · subst e; rw [hx] at h1'; cases h1'; rw [hg] at h2'; cases h2'; exact he
        · exact hno j id c' (by omega) h1' h2'
      · have e7 : IntKind.i64.wrap ((i : Int) + 1) = ((i + 1 : Nat) : Int) := by rw [wrap_i64 (by omega) (by omega)]; simp
        simp only [SS, Nat.reduceBEq, Nat.reduceEqDiff, Nat.reduceAdd, reduceIte, Nat.reduceMul, t0, t1, t16, t17, t18, t33, e7, and_self]
  · obtain rfl : i = (B (bk s)).length := by omega
    simp only [F14, t0, t1, t16, t17, t18, t33, SS, Nat.reduceBEq, Nat.reduceEqDiff, Nat.reduceAdd, reduceIte, Nat.reduceMul, Int.ofNat_lt, hlt]
    refine hE _ _ _ (by simp) ?_
    simp only [F14, t0, t1, t16, t17, t18, t33, SS, Nat.reduceBEq, Nat.reduceEqDiff, Nat.reduceAdd, reduceIte, Nat.reduceMul]
    refine hQ _ _ _ _ (.inr rfl) (by simp only [SS, Nat.reduceBEq, t33]) (by simp only [SS, Nat.reduceBEq, Nat.reduceEqDiff, Nat.reduceAdd, reduceIte, Nat.reduceMul]; rfl) ?_
    refine ⟨s6, ?_⟩
    cases hf : fdL L s with
    | none => rfl
    | some c' =>
      obtain ⟨f1, f2⟩ := fd_some hf
      have hin := h5.inB c' f1
      rw [f2] at hin
      obtain ⟨j, hj⟩ := List.getElem?_of_mem hin
      exact absurd f2 (hno j _ c' (List.getElem?_eq_some_iff.1 hj).1 hj (gt_mem h5.ids f1))
theorem putC_new {c : Ch} : ∀ {L : List Ch}, (∀ d, d ∈ L → d.id ≠ c.id) → putC c L = L ++ [c]
  | [], _ => rfl
  | d :: L, h => by
    rw [putC, show (d.id == c.id) = false from by simpa using h d (List.mem_cons_self ..), putC_new fun e he => h e (List.mem_cons_of_mem _ he)]; rfl
theorem any_none {es : List MEnt} {id : Int} (h : es.find? (kInt .u32 id) = none) : es.any (kInt .u32 id) = false := by
  rw [List.any_eq_false]
  intro e he
  have := List.find?_eq_none.1 h e he
  simpa using this
theorem nodup_snoc {α : Type} {L : List α} {a : α} (h : L.Nodup) (ha : a ∉ L) : (L ++ [a]).Nodup := by
  rw [List.nodup_append]
  refine ⟨h, List.nodup_cons.2 ⟨List.not_mem_nil, List.nodup_nil⟩, fun x hx y hy e => ?_⟩
  rw [List.mem_singleton] at hy
  exact ha (hy ▸ e ▸ hx)
theorem TabOk.add {L : List Ch} {next : Int} {B : Nat → List Int} (h : TabOk L next B) {c : Ch} (h1 : 1 ≤ c.id) (h2 : c.id < 4294967295) (hid : gtL L c.id = none) (hd : fdL L c.data = none) (hl1 : 1 ≤ c.data.length) (hl2 : c.data.length ≤ 64) (hb : Byts c.data) (hr1 : 1 ≤ c.refs) (hr2 : c.refs ≤ 65535) (hlen : L.length < 4999) :
    TabOk (L ++ [c]) (max next (c.id + 1)) (setF B (bk c.data) (B (bk c.data) ++ [c.id])) := by
  have hbk := bk_lt c.data
  refine ⟨?_, ?_, fun d hd' => ?_, ⟨by have := h.next; omega, by have := h.next; omega⟩, fun d hd' => ?_, fun i hi id hid' => ?_, fun i hi => ?_, by simp; omega⟩
  · rw [List.map_append]
    exact nodup_snoc h.ids fun hm => by obtain ⟨d, d1, d2⟩ := List.mem_map.1 hm; exact gt_none hid d d1 d2
  · rw [List.map_append]
    exact nodup_snoc h.datas fun hm => by obtain ⟨d, d1, d2⟩ := List.mem_map.1 hm; exact fd_none hd d d1 d2
  · rcases List.mem_append.1 hd' with hd' | hd'
    · obtain ⟨a1, a2, a3⟩ := h.ch d hd'
      exact ⟨a1, by omega, a3⟩
    · rw [List.mem_singleton] at hd'
      subst hd'
      exact ⟨h1, by omega, hl1, hl2, hb, hr1, hr2⟩
  · rcases List.mem_append.1 hd' with hd' | hd'
    · have := h.inB d hd'
      by_cases e : bk d.data = bk c.data
      · rw [e, setF_same]; rw [e] at this; exact List.mem_append_left _ this
      · rw [setF_other _ _ e]; exact this
    · rw [List.mem_singleton] at hd'
      subst hd'
      rw [setF_same]; exact List.mem_append_right _ (List.mem_singleton.2 rfl)
  · by_cases e : i = bk c.data
    · subst e
      rw [setF_same] at hid'
      rcases List.mem_append.1 hid' with h3 | h3
      · obtain ⟨d, d1, d2, d3⟩ := h.ofB _ hi id h3
        exact ⟨d, List.mem_append_left _ d1, d2, d3⟩
      · exact ⟨c, List.mem_append_right _ (List.mem_singleton.2 rfl), (List.mem_singleton.1 h3).symm, rfl⟩
    · rw [setF_other _ _ e] at hid'
      obtain ⟨d, d1, d2, d3⟩ := h.ofB _ hi id hid'
      exact ⟨d, List.mem_append_left _ d1, d2, d3⟩
  · by_cases e : i = bk c.data
    · subst e
      rw [setF_same]
      refine nodup_snoc (h.ndB _ hi) fun hm => ?_
      obtain ⟨d, d1, d2, d3⟩ := h.ofB _ hi _ hm
      exact gt_none hid d d1 d2
    · rw [setF_other _ _ e]; exact h.ndB i hi
theorem nodup_len : ∀ {l m : List Int}, l.Nodup → (∀ x, x ∈ l → x ∈ m) → l.length ≤ m.length
  | [], _, _, _ => Nat.zero_le _
  | x :: l, m, hn, h => by
    rw [List.nodup_cons] at hn
    have hx := h x (List.mem_cons_self ..)
    have := nodup_len (m := m.erase x) hn.2 fun y hy => (List.mem_erase_of_ne (fun e => hn.1 (by rw [← e]; exact hy))).2 (h y (List.mem_cons_of_mem _ hy))
    rw [List.length_erase_of_mem hx] at this
    have hp : 0 < m.length := List.length_pos_of_mem hx
    simp only [List.length_cons]; omega
theorem TabOk.szB {L : List Ch} {next : Int} {B : Nat → List Int} (h : TabOk L next B) {i : Nat} (hi : i < 16) : (B i).length ≤ L.length := by
  have := nodup_len (m := L.map Ch.id) (h.ndB i hi) fun x hx => by obtain ⟨d, d1, d2, _⟩ := h.ofB i hi x hx; exact List.mem_map.2 ⟨d, d1, d2⟩
  simpa using this
theorem tput_ok {n : Nat} (hn : 4 ≤ n) {h : Heap} {tb : Nat} {L : List Ch} {next : Int} {F : Nat → Prop} (ht : TabAt h tb L next F) (c : Ch) (h1 : 1 ≤ c.id) (h2 : c.id < 4294967295) (hid : gtL L c.id = none) (hd : fdL L c.data = none) (hl1 : 1 ≤ c.data.length) (hl2 : c.data.length ≤ 64) (hb : Byts c.data) (hr1 : 1 ≤ c.refs) (hr2 : c.refs ≤ 65535) (hlen : L.length < 4999) :
    WC (C n (.fn 57) [.ptr (some (tb, 0)), u c.id, c.val] h) fun r h' => r = .tuple [] ∧ ∃ F', TabAt h' tb (L ++ [c]) (max next (c.id + 1)) F' ∧ Sm F h h' ∧ ∀ b, F' b → F b ∨ h.next ≤ b := by
  obtain ⟨mb, x, es, k, B, X, t1, t2, t3, t4, t5, hmb, hne, hx1, hx2, rfl⟩ := ht.ex
  have t3b := t3.b
  have t3 := t3.e
  unfold Ch.val
  obtain ⟨m, rfl⟩ : ∃ m, n = m + 1 := ⟨n - 1, by omega⟩
  refine call_fn _ f57A rfl (by simp [fn57]) fun QQ hQ => ?_
  simp only [fn57] at hQ
  simp only [fn57, fill_cons, fill_nil, Nat.zero_add, Nat.reduceAdd]
  obtain ⟨h3, e3, r3, n3, g3⟩ := Rw.alloc h (id := h.next) (n := 3) (vs := [.str c.data, .int .i64 c.block, .int .i64 c.refs]) (z := []) (ro := false) (Nat.le_refl _) rfl
  obtain ⟨h4, e4, s4, b4, n4⟩ := Sm.bump h3 7
  have htb := ht.lt
  have s3 : Sm NoB h h3 := ⟨by omega, fun c hc _ => g3 c (by omega)⟩
  have s34 : Sm NoB h h4 := s3.trans s4 (fun _ _ h => h) (fun _ _ h => h)
  have r4 : Rw h4 tb [.map (some mb), .ptr (some (x, 0)), u next] [] false := t1.sm s34 ht.lt (fun h => h)
  have rv : Rw h4 h.next [.str c.data, .int .i64 c.block, .int .i64 c.refs] [] false := r3.same (by rw [b4])
  have m4 : h4.bs.gt mb = some (.map es k) := (s34.2 mb hmb (fun h => h)).trans t2
  have hany := any_none (t3.findN hid)
  have hmu := x_mu_84 m4 t3.all c.id (.agg [.str c.data, .int .i64 c.block, .int .i64 c.refs])
  rw [hany] at hmu
  have hent := t3.put c k
  unfold Ch.val at hent
  rw [putC_new (fun d hd' => gt_none hid d hd')] at hent
  obtain ⟨h5, e5, p5⟩ : ∃ h5, h4.put mb (.map (putE .u32 c.id (.agg [.str c.data, .int .i64 c.block, .int .i64 c.refs]) k es) (k + 1)) = h5 ∧ (∀ b, h5.bs.gt b = if b = mb then some (.map (putE .u32 c.id (.agg [.str c.data, .int .i64 c.block, .int .i64 c.refs]) k es) (k + 1)) else h4.bs.gt b) ∧ h5.next = h4.next := ⟨_, rfl, fun b => put_get _ _ _ _, rfl⟩
  rw [show (if false = true then k else k + 1) = k + 1 from rfl, e5] at hmu
  obtain ⟨h6, e6, s6, b6, n6⟩ := Sm.bump h5 8
  have ix6 : IxAt h6 x B X := (t4.sm s34 (fun _ _ h => h)).sm (G := fun b => b = mb) (h' := h6) ⟨by omega, fun c hc hF => by rw [b6, p5.1, if_neg hF]⟩ (fun b hb e => hx2 (e ▸ hb))
  have r6 : Rw h6 tb [.map (some mb), .ptr (some (x, 0)), u next] [] false := r4.same (by rw [b6, p5.1, if_neg hne])
  have rv6 : Rw h6 h.next [.str c.data, .int .i64 c.block, .int .i64 c.refs] [] false := rv.same (by rw [b6, p5.1, if_neg (by omega)])
  have hidB : c.id ∉ B (bk c.data) := fun hm => by obtain ⟨d, d1, d2, d3⟩ := t5.ofB _ (bk_lt _) _ hm; exact gt_none hid d d1 d2
  obtain ⟨_, h7, e7, rfl, bs, ix7, s7, f7⟩ := ixadd_ok (n := m) (by omega) ix6 (s := c.data) (by omega) hb c.id hidB (by have := t5.szB (bk_lt c.data); omega)
  have hixx : ∀ b, b < h6.next → ¬ IxF x X b → h7.bs.gt b = h6.bs.gt b := fun b hb hF => s7.2 b hb hF
  have r7 : Rw h7 tb [.map (some mb), .ptr (some (x, 0)), u next] [] false := r6.same (hixx tb (by omega) hx1)
  obtain ⟨w1, w2, w3, w4⟩ := r7.st1 (o := 2) (v := u (max next (c.id + 1))) (by simp) rfl
  have ew : IntKind.u32.wrap (c.id + 1) = c.id + 1 := wrap_u32 (by omega) (by omega)
  have ldv : h4.ld h.next 0 3 = some [.str c.data, .int .i64 c.block, .int .i64 c.refs] := by rw [rv.ld (i := 0) (n := 3) (by simp)]; rfl
  simp only [F57, box_agg, e3, e4, x_fa_87_0, x_fa_87_1, x_fa_87_2, x_fa_91_0, r4.ld1, r6.ld1, r7.ld1, ldv, rv6.ld1, hmu, e6, e7, ew, w1, SS, Nat.reduceBEq, Nat.reduceEqDiff, Nat.reduceAdd, reduceIte, Nat.reduceMul]
  refine hQ _ _ _ _ (.inl rfl) (by simp only [SS, Nat.reduceBEq]) (by simp only [SS, Nat.reduceBEq, Nat.reduceEqDiff, Nat.reduceAdd, reduceIte, Nat.reduceMul]; rfl) ?_
  have hbk := bk_lt c.data
  have hnew : ∀ b, IxF x (setF X (bk c.data) bs) b → IxF x X b ∨ h6.next ≤ b := by
    rintro b (rfl | ⟨i, hi, hb⟩)
    · exact .inl (.inl rfl)
    · by_cases e : i = bk c.data
      · subst e; rw [setF_same] at hb
        rcases f7 b hb with h9 | h9
        · exact .inl (.inr ⟨_, hbk, h9⟩)
        · exact .inr h9
      · rw [setF_other _ _ e] at hb; exact .inl (.inr ⟨i, hi, hb⟩)
  have hmb6 : h7.bs.gt mb = h6.bs.gt mb := hixx mb (by omega) hx2
  have htn : ¬ IxF x (setF X (bk c.data) bs) tb := fun h9 => by rcases hnew _ h9 with h9 | h9; exact hx1 h9; omega
  refine ⟨rfl, _, ⟨⟨mb, x, _, k + 1, _, _, by simpa using w2, ?_, ⟨hent, putE_new hany t3b rfl⟩, ix7.sm (G := fun b => b = tb) ⟨by omega, fun c hc hF => w4 c hF⟩ (fun b hb e => htn (e ▸ hb)), t5.add h1 h2 hid hd hl1 hl2 hb hr1 hr2 hlen, by have := s7.1; omega, hne, htn, fun h9 => by rcases hnew _ h9 with h9 | h9; exact hx2 h9; omega, rfl⟩, by have := s7.1; omega⟩, ⟨by have := s7.1; omega, fun b hb hF => ?_⟩, fun b hF => ?_⟩
  · rw [w4 mb (fun e => hne e.symm), hmb6, b6, p5.1, if_pos rfl]
  · have hF1 : b ≠ tb := fun e => hF (.inl e)
    have hF2 : b ≠ mb := fun e => hF (.inr (.inl e))
    have hF3 : ¬ IxF x X b := fun e => hF (.inr (.inr e))
    rw [w4 b hF1, hixx b (by omega) hF3, b6, p5.1, if_neg hF2, s34.2 b hb (fun h => h)]
  · rcases hF with rfl | rfl | hF
    · exact .inl (.inl rfl)
    · exact .inl (.inr (.inl rfl))
    · rcases hnew b hF with h9 | h9
      · exact .inl (.inr (.inr h9))
      · exact .inr (by omega)
end Go.Proofs.Ytlfednnfkejcjaa

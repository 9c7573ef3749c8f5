/-
  The quota laws, walked by the rules.
-/
import Derived.Test.YtlfednnfkejcjaaQoWalkA
set_option linter.unusedVariables false
set_option linter.unusedSimpArgs false
set_option linter.constructorNameAsVariable false

namespace Go.Proofs.Ytlfednnfkejcjaa
open Go.Am Go.Qs
set_option maxRecDepth 10000
theorem s_int {k : IntKind} {n : Int} : AV.same (.int k n) (.int k n) = true := by cases k <;> simp [AV.same]
theorem s_ptr {p : Option (Nat × Nat)} : AV.same (.ptr p) (.ptr p) = true := by simp [AV.same]
theorem s_str {p : List Nat} : AV.same (.str p) (.str p) = true := by simp [AV.same]
theorem s_slice {p : Option (Nat × Nat)} {n c : Nat} {g : Option Nat} : AV.same (.slice p n c g) (.slice p n c g) = true := by simp [AV.same]

/-- an item -/
structure It where
  p : List Nat
  id : Int
  tick : Int
  size : Int
def It.c (x : It) : List AV := [.str x.p, .int .u32 x.id, .int .u32 x.tick, .int .i64 x.size]
abbrev cs (L : List It) : List AV := L.flatMap It.c
theorem cs_len (L : List It) : (cs L).length = L.length * 4 := by
  induction L with
  | nil => rfl
  | cons x L ih => show (It.c x ++ cs L).length = _; rw [List.length_append, ih, List.length_cons]; simp [It.c]; omega
theorem cs_get : ∀ (L : List It) (i : Nat) (h : i < L.length) (f : Nat), f < 4 → (cs L)[i * 4 + f]? = (L[i].c)[f]?
  | x :: L, 0, h, f, hf => by show (It.c x ++ cs L)[0 * 4 + f]? = _; rw [List.getElem?_append_left (by simp [It.c]; omega), Nat.zero_mul, Nat.zero_add]; rfl
  | x :: L, i + 1, h, f, hf => by
    show (It.c x ++ cs L)[(i + 1) * 4 + f]? = _
    rw [List.getElem?_append_right (by simp [It.c]; omega), show (i + 1) * 4 + f - (It.c x).length = i * 4 + f by simp [It.c]; omega]
    exact cs_get L i (by simpa using h) f hf
theorem cs_one (L : List It) : (cs L).all AV.one = true := by
  rw [List.all_eq_true]; intro x hx
  obtain ⟨y, _, hy⟩ := List.mem_flatMap.1 hx
  simp only [It.c, List.mem_cons, List.not_mem_nil, or_false] at hy
  rcases hy with rfl | rfl | rfl | rfl <;> rfl

/-- a slice of items, and the block that it lies in -/
def Its (h : Heap) (v : AV) (L : List It) : Prop := ElsR h v L.length 4 (cs L)
def blkOf : AV → Nat → Prop
  | .slice (some (b, _)) _ _ _, c => b = c
  | _, _ => False
theorem loadC_of {t : Tr AV} {z : List AV} : ∀ (n i : Nat) (l : List AV), l.length = n → (∀ j, j < n → cellAt t z (i + j) = l[j]?) → loadC t z n i = some l
  | 0, i, l, hl, _ => by rw [List.eq_nil_of_length_eq_zero hl]; rfl
  | n + 1, i, x :: l, hl, h => by
    show (Option.rec (motive := fun _ => Option (List AV)) none (fun v => Option.rec (motive := fun _ => Option (List AV)) none (fun vs => some (v :: vs)) (loadC t z n (i + 1))) (cellAt t z i) : Option (List AV)) = _
    rw [show cellAt t z i = some x from h 0 (by omega), loadC_of n (i + 1) l (by simpa using hl) (fun j hj => by rw [show i + 1 + j = i + (j + 1) by omega, h (j + 1) (by omega)]; rfl)]
theorem ld_part {h : Heap} {b o n : Nat} {vs : List AV} (hl : h.ld b o n = some vs) {i k : Nat} (hi : i + k ≤ n) : h.ld b (o + i) k = some ((vs.drop i).take k) := by
  obtain ⟨t, z, m, ro, h1, h2, h3, h4⟩ := ld_some hl
  unfold Heap.ld Heap.cells
  rw [h1]
  show (Bool.rec (motive := fun _ => Option (List AV)) none (loadC t z k (o + i)) (Nat.ble (o + i + k) m) : Option (List AV)) = _
  rw [show Nat.ble (o + i + k) m = true from Nat.ble_eq_true_of_le (by omega)]
  refine loadC_of k (o + i) _ (by simp; omega) fun j hj => ?_
  rw [show o + i + j = o + (i + j) by omega, h4 _ (by omega), List.getElem?_take_of_lt hj, List.getElem?_drop]
section
variable {h h' : Heap} {v : AV} {L : List It}
theorem Its.sl (hi : Its h v L) : ∃ a c g, v = .slice a L.length c g := by
  obtain ⟨_, a, c, g, e, _⟩ := hi
  exact ⟨a, c, g, e⟩
theorem Its.sm {F : Nat → Prop} (hi : Its h v L) (hs : Sm F h h') (hF : ∀ b, blkOf v b → ¬ F b) : Its h' v L := by
  obtain ⟨h0, a, c, g, rfl, h1, h2⟩ := hi
  refine ⟨h0, a, c, g, rfl, h1, fun b o e => ?_⟩
  subst e
  obtain ⟨g1, g2⟩ := h2 b o rfl
  refine ⟨Nat.lt_of_lt_of_le g1 hs.1, fun hn => ?_⟩
  rw [← g2 hn]
  unfold Heap.ld Heap.cells
  rw [hs.2 b g1 (hF b rfl)]
theorem Its.lt (hi : Its h v L) {b : Nat} (hb : blkOf v b) : b < h.next := by
  obtain ⟨h0, a, c, g, rfl, h1, h2⟩ := hi
  cases a with
  | none => exact hb.elim
  | some p => have : p.1 = b := hb; rw [← this]; exact (h2 p.1 p.2 rfl).1
/-- an item read -/
theorem Its.at {a : Option (Nat × Nat)} {c : Nat} {g : Option Nat} (hi : Its h (.slice a L.length c g) L) {i : Nat} (hl : i < L.length) :
    ∃ b o, a = some (b, o) ∧ h.ld1 b (o + i * 4) = some (.str L[i].p) ∧ h.ld1 b (o + i * 4 + 1) = some (.int .u32 L[i].id) ∧ h.ld1 b (o + i * 4 + 2) = some (.int .u32 L[i].tick) ∧ h.ld1 b (o + i * 4 + 3) = some (.int .i64 L[i].size) ∧ h.ld b (o + i * 4) 4 = some L[i].c := by
  obtain ⟨h0, a', c', g', e, h1, h2⟩ := hi
  cases e
  cases a with
  | none => have := h1 rfl; omega
  | some p =>
    have hld := (h2 p.1 p.2 rfl).2 (by omega)
    have hc := (ld_ld1 hld).2
    have hp := ld_part hld (i := i * 4) (k := 4) (by omega)
    refine ⟨p.1, p.2, rfl, ?_, ?_, ?_, ?_, ?_⟩
    · rw [hc _ (by omega)]; exact (cs_get L i hl 0 (by omega))
    · rw [Nat.add_assoc, hc _ (by omega)]; exact (cs_get L i hl 1 (by omega))
    · rw [Nat.add_assoc, hc _ (by omega)]; exact (cs_get L i hl 2 (by omega))
    · rw [Nat.add_assoc, hc _ (by omega)]; exact (cs_get L i hl 3 (by omega))
    · rw [hp]; congr 1
      apply List.ext_getElem?
      intro f
      by_cases hf : f < 4
      · rw [List.getElem?_take_of_lt hf, List.getElem?_drop]; exact cs_get L i hl f hf
      · rw [List.getElem?_eq_none (by simp; omega), List.getElem?_eq_none (by simp [It.c]; omega)]
end

theorem nan_ok' {n : Nat} (hn : 1 ≤ n) (x : Int) (h : Heap) : WC (Q n (.fn 107) [.int .u32 x] h) fun r h' => h' = h ∧ r = .bool false := by
  obtain ⟨m, rfl⟩ : ∃ m, n = m + 1 := ⟨n - 1, by omega⟩
  refine call_fn _ f107A rfl (by simp [fn107]) fun QQ hQ => ?_
  simp only [fn107] at hQ
  simp only [fn107, fill_cons, fill_nil, Nat.zero_add, Nat.reduceAdd]
  simp only [F107, SS, Nat.reduceBEq, Nat.reduceEqDiff, Nat.reduceAdd, reduceIte, Nat.reduceMul, ptrTo, sliceTo, mapTo, List.getElem?_cons_zero, List.getElem?_cons_succ, Option.map_some, List.append_nil, List.nil_append, List.all_cons, List.all_nil, List.length_cons, List.length_nil, eq_self]
  exact hQ _ _ _ _ (.inr rfl) (by simp only [SS, Nat.reduceBEq, Nat.reduceEqDiff, Nat.reduceAdd, reduceIte, Nat.reduceMul, ptrTo, sliceTo, mapTo, List.getElem?_cons_zero, List.getElem?_cons_succ, Option.map_some, List.append_nil, List.nil_append, List.all_cons, List.all_nil, List.length_cons, List.length_nil, eq_self]) (by simp only [SS, Nat.reduceBEq, Nat.reduceEqDiff, Nat.reduceAdd, reduceIte, Nat.reduceMul, ptrTo, sliceTo, mapTo, List.getElem?_cons_zero, List.getElem?_cons_succ, Option.map_some, List.append_nil, List.nil_append, List.all_cons, List.all_nil, List.length_cons, List.length_nil, eq_self]; rfl) ⟨rfl, by simp [tupled_one]⟩
theorem nan_ok {n : Nat} (hn : 1 ≤ n) (x : Int) (h : Heap) : Q n (.fn 107) [.int .u32 x] h = some (.bool false, h) := by
  have key : WC (Q n (.fn 107) [.int .u32 x] h) fun r h' => h' = h ∧ r = .bool false := by
    exact nan_ok' hn x h
  obtain ⟨r, h', e, rfl, rfl⟩ := key
  exact e
theorem compare_ok {n : Nat} (hn : 2 ≤ n) (a b : Int) (h : Heap) : WC (Q n (.fn 100) [.int .u32 a, .int .u32 b] h) fun r h' => h' = h ∧ r = .int .i64 (if a < b then -1 else if b < a then 1 else 0) := by
  have nan : ∀ n, 1 ≤ n → ∀ x : Int, Q n (.fn 107) [.int .u32 x] h = some (.bool false, h) := fun n hn x => nan_ok hn x h
  obtain ⟨m, rfl⟩ : ∃ m, n = m + 1 := ⟨n - 1, by omega⟩
  refine call_fn _ f100A rfl (by simp [fn100]) fun QQ hQ => ?_
  simp only [fn100] at hQ
  simp only [fn100, fill_cons, fill_nil, Nat.zero_add, Nat.reduceAdd]
  by_cases c1 : a < b
  · simp only [F100, SS, Nat.reduceBEq, Nat.reduceEqDiff, Nat.reduceAdd, reduceIte, Nat.reduceMul, ptrTo, sliceTo, mapTo, List.getElem?_cons_zero, List.getElem?_cons_succ, Option.map_some, List.append_nil, List.nil_append, List.all_cons, List.all_nil, List.length_cons, List.length_nil, eq_self, nan m (by omega), c1]
    exact hQ _ _ _ _ (.inr rfl) (by simp only [SS, Nat.reduceBEq, Nat.reduceEqDiff, Nat.reduceAdd, reduceIte, Nat.reduceMul, ptrTo, sliceTo, mapTo, List.getElem?_cons_zero, List.getElem?_cons_succ, Option.map_some, List.append_nil, List.nil_append, List.all_cons, List.all_nil, List.length_cons, List.length_nil, eq_self]) (by simp only [SS, Nat.reduceBEq, Nat.reduceEqDiff, Nat.reduceAdd, reduceIte, Nat.reduceMul, ptrTo, sliceTo, mapTo, List.getElem?_cons_zero, List.getElem?_cons_succ, Option.map_some, List.append_nil, List.nil_append, List.all_cons, List.all_nil, List.length_cons, List.length_nil, eq_self]; rfl) ⟨rfl, by rw [if_pos c1]; rfl⟩
  · by_cases c2 : b < a
    · simp only [F100, SS, Nat.reduceBEq, Nat.reduceEqDiff, Nat.reduceAdd, reduceIte, Nat.reduceMul, ptrTo, sliceTo, mapTo, List.getElem?_cons_zero, List.getElem?_cons_succ, Option.map_some, List.append_nil, List.nil_append, List.all_cons, List.all_nil, List.length_cons, List.length_nil, eq_self, nan m (by omega), c1, c2]
      exact hQ _ _ _ _ (.inr rfl) (by simp only [SS, Nat.reduceBEq, Nat.reduceEqDiff, Nat.reduceAdd, reduceIte, Nat.reduceMul, ptrTo, sliceTo, mapTo, List.getElem?_cons_zero, List.getElem?_cons_succ, Option.map_some, List.append_nil, List.nil_append, List.all_cons, List.all_nil, List.length_cons, List.length_nil, eq_self]) (by simp only [SS, Nat.reduceBEq, Nat.reduceEqDiff, Nat.reduceAdd, reduceIte, Nat.reduceMul, ptrTo, sliceTo, mapTo, List.getElem?_cons_zero, List.getElem?_cons_succ, Option.map_some, List.append_nil, List.nil_append, List.all_cons, List.all_nil, List.length_cons, List.length_nil, eq_self]; rfl) ⟨rfl, by rw [if_neg c1, if_pos c2]; rfl⟩
    · simp only [F100, SS, Nat.reduceBEq, Nat.reduceEqDiff, Nat.reduceAdd, reduceIte, Nat.reduceMul, ptrTo, sliceTo, mapTo, List.getElem?_cons_zero, List.getElem?_cons_succ, Option.map_some, List.append_nil, List.nil_append, List.all_cons, List.all_nil, List.length_cons, List.length_nil, eq_self, nan m (by omega), c1, c2]
      exact hQ _ _ _ _ (.inr rfl) (by simp only [SS, Nat.reduceBEq, Nat.reduceEqDiff, Nat.reduceAdd, reduceIte, Nat.reduceMul, ptrTo, sliceTo, mapTo, List.getElem?_cons_zero, List.getElem?_cons_succ, Option.map_some, List.append_nil, List.nil_append, List.all_cons, List.all_nil, List.length_cons, List.length_nil, eq_self]) (by simp only [SS, Nat.reduceBEq, Nat.reduceEqDiff, Nat.reduceAdd, reduceIte, Nat.reduceMul, ptrTo, sliceTo, mapTo, List.getElem?_cons_zero, List.getElem?_cons_succ, Option.map_some, List.append_nil, List.nil_append, List.all_cons, List.all_nil, List.length_cons, List.length_nil, eq_self]; rfl) ⟨rfl, by rw [if_neg c1, if_neg c2]; rfl⟩
theorem or_ok {n : Nat} (hn : 1 ≤ n) {a b : Int} {h : Heap} {id : Nat} {z : List AV} (hr : Rw h id [.int .i64 a, .int .i64 b] z false) : WC (Q n (.fn 99) [.slice (some (id, 0)) 2 2 none] h) fun r h' => h' = h ∧ r = .int .i64 (if a = 0 then b else a) := by
  obtain ⟨m, rfl⟩ : ∃ m, n = m + 1 := ⟨n - 1, by omega⟩
  refine call_fn _ f99A rfl (by simp [fn99]) fun QQ hQ => ?_
  simp only [fn99] at hQ
  simp only [fn99, fill_cons, fill_nil, Nat.zero_add, Nat.reduceAdd]
  simp only [F99, SS, Nat.reduceBEq, Nat.reduceEqDiff, Nat.reduceAdd, reduceIte, Nat.reduceMul, ptrTo, sliceTo, mapTo, List.getElem?_cons_zero, List.getElem?_cons_succ, Option.map_some, List.append_nil, List.nil_append, List.all_cons, List.all_nil, List.length_cons, List.length_nil, eq_self, x_len_142]
  refine run_loop (c := c99_9) (I := fun m' tm' h' => ∃ i : Nat, i ≤ 2 ∧ m' = 2 - i ∧ h' = h ∧ (1 ≤ i → a = 0) ∧ (2 ≤ i → b = 0) ∧ tm'.gt 3 = some (.int .i64 0) ∧ tm'.gt 6 = some (.slice (some (id, 0)) 2 2 none) ∧ tm'.gt 7 = some (I 2) ∧ tm'.gt 8 = some (I i) ∧ tm'.gt 18 = none) (n := 2)
    ⟨0, by omega, rfl, rfl, (fun h => by omega), (fun h => by omega), by simp only [SS, Nat.reduceBEq, Nat.reduceEqDiff, Nat.reduceAdd, reduceIte, Nat.reduceMul, ptrTo, sliceTo, mapTo, List.getElem?_cons_zero, List.getElem?_cons_succ, Option.map_some, List.append_nil, List.nil_append, List.all_cons, List.all_nil, List.length_cons, List.length_nil, eq_self], by simp only [SS, Nat.reduceBEq, Nat.reduceEqDiff, Nat.reduceAdd, reduceIte, Nat.reduceMul, ptrTo, sliceTo, mapTo, List.getElem?_cons_zero, List.getElem?_cons_succ, Option.map_some, List.append_nil, List.nil_append, List.all_cons, List.all_nil, List.length_cons, List.length_nil, eq_self], by simp only [SS, Nat.reduceBEq, Nat.reduceEqDiff, Nat.reduceAdd, reduceIte, Nat.reduceMul, ptrTo, sliceTo, mapTo, List.getElem?_cons_zero, List.getElem?_cons_succ, Option.map_some, List.append_nil, List.nil_append, List.all_cons, List.all_nil, List.length_cons, List.length_nil, eq_self], by simp only [SS, Nat.reduceBEq, Nat.reduceEqDiff, Nat.reduceAdd, reduceIte, Nat.reduceMul, ptrTo, sliceTo, mapTo, List.getElem?_cons_zero, List.getElem?_cons_succ, Option.map_some, List.append_nil, List.nil_append, List.all_cons, List.all_nil, List.length_cons, List.length_nil, eq_self]; rfl, by simp only [SS, Nat.reduceBEq, Nat.reduceEqDiff, Nat.reduceAdd, reduceIte, Nat.reduceMul, ptrTo, sliceTo, mapTo, List.getElem?_cons_zero, List.getElem?_cons_succ, Option.map_some, List.append_nil, List.nil_append, List.all_cons, List.all_nil, List.length_cons, List.length_nil, eq_self]⟩ (by omega) ?_
  rintro _ tm h1 ⟨i, hi, rfl, rfl, i1, i2, t3, t6, t7, t8, t18⟩ Q1 hN1 hE
  have e0 := hr.ld1 0
  have e1 := hr.ld1 1
  simp only [List.getElem?_cons_zero, List.getElem?_cons_succ] at e0 e1
  have ia := fun hi => x_ia_142 (k := .i64) (b := id) (o := 0) (n := 2) (c := 2) (g := none) (i := i) hi
  by_cases c1 : i < 2
  · have fin : ∀ x : Int, h1.ld1 id i = some (.int .i64 x) → (¬ x = 0 → x = if a = 0 then b else a) → (x = 0 → (1 ≤ i + 1 → a = 0) ∧ (2 ≤ i + 1 → b = 0)) → run (callN P (keepF P) prQ 100000 m) 100000 18 99 none c99_9 [] tm h1 Q1 := by
      intro x hx h1 h2
      by_cases c2 : x = 0
      · obtain ⟨g1, g2⟩ := h2 c2
        simp only [F99, t3, t6, t7, t8, t18, SS, Nat.reduceBEq, Nat.reduceEqDiff, Nat.reduceAdd, reduceIte, Nat.reduceMul, ptrTo, sliceTo, mapTo, List.getElem?_cons_zero, List.getElem?_cons_succ, Option.map_some, List.append_nil, List.nil_append, List.all_cons, List.all_nil, List.length_cons, List.length_nil, eq_self, Int.ofNat_lt, c1, ia c1, hx, c2, wAdd1 (show i ≤ 1000000 by omega)]
        exact hN1 _ _ (2 - (i + 1)) (by omega) ⟨i + 1, by omega, rfl, rfl, g1, g2, by simp only [SS, Nat.reduceBEq, Nat.reduceEqDiff, Nat.reduceAdd, reduceIte, Nat.reduceMul, ptrTo, sliceTo, mapTo, List.getElem?_cons_zero, List.getElem?_cons_succ, Option.map_some, List.append_nil, List.nil_append, List.all_cons, List.all_nil, List.length_cons, List.length_nil, eq_self, t3], by simp only [SS, Nat.reduceBEq, Nat.reduceEqDiff, Nat.reduceAdd, reduceIte, Nat.reduceMul, ptrTo, sliceTo, mapTo, List.getElem?_cons_zero, List.getElem?_cons_succ, Option.map_some, List.append_nil, List.nil_append, List.all_cons, List.all_nil, List.length_cons, List.length_nil, eq_self, t6], by simp only [SS, Nat.reduceBEq, Nat.reduceEqDiff, Nat.reduceAdd, reduceIte, Nat.reduceMul, ptrTo, sliceTo, mapTo, List.getElem?_cons_zero, List.getElem?_cons_succ, Option.map_some, List.append_nil, List.nil_append, List.all_cons, List.all_nil, List.length_cons, List.length_nil, eq_self, t7], by simp only [SS, Nat.reduceBEq, Nat.reduceEqDiff, Nat.reduceAdd, reduceIte, Nat.reduceMul, ptrTo, sliceTo, mapTo, List.getElem?_cons_zero, List.getElem?_cons_succ, Option.map_some, List.append_nil, List.nil_append, List.all_cons, List.all_nil, List.length_cons, List.length_nil, eq_self], by simp only [SS, Nat.reduceBEq, Nat.reduceEqDiff, Nat.reduceAdd, reduceIte, Nat.reduceMul, ptrTo, sliceTo, mapTo, List.getElem?_cons_zero, List.getElem?_cons_succ, Option.map_some, List.append_nil, List.nil_append, List.all_cons, List.all_nil, List.length_cons, List.length_nil, eq_self, t18]⟩
      · simp only [F99, t3, t6, t7, t8, t18, SS, Nat.reduceBEq, Nat.reduceEqDiff, Nat.reduceAdd, reduceIte, Nat.reduceMul, ptrTo, sliceTo, mapTo, List.getElem?_cons_zero, List.getElem?_cons_succ, Option.map_some, List.append_nil, List.nil_append, List.all_cons, List.all_nil, List.length_cons, List.length_nil, eq_self, Int.ofNat_lt, c1, ia c1, hx, c2]
        refine hE _ _ _ (by simp) ?_
        simp only [SS, Nat.reduceBEq, Nat.reduceEqDiff, Nat.reduceAdd, reduceIte, Nat.reduceMul, ptrTo, sliceTo, mapTo, List.getElem?_cons_zero, List.getElem?_cons_succ, Option.map_some, List.append_nil, List.nil_append, List.all_cons, List.all_nil, List.length_cons, List.length_nil, eq_self]
        exact hQ _ _ _ _ (.inr rfl) (by simp only [SS, Nat.reduceBEq, Nat.reduceEqDiff, Nat.reduceAdd, reduceIte, Nat.reduceMul, ptrTo, sliceTo, mapTo, List.getElem?_cons_zero, List.getElem?_cons_succ, Option.map_some, List.append_nil, List.nil_append, List.all_cons, List.all_nil, List.length_cons, List.length_nil, eq_self, t18]) (by simp only [SS, Nat.reduceBEq, Nat.reduceEqDiff, Nat.reduceAdd, reduceIte, Nat.reduceMul, ptrTo, sliceTo, mapTo, List.getElem?_cons_zero, List.getElem?_cons_succ, Option.map_some, List.append_nil, List.nil_append, List.all_cons, List.all_nil, List.length_cons, List.length_nil, eq_self]; rfl) ⟨rfl, by rw [h1 c2]; rfl⟩
    have : i = 0 ∨ i = 1 := by omega
    rcases this with rfl | rfl
    · exact fin a e0 (fun h => by rw [if_neg h]) (fun h => ⟨fun _ => h, fun h => by omega⟩)
    · exact fin b e1 (fun h => by rw [if_pos (i1 (by omega))]) (fun h => ⟨fun _ => i1 (by omega), fun _ => h⟩)
  · have : i = 2 := by omega
    subst this
    simp only [F99, t3, t6, t7, t8, t18, SS, Nat.reduceBEq, Nat.reduceEqDiff, Nat.reduceAdd, reduceIte, Nat.reduceMul, ptrTo, sliceTo, mapTo, List.getElem?_cons_zero, List.getElem?_cons_succ, Option.map_some, List.append_nil, List.nil_append, List.all_cons, List.all_nil, List.length_cons, List.length_nil, eq_self, Int.ofNat_lt, c1]
    refine hE _ _ _ (by simp) ?_
    simp only [F99, t3, t18, SS, Nat.reduceBEq, Nat.reduceEqDiff, Nat.reduceAdd, reduceIte, Nat.reduceMul, ptrTo, sliceTo, mapTo, List.getElem?_cons_zero, List.getElem?_cons_succ, Option.map_some, List.append_nil, List.nil_append, List.all_cons, List.all_nil, List.length_cons, List.length_nil, eq_self]
    exact hQ _ _ _ _ (.inr rfl) (by simp only [SS, Nat.reduceBEq, Nat.reduceEqDiff, Nat.reduceAdd, reduceIte, Nat.reduceMul, ptrTo, sliceTo, mapTo, List.getElem?_cons_zero, List.getElem?_cons_succ, Option.map_some, List.append_nil, List.nil_append, List.all_cons, List.all_nil, List.length_cons, List.length_nil, eq_self, t18]) (by simp only [SS, Nat.reduceBEq, Nat.reduceEqDiff, Nat.reduceAdd, reduceIte, Nat.reduceMul, ptrTo, sliceTo, mapTo, List.getElem?_cons_zero, List.getElem?_cons_succ, Option.map_some, List.append_nil, List.nil_append, List.all_cons, List.all_nil, List.length_cons, List.length_nil, eq_self]; rfl) ⟨rfl, by rw [if_pos (i1 (by omega)), i2 (by omega)]; rfl⟩
end Go.Proofs.Ytlfednnfkejcjaa

namespace Go.Proofs.Ytlfednnfkejcjaa
open Go.Am Go.Qs
set_option maxRecDepth 10000
/-- older, by tick and id -/
def old (x y : It) : Prop := x.tick < y.tick ∨ (x.tick = y.tick ∧ x.id < y.id)
def nil' : It := ⟨[], 0, 0, 0⟩
def iti (L : List It) (i : Nat) : It := L.getD i nil'
theorem iti_at {L : List It} {i : Nat} (h : i < L.length) : iti L i = L[i] := by simp [iti, List.getD_eq_getElem?_getD, List.getElem?_eq_getElem h]
def ltI (L : List It) (i j : Nat) : Prop := old (iti L i) (iti L j)
theorem ltI_wk (L : List It) : Wk (ltI L) := ⟨fun x => by unfold ltI old; omega, fun x y z => by unfold ltI old; omega, fun x y z => by unfold ltI old; omega⟩
/-- the captured list -/
def CapAt (bl : Nat) (lv : AV) (L : List It) (h : Heap) : Prop := (∃ z ro, Rw h bl [lv] z ro) ∧ bl < h.next ∧ Its h lv L
theorem CapAt.sm {bl : Nat} {lv : AV} {L : List It} {h h' : Heap} {F : Nat → Prop} (hc : CapAt bl lv L h) (hs : Sm F h h') (h1 : ¬ F bl) (h2 : ∀ b, blkOf lv b → ¬ F b) : CapAt bl lv L h' := by
  obtain ⟨⟨z, ro, r⟩, lt, hi⟩ := hc
  exact ⟨⟨z, ro, r.sm hs lt h1⟩, Nat.lt_of_lt_of_le lt hs.1, hi.sm hs h2⟩
theorem CapAt.no {bl : Nat} {lv : AV} {L : List It} {h h' : Heap} (hc : CapAt bl lv L h) (hs : Sm NoB h h') : CapAt bl lv L h' := hc.sm hs (fun h => h) (fun _ _ h => h)
/-- a drawn region's new block -/
theorem Rw.allocP (h : Heap) {id n : Nat} {vs z : List AV} {ro : Bool} (hn : n = vs.length) :
    ∃ h1, Heap.mk (h.bs.up (some (.cells (fillC vs .leaf 0) z n ro)) id) h.next = h1 ∧ Rw h1 id vs z ro ∧ h1.next = h.next ∧ ∀ c, c ≠ id → h1.bs.gt c = h.bs.gt c := by
  subst hn
  refine ⟨_, rfl, ⟨fillC vs .leaf 0, by show (h.bs.up _ id).gt id = _; rw [Tr.gt_up, if_pos rfl], fun i hi => ?_⟩, rfl, fun c hc => by show (h.bs.up _ id).gt c = _; rw [Tr.gt_up, if_neg hc]⟩
  unfold cellAt
  rw [gt_fillC, if_pos (by omega), Nat.sub_zero, List.getElem?_eq_getElem hi]
theorem byage_ok {n : Nat} (hn : 3 ≤ n) {h : Heap} {bl : Nat} {lv : AV} {L : List It} (hc : CapAt bl lv L h) {i j : Nat} (hi : i < L.length) (hj : j < L.length) :
    WC (Q n (.fn 98) [I i, I j, .ptr (some (bl, 0))] h) fun r h' => ∃ v : Int, r = .int .i64 v ∧ (v < 0 ↔ ltI L i j) ∧ Sm NoB h h' := by
  obtain ⟨m, rfl⟩ : ∃ m, n = m + 1 := ⟨n - 1, by omega⟩
  refine call_fn _ f98A rfl (by simp [fn98]) fun QQ hQ => ?_
  simp only [fn98] at hQ
  simp only [fn98, fill_cons, fill_nil, Nat.zero_add, Nat.reduceAdd]
  obtain ⟨hb, eb, sb, _, nb⟩ := Sm.bump h 25
  have hcb := hc.no sb
  obtain ⟨⟨z, ro, rb⟩, ltb, its⟩ := id hcb
  have l0 := rb.ld1 0
  rw [List.getElem?_cons_zero] at l0
  obtain ⟨a, c, g, rfl⟩ := its.sl
  obtain ⟨b, o, rfl, _, i2, i3, _⟩ := its.at hi
  obtain ⟨b', o', e', _, j2, j3, _⟩ := its.at hj
  cases e'
  have e1 : ∃ v1, Q m (.fn 100) [.int .u32 L[i].tick, .int .u32 L[j].tick] hb = some (.int .i64 v1, hb) ∧ v1 = if L[i].tick < L[j].tick then (-1 : Int) else if L[j].tick < L[i].tick then 1 else 0 := by
    obtain ⟨r1, h1, e1, rfl, rfl⟩ := compare_ok (n := m) (by omega) L[i].tick L[j].tick hb
    exact ⟨_, e1, rfl⟩
  have e2 : ∃ v2, Q m (.fn 100) [.int .u32 L[i].id, .int .u32 L[j].id] hb = some (.int .i64 v2, hb) ∧ v2 = if L[i].id < L[j].id then (-1 : Int) else if L[j].id < L[i].id then 1 else 0 := by
    obtain ⟨r1, h1, e1, rfl, rfl⟩ := compare_ok (n := m) (by omega) L[i].id L[j].id hb
    exact ⟨_, e1, rfl⟩
  obtain ⟨v1, e1, hv1⟩ := e1
  obtain ⟨v2, e2, hv2⟩ := e2
  obtain ⟨h3, e3, r3, n3, g3⟩ := Rw.allocP hb (id := h.next + 22) (n := 2) (vs := [.int .i64 v1, .int .i64 v2]) (z := []) (ro := false) rfl
  obtain ⟨r, h4, e4, rfl, rfl⟩ := or_ok (n := m) (by omega) r3
  have x1 := x_ia_41 (k := .i64) (b := b) (o := o) (c := c) (g := g) hi
  have x2 := x_ia_41 (k := .i64) (b := b) (o := o) (c := c) (g := g) hj
  simp only [F98, x_fa_53_1, x_fa_53_2, x_bs_142_2, SS, Nat.reduceBEq, Nat.reduceEqDiff, Nat.reduceAdd, reduceIte, Nat.reduceMul, ptrTo, sliceTo, mapTo, List.getElem?_cons_zero, List.getElem?_cons_succ, Option.map_some, List.append_nil, List.nil_append, List.all_cons, List.all_nil, List.length_cons, List.length_nil, eq_self, eb, l0, x1, x2, i2, i3, j2, j3, e1, e2, e3, e4, s_int, s_ptr, s_slice, and'_eq, iff'_true, Nat.add_eq]
  refine hQ _ _ _ _ (.inr rfl) (by simp only [SS, Nat.reduceBEq, Nat.reduceEqDiff, Nat.reduceAdd, reduceIte, Nat.reduceMul, ptrTo, sliceTo, mapTo, List.getElem?_cons_zero, List.getElem?_cons_succ, Option.map_some, List.append_nil, List.nil_append, List.all_cons, List.all_nil, List.length_cons, List.length_nil, eq_self]) (by simp only [SS, Nat.reduceBEq, Nat.reduceEqDiff, Nat.reduceAdd, reduceIte, Nat.reduceMul, ptrTo, sliceTo, mapTo, List.getElem?_cons_zero, List.getElem?_cons_succ, Option.map_some, List.append_nil, List.nil_append, List.all_cons, List.all_nil, List.length_cons, List.length_nil, eq_self]; rfl) ⟨_, rfl, ?_, ?_⟩
  · unfold ltI old
    rw [iti_at hi, iti_at hj, hv1, hv2]
    (repeat' split) <;> omega
  · exact ⟨by have := sb.1; omega, fun c hc _ => by rw [g3 c (by omega), sb.2 c hc (fun h => h)]⟩
end Go.Proofs.Ytlfednnfkejcjaa

namespace Go.Proofs.Ytlfednnfkejcjaa
open Go.Am Go.Qs
set_option maxRecDepth 10000
theorem box_slice {a : Option (Nat × Nat)} {n c : Nat} {g : Option Nat} : box1 (.slice a n c g) = some (.cells (fillC [.slice a n c g] .leaf 0) [] 1 false, ptrTo) := box_one rfl rfl
theorem box_int {k : IntKind} {n : Int} : box1 (.int k n) = some (.cells (fillC [.int k n] .leaf 0) [] 1 false, ptrTo) := box_one rfl rfl
theorem mk_fn {f : Nat} {us : List AV} : mkFunc (Fn.func f) 0 us = some (.func (Fn.func f) [] us) := rfl
theorem dl_succ (d : Nat → Nat) (n : Nat) : dl d (n + 1) = dl d n ++ [I (d n)] := by simp [dl, List.range_succ]
theorem ins_nil {n : Nat} (hn : 1 ≤ n) {cm : AV} {h : Heap} : WC (Q n (.fn 111) [.slice none 0 0 none, I 0, I 0, cm] h) fun r h' => h' = h := by
  obtain ⟨m, rfl⟩ : ∃ m, n = m + 1 := ⟨n - 1, by omega⟩
  refine call_fn _ f111A rfl (by simp [fn111]) fun QQ hQ => ?_
  simp only [fn111] at hQ
  simp only [fn111, fill_cons, fill_nil, Nat.zero_add, Nat.reduceAdd]
  have w1 : IntKind.i64.wrap ((0 : Nat) + 1) = 1 := by decide
  simp only [F111, SS, Nat.reduceBEq, Nat.reduceEqDiff, Nat.reduceAdd, reduceIte, Nat.reduceMul, ptrTo, sliceTo, mapTo, List.getElem?_cons_zero, List.getElem?_cons_succ, Option.map_some, List.append_nil, List.nil_append, List.all_cons, List.all_nil, List.length_cons, List.length_nil, eq_self, w1]
  refine run_loop (c := c111_4) (I := fun m' tm' h1 => h1 = h ∧ tm'.gt 2 = some (I 0) ∧ tm'.gt 8 = some (.int .i64 1) ∧ tm'.gt 53 = none) (n := 0) ⟨rfl, by simp only [SS, Nat.reduceBEq, Nat.reduceEqDiff, Nat.reduceAdd, reduceIte, Nat.reduceMul, ptrTo, sliceTo, mapTo, List.getElem?_cons_zero, List.getElem?_cons_succ, Option.map_some, List.append_nil, List.nil_append, List.all_cons, List.all_nil, List.length_cons, List.length_nil, eq_self], by simp only [SS, Nat.reduceBEq, Nat.reduceEqDiff, Nat.reduceAdd, reduceIte, Nat.reduceMul, ptrTo, sliceTo, mapTo, List.getElem?_cons_zero, List.getElem?_cons_succ, Option.map_some, List.append_nil, List.nil_append, List.all_cons, List.all_nil, List.length_cons, List.length_nil, eq_self], by simp only [SS, Nat.reduceBEq, Nat.reduceEqDiff, Nat.reduceAdd, reduceIte, Nat.reduceMul, ptrTo, sliceTo, mapTo, List.getElem?_cons_zero, List.getElem?_cons_succ, Option.map_some, List.append_nil, List.nil_append, List.all_cons, List.all_nil, List.length_cons, List.length_nil, eq_self]⟩ (by omega) ?_
  rintro _ tm h1 ⟨rfl, t2, t8, t53⟩ Q1 hN1 hE
  have c1 : ¬ ((1 : Int) < ((0 : Nat) : Int)) := by omega
  simp only [F111, SS, Nat.reduceBEq, Nat.reduceEqDiff, Nat.reduceAdd, reduceIte, Nat.reduceMul, ptrTo, sliceTo, mapTo, List.getElem?_cons_zero, List.getElem?_cons_succ, Option.map_some, List.append_nil, List.nil_append, List.all_cons, List.all_nil, List.length_cons, List.length_nil, eq_self, t2, t8, t53, c1]
  refine hE _ _ _ (by simp) ?_
  simp only [SS, Nat.reduceBEq, Nat.reduceEqDiff, Nat.reduceAdd, reduceIte, Nat.reduceMul, ptrTo, sliceTo, mapTo, List.getElem?_cons_zero, List.getElem?_cons_succ, Option.map_some, List.append_nil, List.nil_append, List.all_cons, List.all_nil, List.length_cons, List.length_nil, eq_self]
  exact hQ _ _ _ _ (.inl rfl) (by simp only [SS, Nat.reduceBEq, Nat.reduceEqDiff, Nat.reduceAdd, reduceIte, Nat.reduceMul, ptrTo, sliceTo, mapTo, List.getElem?_cons_zero, List.getElem?_cons_succ, Option.map_some, List.append_nil, List.nil_append, List.all_cons, List.all_nil, List.length_cons, List.length_nil, eq_self, t53]) (by simp only [SS, Nat.reduceBEq, Nat.reduceEqDiff, Nat.reduceAdd, reduceIte, Nat.reduceMul, ptrTo, sliceTo, mapTo, List.getElem?_cons_zero, List.getElem?_cons_succ, Option.map_some, List.append_nil, List.nil_append, List.all_cons, List.all_nil, List.length_cons, List.length_nil, eq_self]; rfl) rfl
theorem stable_nil {n : Nat} (hn : 2 ≤ n) {cm : AV} {h : Heap} : WC (Q n (.fn 106) [.slice none 0 0 none, I 0, cm] h) fun r h' => h' = h := by
  obtain ⟨m, rfl⟩ : ∃ m, n = m + 1 := ⟨n - 1, by omega⟩
  refine call_fn _ f106A rfl (by simp [fn106]) fun QQ hQ => ?_
  simp only [fn106] at hQ
  simp only [fn106, fill_cons, fill_nil, Nat.zero_add, Nat.reduceAdd]
  simp only [F106, r106_21, SS, Nat.reduceBEq, Nat.reduceEqDiff, Nat.reduceAdd, reduceIte, Nat.reduceMul, ptrTo, sliceTo, mapTo, List.getElem?_cons_zero, List.getElem?_cons_succ, Option.map_some, List.append_nil, List.nil_append, List.all_cons, List.all_nil, List.length_cons, List.length_nil, eq_self]
  refine run_loop (c := c106_7) (I := fun m' tm' h1 => h1 = h ∧ tm'.gt 0 = some (.slice none 0 0 none) ∧ tm'.gt 1 = some (I 0) ∧ tm'.gt 2 = some cm ∧ tm'.gt 6 = some (.int .i64 20) ∧ tm'.gt 7 = some (I 0) ∧ tm'.gt 8 = some (.int .i64 20) ∧ tm'.gt 63 = none) (n := 0) ⟨rfl, by simp only [SS, Nat.reduceBEq, Nat.reduceEqDiff, Nat.reduceAdd, reduceIte, Nat.reduceMul, ptrTo, sliceTo, mapTo, List.getElem?_cons_zero, List.getElem?_cons_succ, Option.map_some, List.append_nil, List.nil_append, List.all_cons, List.all_nil, List.length_cons, List.length_nil, eq_self], by simp only [SS, Nat.reduceBEq, Nat.reduceEqDiff, Nat.reduceAdd, reduceIte, Nat.reduceMul, ptrTo, sliceTo, mapTo, List.getElem?_cons_zero, List.getElem?_cons_succ, Option.map_some, List.append_nil, List.nil_append, List.all_cons, List.all_nil, List.length_cons, List.length_nil, eq_self], by simp only [SS, Nat.reduceBEq, Nat.reduceEqDiff, Nat.reduceAdd, reduceIte, Nat.reduceMul, ptrTo, sliceTo, mapTo, List.getElem?_cons_zero, List.getElem?_cons_succ, Option.map_some, List.append_nil, List.nil_append, List.all_cons, List.all_nil, List.length_cons, List.length_nil, eq_self], by simp only [SS, Nat.reduceBEq, Nat.reduceEqDiff, Nat.reduceAdd, reduceIte, Nat.reduceMul, ptrTo, sliceTo, mapTo, List.getElem?_cons_zero, List.getElem?_cons_succ, Option.map_some, List.append_nil, List.nil_append, List.all_cons, List.all_nil, List.length_cons, List.length_nil, eq_self], by simp only [SS, Nat.reduceBEq, Nat.reduceEqDiff, Nat.reduceAdd, reduceIte, Nat.reduceMul, ptrTo, sliceTo, mapTo, List.getElem?_cons_zero, List.getElem?_cons_succ, Option.map_some, List.append_nil, List.nil_append, List.all_cons, List.all_nil, List.length_cons, List.length_nil, eq_self]; rfl, by simp only [SS, Nat.reduceBEq, Nat.reduceEqDiff, Nat.reduceAdd, reduceIte, Nat.reduceMul, ptrTo, sliceTo, mapTo, List.getElem?_cons_zero, List.getElem?_cons_succ, Option.map_some, List.append_nil, List.nil_append, List.all_cons, List.all_nil, List.length_cons, List.length_nil, eq_self], by simp only [SS, Nat.reduceBEq, Nat.reduceEqDiff, Nat.reduceAdd, reduceIte, Nat.reduceMul, ptrTo, sliceTo, mapTo, List.getElem?_cons_zero, List.getElem?_cons_succ, Option.map_some, List.append_nil, List.nil_append, List.all_cons, List.all_nil, List.length_cons, List.length_nil, eq_self]⟩ (by omega) ?_
  rintro _ tm h1 ⟨rfl, t0, t1, t2, t6, t7, t8, t63⟩ Q1 hN1 hE
  have c1 : ¬ ((20 : Int) ≤ ((0 : Nat) : Int)) := by omega
  obtain ⟨r, h2, e2, rfl⟩ := ins_nil (n := m) (by omega) (cm := cm) (h := h1)
  simp only [F106, r106_21, SS, Nat.reduceBEq, Nat.reduceEqDiff, Nat.reduceAdd, reduceIte, Nat.reduceMul, ptrTo, sliceTo, mapTo, List.getElem?_cons_zero, List.getElem?_cons_succ, Option.map_some, List.append_nil, List.nil_append, List.all_cons, List.all_nil, List.length_cons, List.length_nil, eq_self, t0, t1, t2, t6, t7, t8, t63, c1]
  refine hE _ _ _ (by simp) ?_
  simp only [F106, r106_21, SS, Nat.reduceBEq, Nat.reduceEqDiff, Nat.reduceAdd, reduceIte, Nat.reduceMul, ptrTo, sliceTo, mapTo, List.getElem?_cons_zero, List.getElem?_cons_succ, Option.map_some, List.append_nil, List.nil_append, List.all_cons, List.all_nil, List.length_cons, List.length_nil, eq_self, t0, t1, t2, t6, t7, t8, t63, e2]
  refine run_loop (c := c106_23) (I := fun m' tm' h1 => h1 = h2 ∧ tm'.gt 1 = some (I 0) ∧ tm'.gt 6 = some (.int .i64 20) ∧ tm'.gt 63 = none) (n := 0) ⟨rfl, by simp only [SS, Nat.reduceBEq, Nat.reduceEqDiff, Nat.reduceAdd, reduceIte, Nat.reduceMul, ptrTo, sliceTo, mapTo, List.getElem?_cons_zero, List.getElem?_cons_succ, Option.map_some, List.append_nil, List.nil_append, List.all_cons, List.all_nil, List.length_cons, List.length_nil, eq_self, t1], by simp only [SS, Nat.reduceBEq, Nat.reduceEqDiff, Nat.reduceAdd, reduceIte, Nat.reduceMul, ptrTo, sliceTo, mapTo, List.getElem?_cons_zero, List.getElem?_cons_succ, Option.map_some, List.append_nil, List.nil_append, List.all_cons, List.all_nil, List.length_cons, List.length_nil, eq_self, t6], by simp only [SS, Nat.reduceBEq, Nat.reduceEqDiff, Nat.reduceAdd, reduceIte, Nat.reduceMul, ptrTo, sliceTo, mapTo, List.getElem?_cons_zero, List.getElem?_cons_succ, Option.map_some, List.append_nil, List.nil_append, List.all_cons, List.all_nil, List.length_cons, List.length_nil, eq_self, t63]⟩ (by omega) ?_
  rintro _ tm h1 ⟨rfl, t1, t6, t63⟩ Q2 hN2 hE2
  have c1 : ¬ ((20 : Int) < ((0 : Nat) : Int)) := by omega
  simp only [F106, r106_21, SS, Nat.reduceBEq, Nat.reduceEqDiff, Nat.reduceAdd, reduceIte, Nat.reduceMul, ptrTo, sliceTo, mapTo, List.getElem?_cons_zero, List.getElem?_cons_succ, Option.map_some, List.append_nil, List.nil_append, List.all_cons, List.all_nil, List.length_cons, List.length_nil, eq_self, t1, t6, t63, c1]
  refine hE2 _ _ _ (by simp) ?_
  simp only [SS, Nat.reduceBEq, Nat.reduceEqDiff, Nat.reduceAdd, reduceIte, Nat.reduceMul, ptrTo, sliceTo, mapTo, List.getElem?_cons_zero, List.getElem?_cons_succ, Option.map_some, List.append_nil, List.nil_append, List.all_cons, List.all_nil, List.length_cons, List.length_nil, eq_self]
  exact hQ _ _ _ _ (.inl rfl) (by simp only [SS, Nat.reduceBEq, Nat.reduceEqDiff, Nat.reduceAdd, reduceIte, Nat.reduceMul, ptrTo, sliceTo, mapTo, List.getElem?_cons_zero, List.getElem?_cons_succ, Option.map_some, List.append_nil, List.nil_append, List.all_cons, List.all_nil, List.length_cons, List.length_nil, eq_self, t63]) (by simp only [SS, Nat.reduceBEq, Nat.reduceEqDiff, Nat.reduceAdd, reduceIte, Nat.reduceMul, ptrTo, sliceTo, mapTo, List.getElem?_cons_zero, List.getElem?_cons_succ, Option.map_some, List.append_nil, List.nil_append, List.all_cons, List.all_nil, List.length_cons, List.length_nil, eq_self]; rfl) rfl
theorem sort_nil {n : Nat} (hn : 3 ≤ n) {cm : AV} {h : Heap} : WC (Q n (.fn 97) [.slice none 0 0 none, cm] h) fun r h' => h' = h := by
  obtain ⟨m, rfl⟩ : ∃ m, n = m + 1 := ⟨n - 1, by omega⟩
  refine call_fn _ f97A rfl (by simp [fn97]) fun QQ hQ => ?_
  simp only [fn97] at hQ
  simp only [fn97, fill_cons, fill_nil, Nat.zero_add, Nat.reduceAdd]
  obtain ⟨r, h1, e1, rfl⟩ := stable_nil (n := m) (by omega) (cm := cm) (h := h)
  simp only [F97, x_len_142, SS, Nat.reduceBEq, Nat.reduceEqDiff, Nat.reduceAdd, reduceIte, Nat.reduceMul, ptrTo, sliceTo, mapTo, List.getElem?_cons_zero, List.getElem?_cons_succ, Option.map_some, List.append_nil, List.nil_append, List.all_cons, List.all_nil, List.length_cons, List.length_nil, eq_self, e1]
  exact hQ _ _ _ _ (.inl rfl) (by simp only [SS, Nat.reduceBEq, Nat.reduceEqDiff, Nat.reduceAdd, reduceIte, Nat.reduceMul, ptrTo, sliceTo, mapTo, List.getElem?_cons_zero, List.getElem?_cons_succ, Option.map_some, List.append_nil, List.nil_append, List.all_cons, List.all_nil, List.length_cons, List.length_nil, eq_self]) (by simp only [SS, Nat.reduceBEq, Nat.reduceEqDiff, Nat.reduceAdd, reduceIte, Nat.reduceMul, ptrTo, sliceTo, mapTo, List.getElem?_cons_zero, List.getElem?_cons_succ, Option.map_some, List.append_nil, List.nil_append, List.all_cons, List.all_nil, List.length_cons, List.length_nil, eq_self]; rfl) rfl
theorem order_ok {n : Nat} (hn : 60 ≤ n) {h : Heap} {lv : AV} {L : List It} (hi : Its h lv L) (h40 : L.length < 40) :
    WC (Q n (.fn 84) [lv] h) fun r h' => ∃ d' bs, SlO 3 1 h' r L.length (dl d' L.length) bs ∧ Perm 0 L.length id d' ∧ Sorted (ltI L) 0 L.length d' ∧ Sm NoB h h' ∧ ∀ b, b ∈ bs → h.next ≤ b := by
  obtain ⟨a, c, g, rfl⟩ := hi.sl
  obtain ⟨m, rfl⟩ : ∃ m, n = m + 1 := ⟨n - 1, by omega⟩
  refine call_fn _ f84A rfl (by simp [fn84]) fun QQ hQ => ?_
  simp only [fn84] at hQ
  simp only [fn84, fill_cons, fill_nil, Nat.zero_add, Nat.reduceAdd]
  obtain ⟨h1, e1, r1, n1, g1⟩ := Rw.alloc h (id := h.next) (n := 1) (vs := [.slice a L.length c g]) (z := []) (ro := false) (Nat.le_refl _) rfl
  have s1 : Sm NoB h h1 := ⟨by omega, fun c hc _ => g1 c (by omega)⟩
  have l0 := r1.ld1 0
  rw [List.getElem?_cons_zero] at l0
  simp only [F84, SS, Nat.reduceBEq, Nat.reduceEqDiff, Nat.reduceAdd, reduceIte, Nat.reduceMul, ptrTo, sliceTo, mapTo, List.getElem?_cons_zero, List.getElem?_cons_succ, Option.map_some, List.append_nil, List.nil_append, List.all_cons, List.all_nil, List.length_cons, List.length_nil, eq_self, box_slice, e1, l0, x_len_41]
  refine run_loop (c := c84_9) (I := fun m' tm' h' => ∃ i v bs, i ≤ L.length ∧ m' = L.length - i ∧ SlO 3 1 h' v i (dl id i) bs ∧ (∀ b, b ∈ bs → h1.next ≤ b) ∧ Sm NoB h1 h' ∧ tm'.gt 1 = some (.ptr (some (h.next, 0))) ∧ tm'.gt 3 = some v ∧ tm'.gt 6 = some (I L.length) ∧ tm'.gt 7 = some (I i) ∧ tm'.gt 19 = none) (n := L.length)
    ⟨0, _, [], by omega, rfl, SlO.nil, (fun _ h => by cases h), Sm.refl _ _, by simp only [SS, Nat.reduceBEq, Nat.reduceEqDiff, Nat.reduceAdd, reduceIte, Nat.reduceMul, ptrTo, sliceTo, mapTo, List.getElem?_cons_zero, List.getElem?_cons_succ, Option.map_some, List.append_nil, List.nil_append, List.all_cons, List.all_nil, List.length_cons, List.length_nil, eq_self], by simp only [SS, Nat.reduceBEq, Nat.reduceEqDiff, Nat.reduceAdd, reduceIte, Nat.reduceMul, ptrTo, sliceTo, mapTo, List.getElem?_cons_zero, List.getElem?_cons_succ, Option.map_some, List.append_nil, List.nil_append, List.all_cons, List.all_nil, List.length_cons, List.length_nil, eq_self], by simp only [SS, Nat.reduceBEq, Nat.reduceEqDiff, Nat.reduceAdd, reduceIte, Nat.reduceMul, ptrTo, sliceTo, mapTo, List.getElem?_cons_zero, List.getElem?_cons_succ, Option.map_some, List.append_nil, List.nil_append, List.all_cons, List.all_nil, List.length_cons, List.length_nil, eq_self], by simp only [SS, Nat.reduceBEq, Nat.reduceEqDiff, Nat.reduceAdd, reduceIte, Nat.reduceMul, ptrTo, sliceTo, mapTo, List.getElem?_cons_zero, List.getElem?_cons_succ, Option.map_some, List.append_nil, List.nil_append, List.all_cons, List.all_nil, List.length_cons, List.length_nil, eq_self]; rfl, by simp only [SS, Nat.reduceBEq, Nat.reduceEqDiff, Nat.reduceAdd, reduceIte, Nat.reduceMul, ptrTo, sliceTo, mapTo, List.getElem?_cons_zero, List.getElem?_cons_succ, Option.map_some, List.append_nil, List.nil_append, List.all_cons, List.all_nil, List.length_cons, List.length_nil, eq_self]⟩ (by omega) ?_
  rintro _ tm h2 ⟨i, v, bs, hil, rfl, ho, hbs, s2, t1, t3, t6, t7, t19⟩ Q1 hN1 hE
  by_cases hlt : i < L.length
  · obtain ⟨h3, e3, r3, n3, g3⟩ := Rw.alloc h2 (id := h2.next) (n := 1) (vs := [I i]) (z := []) (ro := false) (Nat.le_refl _) rfl
    have s3 : Sm NoB h2 h3 := ⟨by omega, fun c hc _ => g3 c (by omega)⟩
    have ho3 := ho.sm s3 (fun _ _ h => h)
    have hs6 : srcOf 1 (fun n => n) (.slice (some (h2.next, 0)) 1 1 none) h3 = some ([I i], 1) := srcOf_row r3 (Nat.le_refl _)
    obtain ⟨v', h4, bs', e4, o4, n4, g4, b4, _⟩ := app_own (t := 142) u_142 s_3 b_3 z_3 rfl ho3 hs6 (by omega) rfl rfl (room_le (by omega) (by omega)) (Nat.le_refl h3.next)
    have s4 : Sm (fun b => b ∈ bs) h3 h4 := ⟨n4, fun c hc hb => g4 c hb (by omega)⟩
    simp only [F84, SS, Nat.reduceBEq, Nat.reduceEqDiff, Nat.reduceAdd, reduceIte, Nat.reduceMul, ptrTo, sliceTo, mapTo, List.getElem?_cons_zero, List.getElem?_cons_succ, Option.map_some, List.append_nil, List.nil_append, List.all_cons, List.all_nil, List.length_cons, List.length_nil, eq_self, t1, t3, t6, t7, t19, Int.ofNat_lt, hlt, x_bs_142_1, e3, e4, wAdd1 (show i ≤ 1000000 by omega)]
    refine hN1 _ _ (L.length - (i + 1)) (by omega) ⟨i + 1, v', bs', hlt, rfl, by rw [dl_succ]; exact o4, fun b hb => ?_, ?_, by simp only [SS, Nat.reduceBEq, Nat.reduceEqDiff, Nat.reduceAdd, reduceIte, Nat.reduceMul, ptrTo, sliceTo, mapTo, List.getElem?_cons_zero, List.getElem?_cons_succ, Option.map_some, List.append_nil, List.nil_append, List.all_cons, List.all_nil, List.length_cons, List.length_nil, eq_self, t1], by simp only [SS, Nat.reduceBEq, Nat.reduceEqDiff, Nat.reduceAdd, reduceIte, Nat.reduceMul, ptrTo, sliceTo, mapTo, List.getElem?_cons_zero, List.getElem?_cons_succ, Option.map_some, List.append_nil, List.nil_append, List.all_cons, List.all_nil, List.length_cons, List.length_nil, eq_self], by simp only [SS, Nat.reduceBEq, Nat.reduceEqDiff, Nat.reduceAdd, reduceIte, Nat.reduceMul, ptrTo, sliceTo, mapTo, List.getElem?_cons_zero, List.getElem?_cons_succ, Option.map_some, List.append_nil, List.nil_append, List.all_cons, List.all_nil, List.length_cons, List.length_nil, eq_self, t6], by simp only [SS, Nat.reduceBEq, Nat.reduceEqDiff, Nat.reduceAdd, reduceIte, Nat.reduceMul, ptrTo, sliceTo, mapTo, List.getElem?_cons_zero, List.getElem?_cons_succ, Option.map_some, List.append_nil, List.nil_append, List.all_cons, List.all_nil, List.length_cons, List.length_nil, eq_self], by simp only [SS, Nat.reduceBEq, Nat.reduceEqDiff, Nat.reduceAdd, reduceIte, Nat.reduceMul, ptrTo, sliceTo, mapTo, List.getElem?_cons_zero, List.getElem?_cons_succ, Option.map_some, List.append_nil, List.nil_append, List.all_cons, List.all_nil, List.length_cons, List.length_nil, eq_self, t19]⟩
    · rcases b4 b hb with h | h
      · exact hbs b h
      · have := s2.1; omega
    · refine ⟨by have := s2.1; omega, fun c hc _ => ?_⟩
      have := s2.1
      rw [g4 c (fun h => by have := hbs c h; omega) (by omega), g3 c (by omega), s2.2 c hc (fun h => h)]
  · obtain rfl : i = L.length := by omega
    simp only [F84, SS, Nat.reduceBEq, Nat.reduceEqDiff, Nat.reduceAdd, reduceIte, Nat.reduceMul, ptrTo, sliceTo, mapTo, List.getElem?_cons_zero, List.getElem?_cons_succ, Option.map_some, List.append_nil, List.nil_append, List.all_cons, List.all_nil, List.length_cons, List.length_nil, eq_self, t1, t3, t6, t7, t19, Int.ofNat_lt, hlt]
    refine hE _ _ _ (by simp) ?_
    have hcap : CapAt h.next (.slice a L.length c g) L h2 := (show CapAt h.next (.slice a L.length c g) L h1 from ⟨⟨_, _, r1⟩, by omega, hi.sm s1 (fun _ _ h => h)⟩).no s2
    rcases id ho with ⟨rfl, hl0, _, rfl⟩ | ⟨b, cp, rest, z, rfl, k1, k2, k3, k4, k5, rfl, rfl, k8⟩
    · have hL : L = [] := List.eq_nil_of_length_eq_zero hl0
      subst hL
      obtain ⟨r, h3, e3, rfl⟩ := sort_nil (n := m) (by omega) (cm := .func (Fn.func 98) [] [.ptr (some (h.next, 0))]) (h := h2)
      simp only [F84, SS, Nat.reduceBEq, Nat.reduceEqDiff, Nat.reduceAdd, reduceIte, Nat.reduceMul, ptrTo, sliceTo, mapTo, List.getElem?_cons_zero, List.getElem?_cons_succ, Option.map_some, List.append_nil, List.nil_append, List.all_cons, List.all_nil, List.length_cons, List.length_nil, eq_self, t1, t3, t19, mk_fn, e3]
      refine hQ _ _ _ _ (.inr rfl) (by simp only [SS, Nat.reduceBEq, Nat.reduceEqDiff, Nat.reduceAdd, reduceIte, Nat.reduceMul, ptrTo, sliceTo, mapTo, List.getElem?_cons_zero, List.getElem?_cons_succ, Option.map_some, List.append_nil, List.nil_append, List.all_cons, List.all_nil, List.length_cons, List.length_nil, eq_self, t19]) (by simp only [SS, Nat.reduceBEq, Nat.reduceEqDiff, Nat.reduceAdd, reduceIte, Nat.reduceMul, ptrTo, sliceTo, mapTo, List.getElem?_cons_zero, List.getElem?_cons_succ, Option.map_some, List.append_nil, List.nil_append, List.all_cons, List.all_nil, List.length_cons, List.length_nil, eq_self]; rfl) ?_
      exact ⟨id, [], ho, Perm.refl _ _ _, (fun i j h1 h2 h3 => absurd h3 (Nat.not_lt_zero _)), s1.trans s2 (fun _ _ h => h) (fun _ _ h => h), fun _ h => by cases h⟩
    · have hbn := hbs b (List.mem_singleton.2 rfl)
      have hlb : ∀ q, blkOf (.slice a L.length c g) q → q < h.next := fun q hq => hi.lt hq
      let X : Cx := ⟨b, cp, rest, tyMark 3 false, .func (Fn.func 98) [] [.ptr (some (h.next, 0))], CapAt h.next (.slice a L.length c g) L, ltI L, L.length, 3⟩
      have hX : X.Ok := ⟨fun h h' hj hs => hj.sm hs (show ¬ _ = b by omega) (fun q hq => show ¬ q = b by have := hlb q hq; omega),
        fun n hn h3 i j hj hi hj' => by
          obtain ⟨r, h4, e4, v, rfl, g1, g2⟩ := byage_ok (n := n) hn hj hi hj'
          exact ⟨v, h4, e4, g1, g2⟩, ltI_wk L, by show L.length ≤ 1000; omega⟩
      have hA : X.At h2 id := ⟨k4, k5, hcap, fun k hk => hk⟩
      obtain ⟨r, h3, e3, d', A3, s3, p3, q3⟩ := sort_ok hX (n := m) (by show 3 + 51 ≤ m; omega) hA h40
      have e3' : Q m (.fn 97) [.slice (some (b, 0)) L.length cp (some 1), .func (Fn.func 98) [] [.ptr (some (h.next, 0))]] h2 = some (r, h3) := e3
      simp only [F84, SS, Nat.reduceBEq, Nat.reduceEqDiff, Nat.reduceAdd, reduceIte, Nat.reduceMul, ptrTo, sliceTo, mapTo, List.getElem?_cons_zero, List.getElem?_cons_succ, Option.map_some, List.append_nil, List.nil_append, List.all_cons, List.all_nil, List.length_cons, List.length_nil, eq_self, t1, t3, t19, mk_fn, e3']
      refine hQ _ _ _ _ (.inr rfl) (by simp only [SS, Nat.reduceBEq, Nat.reduceEqDiff, Nat.reduceAdd, reduceIte, Nat.reduceMul, ptrTo, sliceTo, mapTo, List.getElem?_cons_zero, List.getElem?_cons_succ, Option.map_some, List.append_nil, List.nil_append, List.all_cons, List.all_nil, List.length_cons, List.length_nil, eq_self, t19]) (by simp only [SS, Nat.reduceBEq, Nat.reduceEqDiff, Nat.reduceAdd, reduceIte, Nat.reduceMul, ptrTo, sliceTo, mapTo, List.getElem?_cons_zero, List.getElem?_cons_succ, Option.map_some, List.append_nil, List.nil_append, List.all_cons, List.all_nil, List.length_cons, List.length_nil, eq_self]; rfl) ⟨d', [b], .inr ⟨b, cp, rest, _, rfl, by rw [dl_len, Nat.mul_one], by rw [← k2, List.length_append, List.length_append, dl_len, dl_len], k3, A3.rw, A3.lt, rfl, rfl, dl_one _ _⟩, p3, q3, ?_, fun q hq => by rw [List.mem_singleton.1 hq]; omega⟩
      refine ⟨by have := s1.1; have := s2.1; have := s3.1; omega, fun q hq _ => ?_⟩
      have := s1.1
      have := s2.1
      rw [s3.2 q (by omega) (show ¬ q = b by omega), s2.2 q (by omega) (fun h => h), s1.2 q hq (fun h => h)]
end Go.Proofs.Ytlfednnfkejcjaa

namespace Go.Proofs.Ytlfednnfkejcjaa
open Go.Am Go.Qs
set_option maxRecDepth 10000
theorem u_144 : P.underlying 144 = some (.map 9 3) := by kernel_rfl
theorem ap_yield {call : CallFn} {args : List AV} {h : Heap} {l : Nat} : applyV call args h (.func (.yield l) [] []) = call (.loop l) args h := rfl
/-- an item that has a later one of its path -/
def more (L : List It) (d : Nat → Nat) (i : Nat) : Prop := ∃ k, i < k ∧ k < L.length ∧ (iti L (d k)).p = (iti L (d i)).p
def Lst (L : List It) (d : Nat → Nat) (i : Nat) (p : List Nat) (r : Option AV) : Prop :=
  (r = none ∧ ∀ k, k < i → (iti L (d k)).p ≠ p) ∨ ∃ k, k < i ∧ r = some (I (d k)) ∧ (iti L (d k)).p = p ∧ ∀ k', k < k' → k' < i → (iti L (d k')).p ≠ p
theorem put_sm {h : Heap} {b : Nat} {x : Blk} : ∃ h', h.put b x = h' ∧ h'.bs.gt b = some x ∧ h'.next = h.next ∧ Sm (· = b) h h' := by
  refine ⟨_, rfl, by show (h.bs.up _ b).gt b = _; rw [Tr.gt_up, if_pos rfl], rfl, Nat.le_refl _, fun c _ hc => by show (h.bs.up _ b).gt c = _; rw [Tr.gt_up, if_neg hc]⟩
theorem aged_ok {n l bl : Nat} (hn : 62 ≤ n) {h : Heap} {lv : AV} {L : List It} (hc : CapAt bl lv L h) (h40 : L.length < 40)
    (J : (Nat → Nat) → Nat → (Nat → Prop) → Heap → Prop) (D : Heap → Prop)
    (hJ0 : ∀ d, Perm 0 L.length id d → Sorted (ltI L) 0 L.length d → ∃ F, (∀ b, F b → b < h.next) ∧ J d 0 F h)
    (hF : ∀ d i F h', J d i F h' → ¬ F bl ∧ ∀ b, blkOf lv b → ¬ F b)
    (hst : ∀ d i F h1 h2 G, J d i F h1 → Sm G h1 h2 → (∀ b, F b → ¬ G b) → (∀ b, G b → h.next ≤ b) → J d i F h2)
    (hskip : ∀ d i F h', J d i F h' → ¬ more L d i → J d (i + 1) F h')
    (hyield : ∀ d, Perm 0 L.length id d → Sorted (ltI L) 0 L.length d → ∀ m i F h', n ≤ m + 1 → i < L.length → J d i F h' → more L d i → WC (Q m (.loop l) [.agg (iti L (d i)).c] h') fun r h2 => ∃ F', (∀ b, b < h'.next → F' b → F b) ∧ Sm F h' h2 ∧ ((r = .bool true ∧ J d (i + 1) F' h2) ∨ (r = .bool false ∧ D h2))) :
    WC (Q n (.fn 83) [.func (.yield l) [] [], .ptr (some (bl, 0))] h) fun r h' => (∃ d F, Perm 0 L.length id d ∧ Sorted (ltI L) 0 L.length d ∧ J d L.length F h') ∨ D h' := by
  obtain ⟨m, rfl⟩ : ∃ m, n = m + 1 := ⟨n - 1, by omega⟩
  refine call_fn _ f83A rfl (by simp [fn83]) fun QQ hQ => ?_
  simp only [fn83] at hQ
  simp only [fn83, fill_cons, fill_nil, Nat.zero_add, Nat.reduceAdd]
  obtain ⟨⟨z, ro, rb⟩, ltb, its⟩ := id hc
  have l0 := rb.ld1 0
  rw [List.getElem?_cons_zero] at l0
  obtain ⟨v, h1, e1, d, bs, ho, hP, hS, s1, hbs⟩ := order_ok (n := m) (by omega) its h40
  obtain ⟨F0, hF0, hJ⟩ := hJ0 d hP hS
  obtain ⟨hlv, a, c, g, rfl, _⟩ := id ho.els
  have hd : ∀ k, k < L.length → d k < L.length := hP.lt (Nat.le_refl _) (fun k hk => hk)
  have hinj : ∀ i k, d i = d k → i = k := by
    obtain ⟨s, t, p1, p2, _, p4⟩ := hP
    intro i k he
    rw [p4, p4] at he
    have := congrArg t he
    rw [show id (s i) = s i from rfl, show id (s k) = s k from rfl, p1, p1] at this
    exact this
  -- the map
  obtain ⟨h2, e2, _⟩ : ∃ h2, h1.new h1.next (.map [] 0) = h2 ∧ True := ⟨_, rfl, trivial⟩
  have m2 : h2.bs.gt h1.next = some (.map [] 0) := by rw [← e2, new_get' (Nat.le_refl _), if_pos rfl]
  have n2 : h2.next = h1.next + 1 := by rw [← e2, new_next' (Nat.le_refl _)]
  have s2 : Sm NoB h1 h2 := ⟨by omega, fun c hc _ => by rw [← e2, new_get' (Nat.le_refl _), if_neg (by omega)]⟩
  have hsl : SlO 3 1 h2 (.slice a L.length c g) L.length (dl d L.length) bs := ho.sm s2 (fun _ _ h => h)
  have hc2 := (hc.no s1).no s2
  have hJ2 : J d 0 F0 h2 := hst d 0 F0 h h2 NoB hJ (s1.trans s2 (fun _ _ h => h) (fun _ _ h => h)) (fun _ _ h => h) (fun _ h => h.elim)
  have hown : ∀ b, b ∈ bs → ¬ F0 b := fun b hb hf => by have := hF0 b hf; have := hbs b hb; omega
  have hmb : ¬ F0 h1.next := fun hf => by have := hF0 _ hf; have := s1.1; omega
  have hbsl : ∀ b, b ∈ bs → b < h1.next := ho.lt
  have hlb : ∀ q, blkOf lv q → q < h.next := fun q hq => its.lt hq
  have s1n := s1.1
  simp only [F83, SS, Nat.reduceBEq, Nat.reduceEqDiff, Nat.reduceAdd, reduceIte, Nat.reduceMul, ptrTo, sliceTo, mapTo, List.getElem?_cons_zero, List.getElem?_cons_succ, Option.map_some, List.append_nil, List.nil_append, List.all_cons, List.all_nil, List.length_cons, List.length_nil, eq_self, l0, e1, x_mm_144, e2, x_len_142]
  generalize hmbe : h1.next = mb at m2 n2 hmb hbsl s1n ⊢
  refine run_loop (c := c83_9) (I := fun m' tm' h' => ∃ i es cl, i ≤ L.length ∧ m' = L.length - i ∧ h'.bs.gt mb = some (.map es cl) ∧ AllStr es ∧ (∀ p, Lst L d i p (getS p es)) ∧ Sm (· = mb) h2 h' ∧ tm'.gt 0 = some (.func (.yield l) [] []) ∧ tm'.gt 1 = some (.ptr (some (bl, 0))) ∧ tm'.gt 3 = some (.slice a L.length c g) ∧ tm'.gt 4 = some (.map (some mb)) ∧ tm'.gt 12 = some (.slice a L.length c g) ∧ tm'.gt 13 = some (I L.length) ∧ tm'.gt 14 = some (I i) ∧ tm'.gt 51 = none) (n := L.length)
    ⟨0, [], 0, by omega, rfl, m2, (fun _ h => by cases h), (fun p => .inl ⟨rfl, fun k hk => absurd hk (Nat.not_lt_zero _)⟩), Sm.refl _ _, by simp only [SS, Nat.reduceBEq, Nat.reduceEqDiff, Nat.reduceAdd, reduceIte, Nat.reduceMul, ptrTo, sliceTo, mapTo, List.getElem?_cons_zero, List.getElem?_cons_succ, Option.map_some, List.append_nil, List.nil_append, List.all_cons, List.all_nil, List.length_cons, List.length_nil, eq_self], by simp only [SS, Nat.reduceBEq, Nat.reduceEqDiff, Nat.reduceAdd, reduceIte, Nat.reduceMul, ptrTo, sliceTo, mapTo, List.getElem?_cons_zero, List.getElem?_cons_succ, Option.map_some, List.append_nil, List.nil_append, List.all_cons, List.all_nil, List.length_cons, List.length_nil, eq_self], by simp only [SS, Nat.reduceBEq, Nat.reduceEqDiff, Nat.reduceAdd, reduceIte, Nat.reduceMul, ptrTo, sliceTo, mapTo, List.getElem?_cons_zero, List.getElem?_cons_succ, Option.map_some, List.append_nil, List.nil_append, List.all_cons, List.all_nil, List.length_cons, List.length_nil, eq_self], by simp only [SS, Nat.reduceBEq, Nat.reduceEqDiff, Nat.reduceAdd, reduceIte, Nat.reduceMul, ptrTo, sliceTo, mapTo, List.getElem?_cons_zero, List.getElem?_cons_succ, Option.map_some, List.append_nil, List.nil_append, List.all_cons, List.all_nil, List.length_cons, List.length_nil, eq_self], by simp only [SS, Nat.reduceBEq, Nat.reduceEqDiff, Nat.reduceAdd, reduceIte, Nat.reduceMul, ptrTo, sliceTo, mapTo, List.getElem?_cons_zero, List.getElem?_cons_succ, Option.map_some, List.append_nil, List.nil_append, List.all_cons, List.all_nil, List.length_cons, List.length_nil, eq_self], by simp only [SS, Nat.reduceBEq, Nat.reduceEqDiff, Nat.reduceAdd, reduceIte, Nat.reduceMul, ptrTo, sliceTo, mapTo, List.getElem?_cons_zero, List.getElem?_cons_succ, Option.map_some, List.append_nil, List.nil_append, List.all_cons, List.all_nil, List.length_cons, List.length_nil, eq_self], by simp only [SS, Nat.reduceBEq, Nat.reduceEqDiff, Nat.reduceAdd, reduceIte, Nat.reduceMul, ptrTo, sliceTo, mapTo, List.getElem?_cons_zero, List.getElem?_cons_succ, Option.map_some, List.append_nil, List.nil_append, List.all_cons, List.all_nil, List.length_cons, List.length_nil, eq_self]; rfl, by simp only [SS, Nat.reduceBEq, Nat.reduceEqDiff, Nat.reduceAdd, reduceIte, Nat.reduceMul, ptrTo, sliceTo, mapTo, List.getElem?_cons_zero, List.getElem?_cons_succ, Option.map_some, List.append_nil, List.nil_append, List.all_cons, List.all_nil, List.length_cons, List.length_nil, eq_self]⟩ (by omega) ?_
  rintro _ tm h3 ⟨i, es, cl, hil, rfl, hm3, hall, hls, s3, t0, t1, t3, t4, t12, t13, t14, t51⟩ Q1 hN1 hE
  have hc3 : CapAt bl lv L h3 := hc2.sm s3 (show ¬ bl = mb by omega) (fun b hb => show ¬ b = mb by have := hlb b hb; omega)
  have ho3 := hsl.sm s3 (fun b hb => show ¬ b = mb by have := hbsl b hb; omega)
  by_cases hlt : i < L.length
  · obtain ⟨b, o, rfl, hcell⟩ := ho3.els.cell (by omega)
    have lq := hcell i (by omega)
    rw [dl_get hlt] at lq
    obtain ⟨⟨z3, ro3, rb3⟩, ltb3, its3⟩ := id hc3
    have l3 := rb3.ld1 0
    rw [List.getElem?_cons_zero] at l3
    obtain ⟨a', c', g', rfl⟩ := its3.sl
    obtain ⟨b', o', rfl, i1, _⟩ := its3.at (hd i hlt)
    rw [← iti_at (hd i hlt)] at i1
    have x1 := x_ia_142 (k := .i64) (b := b) (o := o) (c := c) (g := g) hlt
    have x2 := x_ia_41 (k := .i64) (b := b') (o := o') (c := c') (g := g') (hd i hlt)
    have eu := mu_str u_144 u_9 hm3 hall (iti L (d i)).p (I (d i))
    obtain ⟨h4, e4, m4, n4, s4⟩ := put_sm (h := h3) (b := mb) (x := .map (putS (iti L (d i)).p (I (d i)) cl es) (if es.any (kStr (iti L (d i)).p) then cl else cl + 1))
    rw [e4] at eu
    simp only [F83, SS, Nat.reduceBEq, Nat.reduceEqDiff, Nat.reduceAdd, reduceIte, Nat.reduceMul, ptrTo, sliceTo, mapTo, List.getElem?_cons_zero, List.getElem?_cons_succ, Option.map_some, List.append_nil, List.nil_append, List.all_cons, List.all_nil, List.length_cons, List.length_nil, eq_self, t0, t1, t3, t4, t12, t13, t14, t51, Int.ofNat_lt, hlt, x1, x2, lq, l3, x_fa_53_0, i1, eu, wAdd1 (show i ≤ 1000000 by omega)]
    refine hN1 _ _ (L.length - (i + 1)) (by omega) ⟨i + 1, _, _, hlt, rfl, m4, putS_all hall, fun p => ?_, s3.trans s4 (fun _ _ h => h) (fun _ _ h => h), by simp only [SS, Nat.reduceBEq, Nat.reduceEqDiff, Nat.reduceAdd, reduceIte, Nat.reduceMul, ptrTo, sliceTo, mapTo, List.getElem?_cons_zero, List.getElem?_cons_succ, Option.map_some, List.append_nil, List.nil_append, List.all_cons, List.all_nil, List.length_cons, List.length_nil, eq_self, t0], by simp only [SS, Nat.reduceBEq, Nat.reduceEqDiff, Nat.reduceAdd, reduceIte, Nat.reduceMul, ptrTo, sliceTo, mapTo, List.getElem?_cons_zero, List.getElem?_cons_succ, Option.map_some, List.append_nil, List.nil_append, List.all_cons, List.all_nil, List.length_cons, List.length_nil, eq_self, t1], by simp only [SS, Nat.reduceBEq, Nat.reduceEqDiff, Nat.reduceAdd, reduceIte, Nat.reduceMul, ptrTo, sliceTo, mapTo, List.getElem?_cons_zero, List.getElem?_cons_succ, Option.map_some, List.append_nil, List.nil_append, List.all_cons, List.all_nil, List.length_cons, List.length_nil, eq_self, t3], by simp only [SS, Nat.reduceBEq, Nat.reduceEqDiff, Nat.reduceAdd, reduceIte, Nat.reduceMul, ptrTo, sliceTo, mapTo, List.getElem?_cons_zero, List.getElem?_cons_succ, Option.map_some, List.append_nil, List.nil_append, List.all_cons, List.all_nil, List.length_cons, List.length_nil, eq_self, t4], by simp only [SS, Nat.reduceBEq, Nat.reduceEqDiff, Nat.reduceAdd, reduceIte, Nat.reduceMul, ptrTo, sliceTo, mapTo, List.getElem?_cons_zero, List.getElem?_cons_succ, Option.map_some, List.append_nil, List.nil_append, List.all_cons, List.all_nil, List.length_cons, List.length_nil, eq_self, t12], by simp only [SS, Nat.reduceBEq, Nat.reduceEqDiff, Nat.reduceAdd, reduceIte, Nat.reduceMul, ptrTo, sliceTo, mapTo, List.getElem?_cons_zero, List.getElem?_cons_succ, Option.map_some, List.append_nil, List.nil_append, List.all_cons, List.all_nil, List.length_cons, List.length_nil, eq_self, t13], by simp only [SS, Nat.reduceBEq, Nat.reduceEqDiff, Nat.reduceAdd, reduceIte, Nat.reduceMul, ptrTo, sliceTo, mapTo, List.getElem?_cons_zero, List.getElem?_cons_succ, Option.map_some, List.append_nil, List.nil_append, List.all_cons, List.all_nil, List.length_cons, List.length_nil, eq_self], by simp only [SS, Nat.reduceBEq, Nat.reduceEqDiff, Nat.reduceAdd, reduceIte, Nat.reduceMul, ptrTo, sliceTo, mapTo, List.getElem?_cons_zero, List.getElem?_cons_succ, Option.map_some, List.append_nil, List.nil_append, List.all_cons, List.all_nil, List.length_cons, List.length_nil, eq_self, t51]⟩
    rw [getS_put hall]
    by_cases hp : p = (iti L (d i)).p
    · rw [if_pos hp]
      exact .inr ⟨i, by omega, rfl, hp.symm, fun k' h1 h2 => by omega⟩
    · rw [if_neg hp]
      rcases hls p with ⟨q1, q2⟩ | ⟨k, q1, q2, q3, q4⟩
      · refine .inl ⟨q1, fun k hk => ?_⟩
        by_cases e : k = i
        · rw [e]; exact fun h => hp h.symm
        · exact q2 k (by omega)
      · refine .inr ⟨k, by omega, q2, q3, fun k' h1 h2 => ?_⟩
        by_cases e : k' = i
        · rw [e]; exact fun h => hp h.symm
        · exact q4 k' h1 (by omega)
  · obtain rfl : i = L.length := by omega
    have hJ3 : J d 0 F0 h3 := hst d 0 F0 h2 h3 _ hJ2 s3 (fun b hf e => hmb (e ▸ hf)) (fun b e => by have e : b = mb := e; omega)
    have hn3 : mb < h3.next := by have := s3.1; omega
    simp only [F83, SS, Nat.reduceBEq, Nat.reduceEqDiff, Nat.reduceAdd, reduceIte, Nat.reduceMul, ptrTo, sliceTo, mapTo, List.getElem?_cons_zero, List.getElem?_cons_succ, Option.map_some, List.append_nil, List.nil_append, List.all_cons, List.all_nil, List.length_cons, List.length_nil, eq_self, t0, t1, t3, t4, t12, t13, t14, t51, Int.ofNat_lt, hlt]
    refine hE _ _ _ (by simp) ?_
    simp only [F83, SS, Nat.reduceBEq, Nat.reduceEqDiff, Nat.reduceAdd, reduceIte, Nat.reduceMul, ptrTo, sliceTo, mapTo, List.getElem?_cons_zero, List.getElem?_cons_succ, Option.map_some, List.append_nil, List.nil_append, List.all_cons, List.all_nil, List.length_cons, List.length_nil, eq_self, t0, t1, t3, t4, t51, x_len_142]
    refine run_loop (c := c83_25) (I := fun m' tm' h' => ∃ i F, i ≤ L.length ∧ m' = L.length - i ∧ h'.bs.gt mb = some (.map es cl) ∧ mb < h'.next ∧ ¬ F mb ∧ (∀ b, b ∈ bs → ¬ F b) ∧ SlO 3 1 h' (.slice a L.length c g) L.length (dl d L.length) bs ∧ CapAt bl lv L h' ∧ J d i F h' ∧ tm'.gt 0 = some (.func (.yield l) [] []) ∧ tm'.gt 1 = some (.ptr (some (bl, 0))) ∧ tm'.gt 4 = some (.map (some mb)) ∧ tm'.gt 26 = some (.slice a L.length c g) ∧ tm'.gt 27 = some (I L.length) ∧ tm'.gt 28 = some (I i) ∧ tm'.gt 51 = none) (n := L.length)
      ⟨0, F0, by omega, rfl, hm3, hn3, hmb, hown, ho3, hc3, hJ3, by simp only [SS, Nat.reduceBEq, Nat.reduceEqDiff, Nat.reduceAdd, reduceIte, Nat.reduceMul, ptrTo, sliceTo, mapTo, List.getElem?_cons_zero, List.getElem?_cons_succ, Option.map_some, List.append_nil, List.nil_append, List.all_cons, List.all_nil, List.length_cons, List.length_nil, eq_self, t0], by simp only [SS, Nat.reduceBEq, Nat.reduceEqDiff, Nat.reduceAdd, reduceIte, Nat.reduceMul, ptrTo, sliceTo, mapTo, List.getElem?_cons_zero, List.getElem?_cons_succ, Option.map_some, List.append_nil, List.nil_append, List.all_cons, List.all_nil, List.length_cons, List.length_nil, eq_self, t1], by simp only [SS, Nat.reduceBEq, Nat.reduceEqDiff, Nat.reduceAdd, reduceIte, Nat.reduceMul, ptrTo, sliceTo, mapTo, List.getElem?_cons_zero, List.getElem?_cons_succ, Option.map_some, List.append_nil, List.nil_append, List.all_cons, List.all_nil, List.length_cons, List.length_nil, eq_self, t4], by simp only [SS, Nat.reduceBEq, Nat.reduceEqDiff, Nat.reduceAdd, reduceIte, Nat.reduceMul, ptrTo, sliceTo, mapTo, List.getElem?_cons_zero, List.getElem?_cons_succ, Option.map_some, List.append_nil, List.nil_append, List.all_cons, List.all_nil, List.length_cons, List.length_nil, eq_self], by simp only [SS, Nat.reduceBEq, Nat.reduceEqDiff, Nat.reduceAdd, reduceIte, Nat.reduceMul, ptrTo, sliceTo, mapTo, List.getElem?_cons_zero, List.getElem?_cons_succ, Option.map_some, List.append_nil, List.nil_append, List.all_cons, List.all_nil, List.length_cons, List.length_nil, eq_self], by simp only [SS, Nat.reduceBEq, Nat.reduceEqDiff, Nat.reduceAdd, reduceIte, Nat.reduceMul, ptrTo, sliceTo, mapTo, List.getElem?_cons_zero, List.getElem?_cons_succ, Option.map_some, List.append_nil, List.nil_append, List.all_cons, List.all_nil, List.length_cons, List.length_nil, eq_self]; rfl, by simp only [SS, Nat.reduceBEq, Nat.reduceEqDiff, Nat.reduceAdd, reduceIte, Nat.reduceMul, ptrTo, sliceTo, mapTo, List.getElem?_cons_zero, List.getElem?_cons_succ, Option.map_some, List.append_nil, List.nil_append, List.all_cons, List.all_nil, List.length_cons, List.length_nil, eq_self, t51]⟩ (by omega) ?_
    rintro _ tm h5 ⟨i, F, hil, rfl, hm5, hn5, hmF, hbF, ho5, hc5, hJ5, t0, t1, t4, t26, t27, t28, t51⟩ Q2 hN2 hE2
    by_cases hlt : i < L.length
    · obtain ⟨b, o, rfl, hcell⟩ := ho5.els.cell (by omega)
      have lq := hcell i (by omega)
      rw [dl_get hlt] at lq
      obtain ⟨⟨z3, ro3, rb3⟩, ltb3, its3⟩ := id hc5
      have l3 := rb3.ld1 0
      rw [List.getElem?_cons_zero] at l3
      obtain ⟨hFb, hFl⟩ := hF d i F h5 hJ5
      obtain ⟨a', c', g', rfl⟩ := its3.sl
      obtain ⟨b', o', rfl, i1, _, _, _, i4⟩ := its3.at (hd i hlt)
      rw [← iti_at (hd i hlt)] at i1 i4
      have x1 := x_ia_142 (k := .i64) (b := b) (o := o) (c := c) (g := g) hlt
      have x2 := x_ia_41 (k := .i64) (b := b') (o := o') (c := c') (g := g') (hd i hlt)
      obtain ⟨k, k1, k2, k3, k4⟩ : ∃ k, k < L.length ∧ getS (iti L (d i)).p es = some (I (d k)) ∧ (iti L (d k)).p = (iti L (d i)).p ∧ ∀ k', k < k' → k' < L.length → (iti L (d k')).p ≠ (iti L (d i)).p := by
        rcases hls (iti L (d i)).p with ⟨q1, q2⟩ | ⟨k, q1, q2, q3, q4⟩
        · exact absurd rfl (q2 i hlt)
        · exact ⟨k, q1, q2, q3, q4⟩
      have elk : lookup2 P 144 false (.map (some mb)) (.str (iti L (d i)).p) h5 = some (I (d k)) := by
        rw [lk_str u_144 u_9 z_3 hm5 hall]
        unfold getS at k2
        cases hf : es.find? (kStr (iti L (d i)).p) with
        | none => rw [hf] at k2; cases k2
        | some x =>
          rw [hf] at k2
          have hx : x.val = I (d k) := Option.some.inj k2
          show some x.val = _
          rw [hx]
      have hik : i ≤ k := by
        by_cases h : i ≤ k
        · exact h
        · exact absurd rfl (k4 i (by omega) hlt)
      by_cases hmo : i = k
      · have hnm : ¬ more L d i := fun ⟨q, q1, q2, q3⟩ => k4 q (by omega) q2 q3
        have c1 : ((d k : Nat) : Int) = (d i : Int) := by rw [hmo]
        simp only [F83, SS, Nat.reduceBEq, Nat.reduceEqDiff, Nat.reduceAdd, reduceIte, Nat.reduceMul, ptrTo, sliceTo, mapTo, List.getElem?_cons_zero, List.getElem?_cons_succ, Option.map_some, List.append_nil, List.nil_append, List.all_cons, List.all_nil, List.length_cons, List.length_nil, eq_self, t0, t1, t4, t26, t27, t28, t51, Int.ofNat_lt, hlt, x1, x2, lq, l3, x_fa_53_0, i1, elk, c1, wAdd1 (show i ≤ 1000000 by omega)]
        refine hN2 _ _ (L.length - (i + 1)) (by omega) ⟨i + 1, F, hlt, rfl, hm5, hn5, hmF, hbF, ho5, hc5, hskip d i F h5 hJ5 hnm, by simp only [SS, Nat.reduceBEq, Nat.reduceEqDiff, Nat.reduceAdd, reduceIte, Nat.reduceMul, ptrTo, sliceTo, mapTo, List.getElem?_cons_zero, List.getElem?_cons_succ, Option.map_some, List.append_nil, List.nil_append, List.all_cons, List.all_nil, List.length_cons, List.length_nil, eq_self, t0], by simp only [SS, Nat.reduceBEq, Nat.reduceEqDiff, Nat.reduceAdd, reduceIte, Nat.reduceMul, ptrTo, sliceTo, mapTo, List.getElem?_cons_zero, List.getElem?_cons_succ, Option.map_some, List.append_nil, List.nil_append, List.all_cons, List.all_nil, List.length_cons, List.length_nil, eq_self, t1], by simp only [SS, Nat.reduceBEq, Nat.reduceEqDiff, Nat.reduceAdd, reduceIte, Nat.reduceMul, ptrTo, sliceTo, mapTo, List.getElem?_cons_zero, List.getElem?_cons_succ, Option.map_some, List.append_nil, List.nil_append, List.all_cons, List.all_nil, List.length_cons, List.length_nil, eq_self, t4], by simp only [SS, Nat.reduceBEq, Nat.reduceEqDiff, Nat.reduceAdd, reduceIte, Nat.reduceMul, ptrTo, sliceTo, mapTo, List.getElem?_cons_zero, List.getElem?_cons_succ, Option.map_some, List.append_nil, List.nil_append, List.all_cons, List.all_nil, List.length_cons, List.length_nil, eq_self, t26], by simp only [SS, Nat.reduceBEq, Nat.reduceEqDiff, Nat.reduceAdd, reduceIte, Nat.reduceMul, ptrTo, sliceTo, mapTo, List.getElem?_cons_zero, List.getElem?_cons_succ, Option.map_some, List.append_nil, List.nil_append, List.all_cons, List.all_nil, List.length_cons, List.length_nil, eq_self, t27], by simp only [SS, Nat.reduceBEq, Nat.reduceEqDiff, Nat.reduceAdd, reduceIte, Nat.reduceMul, ptrTo, sliceTo, mapTo, List.getElem?_cons_zero, List.getElem?_cons_succ, Option.map_some, List.append_nil, List.nil_append, List.all_cons, List.all_nil, List.length_cons, List.length_nil, eq_self], by simp only [SS, Nat.reduceBEq, Nat.reduceEqDiff, Nat.reduceAdd, reduceIte, Nat.reduceMul, ptrTo, sliceTo, mapTo, List.getElem?_cons_zero, List.getElem?_cons_succ, Option.map_some, List.append_nil, List.nil_append, List.all_cons, List.all_nil, List.length_cons, List.length_nil, eq_self, t51]⟩
      · have hmm : more L d i := ⟨k, by omega, k1, k3⟩
        have c1 : ¬ ((d k : Nat) : Int) = (d i : Int) := fun h => hmo (hinj i k (by omega))
        obtain ⟨r, h6, e6, F', f1, f2, f3⟩ := hyield d hP hS m i F h5 (by omega) hlt hJ5 hmm
        rcases f3 with ⟨rfl, hJ6⟩ | ⟨rfl, hD⟩
        · simp only [F83, SS, Nat.reduceBEq, Nat.reduceEqDiff, Nat.reduceAdd, reduceIte, Nat.reduceMul, ptrTo, sliceTo, mapTo, List.getElem?_cons_zero, List.getElem?_cons_succ, Option.map_some, List.append_nil, List.nil_append, List.all_cons, List.all_nil, List.length_cons, List.length_nil, eq_self, t0, t1, t4, t26, t27, t28, t51, Int.ofNat_lt, hlt, x1, x2, lq, l3, x_fa_53_0, i1, elk, c1, i4, ap_yield, e6, wAdd1 (show i ≤ 1000000 by omega)]
          refine hN2 _ _ (L.length - (i + 1)) (by omega) ⟨i + 1, F', hlt, rfl, ?_, Nat.lt_of_lt_of_le hn5 f2.1, fun h => hmF (f1 _ hn5 h), fun b hb h => hbF b hb (f1 b (ho5.lt b hb) h), ho5.sm f2 hbF, hc5.sm f2 hFb hFl, hJ6, by simp only [SS, Nat.reduceBEq, Nat.reduceEqDiff, Nat.reduceAdd, reduceIte, Nat.reduceMul, ptrTo, sliceTo, mapTo, List.getElem?_cons_zero, List.getElem?_cons_succ, Option.map_some, List.append_nil, List.nil_append, List.all_cons, List.all_nil, List.length_cons, List.length_nil, eq_self, t0], by simp only [SS, Nat.reduceBEq, Nat.reduceEqDiff, Nat.reduceAdd, reduceIte, Nat.reduceMul, ptrTo, sliceTo, mapTo, List.getElem?_cons_zero, List.getElem?_cons_succ, Option.map_some, List.append_nil, List.nil_append, List.all_cons, List.all_nil, List.length_cons, List.length_nil, eq_self, t1], by simp only [SS, Nat.reduceBEq, Nat.reduceEqDiff, Nat.reduceAdd, reduceIte, Nat.reduceMul, ptrTo, sliceTo, mapTo, List.getElem?_cons_zero, List.getElem?_cons_succ, Option.map_some, List.append_nil, List.nil_append, List.all_cons, List.all_nil, List.length_cons, List.length_nil, eq_self, t4], by simp only [SS, Nat.reduceBEq, Nat.reduceEqDiff, Nat.reduceAdd, reduceIte, Nat.reduceMul, ptrTo, sliceTo, mapTo, List.getElem?_cons_zero, List.getElem?_cons_succ, Option.map_some, List.append_nil, List.nil_append, List.all_cons, List.all_nil, List.length_cons, List.length_nil, eq_self, t26], by simp only [SS, Nat.reduceBEq, Nat.reduceEqDiff, Nat.reduceAdd, reduceIte, Nat.reduceMul, ptrTo, sliceTo, mapTo, List.getElem?_cons_zero, List.getElem?_cons_succ, Option.map_some, List.append_nil, List.nil_append, List.all_cons, List.all_nil, List.length_cons, List.length_nil, eq_self, t27], by simp only [SS, Nat.reduceBEq, Nat.reduceEqDiff, Nat.reduceAdd, reduceIte, Nat.reduceMul, ptrTo, sliceTo, mapTo, List.getElem?_cons_zero, List.getElem?_cons_succ, Option.map_some, List.append_nil, List.nil_append, List.all_cons, List.all_nil, List.length_cons, List.length_nil, eq_self], by simp only [SS, Nat.reduceBEq, Nat.reduceEqDiff, Nat.reduceAdd, reduceIte, Nat.reduceMul, ptrTo, sliceTo, mapTo, List.getElem?_cons_zero, List.getElem?_cons_succ, Option.map_some, List.append_nil, List.nil_append, List.all_cons, List.all_nil, List.length_cons, List.length_nil, eq_self, t51]⟩
          rw [f2.2 mb hn5 hmF]; exact hm5
        · simp only [F83, SS, Nat.reduceBEq, Nat.reduceEqDiff, Nat.reduceAdd, reduceIte, Nat.reduceMul, ptrTo, sliceTo, mapTo, List.getElem?_cons_zero, List.getElem?_cons_succ, Option.map_some, List.append_nil, List.nil_append, List.all_cons, List.all_nil, List.length_cons, List.length_nil, eq_self, t0, t1, t4, t26, t27, t28, t51, Int.ofNat_lt, hlt, x1, x2, lq, l3, x_fa_53_0, i1, elk, c1, i4, ap_yield, e6]
          refine hE2 _ _ _ (by simp) ?_
          simp only [F83, SS, Nat.reduceBEq, Nat.reduceEqDiff, Nat.reduceAdd, reduceIte, Nat.reduceMul, ptrTo, sliceTo, mapTo, List.getElem?_cons_zero, List.getElem?_cons_succ, Option.map_some, List.append_nil, List.nil_append, List.all_cons, List.all_nil, List.length_cons, List.length_nil, eq_self]
          exact hQ _ _ _ _ (.inr rfl) (by simp only [SS, Nat.reduceBEq, Nat.reduceEqDiff, Nat.reduceAdd, reduceIte, Nat.reduceMul, ptrTo, sliceTo, mapTo, List.getElem?_cons_zero, List.getElem?_cons_succ, Option.map_some, List.append_nil, List.nil_append, List.all_cons, List.all_nil, List.length_cons, List.length_nil, eq_self, t51]) (by simp only [SS, Nat.reduceBEq, Nat.reduceEqDiff, Nat.reduceAdd, reduceIte, Nat.reduceMul, ptrTo, sliceTo, mapTo, List.getElem?_cons_zero, List.getElem?_cons_succ, Option.map_some, List.append_nil, List.nil_append, List.all_cons, List.all_nil, List.length_cons, List.length_nil, eq_self]; rfl) (.inr hD)
    · obtain rfl : i = L.length := by omega
      simp only [F83, SS, Nat.reduceBEq, Nat.reduceEqDiff, Nat.reduceAdd, reduceIte, Nat.reduceMul, ptrTo, sliceTo, mapTo, List.getElem?_cons_zero, List.getElem?_cons_succ, Option.map_some, List.append_nil, List.nil_append, List.all_cons, List.all_nil, List.length_cons, List.length_nil, eq_self, t0, t1, t4, t26, t27, t28, t51, Int.ofNat_lt, hlt]
      refine hE2 _ _ _ (by simp) ?_
      simp only [F83, SS, Nat.reduceBEq, Nat.reduceEqDiff, Nat.reduceAdd, reduceIte, Nat.reduceMul, ptrTo, sliceTo, mapTo, List.getElem?_cons_zero, List.getElem?_cons_succ, Option.map_some, List.append_nil, List.nil_append, List.all_cons, List.all_nil, List.length_cons, List.length_nil, eq_self]
      exact hQ _ _ _ _ (.inl rfl) (by simp only [SS, Nat.reduceBEq, Nat.reduceEqDiff, Nat.reduceAdd, reduceIte, Nat.reduceMul, ptrTo, sliceTo, mapTo, List.getElem?_cons_zero, List.getElem?_cons_succ, Option.map_some, List.append_nil, List.nil_append, List.all_cons, List.all_nil, List.length_cons, List.length_nil, eq_self, t51]) (by simp only [SS, Nat.reduceBEq, Nat.reduceEqDiff, Nat.reduceAdd, reduceIte, Nat.reduceMul, ptrTo, sliceTo, mapTo, List.getElem?_cons_zero, List.getElem?_cons_succ, Option.map_some, List.append_nil, List.nil_append, List.all_cons, List.all_nil, List.length_cons, List.length_nil, eq_self]; rfl) (.inl ⟨d, F, hP, hS, hJ5⟩)
end Go.Proofs.Ytlfednnfkejcjaa

namespace Go.Proofs.Ytlfednnfkejcjaa
open Go.Am Go.Qs
set_option maxRecDepth 10000
/-- what a size counts as -/
def sz (n : Int) : Int := min (max 0 n) 65536
theorem sz_le (n : Int) : 0 ≤ sz n ∧ sz n ≤ 65536 := by unfold sz; omega
def sumTo (L : List It) : Nat → Int
  | 0 => 0
  | i + 1 => sumTo L i + sz (iti L i).size
theorem sumTo_le (L : List It) : ∀ i, 0 ≤ sumTo L i ∧ sumTo L i ≤ 65536 * i
  | 0 => ⟨Int.le_refl _, Int.le_refl _⟩
  | i + 1 => by
    have := sumTo_le L i
    have := sz_le (iti L i).size
    unfold sumTo; omega
theorem size_ok {n : Nat} (hn : 1 ≤ n) {h : Heap} (x : It) : WC (Q n (.fn 60) [.agg x.c] h) fun r h' => r = .int .i64 (sz x.size) ∧ Sm NoB h h' := by
  obtain ⟨m, rfl⟩ : ∃ m, n = m + 1 := ⟨n - 1, by omega⟩
  refine call_fn _ f60A rfl (by simp [fn60]) fun QQ hQ => ?_
  simp only [fn60] at hQ
  simp only [fn60, fill_cons, fill_nil, Nat.zero_add, Nat.reduceAdd]
  obtain ⟨h1, e1, r1, n1, g1⟩ := Rw.alloc h (id := h.next) (n := 4) (vs := x.c) (z := []) (ro := false) (Nat.le_refl _) rfl
  unfold It.c at e1 r1
  have l3 := r1.ld1 3
  rw [show ([AV.str x.p, .int .u32 x.id, .int .u32 x.tick, .int .i64 x.size] : List AV)[3]? = some (.int .i64 x.size) from rfl] at l3
  simp only [F60, SS, Nat.reduceBEq, Nat.reduceEqDiff, Nat.reduceAdd, reduceIte, Nat.reduceMul, ptrTo, sliceTo, mapTo, List.getElem?_cons_zero, List.getElem?_cons_succ, Option.map_some, List.append_nil, List.nil_append, List.all_cons, List.all_nil, List.length_cons, List.length_nil, eq_self, It.c, e1, x_fa_53_3, l3]
  exact hQ _ _ _ _ (.inr rfl) (by simp only [SS, Nat.reduceBEq, Nat.reduceEqDiff, Nat.reduceAdd, reduceIte, Nat.reduceMul, ptrTo, sliceTo, mapTo, List.getElem?_cons_zero, List.getElem?_cons_succ, Option.map_some, List.append_nil, List.nil_append, List.all_cons, List.all_nil, List.length_cons, List.length_nil, eq_self]) (by simp only [SS, Nat.reduceBEq, Nat.reduceEqDiff, Nat.reduceAdd, reduceIte, Nat.reduceMul, ptrTo, sliceTo, mapTo, List.getElem?_cons_zero, List.getElem?_cons_succ, Option.map_some, List.append_nil, List.nil_append, List.all_cons, List.all_nil, List.length_cons, List.length_nil, eq_self]; rfl) ⟨rfl, ⟨by omega, fun c hc _ => g1 c (by omega)⟩⟩
theorem sum_ok {n : Nat} (hn : 2 ≤ n) {h : Heap} {v : AV} {L : List It} (hi : Its h v L) (hl : L.length ≤ 1000) : WC (Q n (.fn 25) [v] h) fun r h' => r = .int .i64 (sumTo L L.length) ∧ Sm NoB h h' := by
  obtain ⟨a, c, g, rfl⟩ := hi.sl
  obtain ⟨m, rfl⟩ : ∃ m, n = m + 1 := ⟨n - 1, by omega⟩
  refine call_fn _ f25A rfl (by simp [fn25]) fun QQ hQ => ?_
  simp only [fn25] at hQ
  simp only [fn25, fill_cons, fill_nil, Nat.zero_add, Nat.reduceAdd]
  simp only [F25, SS, Nat.reduceBEq, Nat.reduceEqDiff, Nat.reduceAdd, reduceIte, Nat.reduceMul, ptrTo, sliceTo, mapTo, List.getElem?_cons_zero, List.getElem?_cons_succ, Option.map_some, List.append_nil, List.nil_append, List.all_cons, List.all_nil, List.length_cons, List.length_nil, eq_self, x_len_41]
  refine run_loop (c := c25_7) (I := fun m' tm' h' => ∃ i, i ≤ L.length ∧ m' = L.length - i ∧ Its h' (.slice a L.length c g) L ∧ Sm NoB h h' ∧ tm'.gt 2 = some (.int .i64 (sumTo L i)) ∧ tm'.gt 5 = some (.slice a L.length c g) ∧ tm'.gt 6 = some (I L.length) ∧ tm'.gt 7 = some (I i) ∧ tm'.gt 17 = none) (n := L.length)
    ⟨0, by omega, rfl, hi, Sm.refl _ _, by simp only [SS, Nat.reduceBEq, Nat.reduceEqDiff, Nat.reduceAdd, reduceIte, Nat.reduceMul, ptrTo, sliceTo, mapTo, List.getElem?_cons_zero, List.getElem?_cons_succ, Option.map_some, List.append_nil, List.nil_append, List.all_cons, List.all_nil, List.length_cons, List.length_nil, eq_self]; rfl, by simp only [SS, Nat.reduceBEq, Nat.reduceEqDiff, Nat.reduceAdd, reduceIte, Nat.reduceMul, ptrTo, sliceTo, mapTo, List.getElem?_cons_zero, List.getElem?_cons_succ, Option.map_some, List.append_nil, List.nil_append, List.all_cons, List.all_nil, List.length_cons, List.length_nil, eq_self], by simp only [SS, Nat.reduceBEq, Nat.reduceEqDiff, Nat.reduceAdd, reduceIte, Nat.reduceMul, ptrTo, sliceTo, mapTo, List.getElem?_cons_zero, List.getElem?_cons_succ, Option.map_some, List.append_nil, List.nil_append, List.all_cons, List.all_nil, List.length_cons, List.length_nil, eq_self], by simp only [SS, Nat.reduceBEq, Nat.reduceEqDiff, Nat.reduceAdd, reduceIte, Nat.reduceMul, ptrTo, sliceTo, mapTo, List.getElem?_cons_zero, List.getElem?_cons_succ, Option.map_some, List.append_nil, List.nil_append, List.all_cons, List.all_nil, List.length_cons, List.length_nil, eq_self]; rfl, by simp only [SS, Nat.reduceBEq, Nat.reduceEqDiff, Nat.reduceAdd, reduceIte, Nat.reduceMul, ptrTo, sliceTo, mapTo, List.getElem?_cons_zero, List.getElem?_cons_succ, Option.map_some, List.append_nil, List.nil_append, List.all_cons, List.all_nil, List.length_cons, List.length_nil, eq_self]⟩ (by omega) ?_
  rintro _ tm h1 ⟨i, hil, rfl, hi1, s1, t2, t5, t6, t7, t17⟩ Q1 hN1 hE
  by_cases hlt : i < L.length
  · obtain ⟨b, o, rfl, _, _, _, _, i4⟩ := hi1.at hlt
    rw [← iti_at hlt] at i4
    have x2 := x_ia_41 (k := .i64) (b := b) (o := o) (c := c) (g := g) hlt
    obtain ⟨h2, e2, r2, n2, g2⟩ := Rw.alloc h1 (id := h1.next) (n := 4) (vs := [.str [], .int .u32 0, .int .u32 0, .int .i64 0]) (z := tyMark 53 true) (ro := false) (Nat.le_refl _) rfl
    have s2 : Sm NoB h1 h2 := ⟨by omega, fun c hc _ => g2 c (by omega)⟩
    have i4' : h2.ld b (o + i * 4) 4 = some (iti L i).c := by
      have := (hi1.sm s2 (fun _ _ h => h)).at hlt
      obtain ⟨b', o', e', _, _, _, _, k4⟩ := this
      cases e'
      rw [← iti_at hlt] at k4
      exact k4
    obtain ⟨w1, w2, w3, w4⟩ := r2.sto (o := 0) (us := (iti L i).c) (by simp [It.c]) rfl
    have hw : putL [.str [], .int .u32 0, .int .u32 0, .int .i64 0] 0 (iti L i).c = (iti L i).c := rfl
    rw [hw] at w2
    generalize h2.wr h1.next 0 (iti L i).c = h3 at w1 w2 w3 w4
    have s3 : Sm NoB h1 h3 := ⟨by omega, fun c hc _ => by rw [w4 c (by omega), g2 c (by omega)]⟩
    have l3 := w2.ld (i := 0) (n := 4) (Nat.le_refl _)
    rw [show ((iti L i).c.drop 0).take 4 = (iti L i).c from rfl] at l3
    obtain ⟨r, h4, e4, rfl, s4⟩ := size_ok (n := m) (by omega) (h := h3) (iti L i)
    have b1 := sumTo_le L i
    have b2 := sz_le (iti L i).size
    have e7 : IntKind.i64.wrap (sumTo L i + sz (iti L i).size) = sumTo L (i + 1) := by rw [wrap_i64 (by omega) (by omega)]; rfl
    simp only [F25, SS, Nat.reduceBEq, Nat.reduceEqDiff, Nat.reduceAdd, reduceIte, Nat.reduceMul, ptrTo, sliceTo, mapTo, List.getElem?_cons_zero, List.getElem?_cons_succ, Option.map_some, List.append_nil, List.nil_append, List.all_cons, List.all_nil, List.length_cons, List.length_nil, eq_self, t2, t5, t6, t7, t17, Int.ofNat_lt, hlt, x2, i4, i4', x_al_53, e2, st_agg (show (iti L i).c.length = 4 from rfl), w1, l3, e4, e7, wAdd1 (show i ≤ 1000000 by omega)]
    exact hN1 _ _ (L.length - (i + 1)) (by omega) ⟨i + 1, hlt, rfl, (hi1.sm s3 (fun _ _ h => h)).sm s4 (fun _ _ h => h), (s1.trans s3 (fun _ _ h => h) (fun _ _ h => h)).trans s4 (fun _ _ h => h) (fun _ _ h => h), by simp only [SS, Nat.reduceBEq, Nat.reduceEqDiff, Nat.reduceAdd, reduceIte, Nat.reduceMul, ptrTo, sliceTo, mapTo, List.getElem?_cons_zero, List.getElem?_cons_succ, Option.map_some, List.append_nil, List.nil_append, List.all_cons, List.all_nil, List.length_cons, List.length_nil, eq_self], by simp only [SS, Nat.reduceBEq, Nat.reduceEqDiff, Nat.reduceAdd, reduceIte, Nat.reduceMul, ptrTo, sliceTo, mapTo, List.getElem?_cons_zero, List.getElem?_cons_succ, Option.map_some, List.append_nil, List.nil_append, List.all_cons, List.all_nil, List.length_cons, List.length_nil, eq_self, t5], by simp only [SS, Nat.reduceBEq, Nat.reduceEqDiff, Nat.reduceAdd, reduceIte, Nat.reduceMul, ptrTo, sliceTo, mapTo, List.getElem?_cons_zero, List.getElem?_cons_succ, Option.map_some, List.append_nil, List.nil_append, List.all_cons, List.all_nil, List.length_cons, List.length_nil, eq_self, t6], by simp only [SS, Nat.reduceBEq, Nat.reduceEqDiff, Nat.reduceAdd, reduceIte, Nat.reduceMul, ptrTo, sliceTo, mapTo, List.getElem?_cons_zero, List.getElem?_cons_succ, Option.map_some, List.append_nil, List.nil_append, List.all_cons, List.all_nil, List.length_cons, List.length_nil, eq_self], by simp only [SS, Nat.reduceBEq, Nat.reduceEqDiff, Nat.reduceAdd, reduceIte, Nat.reduceMul, ptrTo, sliceTo, mapTo, List.getElem?_cons_zero, List.getElem?_cons_succ, Option.map_some, List.append_nil, List.nil_append, List.all_cons, List.all_nil, List.length_cons, List.length_nil, eq_self, t17]⟩
  · obtain rfl : i = L.length := by omega
    simp only [F25, SS, Nat.reduceBEq, Nat.reduceEqDiff, Nat.reduceAdd, reduceIte, Nat.reduceMul, ptrTo, sliceTo, mapTo, List.getElem?_cons_zero, List.getElem?_cons_succ, Option.map_some, List.append_nil, List.nil_append, List.all_cons, List.all_nil, List.length_cons, List.length_nil, eq_self, t2, t5, t6, t7, t17, Int.ofNat_lt, hlt]
    refine hE _ _ _ (by simp) ?_
    simp only [F25, SS, Nat.reduceBEq, Nat.reduceEqDiff, Nat.reduceAdd, reduceIte, Nat.reduceMul, ptrTo, sliceTo, mapTo, List.getElem?_cons_zero, List.getElem?_cons_succ, Option.map_some, List.append_nil, List.nil_append, List.all_cons, List.all_nil, List.length_cons, List.length_nil, eq_self, t2, t17]
    exact hQ _ _ _ _ (.inr rfl) (by simp only [SS, Nat.reduceBEq, Nat.reduceEqDiff, Nat.reduceAdd, reduceIte, Nat.reduceMul, ptrTo, sliceTo, mapTo, List.getElem?_cons_zero, List.getElem?_cons_succ, Option.map_some, List.append_nil, List.nil_append, List.all_cons, List.all_nil, List.length_cons, List.length_nil, eq_self, t17]) (by simp only [SS, Nat.reduceBEq, Nat.reduceEqDiff, Nat.reduceAdd, reduceIte, Nat.reduceMul, ptrTo, sliceTo, mapTo, List.getElem?_cons_zero, List.getElem?_cons_succ, Option.map_some, List.append_nil, List.nil_append, List.all_cons, List.all_nil, List.length_cons, List.length_nil, eq_self]; rfl) ⟨rfl, s1⟩
theorem seq_ok {n : Nat} (hn : 1 ≤ n) {h : Heap} {a : Option (Nat × Nat)} {k c : Nat} {g : Option Nat} : WC (Q n (.fn 59) [.slice a k c g] h) fun r h' => r = .func (Fn.func 83) [] [.ptr (some (h.next, 0))] ∧ Rw h' h.next [.slice a k c g] [] false ∧ h'.next = h.next + 1 ∧ Sm NoB h h' := by
  obtain ⟨m, rfl⟩ : ∃ m, n = m + 1 := ⟨n - 1, by omega⟩
  refine call_fn _ f59A rfl (by simp [fn59]) fun QQ hQ => ?_
  simp only [fn59] at hQ
  simp only [fn59, fill_cons, fill_nil, Nat.zero_add, Nat.reduceAdd]
  obtain ⟨h1, e1, r1, n1, g1⟩ := Rw.alloc h (id := h.next) (n := 1) (vs := [.slice a k c g]) (z := []) (ro := false) (Nat.le_refl _) rfl
  simp only [F59, SS, Nat.reduceBEq, Nat.reduceEqDiff, Nat.reduceAdd, reduceIte, Nat.reduceMul, ptrTo, sliceTo, mapTo, List.getElem?_cons_zero, List.getElem?_cons_succ, Option.map_some, List.append_nil, List.nil_append, List.all_cons, List.all_nil, List.length_cons, List.length_nil, eq_self, box_slice, e1, mk_fn]
  exact hQ _ _ _ _ (.inr rfl) (by simp only [SS, Nat.reduceBEq, Nat.reduceEqDiff, Nat.reduceAdd, reduceIte, Nat.reduceMul, ptrTo, sliceTo, mapTo, List.getElem?_cons_zero, List.getElem?_cons_succ, Option.map_some, List.append_nil, List.nil_append, List.all_cons, List.all_nil, List.length_cons, List.length_nil, eq_self]) (by simp only [SS, Nat.reduceBEq, Nat.reduceEqDiff, Nat.reduceAdd, reduceIte, Nat.reduceMul, ptrTo, sliceTo, mapTo, List.getElem?_cons_zero, List.getElem?_cons_succ, Option.map_some, List.append_nil, List.nil_append, List.all_cons, List.all_nil, List.length_cons, List.length_nil, eq_self]; rfl) ⟨rfl, r1, n1, ⟨by omega, fun c hc _ => g1 c (by omega)⟩⟩
end Go.Proofs.Ytlfednnfkejcjaa

namespace Go.Proofs.Ytlfednnfkejcjaa
open Go.Am Go.Qs
set_option maxRecDepth 10000
open Classical in
/-- what is left, and which are gone, once the first i of the row have been gone through -/
noncomputable def pr (L : List It) (d : Nat → Nat) (q : Int) : Nat → Int × List Nat
  | 0 => (sumTo L L.length, [])
  | i + 1 => if more L d i ∧ q < (pr L d q i).1 then ((pr L d q i).1 - sz (iti L (d i)).size, (pr L d q i).2 ++ [d i]) else pr L d q i
theorem pr_le (L : List It) (d : Nat → Nat) (q : Int) : ∀ i : Nat, -65536 * (i : Int) ≤ (pr L d q i).1 ∧ (pr L d q i).1 ≤ sumTo L L.length ∧ (pr L d q i).2.length ≤ i
  | 0 => by have := sumTo_le L L.length; unfold pr; simp only [List.length_nil]; omega
  | i + 1 => by
    have := pr_le L d q i
    have h2 := sz_le (iti L (d i)).size
    unfold pr
    split
    · simp only [List.length_append, List.length_cons, List.length_nil]; omega
    · omega
theorem pr_stop {L : List It} {d : Nat → Nat} {q : Int} {i : Nat} (h : (pr L d q i).1 ≤ q) : ∀ k, pr L d q (i + k) = pr L d q i
  | 0 => rfl
  | k + 1 => by
    have ih := pr_stop h k
    show pr L d q (i + k + 1) = _
    rw [pr, ih, if_neg (by omega)]
theorem pr_no {L : List It} {d : Nat → Nat} {q : Int} {i : Nat} (h : ¬ more L d i) : pr L d q (i + 1) = pr L d q i := by rw [pr, if_neg (fun h' => h h'.1)]
abbrev idc (L : List It) (g : List Nat) : List AV := g.map fun k => .int .u32 (iti L k).id

/-- the cells of Prune, midway -/
structure PrAt (L : List It) (q left : Int) (g : List Nat) (bq bg bf : Nat) (gv : AV) (bs : List Nat) (h : Heap) : Prop where
  rq : ∃ z, Rw h bq [.int .i64 q] z false
  rf : ∃ z, Rw h bf [.int .i64 left] z false
  rg : ∃ z, Rw h bg [gv] z false
  ow : SlO 27 1 h gv g.length (idc L g) bs
  lt : bq < h.next ∧ bg < h.next ∧ bf < h.next
  nb : ∀ b, b ∈ bs → b ≠ bq ∧ b ≠ bg ∧ b ≠ bf
theorem PrAt.sm {L : List It} {q left : Int} {g : List Nat} {bq bg bf : Nat} {gv : AV} {bs : List Nat} {h h' : Heap} {G : Nat → Prop} (hp : PrAt L q left g bq bg bf gv bs h) (hs : Sm G h h') (h1 : ¬ G bq) (h2 : ¬ G bg) (h3 : ¬ G bf) (h4 : ∀ b, b ∈ bs → ¬ G b) : PrAt L q left g bq bg bf gv bs h' := by
  obtain ⟨⟨z1, r1⟩, ⟨z2, r2⟩, ⟨z3, r3⟩, o, ⟨l1, l2, l3⟩, nb⟩ := hp
  have := hs.1
  exact ⟨⟨z1, r1.sm hs l1 h1⟩, ⟨z2, r2.sm hs l3 h3⟩, ⟨z3, r3.sm hs l2 h2⟩, o.sm hs h4, ⟨by omega, by omega, by omega⟩, nb⟩
theorem keep21 : keepF P 21 29 = false := by kernel_rfl
theorem nt21 : ntOf P 21 = 29 := by kernel_rfl
theorem slo_is1 {e s : Nat} {h : Heap} {v : AV} {n : Nat} {cs : List AV} {bs : List Nat} (ho : SlO e s h v n cs bs) : v.one = true ∧ ∃ a c g, v = .slice a n c g := by
  rcases ho with ⟨rfl, rfl, _⟩ | ⟨b, c, _, _, rfl, _⟩
  · exact ⟨rfl, none, 0, none, rfl⟩
  · exact ⟨rfl, _, _, _, rfl⟩
/-- the loop's record -/
structure RecAt (l bq bg bf : Nat) (st : LState) (pd : Option Code) (h : Heap) (b : LRec) : Prop where
  at' : h.bs.gt l = some (.loop b)
  st : b.st = st
  pd : b.pending = pd
  fn : b.fn = 21
  ps : b.params = [12]
  asg : b.assign = c21_8A
  bo : b.body = c21_8B
  t3 : b.tm.gt 3 = some (.ptr (some (bq, 0)))
  t4 : b.tm.gt 4 = some (.ptr (some (bg, 0)))
  t6 : b.tm.gt 6 = some (.ptr (some (bf, 0)))
  t29 : b.tm.gt 29 = none
/-- A ROUND of Prune. -/
theorem round_ok {m : Nat} (hm : 3 ≤ m) {L : List It} {q left : Int} {g : List Nat} {bq bg bf l k : Nat} {gv : AV} {bs : List Nat} {h : Heap} {b : LRec} (hp : PrAt L q left g bq bg bf gv bs h) (hr : RecAt l bq bg bf .ready none h b) (hl : l < h.next) (hlq : l ≠ bq ∧ l ≠ bg ∧ l ≠ bf) (hbl : ∀ b, b ∈ bs → b ≠ l)
    (hd : bq ≠ bg ∧ bq ≠ bf ∧ bg ≠ bf) (hle : -10000000 ≤ left ∧ left ≤ 10000000) (hg : g.length ≤ 1000) :
    WC (Q m (.loop l) [.agg (iti L k).c] h) fun r h2 => Sm (fun c => c = bq ∨ c = bg ∨ c = bf ∨ c = l ∨ c ∈ bs) h h2 ∧
      ((left ≤ q ∧ r = .bool false ∧ PrAt L q left g bq bg bf gv bs h2 ∧ ∃ b', RecAt l bq bg bf .done (some (.exit 0)) h2 b') ∨
      (q < left ∧ r = .bool true ∧ ∃ gv' bs' b', PrAt L q (left - sz (iti L k).size) (g ++ [k]) bq bg bf gv' bs' h2 ∧ (∀ c, c ∈ bs' → c ∈ bs ∨ h.next ≤ c) ∧ RecAt l bq bg bf .ready none h2 b')) := by
  obtain ⟨m, rfl⟩ : ∃ m', m = m' + 1 := ⟨m - 1, by omega⟩
  obtain ⟨hat, hst, hpd, hfn, hps, has, hbo, t3, t4, t6, t29⟩ := hr
  refine call_loop _ hat (nt := 29) (CA := c21_9) (CB := c21_10) (tm' := b.tm.up (some (.agg (iti L k).c)) 12) (by rw [hfn]; exact nt21) (by rw [hps]; rfl) (by rw [hfn]; exact keep21) t29 (by rw [hfn, has]; exact q21_8a) (by rw [hfn, hbo]; exact q21_8b) fun QA hA => ?_
  rw [hfn] at hA ⊢
  -- x takes the value
  obtain ⟨h1, e1, r1, n1, g1⟩ := Rw.alloc h (id := h.next) (n := 4) (vs := [.str [], .int .u32 0, .int .u32 0, .int .i64 0]) (z := tyMark 53 true) (ro := false) (Nat.le_refl _) rfl
  obtain ⟨w1, w2, w3, w4⟩ := r1.sto (o := 0) (us := (iti L k).c) (by simp [It.c]) rfl
  rw [show putL [.str [], .int .u32 0, .int .u32 0, .int .i64 0] 0 (iti L k).c = (iti L k).c from rfl] at w2
  generalize h1.wr h.next 0 (iti L k).c = h2 at w1 w2 w3 w4
  have s2 : Sm NoB h h2 := ⟨by omega, fun c hc _ => by rw [w4 c (by omega), g1 c (by omega)]⟩
  simp only [F21, r21_20, SS, Nat.reduceBEq, Nat.reduceEqDiff, Nat.reduceAdd, reduceIte, Nat.reduceMul, ptrTo, sliceTo, mapTo, List.getElem?_cons_zero, List.getElem?_cons_succ, Option.map_some, List.append_nil, List.nil_append, List.all_cons, List.all_nil, List.length_cons, List.length_nil, eq_self, x_al_53, e1, st_agg (show (iti L k).c.length = 4 from rfl), w1]
  have hat2 : h2.bs.gt l = some (.loop b) := by rw [s2.2 l hl (fun h => h)]; exact hat
  refine hA _ _ b hat2 hst fun QB hB => ?_
  obtain ⟨h3, e3, m3, n3, s3⟩ := put_sm (h := h2) (b := l) (x := .loop { b with st := .busy })
  rw [e3]
  have hp3 : PrAt L q left g bq bg bf gv bs h3 := (hp.sm s2 (fun h => h) (fun h => h) (fun h => h) (fun _ _ h => h)).sm s3 (fun h => hlq.1 h.symm) (fun h => hlq.2.1 h.symm) (fun h => hlq.2.2 h.symm) (fun b hb h => hbl b hb h)
  have w3' : Rw h3 h.next (iti L k).c (tyMark 53 true) false := w2.sm s3 (by omega) (show ¬ h.next = l by omega)
  obtain ⟨⟨zq, rq⟩, ⟨zf, rf⟩, ⟨zg, rg⟩, ow, ⟨l1, l2, l3'⟩, nb⟩ := id hp3
  have lq := rq.ld1 0
  have lf := rf.ld1 0
  have lg := rg.ld1 0
  rw [List.getElem?_cons_zero] at lq lf lg
  by_cases hq : left ≤ q
  · simp only [F21, r21_20, SS, Nat.reduceBEq, Nat.reduceEqDiff, Nat.reduceAdd, reduceIte, Nat.reduceMul, ptrTo, sliceTo, mapTo, List.getElem?_cons_zero, List.getElem?_cons_succ, Option.map_some, List.append_nil, List.nil_append, List.all_cons, List.all_nil, List.length_cons, List.length_nil, eq_self, t3, t4, t6, lq, lf, hq]
    refine hB _ _ _ _ m3 rfl ?_
    obtain ⟨h4, e4, m4, n4, s4⟩ := put_sm (h := h3) (b := l) (x := .loop (endL (.exit 0) { b with st := .busy }).2)
    rw [e4]
    refine ⟨⟨by omega, fun c hc hF => by rw [s4.2 c (by omega) (fun e => hF (.inr (.inr (.inr (.inl e))))), s3.2 c (by omega) (fun e => hF (.inr (.inr (.inr (.inl e))))), s2.2 c hc (fun h => h)]⟩, .inl ⟨hq, rfl, hp3.sm s4 (fun h => hlq.1 h.symm) (fun h => hlq.2.1 h.symm) (fun h => hlq.2.2 h.symm) (fun b hb h => hbl b hb h), _, m4, rfl, rfl, hfn, hps, has, hbo, t3, t4, t6, t29⟩⟩
  · -- the item goes
    obtain ⟨hb, eb, sb, _, nb'⟩ := Sm.bump h3 5
    obtain ⟨r5, h5, e5, rfl, s5⟩ := size_ok (n := m) (by omega) (h := hb) (iti L k)
    have hsz := sz_le (iti L k).size
    have ew : IntKind.i64.wrap (left - sz (iti L k).size) = left - sz (iti L k).size := wrap_i64 (by omega) (by omega)
    have s35 : Sm NoB h3 h5 := sb.trans s5 (fun _ _ h => h) (fun _ _ h => h)
    have lxb := (w3'.sm sb (by omega) (fun h => h)).ld (i := 0) (n := 4) (Nat.le_refl _)
    rw [show ((iti L k).c.drop 0).take 4 = (iti L k).c from rfl] at lxb
    have w5 := w3'.sm s35 (by omega) (fun h => h)
    have lfb := (rf.sm sb l3' (fun h => h)).ld1 0
    have rf5 := rf.sm s35 l3' (fun h => h)
    have lf5 := rf5.ld1 0
    have lx5 := w5.ld (i := 0) (n := 4) (Nat.le_refl _)
    rw [show ((iti L k).c.drop 0).take 4 = (iti L k).c from rfl] at lx5
    rw [List.getElem?_cons_zero] at lfb lf5
    obtain ⟨y1, y2, y3, y4⟩ := rf5.st1 (o := 0) (v := .int .i64 (left - sz (iti L k).size)) (by simp) rfl
    rw [show ([AV.int .i64 left] : List AV).set 0 (.int .i64 (left - sz (iti L k).size)) = [.int .i64 (left - sz (iti L k).size)] from rfl] at y2
    generalize h5.wr bf 0 [.int .i64 (left - sz (iti L k).size)] = h6 at y1 y2 y3 y4
    have h53 := s35.1
    have s56 : Sm (· = bf) h5 h6 := ⟨by omega, fun c _ hc => y4 c hc⟩
    have w6 := w5.sm s56 (by omega) (show ¬ h.next = bf by have := hp.lt; omega)
    have lx1 := w6.ld1 1
    rw [show (iti L k).c[1]? = some (.int .u32 (iti L k).id) from rfl] at lx1
    have rg6 := (rg.sm s35 l2 (fun h => h)).sm s56 (by omega) hd.2.2
    have lg6 := rg6.ld1 0
    rw [List.getElem?_cons_zero] at lg6
    have ow6 := (ow.sm s35 (fun _ _ h => h)).sm s56 (fun b hb => (nb b hb).2.2)
    obtain ⟨h7, e7, r7, n7, g7⟩ := Rw.alloc h6 (id := h6.next) (n := 1) (vs := [.int .u32 (iti L k).id]) (z := []) (ro := false) (Nat.le_refl _) rfl
    have s67 : Sm NoB h6 h7 := ⟨by omega, fun c hc _ => g7 c (by omega)⟩
    have hs6 : srcOf 1 (fun n => n) (.slice (some (h6.next, 0)) 1 1 none) h7 = some ([.int .u32 (iti L k).id], 1) := srcOf_row r7 (Nat.le_refl _)
    have hbl7 := (ow6.sm s67 (fun _ _ h => h)).lt
    obtain ⟨gv', h8, bs', e8, o8, n8, g8, b8, _⟩ := app_own (t := 43) u_43 s_27 b_27 z_27 rfl (ow6.sm s67 (fun _ _ h => h)) hs6 (by omega) rfl rfl (room_le (by omega) (by omega)) (Nat.le_refl h7.next)
    have s78 : Sm (fun b => b ∈ bs) h7 h8 := ⟨n8, fun c hc hb => g8 c hb (by omega)⟩
    have rg8 := (rg6.sm s67 (by omega) (fun h => h)).sm s78 (by omega) (fun hb => (nb bg hb).2.1 rfl)
    obtain ⟨hone, _⟩ := slo_is1 o8
    obtain ⟨v1, v2, v3, v4⟩ := rg8.st1 (o := 0) (v := gv') (by simp) hone
    rw [show ([gv] : List AV).set 0 gv' = [gv'] from rfl] at v2
    generalize h8.wr bg 0 [gv'] = h9 at v1 v2 v3 v4
    have s89 : Sm (· = bg) h8 h9 := ⟨by omega, fun c _ hc => v4 c hc⟩
    simp only [F21, r21_20, SS, Nat.reduceBEq, Nat.reduceEqDiff, Nat.reduceAdd, reduceIte, Nat.reduceMul, ptrTo, sliceTo, mapTo, List.getElem?_cons_zero, List.getElem?_cons_succ, Option.map_some, List.append_nil, List.nil_append, List.all_cons, List.all_nil, List.length_cons, List.length_nil, eq_self, t3, t4, t6, lq, lf, hq, eb, lfb, lxb, e5, ew, lf5, lx5, y1, s_int, and'_eq, iff'_true, x_fa_53_1, lx1, lg6, x_bs_43_1, e7, e8, v1]
    have hle9 : ∀ c, c < h.next → ¬ (c = bq ∨ c = bg ∨ c = bf ∨ c = l ∨ c ∈ bs) → h9.bs.gt c = h.bs.gt c := by
      intro c hc hF
      have f1 : ¬ c = bg := fun e => hF (.inr (.inl e))
      have f2 : ¬ c = bf := fun e => hF (.inr (.inr (.inl e)))
      have f3 : ¬ c = l := fun e => hF (.inr (.inr (.inr (.inl e))))
      have f4 : ¬ c ∈ bs := fun e => hF (.inr (.inr (.inr (.inr e))))
      rw [s89.2 c (by omega) f1, s78.2 c (by omega) f4, s67.2 c (by omega) (fun h => h), s56.2 c (by omega) f2, s35.2 c (by omega) (fun h => h), s3.2 c (by omega) f3, s2.2 c hc (fun h => h)]
    have hml : h9.bs.gt l = some (.loop { b with st := .busy }) := by
      rw [s89.2 l (by omega) hlq.2.1, s78.2 l (by omega) (fun hb => hbl l hb rfl), s67.2 l (by omega) (fun h => h), s56.2 l (by omega) hlq.2.2, s35.2 l (by omega) (fun h => h)]; exact m3
    refine hB _ _ _ _ hml rfl ?_
    obtain ⟨h10, e10, m10, n10, s10⟩ := put_sm (h := h9) (b := l) (x := .loop (endL .normal { b with st := .busy }).2)
    rw [e10]
    have hbs8 : ∀ c, c ∈ bs' → c ∈ bs ∨ h.next ≤ c := fun c hc => by
      rcases b8 c hc with h | h
      · exact .inl h
      · exact .inr (by omega)
    have hnl : ∀ c, c ∈ bs' → c ≠ bq ∧ c ≠ bg ∧ c ≠ bf ∧ c ≠ l := fun c hc => by
      have := hp.lt
      rcases hbs8 c hc with h | h
      · exact ⟨(nb c h).1, (nb c h).2.1, (nb c h).2.2, hbl c h⟩
      · exact ⟨by omega, by omega, by omega, by omega⟩
    refine ⟨⟨by omega, fun c hc hF => by rw [s10.2 c (by omega) (fun e => hF (.inr (.inr (.inr (.inl e))))), hle9 c hc hF]⟩, .inr ⟨by omega, rfl, gv', bs', _, ?_, hbs8, m10, rfl, rfl, hfn, hps, has, hbo, t3, t4, t6, t29⟩⟩
    refine PrAt.sm ⟨⟨zq, ?_⟩, ⟨zf, ?_⟩, ⟨zg, v2⟩, ?_, ⟨by omega, by omega, by omega⟩, fun c hc => ⟨(hnl c hc).1, (hnl c hc).2.1, (hnl c hc).2.2.1⟩⟩ s10 (fun h => hlq.1 h.symm) (fun h => hlq.2.1 h.symm) (fun h => hlq.2.2 h.symm) (fun c hc => (hnl c hc).2.2.2)
    · exact ((((rq.sm s35 l1 (fun h => h)).sm s56 (by omega) hd.2.1).sm s67 (by omega) (fun h => h)).sm s78 (by omega) (fun hb => (nb bq hb).1 rfl)).sm s89 (by omega) hd.1
    · exact ((y2.sm s67 (by omega) (fun h => h)).sm s78 (by omega) (fun hb => (nb bf hb).2.2 rfl)).sm s89 (by omega) (fun h => hd.2.2 h.symm)
    · have := o8.sm s89 (fun c hc => (hnl c hc).2.1)
      rw [List.length_append]
      unfold idc
      rw [List.map_append]
      exact this
end Go.Proofs.Ytlfednnfkejcjaa

namespace Go.Proofs.Ytlfednnfkejcjaa
open Go.Am Go.Qs
set_option maxRecDepth 10000
theorem rc_43 : resC P 43 = load1 := by kernel_rfl
theorem prune_ok {n : Nat} (hn : 70 ≤ n) {h : Heap} {lv : AV} {L : List It} (q : Int) (hi : Its h lv L) (h40 : L.length < 40) :
    WC (Q n (.fn 21) [lv, .int .i64 q] h) fun r h' => ∃ d gv ok bs g, r = .tuple [gv, .bool ok] ∧ Perm 0 L.length id d ∧ Sorted (ltI L) 0 L.length d ∧ Sm NoB h h' ∧ SlO 27 1 h' gv g.length (idc L g) bs ∧ (∀ b, b ∈ bs → h.next ≤ b) ∧
      ((ok = true ∧ g = (pr L d q L.length).2 ∧ (pr L d q L.length).1 ≤ q) ∨ (ok = false ∧ g = [] ∧ q < (pr L d q L.length).1)) := by
  obtain ⟨a, c, g, rfl⟩ := hi.sl
  obtain ⟨m, rfl⟩ : ∃ m, n = m + 1 := ⟨n - 1, by omega⟩
  refine call_fn _ f21A rfl (by simp [fn21]) fun QQ hQ => ?_
  simp only [fn21] at hQ
  simp only [fn21, fill_cons, fill_nil, Nat.zero_add, Nat.reduceAdd]
  obtain ⟨h1, e1, r1, n1, g1⟩ := Rw.alloc h (id := h.next) (n := 1) (vs := [.int .i64 q]) (z := []) (ro := false) (Nat.le_refl _) rfl
  have s1 : Sm NoB h h1 := ⟨by omega, fun c hc _ => g1 c (by omega)⟩
  obtain ⟨h2, e2, r2, n2, g2⟩ := Rw.alloc h1 (id := h1.next) (n := 1) (vs := [.slice none 0 0 none]) (z := tyMark 43 true) (ro := false) (Nat.le_refl _) rfl
  have s2 : Sm NoB h1 h2 := ⟨by omega, fun c hc _ => g2 c (by omega)⟩
  have hi2 := (hi.sm s1 (fun _ _ h => h)).sm s2 (fun _ _ h => h)
  obtain ⟨rs, h3, e3, rfl, s3⟩ := sum_ok (n := m) (by omega) hi2 (by omega)
  obtain ⟨h4, e4, r4, n4, g4⟩ := Rw.alloc h3 (id := h3.next) (n := 1) (vs := [.int .i64 0]) (z := tyMark 3 true) (ro := false) (Nat.le_refl _) rfl
  have s4 : Sm NoB h3 h4 := ⟨by omega, fun c hc _ => g4 c (by omega)⟩
  obtain ⟨y1, y2, y3, y4⟩ := r4.st1 (o := 0) (v := .int .i64 (sumTo L L.length)) (by simp) rfl
  rw [show ([AV.int .i64 0] : List AV).set 0 (.int .i64 (sumTo L L.length)) = [.int .i64 (sumTo L L.length)] from rfl] at y2
  generalize h4.wr h3.next 0 [.int .i64 (sumTo L L.length)] = h5 at y1 y2 y3 y4
  have s35 : Sm NoB h3 h5 := ⟨by omega, fun c hc _ => by rw [y4 c (by omega), g4 c (by omega)]⟩
  obtain ⟨rq, h6, e6, rfl, r6, n6, s6⟩ := seq_ok (n := m) (by omega) (h := h5) (a := a) (k := L.length) (c := c) (g := g)
  have k3 := s3.1
  have k35 := s35.1
  have s36 : Sm NoB h3 h6 := s35.trans s6 (fun _ _ h => h) (fun _ _ h => h)
  have s26 : Sm NoB h2 h6 := s3.trans s36 (fun _ _ h => h) (fun _ _ h => h)
  have s06 : Sm NoB h h6 := (s1.trans s2 (fun _ _ h => h) (fun _ _ h => h)).trans s26 (fun _ _ h => h) (fun _ _ h => h)
  have hi6 := hi2.sm s26 (fun _ _ h => h)
  have rq6 := (r1.sm s2 (by omega) (fun h => h)).sm s26 (by omega) (fun h => h)
  have rg6 := r2.sm s26 (by omega) (fun h => h)
  have rf6 := y2.sm s6 (by omega) (fun h => h)
  have hlb : ∀ b, blkOf (.slice a L.length c g) b → b < h.next := fun b hb => hi.lt hb
  -- the end
  have fin : ∀ tm h7 d gv bs bq bg bf, tm.gt 3 = some (.ptr (some (bq, 0))) → tm.gt 4 = some (.ptr (some (bg, 0))) → tm.gt 6 = some (.ptr (some (bf, 0))) → tm.gt 29 = none → Perm 0 L.length id d → Sorted (ltI L) 0 L.length d →
      PrAt L q (pr L d q L.length).1 (pr L d q L.length).2 bq bg bf gv bs h7 → h.next ≤ bg → Sm NoB h h7 → (∀ c, c ∈ bs → h.next ≤ c) → run (Q m) 100000 29 21 none c21_20 [] tm h7 QQ := by
    intro tm h7 d gv bs bq bg bf t3 t4 t6 t29 hP hS hp hbg s7 hbs
    obtain ⟨⟨zq, rq⟩, ⟨zf, rf⟩, ⟨zg, rg⟩, ow, ⟨l1, l2, l3⟩, nb⟩ := id hp
    have lq := rq.ld1 0
    have lf := rf.ld1 0
    have lg := rg.ld1 0
    rw [List.getElem?_cons_zero] at lq lf lg
    by_cases hlt : q < (pr L d q L.length).1
    · obtain ⟨w1, w2, w3, w4⟩ := rg.st1 (o := 0) (v := .slice none 0 0 none) (by simp) rfl
      rw [show ([gv] : List AV).set 0 (.slice none 0 0 none) = [.slice none 0 0 none] from rfl] at w2
      generalize h7.wr bg 0 [.slice none 0 0 none] = h8 at w1 w2 w3 w4
      have lg8 := w2.ld1 0
      rw [List.getElem?_cons_zero] at lg8
      simp only [F21, r21_20, SS, Nat.reduceBEq, Nat.reduceEqDiff, Nat.reduceAdd, reduceIte, Nat.reduceMul, ptrTo, sliceTo, mapTo, List.getElem?_cons_zero, List.getElem?_cons_succ, Option.map_some, List.append_nil, List.nil_append, List.all_cons, List.all_nil, List.length_cons, List.length_nil, eq_self, t3, t4, t6, lq, lf, hlt, w1]
      refine hQ _ _ _ _ (.inr rfl) (by simp only [SS, Nat.reduceBEq, Nat.reduceEqDiff, Nat.reduceAdd, reduceIte, Nat.reduceMul, ptrTo, sliceTo, mapTo, List.getElem?_cons_zero, List.getElem?_cons_succ, Option.map_some, List.append_nil, List.nil_append, List.all_cons, List.all_nil, List.length_cons, List.length_nil, eq_self, t29]) (by simp only [SS, Nat.reduceBEq, Nat.reduceEqDiff, Nat.reduceAdd, reduceIte, Nat.reduceMul, ptrTo, sliceTo, mapTo, List.getElem?_cons_zero, List.getElem?_cons_succ, Option.map_some, List.append_nil, List.nil_append, List.all_cons, List.all_nil, List.length_cons, List.length_nil, eq_self, t4, rc_43, lg8]; rfl) ?_
      exact ⟨d, .slice none 0 0 none, false, [], [], rfl, hP, hS, ⟨by have := s7.1; omega, fun c hc _ => by rw [w4 c (by omega), s7.2 c hc (fun h => h)]⟩, SlO.nil, (fun _ h => by cases h), .inr ⟨rfl, rfl, hlt⟩⟩
    · obtain ⟨hone, _⟩ := slo_is1 ow
      obtain ⟨w1, w2, w3, w4⟩ := rg.st1 (o := 0) (v := gv) (by simp) hone
      rw [show ([gv] : List AV).set 0 gv = [gv] from rfl] at w2
      generalize h7.wr bg 0 [gv] = h8 at w1 w2 w3 w4
      have lg8 := w2.ld1 0
      rw [List.getElem?_cons_zero] at lg8
      simp only [F21, r21_20, SS, Nat.reduceBEq, Nat.reduceEqDiff, Nat.reduceAdd, reduceIte, Nat.reduceMul, ptrTo, sliceTo, mapTo, List.getElem?_cons_zero, List.getElem?_cons_succ, Option.map_some, List.append_nil, List.nil_append, List.all_cons, List.all_nil, List.length_cons, List.length_nil, eq_self, t3, t4, t6, lq, lf, lg, hlt, w1]
      refine hQ _ _ _ _ (.inr rfl) (by simp only [SS, Nat.reduceBEq, Nat.reduceEqDiff, Nat.reduceAdd, reduceIte, Nat.reduceMul, ptrTo, sliceTo, mapTo, List.getElem?_cons_zero, List.getElem?_cons_succ, Option.map_some, List.append_nil, List.nil_append, List.all_cons, List.all_nil, List.length_cons, List.length_nil, eq_self, t29]) (by simp only [SS, Nat.reduceBEq, Nat.reduceEqDiff, Nat.reduceAdd, reduceIte, Nat.reduceMul, ptrTo, sliceTo, mapTo, List.getElem?_cons_zero, List.getElem?_cons_succ, Option.map_some, List.append_nil, List.nil_append, List.all_cons, List.all_nil, List.length_cons, List.length_nil, eq_self, t4, rc_43, lg8]; rfl) ?_
      exact ⟨d, gv, true, bs, _, rfl, hP, hS, ⟨by have := s7.1; omega, fun c hc _ => by rw [w4 c (by omega), s7.2 c hc (fun h => h)]⟩, ow.sm (F := (· = bg)) ⟨by omega, fun c _ hc => w4 c hc⟩ (fun b hb => (nb b hb).2.1), hbs, .inl ⟨rfl, rfl, by omega⟩⟩
  -- the loop
  have key : ∀ tm, tm.gt 3 = some (.ptr (some (h.next, 0))) → tm.gt 4 = some (.ptr (some (h1.next, 0))) → tm.gt 6 = some (.ptr (some (h3.next, 0))) → tm.gt 11 = some (.func (Fn.func 83) [] [.ptr (some (h5.next, 0))]) → tm.gt 29 = none → run (Q m) 100000 29 21 none c21_8 [.blk 0, .seq c21_20] tm h6 QQ := by
    intro tm t3 t4 t6 t11 t29
    refine run_rangeF (t := 11) (i := 83) (ps := [12]) (A := c21_8A) (B := c21_8B) t11 ?_
    generalize hlb : LRec.mk .ready none 21 (tm.up none 29) [12] c21_8A c21_8B = lr
    have b3 : lr.tm.gt 3 = some (.ptr (some (h.next, 0))) := by rw [← hlb]; show (tm.up none 29).gt 3 = _; simp only [SS, Nat.reduceBEq, Nat.reduceEqDiff, Nat.reduceAdd, reduceIte, Nat.reduceMul, ptrTo, sliceTo, mapTo, List.getElem?_cons_zero, List.getElem?_cons_succ, Option.map_some, List.append_nil, List.nil_append, List.all_cons, List.all_nil, List.length_cons, List.length_nil, eq_self, t3]
    have b4 : lr.tm.gt 4 = some (.ptr (some (h1.next, 0))) := by rw [← hlb]; show (tm.up none 29).gt 4 = _; simp only [SS, Nat.reduceBEq, Nat.reduceEqDiff, Nat.reduceAdd, reduceIte, Nat.reduceMul, ptrTo, sliceTo, mapTo, List.getElem?_cons_zero, List.getElem?_cons_succ, Option.map_some, List.append_nil, List.nil_append, List.all_cons, List.all_nil, List.length_cons, List.length_nil, eq_self, t4]
    have b6 : lr.tm.gt 6 = some (.ptr (some (h3.next, 0))) := by rw [← hlb]; show (tm.up none 29).gt 6 = _; simp only [SS, Nat.reduceBEq, Nat.reduceEqDiff, Nat.reduceAdd, reduceIte, Nat.reduceMul, ptrTo, sliceTo, mapTo, List.getElem?_cons_zero, List.getElem?_cons_succ, Option.map_some, List.append_nil, List.nil_append, List.all_cons, List.all_nil, List.length_cons, List.length_nil, eq_self, t6]
    have b29 : lr.tm.gt 29 = none := by rw [← hlb]; show (tm.up none 29).gt 29 = _; simp only [SS, Nat.reduceBEq, Nat.reduceEqDiff, Nat.reduceAdd, reduceIte, Nat.reduceMul, ptrTo, sliceTo, mapTo, List.getElem?_cons_zero, List.getElem?_cons_succ, Option.map_some, List.append_nil, List.nil_append, List.all_cons, List.all_nil, List.length_cons, List.length_nil, eq_self]
    obtain ⟨h7, e7⟩ : ∃ h7, h6.new h6.next (.loop lr) = h7 := ⟨_, rfl⟩
    have m7 : h7.bs.gt h6.next = some (.loop lr) := by rw [← e7, new_get' (Nat.le_refl _), if_pos rfl]
    have n7 : h7.next = h6.next + 1 := by rw [← e7, new_next' (Nat.le_refl _)]
    have s7 : Sm NoB h6 h7 := ⟨by omega, fun c hc _ => by rw [← e7, new_get' (Nat.le_refl _), if_neg (by omega)]⟩
    rw [e7]
    have s07 : Sm NoB h h7 := s06.trans s7 (fun _ _ h => h) (fun _ _ h => h)
    have hc7 : CapAt h5.next (.slice a L.length c g) L h7 := ⟨⟨_, _, r6.sm s7 (by omega) (fun h => h)⟩, by omega, hi6.sm s7 (fun _ _ h => h)⟩
    have hR : RecAt h6.next h.next h1.next h3.next .ready none h7 lr := ⟨m7, by rw [← hlb], by rw [← hlb], by rw [← hlb], by rw [← hlb], by rw [← hlb], by rw [← hlb], b3, b4, b6, b29⟩
    have hp7 : PrAt L q (sumTo L L.length) [] h.next h1.next h3.next (.slice none 0 0 none) [] h7 := ⟨⟨_, rq6.sm s7 (by omega) (fun h => h)⟩, ⟨_, rf6.sm s7 (by omega) (fun h => h)⟩, ⟨_, rg6.sm s7 (by omega) (fun h => h)⟩, SlO.nil, ⟨by omega, by omega, by omega⟩, fun _ h => by cases h⟩
    have hag := aged_ok (n := m) (l := h6.next) (bl := h5.next) (by omega) hc7 h40
      (fun d i F h' => ∃ gv bs b, (∀ c, F c ↔ c = h.next ∨ c = h1.next ∨ c = h3.next ∨ c = h6.next ∨ c ∈ bs) ∧ PrAt L q (pr L d q i).1 (pr L d q i).2 h.next h1.next h3.next gv bs h' ∧ RecAt h6.next h.next h1.next h3.next .ready none h' b ∧ h6.next < h'.next ∧ (∀ c, c ∈ bs → h7.next ≤ c) ∧ h7.next ≤ h'.next ∧ Sm NoB h h')
      (fun h' => ∃ d i gv bs b, Perm 0 L.length id d ∧ Sorted (ltI L) 0 L.length d ∧ i ≤ L.length ∧ (pr L d q i).1 ≤ q ∧ PrAt L q (pr L d q i).1 (pr L d q i).2 h.next h1.next h3.next gv bs h' ∧ RecAt h6.next h.next h1.next h3.next .done (some (.exit 0)) h' b ∧ h6.next < h'.next ∧ (∀ c, c ∈ bs → h7.next ≤ c) ∧ Sm NoB h h')
      (fun d _ _ => ⟨fun c => c = h.next ∨ c = h1.next ∨ c = h3.next ∨ c = h6.next ∨ c ∈ ([] : List Nat), (fun b hb => by
          rcases hb with h | h | h | h | h
          · omega
          · omega
          · omega
          · omega
          · cases h), _, [], _, fun c => Iff.rfl, hp7, hR, by omega, (fun _ h => by cases h), Nat.le_refl _, s07⟩)
      (fun d i F h' ⟨gv, bs, b, f1, f2, f3, f4, f5, f6, f7⟩ => ⟨fun hf => by
          rcases (f1 _).1 hf with h | h | h | h | h
          · omega
          · omega
          · omega
          · omega
          · have := f5 _ h; omega, fun x hx hf => by
          have := hi.lt hx
          rcases (f1 _).1 hf with h | h | h | h | h
          · omega
          · omega
          · omega
          · omega
          · have := f5 _ h; omega⟩)
      (fun d i F ha hb G ⟨gv, bs, b, f1, f2, f3, f4, f5, f6, f7⟩ hs hG hG2 => ⟨gv, bs, b, f1, f2.sm hs (hG _ ((f1 _).2 (.inl rfl))) (hG _ ((f1 _).2 (.inr (.inl rfl)))) (hG _ ((f1 _).2 (.inr (.inr (.inl rfl))))) (fun c hc => hG _ ((f1 _).2 (.inr (.inr (.inr (.inr hc)))))),
        ⟨by rw [hs.2 _ f4 (hG _ ((f1 _).2 (.inr (.inr (.inr (.inl rfl))))))]; exact f3.at', f3.st, f3.pd, f3.fn, f3.ps, f3.asg, f3.bo, f3.t3, f3.t4, f3.t6, f3.t29⟩, Nat.lt_of_lt_of_le f4 hs.1, f5, Nat.le_trans f6 hs.1,
        ⟨Nat.le_trans f7.1 hs.1, fun c hc _ => by have := f7.1; rw [hs.2 c (by omega) (fun h => by have := hG2 c h; omega), f7.2 c hc (fun h => h)]⟩⟩)
      (fun d i F h' ⟨gv, bs, b, f1, f2, f3, f4, f5, f6, f7⟩ hm => ⟨gv, bs, b, f1, by rw [pr_no hm]; exact f2, f3, f4, f5, f6, f7⟩)
      (fun d hP hS m' i F h' hm' hi' ⟨gv, bs, b, f1, f2, f3, f4, f5, f6, f7⟩ hmo => by
        have hb1 := pr_le L d q i
        have hb2 := sumTo_le L L.length
        obtain ⟨r, h8, e8, s8, hcase⟩ := round_ok (m := m') (by omega) (k := d i) f2 f3 f4 ⟨by omega, by omega, by omega⟩ (fun c hc => by have := f5 c hc; omega) ⟨by omega, by omega, by omega⟩ ⟨by omega, by omega⟩ (by omega)
        have s08 : Sm NoB h h8 := by
          have := f7.1
          have := s8.1
          refine ⟨by omega, fun c hc _ => ?_⟩
          rw [s8.2 c (by omega) ?_, f7.2 c hc (fun h => h)]
          rintro (h | h | h | h | h)
          · omega
          · omega
          · omega
          · omega
          · have := f5 c h; omega
        have s8' : Sm F h' h8 := s8.mono fun c _ hc => (f1 c).2 hc
        have s8n := s8.1
        rcases hcase with ⟨c1, rfl, p8, b', R8⟩ | ⟨c1, rfl, gv', bs', b', p8, hbs', R8⟩
        · exact ⟨_, h8, e8, F, fun b _ h => h, s8', .inr ⟨rfl, d, i, gv, bs, b', hP, hS, by omega, c1, p8, R8, by omega, f5, s08⟩⟩
        · refine ⟨_, h8, e8, fun c => c = h.next ∨ c = h1.next ∨ c = h3.next ∨ c = h6.next ∨ c ∈ bs', fun c hc hf => ?_, s8', .inl ⟨rfl, gv', bs', b', fun c => Iff.rfl, ?_, R8, by omega, fun c hc => ?_, by omega, s08⟩⟩
          · rcases hf with hf | hf | hf | hf | hf
            · exact (f1 c).2 (.inl hf)
            · exact (f1 c).2 (.inr (.inl hf))
            · exact (f1 c).2 (.inr (.inr (.inl hf)))
            · exact (f1 c).2 (.inr (.inr (.inr (.inl hf))))
            · rcases hbs' c hf with h | h
              · exact (f1 c).2 (.inr (.inr (.inr (.inr h))))
              · omega
          · rw [pr, if_pos ⟨hmo, c1⟩]; exact p8
          · rcases hbs' c hc with h | h
            · exact f5 c h
            · omega)
    obtain ⟨r, h8, e8, hend⟩ := hag
    refine ⟨r, h8, e8, ?_⟩
    rcases hend with ⟨d, F, hP, hS, gv, bs, b, f1, f2, f3, f4, f5, f6, f7⟩ | ⟨d, i, gv, bs, b, hP, hS, f0, f1, f2, f3, f4, f5, f7⟩
    · refine ⟨b, f3.at', by rw [f3.st]; exact (fun h => by cases h), ?_⟩
      rw [f3.pd]
      obtain ⟨h9, e9, m9, n9, s9⟩ := put_sm (h := h8) (b := h6.next) (x := .loop { b with st := .exhausted })
      simp only [SS, Nat.reduceBEq, Nat.reduceEqDiff, Nat.reduceAdd, reduceIte, Nat.reduceMul, ptrTo, sliceTo, mapTo, List.getElem?_cons_zero, List.getElem?_cons_succ, Option.map_some, List.append_nil, List.nil_append, List.all_cons, List.all_nil, List.length_cons, List.length_nil, eq_self, f3.pd] at e9 ⊢
      rw [e9]
      exact fin tm h9 d gv bs _ _ _ t3 t4 t6 t29 hP hS (f2.sm s9 (by omega) (by omega) (by omega) (fun c hc h => by have h : c = h6.next := h; have := f5 c hc; omega)) (by omega) ⟨by have := f7.1; omega, fun c hc _ => by have := f7.1; rw [s9.2 c (by omega) (by omega), f7.2 c hc (fun h => h)]⟩ (fun c hc => by have := f5 c hc; have := s07.1; omega)
    · refine ⟨b, f3.at', by rw [f3.st]; exact (fun h => by cases h), ?_⟩
      rw [f3.pd]
      obtain ⟨h9, e9, m9, n9, s9⟩ := put_sm (h := h8) (b := h6.next) (x := .loop { b with st := .exhausted })
      refine ⟨.exit 0, rfl, ?_⟩
      simp only [SS, Nat.reduceBEq, Nat.reduceEqDiff, Nat.reduceAdd, reduceIte, Nat.reduceMul, ptrTo, sliceTo, mapTo, List.getElem?_cons_zero, List.getElem?_cons_succ, Option.map_some, List.append_nil, List.nil_append, List.all_cons, List.all_nil, List.length_cons, List.length_nil, eq_self, f3.pd] at e9 ⊢
      rw [e9]
      have hst := pr_stop f1 (L.length - i)
      rw [show i + (L.length - i) = L.length by omega] at hst
      rw [← hst] at f2
      exact fin tm h9 d gv bs _ _ _ t3 t4 t6 t29 hP hS (f2.sm s9 (by omega) (by omega) (by omega) (fun c hc h => by have h : c = h6.next := h; have := f5 c hc; omega)) (by omega) ⟨by have := f7.1; omega, fun c hc _ => by have := f7.1; rw [s9.2 c (by omega) (by omega), f7.2 c hc (fun h => h)]⟩ (fun c hc => by have := f5 c hc; have := s07.1; omega)
  simp only [F21, SS, Nat.reduceBEq, Nat.reduceEqDiff, Nat.reduceAdd, reduceIte, Nat.reduceMul, ptrTo, sliceTo, mapTo, List.getElem?_cons_zero, List.getElem?_cons_succ, Option.map_some, List.append_nil, List.nil_append, List.all_cons, List.all_nil, List.length_cons, List.length_nil, eq_self, box_int, e1, x_al_43, e2, x_al_3, e3, e4, y1, e6]
  exact key _ (by simp only [SS, Nat.reduceBEq, Nat.reduceEqDiff, Nat.reduceAdd, reduceIte, Nat.reduceMul, ptrTo, sliceTo, mapTo, List.getElem?_cons_zero, List.getElem?_cons_succ, Option.map_some, List.append_nil, List.nil_append, List.all_cons, List.all_nil, List.length_cons, List.length_nil, eq_self]) (by simp only [SS, Nat.reduceBEq, Nat.reduceEqDiff, Nat.reduceAdd, reduceIte, Nat.reduceMul, ptrTo, sliceTo, mapTo, List.getElem?_cons_zero, List.getElem?_cons_succ, Option.map_some, List.append_nil, List.nil_append, List.all_cons, List.all_nil, List.length_cons, List.length_nil, eq_self]) (by simp only [SS, Nat.reduceBEq, Nat.reduceEqDiff, Nat.reduceAdd, reduceIte, Nat.reduceMul, ptrTo, sliceTo, mapTo, List.getElem?_cons_zero, List.getElem?_cons_succ, Option.map_some, List.append_nil, List.nil_append, List.all_cons, List.all_nil, List.length_cons, List.length_nil, eq_self]) (by simp only [SS, Nat.reduceBEq, Nat.reduceEqDiff, Nat.reduceAdd, reduceIte, Nat.reduceMul, ptrTo, sliceTo, mapTo, List.getElem?_cons_zero, List.getElem?_cons_succ, Option.map_some, List.append_nil, List.nil_append, List.all_cons, List.all_nil, List.length_cons, List.length_nil, eq_self]) (by simp only [SS, Nat.reduceBEq, Nat.reduceEqDiff, Nat.reduceAdd, reduceIte, Nat.reduceMul, ptrTo, sliceTo, mapTo, List.getElem?_cons_zero, List.getElem?_cons_succ, Option.map_some, List.append_nil, List.nil_append, List.all_cons, List.all_nil, List.length_cons, List.length_nil, eq_self])
end Go.Proofs.Ytlfednnfkejcjaa

namespace Go.Proofs.Ytlfednnfkejcjaa
open Go.Am Go.Qs
set_option maxRecDepth 10000
theorem works_q {n : Nat} (hn : 1 ≤ n) (h : Heap) : Q n (.fn 20) [] h = some (.bool true, h) := by
  obtain ⟨m, rfl⟩ : ∃ m, n = m + 1 := ⟨n - 1, by omega⟩
  rfl
theorem rc_53 : resC P 53 = loadN 4 := by kernel_rfl
theorem els_its {h : Heap} {v : AV} {L : List It} (hv : Els h v L.length 4 (cs L)) : Its h v L := by
  obtain ⟨h0, a, c, g, rfl, h1, h2⟩ := hv
  exact ⟨h0, a, c, g, rfl, h1, fun b o e => ⟨(h2 b o e).1, fun _ => (h2 b o e).2⟩⟩
theorem few_ok {n : Nat} (hn : 1 ≤ n) {h : Heap} {v : AV} {L : List It} (hi : Its h v L) : WC (Q n (.fn 19) [v] h) fun r h' => h' = h ∧ ∃ b, r = .bool b ∧ (b = true → L.length ≤ 30) := by
  obtain ⟨a, c, g, rfl⟩ := hi.sl
  obtain ⟨m, rfl⟩ : ∃ m, n = m + 1 := ⟨n - 1, by omega⟩
  refine call_fn _ f19A rfl (by simp [fn19]) fun QQ hQ => ?_
  simp only [fn19] at hQ
  simp only [fn19, fill_cons, fill_nil, Nat.zero_add, Nat.reduceAdd]
  simp only [F19, SS, Nat.reduceBEq, Nat.reduceEqDiff, Nat.reduceAdd, reduceIte, Nat.reduceMul, ptrTo, sliceTo, mapTo, List.getElem?_cons_zero, List.getElem?_cons_succ, Option.map_some, List.append_nil, List.nil_append, List.all_cons, List.all_nil, List.length_cons, List.length_nil, eq_self, x_len_41]
  refine run_loop (c := c19_7) (I := fun m' tm' h' => ∃ i, i ≤ L.length ∧ i ≤ 40 ∧ m' = 40 - i ∧ h' = h ∧ tm'.gt 0 = some (.slice a L.length c g) ∧ tm'.gt 3 = some (I i) ∧ tm'.gt 24 = none) (n := 40)
    ⟨0, by omega, by omega, rfl, rfl, by simp only [SS, Nat.reduceBEq, Nat.reduceEqDiff, Nat.reduceAdd, reduceIte, Nat.reduceMul, ptrTo, sliceTo, mapTo, List.getElem?_cons_zero, List.getElem?_cons_succ, Option.map_some, List.append_nil, List.nil_append, List.all_cons, List.all_nil, List.length_cons, List.length_nil, eq_self], by simp only [SS, Nat.reduceBEq, Nat.reduceEqDiff, Nat.reduceAdd, reduceIte, Nat.reduceMul, ptrTo, sliceTo, mapTo, List.getElem?_cons_zero, List.getElem?_cons_succ, Option.map_some, List.append_nil, List.nil_append, List.all_cons, List.all_nil, List.length_cons, List.length_nil, eq_self]; rfl, by simp only [SS, Nat.reduceBEq, Nat.reduceEqDiff, Nat.reduceAdd, reduceIte, Nat.reduceMul, ptrTo, sliceTo, mapTo, List.getElem?_cons_zero, List.getElem?_cons_succ, Option.map_some, List.append_nil, List.nil_append, List.all_cons, List.all_nil, List.length_cons, List.length_nil, eq_self]⟩ (by omega) ?_
  rintro _ tm h1 ⟨i, hil, hi40, rfl, rfl, t0, t3, t24⟩ Q1 hN1 hE
  have fin : ∀ tm, tm.gt 0 = some (.slice a L.length c g) → tm.gt 24 = none → ret (callN P (keepF P) prQ 100000 m) 100000 24 19 none (.exit 0) [.blk 0, .seq c19_23] tm h1 QQ := by
    intro tm t0 t24
    simp only [F19, SS, Nat.reduceBEq, Nat.reduceEqDiff, Nat.reduceAdd, reduceIte, Nat.reduceMul, ptrTo, sliceTo, mapTo, List.getElem?_cons_zero, List.getElem?_cons_succ, Option.map_some, List.append_nil, List.nil_append, List.all_cons, List.all_nil, List.length_cons, List.length_nil, eq_self, t0, t24, x_len_41]
    exact hQ _ _ _ _ (.inr rfl) (by simp only [SS, Nat.reduceBEq, Nat.reduceEqDiff, Nat.reduceAdd, reduceIte, Nat.reduceMul, ptrTo, sliceTo, mapTo, List.getElem?_cons_zero, List.getElem?_cons_succ, Option.map_some, List.append_nil, List.nil_append, List.all_cons, List.all_nil, List.length_cons, List.length_nil, eq_self, t24]) (by simp only [SS, Nat.reduceBEq, Nat.reduceEqDiff, Nat.reduceAdd, reduceIte, Nat.reduceMul, ptrTo, sliceTo, mapTo, List.getElem?_cons_zero, List.getElem?_cons_succ, Option.map_some, List.append_nil, List.nil_append, List.all_cons, List.all_nil, List.length_cons, List.length_nil, eq_self]; rfl) ⟨rfl, _, rfl, fun h => by have := of_decide_eq_true h; omega⟩
  by_cases hlt : i < L.length
  · by_cases hlt2 : i < 40
    · have c2 : (i : Int) < 40 := by omega
      obtain ⟨b, o, rfl, i1, _⟩ := hi.at hlt
      have x2 := x_ia_41 (k := .i64) (b := b) (o := o) (c := c) (g := g) hlt
      by_cases c3 : (100 : Int) < (L[i].p.length : Int)
      · simp only [F19, SS, Nat.reduceBEq, Nat.reduceEqDiff, Nat.reduceAdd, reduceIte, Nat.reduceMul, ptrTo, sliceTo, mapTo, List.getElem?_cons_zero, List.getElem?_cons_succ, Option.map_some, List.append_nil, List.nil_append, List.all_cons, List.all_nil, List.length_cons, List.length_nil, eq_self, t0, t3, t24, x_len_41, Int.ofNat_lt, hlt, c2, x2, x_fa_53_0, i1, x_len_9, c3]
        refine hE _ _ _ (by simp) ?_
        simp only [SS, Nat.reduceBEq, Nat.reduceEqDiff, Nat.reduceAdd, reduceIte, Nat.reduceMul, ptrTo, sliceTo, mapTo, List.getElem?_cons_zero, List.getElem?_cons_succ, Option.map_some, List.append_nil, List.nil_append, List.all_cons, List.all_nil, List.length_cons, List.length_nil, eq_self]
        exact hQ _ _ _ _ (.inr rfl) (by simp only [SS, Nat.reduceBEq, Nat.reduceEqDiff, Nat.reduceAdd, reduceIte, Nat.reduceMul, ptrTo, sliceTo, mapTo, List.getElem?_cons_zero, List.getElem?_cons_succ, Option.map_some, List.append_nil, List.nil_append, List.all_cons, List.all_nil, List.length_cons, List.length_nil, eq_self, t24]) (by simp only [SS, Nat.reduceBEq, Nat.reduceEqDiff, Nat.reduceAdd, reduceIte, Nat.reduceMul, ptrTo, sliceTo, mapTo, List.getElem?_cons_zero, List.getElem?_cons_succ, Option.map_some, List.append_nil, List.nil_append, List.all_cons, List.all_nil, List.length_cons, List.length_nil, eq_self]; rfl) ⟨rfl, false, rfl, fun h => by cases h⟩
      · simp only [F19, SS, Nat.reduceBEq, Nat.reduceEqDiff, Nat.reduceAdd, reduceIte, Nat.reduceMul, ptrTo, sliceTo, mapTo, List.getElem?_cons_zero, List.getElem?_cons_succ, Option.map_some, List.append_nil, List.nil_append, List.all_cons, List.all_nil, List.length_cons, List.length_nil, eq_self, t0, t3, t24, x_len_41, Int.ofNat_lt, hlt, c2, x2, x_fa_53_0, i1, x_len_9, c3, wAdd1 (show i ≤ 1000000 by omega)]
        exact hN1 _ _ (40 - (i + 1)) (by omega) ⟨i + 1, hlt, hlt2, rfl, rfl, by simp only [SS, Nat.reduceBEq, Nat.reduceEqDiff, Nat.reduceAdd, reduceIte, Nat.reduceMul, ptrTo, sliceTo, mapTo, List.getElem?_cons_zero, List.getElem?_cons_succ, Option.map_some, List.append_nil, List.nil_append, List.all_cons, List.all_nil, List.length_cons, List.length_nil, eq_self, t0], by simp only [SS, Nat.reduceBEq, Nat.reduceEqDiff, Nat.reduceAdd, reduceIte, Nat.reduceMul, ptrTo, sliceTo, mapTo, List.getElem?_cons_zero, List.getElem?_cons_succ, Option.map_some, List.append_nil, List.nil_append, List.all_cons, List.all_nil, List.length_cons, List.length_nil, eq_self], by simp only [SS, Nat.reduceBEq, Nat.reduceEqDiff, Nat.reduceAdd, reduceIte, Nat.reduceMul, ptrTo, sliceTo, mapTo, List.getElem?_cons_zero, List.getElem?_cons_succ, Option.map_some, List.append_nil, List.nil_append, List.all_cons, List.all_nil, List.length_cons, List.length_nil, eq_self, t24]⟩
    · have c2 : ¬ (i : Int) < 40 := by omega
      simp only [F19, SS, Nat.reduceBEq, Nat.reduceEqDiff, Nat.reduceAdd, reduceIte, Nat.reduceMul, ptrTo, sliceTo, mapTo, List.getElem?_cons_zero, List.getElem?_cons_succ, Option.map_some, List.append_nil, List.nil_append, List.all_cons, List.all_nil, List.length_cons, List.length_nil, eq_self, t0, t3, t24, x_len_41, Int.ofNat_lt, hlt, c2]
      refine hE _ _ _ (by simp) (fin _ (by simp only [SS, Nat.reduceBEq, Nat.reduceEqDiff, Nat.reduceAdd, reduceIte, Nat.reduceMul, ptrTo, sliceTo, mapTo, List.getElem?_cons_zero, List.getElem?_cons_succ, Option.map_some, List.append_nil, List.nil_append, List.all_cons, List.all_nil, List.length_cons, List.length_nil, eq_self, t0]) (by simp only [SS, Nat.reduceBEq, Nat.reduceEqDiff, Nat.reduceAdd, reduceIte, Nat.reduceMul, ptrTo, sliceTo, mapTo, List.getElem?_cons_zero, List.getElem?_cons_succ, Option.map_some, List.append_nil, List.nil_append, List.all_cons, List.all_nil, List.length_cons, List.length_nil, eq_self, t24]))
  · simp only [F19, SS, Nat.reduceBEq, Nat.reduceEqDiff, Nat.reduceAdd, reduceIte, Nat.reduceMul, ptrTo, sliceTo, mapTo, List.getElem?_cons_zero, List.getElem?_cons_succ, Option.map_some, List.append_nil, List.nil_append, List.all_cons, List.all_nil, List.length_cons, List.length_nil, eq_self, t0, t3, t24, x_len_41, Int.ofNat_lt, hlt]
    refine hE _ _ _ (by simp) (fin _ (by simp only [SS, Nat.reduceBEq, Nat.reduceEqDiff, Nat.reduceAdd, reduceIte, Nat.reduceMul, ptrTo, sliceTo, mapTo, List.getElem?_cons_zero, List.getElem?_cons_succ, Option.map_some, List.append_nil, List.nil_append, List.all_cons, List.all_nil, List.length_cons, List.length_nil, eq_self, t0]) (by simp only [SS, Nat.reduceBEq, Nat.reduceEqDiff, Nat.reduceAdd, reduceIte, Nat.reduceMul, ptrTo, sliceTo, mapTo, List.getElem?_cons_zero, List.getElem?_cons_succ, Option.map_some, List.append_nil, List.nil_append, List.all_cons, List.all_nil, List.length_cons, List.length_nil, eq_self, t24]))
theorem item_ok {n : Nat} (hn : 1 ≤ n) {h : Heap} (x : It) : WC (Q n (.fn 31) [.str x.p, .int .u32 x.id, .int .u32 x.tick, .int .i64 x.size] h) fun r h' => r = .agg x.c ∧ Sm NoB h h' := by
  obtain ⟨m, rfl⟩ : ∃ m, n = m + 1 := ⟨n - 1, by omega⟩
  refine call_fn _ f31A rfl (by simp [fn31]) fun QQ hQ => ?_
  simp only [fn31] at hQ
  simp only [fn31, fill_cons, fill_nil, Nat.zero_add, Nat.reduceAdd]
  obtain ⟨h1, e1, r1, n1, g1⟩ := Rw.alloc h (id := h.next) (n := 4) (vs := [.str [], .int .u32 0, .int .u32 0, .int .i64 0]) (z := tyMark 53 true) (ro := false) (Nat.le_refl _) rfl
  obtain ⟨w1, w2, w3, w4⟩ := r1.sto (o := 0) (us := x.c) (by simp [It.c]) rfl
  rw [show putL [.str [], .int .u32 0, .int .u32 0, .int .i64 0] 0 x.c = x.c from rfl] at w2
  generalize h1.wr h.next 0 x.c = h2 at w1 w2 w3 w4
  have s2 : Sm NoB h h2 := ⟨by omega, fun c hc _ => by rw [w4 c (by omega), g1 c (by omega)]⟩
  have l2 := w2.ld (i := 0) (n := 4) (Nat.le_refl _)
  rw [show (x.c.drop 0).take 4 = x.c from rfl] at l2
  unfold It.c at w1 l2
  simp only [F31, SS, Nat.reduceBEq, Nat.reduceEqDiff, Nat.reduceAdd, reduceIte, Nat.reduceMul, ptrTo, sliceTo, mapTo, List.getElem?_cons_zero, List.getElem?_cons_succ, Option.map_some, List.append_nil, List.nil_append, List.all_cons, List.all_nil, List.length_cons, List.length_nil, eq_self, x_al_53, e1, x_bd_53_0_1_2_3, st_agg, w1]
  refine hQ _ _ _ _ (.inr rfl) (by simp only [SS, Nat.reduceBEq, Nat.reduceEqDiff, Nat.reduceAdd, reduceIte, Nat.reduceMul, ptrTo, sliceTo, mapTo, List.getElem?_cons_zero, List.getElem?_cons_succ, Option.map_some, List.append_nil, List.nil_append, List.all_cons, List.all_nil, List.length_cons, List.length_nil, eq_self]) (by simp only [SS, Nat.reduceBEq, Nat.reduceEqDiff, Nat.reduceAdd, reduceIte, Nat.reduceMul, ptrTo, sliceTo, mapTo, List.getElem?_cons_zero, List.getElem?_cons_succ, Option.map_some, List.append_nil, List.nil_append, List.all_cons, List.all_nil, List.length_cons, List.length_nil, eq_self, rc_53, l2]; rfl) ⟨rfl, s2⟩
end Go.Proofs.Ytlfednnfkejcjaa

namespace Go.Proofs.Ytlfednnfkejcjaa
open Go.Am Go.Qs
set_option maxRecDepth 10000
/-- rising ticks -/
def tk (L : List It) : Nat → Int
  | 0 => 0
  | i + 1 => tk L i + (iti L i).tick.tmod 3
def nu (L : List It) (i : Nat) : It := ⟨(iti L i).p, ((i + 1 : Nat) : Int), tk L (i + 1), (iti L i).size⟩
def numTo (L : List It) (i : Nat) : List It := (List.range i).map (nu L)
theorem numTo_len (L : List It) (i : Nat) : (numTo L i).length = i := by simp [numTo]
theorem numTo_succ (L : List It) (i : Nat) : numTo L (i + 1) = numTo L i ++ [nu L i] := by simp [numTo, List.range_succ]
theorem cs_app (A : List It) (x : It) : cs (A ++ [x]) = cs A ++ x.c := by simp [cs]
def Ticks (L : List It) : Prop := ∀ i, i < L.length → 0 ≤ (iti L i).tick
theorem tk_le {L : List It} (ht : Ticks L) : ∀ i : Nat, i ≤ L.length → 0 ≤ tk L i ∧ tk L i ≤ 2 * i
  | 0, _ => ⟨Int.le_refl _, Int.le_refl _⟩
  | i + 1, h => by
    have ih := tk_le ht i (by omega)
    have := ht i (by omega)
    have e : (iti L i).tick.tmod 3 = (iti L i).tick % 3 := Int.tmod_eq_emod_of_nonneg this
    show 0 ≤ tk L i + (iti L i).tick.tmod 3 ∧ tk L i + (iti L i).tick.tmod 3 ≤ 2 * ((i + 1 : Nat) : Int)
    rw [e]; omega
theorem slo_its {h : Heap} {v : AV} {L : List It} {bs : List Nat} (ho : SlO 53 4 h v L.length (cs L) bs) : Its h v L := els_its ho.els
theorem numbered_ok {n : Nat} (hn : 2 ≤ n) {h : Heap} {v : AV} {L : List It} (hi : Its h v L) (hl : L.length ≤ 1000) (ht : Ticks L) :
    WC (Q n (.fn 27) [v] h) fun r h' => ∃ bs, SlO 53 4 h' r (numTo L L.length).length (cs (numTo L L.length)) bs ∧ Sm NoB h h' ∧ ∀ b, b ∈ bs → h.next ≤ b := by
  obtain ⟨a, c, g, rfl⟩ := hi.sl
  obtain ⟨m, rfl⟩ : ∃ m, n = m + 1 := ⟨n - 1, by omega⟩
  refine call_fn _ f27A rfl (by simp [fn27]) fun QQ hQ => ?_
  simp only [fn27] at hQ
  simp only [fn27, fill_cons, fill_nil, Nat.zero_add, Nat.reduceAdd]
  simp only [F27, SS, Nat.reduceBEq, Nat.reduceEqDiff, Nat.reduceAdd, reduceIte, Nat.reduceMul, ptrTo, sliceTo, mapTo, List.getElem?_cons_zero, List.getElem?_cons_succ, Option.map_some, List.append_nil, List.nil_append, List.all_cons, List.all_nil, List.length_cons, List.length_nil, eq_self]
  refine run_loop (c := c27_11) (I := fun m' tm' h' => ∃ i r bs, i ≤ L.length ∧ m' = L.length - i ∧ Its h' (.slice a L.length c g) L ∧ SlO 53 4 h' r (numTo L i).length (cs (numTo L i)) bs ∧ Sm NoB h h' ∧ (∀ b, b ∈ bs → h.next ≤ b) ∧ tm'.gt 0 = some (.slice a L.length c g) ∧ tm'.gt 3 = some r ∧ tm'.gt 4 = some (.int .u32 (tk L i)) ∧ tm'.gt 5 = some (I i) ∧ tm'.gt 39 = none) (n := L.length)
    ⟨0, _, [], by omega, rfl, hi, SlO.nil, Sm.refl _ _, (fun _ h => by cases h), by simp only [SS, Nat.reduceBEq, Nat.reduceEqDiff, Nat.reduceAdd, reduceIte, Nat.reduceMul, ptrTo, sliceTo, mapTo, List.getElem?_cons_zero, List.getElem?_cons_succ, Option.map_some, List.append_nil, List.nil_append, List.all_cons, List.all_nil, List.length_cons, List.length_nil, eq_self], by simp only [SS, Nat.reduceBEq, Nat.reduceEqDiff, Nat.reduceAdd, reduceIte, Nat.reduceMul, ptrTo, sliceTo, mapTo, List.getElem?_cons_zero, List.getElem?_cons_succ, Option.map_some, List.append_nil, List.nil_append, List.all_cons, List.all_nil, List.length_cons, List.length_nil, eq_self], by simp only [SS, Nat.reduceBEq, Nat.reduceEqDiff, Nat.reduceAdd, reduceIte, Nat.reduceMul, ptrTo, sliceTo, mapTo, List.getElem?_cons_zero, List.getElem?_cons_succ, Option.map_some, List.append_nil, List.nil_append, List.all_cons, List.all_nil, List.length_cons, List.length_nil, eq_self]; rfl, by simp only [SS, Nat.reduceBEq, Nat.reduceEqDiff, Nat.reduceAdd, reduceIte, Nat.reduceMul, ptrTo, sliceTo, mapTo, List.getElem?_cons_zero, List.getElem?_cons_succ, Option.map_some, List.append_nil, List.nil_append, List.all_cons, List.all_nil, List.length_cons, List.length_nil, eq_self]; rfl, by simp only [SS, Nat.reduceBEq, Nat.reduceEqDiff, Nat.reduceAdd, reduceIte, Nat.reduceMul, ptrTo, sliceTo, mapTo, List.getElem?_cons_zero, List.getElem?_cons_succ, Option.map_some, List.append_nil, List.nil_append, List.all_cons, List.all_nil, List.length_cons, List.length_nil, eq_self]⟩ (by omega) ?_
  rintro _ tm h1 ⟨i, r, bs, hil, rfl, hi1, ho, s1, hbs, t0, t3, t4, t5, t39⟩ Q1 hN1 hE
  by_cases hlt : i < L.length
  · obtain ⟨b, o, rfl, _, _, i3, _⟩ := hi1.at hlt
    rw [← iti_at hlt] at i3
    have x2 := x_ia_41 (k := .i64) (b := b) (o := o) (c := c) (g := g) hlt
    have hk := tk_le ht i (by omega)
    have hk' := tk_le ht (i + 1) hlt
    have ew : IntKind.u32.wrap (tk L i + (iti L i).tick.tmod 3) = tk L (i + 1) := by
      show IntKind.u32.wrap (tk L (i + 1)) = _
      exact wrap_u32 (by omega) (by omega)
    obtain ⟨hb, eb, sb, _, nb⟩ := Sm.bump h1 19
    have hib := hi1.sm sb (fun _ _ h => h)
    obtain ⟨b', o', e', j1, j2, j3, j4, _⟩ := hib.at hlt
    cases e'
    rw [← iti_at hlt] at j1 j4
    obtain ⟨r2, h2, e2, rfl, s2⟩ := item_ok (n := m) (by omega) (h := hb) (nu L i)
    have e2' : Q m (.fn 31) [.str (iti L i).p, .int .u32 ((i + 1 : Nat) : Int), .int .u32 (tk L (i + 1)), .int .i64 (iti L i).size] hb = some (.agg (nu L i).c, h2) := e2
    have hi2 := hib.sm s2 (fun _ _ h => h)
    obtain ⟨b', o', e', k1, k2, k3, k4, _⟩ := hi2.at hlt
    cases e'
    rw [← iti_at hlt] at k1 k4
    have s12 : Sm NoB h1 h2 := sb.trans s2 (fun _ _ h => h) (fun _ _ h => h)
    have hn2 := s2.1
    obtain ⟨h3, e3, r3, n3, g3⟩ := Rw.allocP h2 (id := h1.next + 16) (n := 4) (vs := (nu L i).c) (z := []) (ro := false) rfl
    have s13 : Sm NoB h1 h3 := ⟨by omega, fun c hc _ => by rw [g3 c (by omega), s12.2 c hc (fun h => h)]⟩
    have ho3 := ho.sm s13 (fun _ _ h => h)
    have hs6 : srcOf 4 (fun n => n) (.slice (some (h1.next + 16, 0)) 1 1 none) h3 = some ((nu L i).c, 1) := srcOf_row r3 (Nat.le_refl _)
    have hlt3 := ho3.lt
    obtain ⟨v', h4, bs', e4, o4, n4, g4, b4, _⟩ := app_own (t := 41) u_41 s_53 b_53 z_53 rfl ho3 hs6 (by omega) rfl rfl (room_le (by rw [numTo_len]; omega) (by rw [numTo_len]; omega)) (Nat.le_refl h3.next)
    have ebs : buildSliceN P 41 1 [0] [.agg (nu L i).c] = some (.cells (fillC (nu L i).c .leaf 0) [] 4 false, sliceTo 1) := x_bs_41_1 _ _ _ _
    have hlb : ∀ q, blkOf (.slice (some (b, o)) L.length c g) q → q < h.next := fun q hq => hi.lt hq
    simp only [F27, SS, Nat.reduceBEq, Nat.reduceEqDiff, Nat.reduceAdd, reduceIte, Nat.reduceMul, ptrTo, sliceTo, mapTo, List.getElem?_cons_zero, List.getElem?_cons_succ, Option.map_some, List.append_nil, List.nil_append, List.all_cons, List.all_nil, List.length_cons, List.length_nil, eq_self, t0, t3, t4, t5, t39, x_len_41, Int.ofNat_lt, hlt, x2, x_fa_53_0, x_fa_53_2, x_fa_53_3, i3, b_rem (show (3 : Int) ≠ 0 by decide), ew, eb, j1, j4, wAdd1 (show i ≤ 1000000 by omega), x_cv_3_27, wrap_u32 (show (0 : Int) ≤ ((i + 1 : Nat) : Int) by omega) (by omega), e2', k1, k4, s_int, s_ptr, s_str, s_slice, and'_eq, iff'_true, Nat.add_eq, ebs, e3, e4]
    have hnext := s1.1
    refine hN1 _ _ (L.length - (i + 1)) (by omega) ⟨i + 1, v', bs', hlt, rfl, ?_, ?_, ?_, ?_, by simp only [SS, Nat.reduceBEq, Nat.reduceEqDiff, Nat.reduceAdd, reduceIte, Nat.reduceMul, ptrTo, sliceTo, mapTo, List.getElem?_cons_zero, List.getElem?_cons_succ, Option.map_some, List.append_nil, List.nil_append, List.all_cons, List.all_nil, List.length_cons, List.length_nil, eq_self, t0], by simp only [SS, Nat.reduceBEq, Nat.reduceEqDiff, Nat.reduceAdd, reduceIte, Nat.reduceMul, ptrTo, sliceTo, mapTo, List.getElem?_cons_zero, List.getElem?_cons_succ, Option.map_some, List.append_nil, List.nil_append, List.all_cons, List.all_nil, List.length_cons, List.length_nil, eq_self], by simp only [SS, Nat.reduceBEq, Nat.reduceEqDiff, Nat.reduceAdd, reduceIte, Nat.reduceMul, ptrTo, sliceTo, mapTo, List.getElem?_cons_zero, List.getElem?_cons_succ, Option.map_some, List.append_nil, List.nil_append, List.all_cons, List.all_nil, List.length_cons, List.length_nil, eq_self], by simp only [SS, Nat.reduceBEq, Nat.reduceEqDiff, Nat.reduceAdd, reduceIte, Nat.reduceMul, ptrTo, sliceTo, mapTo, List.getElem?_cons_zero, List.getElem?_cons_succ, Option.map_some, List.append_nil, List.nil_append, List.all_cons, List.all_nil, List.length_cons, List.length_nil, eq_self], by simp only [SS, Nat.reduceBEq, Nat.reduceEqDiff, Nat.reduceAdd, reduceIte, Nat.reduceMul, ptrTo, sliceTo, mapTo, List.getElem?_cons_zero, List.getElem?_cons_succ, Option.map_some, List.append_nil, List.nil_append, List.all_cons, List.all_nil, List.length_cons, List.length_nil, eq_self, t39]⟩
    · exact (hi1.sm s13 (fun _ _ h => h)).sm (F := fun q => q ∈ bs) ⟨n4, fun c hc hb => g4 c hb (by omega)⟩ (fun q hq hb => by have := hlb q hq; have := hbs q hb; omega)
    · rw [numTo_succ, cs_app, List.length_append]; exact o4
    · have := s13.1
      refine ⟨by omega, fun c hc _ => ?_⟩
      rw [g4 c (fun hb => by have := hbs c hb; omega) (by omega), s13.2 c (by omega) (fun h => h), s1.2 c hc (fun h => h)]
    · intro q hq
      have := s13.1
      rcases b4 q hq with h | h
      · exact hbs q h
      · omega
  · obtain rfl : i = L.length := by omega
    simp only [F27, SS, Nat.reduceBEq, Nat.reduceEqDiff, Nat.reduceAdd, reduceIte, Nat.reduceMul, ptrTo, sliceTo, mapTo, List.getElem?_cons_zero, List.getElem?_cons_succ, Option.map_some, List.append_nil, List.nil_append, List.all_cons, List.all_nil, List.length_cons, List.length_nil, eq_self, t0, t3, t4, t5, t39, x_len_41, Int.ofNat_lt, hlt]
    refine hE _ _ _ (by simp) ?_
    simp only [F27, SS, Nat.reduceBEq, Nat.reduceEqDiff, Nat.reduceAdd, reduceIte, Nat.reduceMul, ptrTo, sliceTo, mapTo, List.getElem?_cons_zero, List.getElem?_cons_succ, Option.map_some, List.append_nil, List.nil_append, List.all_cons, List.all_nil, List.length_cons, List.length_nil, eq_self, t3, t39]
    refine hQ _ _ _ _ (.inr rfl) (by simp only [SS, Nat.reduceBEq, Nat.reduceEqDiff, Nat.reduceAdd, reduceIte, Nat.reduceMul, ptrTo, sliceTo, mapTo, List.getElem?_cons_zero, List.getElem?_cons_succ, Option.map_some, List.append_nil, List.nil_append, List.all_cons, List.all_nil, List.length_cons, List.length_nil, eq_self, t39]) (by simp only [SS, Nat.reduceBEq, Nat.reduceEqDiff, Nat.reduceAdd, reduceIte, Nat.reduceMul, ptrTo, sliceTo, mapTo, List.getElem?_cons_zero, List.getElem?_cons_succ, Option.map_some, List.append_nil, List.nil_append, List.all_cons, List.all_nil, List.length_cons, List.length_nil, eq_self]; rfl) ?_
    exact ⟨bs, ho, s1, hbs⟩
end Go.Proofs.Ytlfednnfkejcjaa

namespace Go.Proofs.Ytlfednnfkejcjaa
open Go.Am Go.Qs
set_option maxRecDepth 10000
abbrev u (n : Int) : AV := .int .u32 n
theorem els_sm {F : Nat → Prop} {h h' : Heap} {v : AV} {n s : Nat} {cs : List AV} (hi : Els h v n s cs) (hs : Sm F h h') (hF : ∀ b, blkOf v b → ¬ F b) : Els h' v n s cs := by
  obtain ⟨h0, a, c, g, rfl, h1, h2⟩ := hi
  refine ⟨h0, a, c, g, rfl, h1, fun b o e => ?_⟩
  subst e
  obtain ⟨g1, g2⟩ := h2 b o rfl
  refine ⟨Nat.lt_of_lt_of_le g1 hs.1, ?_⟩
  rw [← g2]
  unfold Heap.ld Heap.cells
  rw [hs.2 b g1 (hF b rfl)]
theorem els_lt {h : Heap} {v : AV} {n s : Nat} {cs : List AV} (hi : Els h v n s cs) {b : Nat} (hb : blkOf v b) : b < h.next := by
  obtain ⟨h0, a, c, g, rfl, h1, h2⟩ := hi
  cases a with
  | none => exact hb.elim
  | some p => have : p.1 = b := hb; rw [← this]; exact (h2 p.1 p.2 rfl).1
/-- the items whose ids are not among those that went -/
def lfTo (L : List It) (G : List Int) : Nat → List It
  | 0 => []
  | i + 1 => if (iti L i).id ∈ G then lfTo L G i else lfTo L G i ++ [iti L i]
theorem lfTo_len (L : List It) (G : List Int) : ∀ i, (lfTo L G i).length ≤ i
  | 0 => Nat.le_refl _
  | i + 1 => by
    have := lfTo_len L G i
    unfold lfTo
    split
    · omega
    · rw [List.length_append]; simp; omega
theorem left_ok {n : Nat} (hn : 1 ≤ n) {h : Heap} {v w : AV} {L : List It} {G : List Int} (hi : Its h v L) (hl : L.length ≤ 1000) (hg : Els h w G.length 1 (G.map u)) (hgl : G.length ≤ 1000) :
    WC (Q n (.fn 29) [v, w] h) fun r h' => ∃ bs, SlO 53 4 h' r (lfTo L G L.length).length (cs (lfTo L G L.length)) bs ∧ Sm NoB h h' ∧ ∀ b, b ∈ bs → h.next ≤ b := by
  obtain ⟨a, c, g, rfl⟩ := hi.sl
  obtain ⟨_, a2, c2, g2, rfl, _⟩ := id hg
  have hlb : ∀ q, blkOf (.slice a L.length c g) q → q < h.next := fun q hq => hi.lt hq
  have hlb2 : ∀ q, blkOf (.slice a2 G.length c2 g2) q → q < h.next := fun q hq => els_lt hg hq
  obtain ⟨m, rfl⟩ : ∃ m, n = m + 1 := ⟨n - 1, by omega⟩
  refine call_fn _ f29A rfl (by simp [fn29]) fun QQ hQ => ?_
  simp only [fn29] at hQ
  simp only [fn29, fill_cons, fill_nil, Nat.zero_add, Nat.reduceAdd]
  simp only [F29, SS, Nat.reduceBEq, Nat.reduceEqDiff, Nat.reduceAdd, reduceIte, Nat.reduceMul, ptrTo, sliceTo, mapTo, List.getElem?_cons_zero, List.getElem?_cons_succ, Option.map_some, List.append_nil, List.nil_append, List.all_cons, List.all_nil, List.length_cons, List.length_nil, eq_self]
  refine run_loop (c := c29_9) (I := fun m' tm' h' => ∃ i r bs, i ≤ L.length ∧ m' = L.length - i ∧ Its h' (.slice a L.length c g) L ∧ Els h' (.slice a2 G.length c2 g2) G.length 1 (G.map u) ∧ SlO 53 4 h' r (lfTo L G i).length (cs (lfTo L G i)) bs ∧ Sm NoB h h' ∧ (∀ b, b ∈ bs → h.next ≤ b) ∧ tm'.gt 0 = some (.slice a L.length c g) ∧ tm'.gt 1 = some (.slice a2 G.length c2 g2) ∧ tm'.gt 5 = some r ∧ tm'.gt 6 = some (I i) ∧ tm'.gt 44 = none) (n := L.length)
    ⟨0, _, [], by omega, rfl, hi, hg, SlO.nil, Sm.refl _ _, (fun _ h => by cases h), by simp only [SS, Nat.reduceBEq, Nat.reduceEqDiff, Nat.reduceAdd, reduceIte, Nat.reduceMul, ptrTo, sliceTo, mapTo, List.getElem?_cons_zero, List.getElem?_cons_succ, Option.map_some, List.append_nil, List.nil_append, List.all_cons, List.all_nil, List.length_cons, List.length_nil, eq_self], by simp only [SS, Nat.reduceBEq, Nat.reduceEqDiff, Nat.reduceAdd, reduceIte, Nat.reduceMul, ptrTo, sliceTo, mapTo, List.getElem?_cons_zero, List.getElem?_cons_succ, Option.map_some, List.append_nil, List.nil_append, List.all_cons, List.all_nil, List.length_cons, List.length_nil, eq_self], by simp only [SS, Nat.reduceBEq, Nat.reduceEqDiff, Nat.reduceAdd, reduceIte, Nat.reduceMul, ptrTo, sliceTo, mapTo, List.getElem?_cons_zero, List.getElem?_cons_succ, Option.map_some, List.append_nil, List.nil_append, List.all_cons, List.all_nil, List.length_cons, List.length_nil, eq_self], by simp only [SS, Nat.reduceBEq, Nat.reduceEqDiff, Nat.reduceAdd, reduceIte, Nat.reduceMul, ptrTo, sliceTo, mapTo, List.getElem?_cons_zero, List.getElem?_cons_succ, Option.map_some, List.append_nil, List.nil_append, List.all_cons, List.all_nil, List.length_cons, List.length_nil, eq_self]; rfl, by simp only [SS, Nat.reduceBEq, Nat.reduceEqDiff, Nat.reduceAdd, reduceIte, Nat.reduceMul, ptrTo, sliceTo, mapTo, List.getElem?_cons_zero, List.getElem?_cons_succ, Option.map_some, List.append_nil, List.nil_append, List.all_cons, List.all_nil, List.length_cons, List.length_nil, eq_self]⟩ (by omega) ?_
  rintro _ tm h1 ⟨i, r, bs, hil, rfl, hi1, hg1, ho, s1, hbs, t0, t1, t5, t6, t44⟩ Q1 hN1 hE
  by_cases hlt : i < L.length
  · simp only [F29, SS, Nat.reduceBEq, Nat.reduceEqDiff, Nat.reduceAdd, reduceIte, Nat.reduceMul, ptrTo, sliceTo, mapTo, List.getElem?_cons_zero, List.getElem?_cons_succ, Option.map_some, List.append_nil, List.nil_append, List.all_cons, List.all_nil, List.length_cons, List.length_nil, eq_self, t0, t1, t5, t6, t44, x_len_41, Int.ofNat_lt, hlt]
    refine run_loop (c := c29_24) (I := fun m' tm' h2 => ∃ k bb, k ≤ G.length ∧ m' = G.length - k ∧ Sm NoB h1 h2 ∧ tm'.gt 0 = some (.slice a L.length c g) ∧ tm'.gt 1 = some (.slice a2 G.length c2 g2) ∧ tm'.gt 5 = some r ∧ tm'.gt 6 = some (I i) ∧ tm'.gt 7 = some (.bool bb) ∧ tm'.gt 8 = some (I k) ∧ tm'.gt 44 = none ∧ (bb = true ↔ ∃ j, j < k ∧ G[j]? = some (iti L i).id)) (n := G.length)
      ⟨0, false, by omega, rfl, Sm.refl _ _, by simp only [SS, Nat.reduceBEq, Nat.reduceEqDiff, Nat.reduceAdd, reduceIte, Nat.reduceMul, ptrTo, sliceTo, mapTo, List.getElem?_cons_zero, List.getElem?_cons_succ, Option.map_some, List.append_nil, List.nil_append, List.all_cons, List.all_nil, List.length_cons, List.length_nil, eq_self, t0], by simp only [SS, Nat.reduceBEq, Nat.reduceEqDiff, Nat.reduceAdd, reduceIte, Nat.reduceMul, ptrTo, sliceTo, mapTo, List.getElem?_cons_zero, List.getElem?_cons_succ, Option.map_some, List.append_nil, List.nil_append, List.all_cons, List.all_nil, List.length_cons, List.length_nil, eq_self, t1], by simp only [SS, Nat.reduceBEq, Nat.reduceEqDiff, Nat.reduceAdd, reduceIte, Nat.reduceMul, ptrTo, sliceTo, mapTo, List.getElem?_cons_zero, List.getElem?_cons_succ, Option.map_some, List.append_nil, List.nil_append, List.all_cons, List.all_nil, List.length_cons, List.length_nil, eq_self, t5], by simp only [SS, Nat.reduceBEq, Nat.reduceEqDiff, Nat.reduceAdd, reduceIte, Nat.reduceMul, ptrTo, sliceTo, mapTo, List.getElem?_cons_zero, List.getElem?_cons_succ, Option.map_some, List.append_nil, List.nil_append, List.all_cons, List.all_nil, List.length_cons, List.length_nil, eq_self, t6], by simp only [SS, Nat.reduceBEq, Nat.reduceEqDiff, Nat.reduceAdd, reduceIte, Nat.reduceMul, ptrTo, sliceTo, mapTo, List.getElem?_cons_zero, List.getElem?_cons_succ, Option.map_some, List.append_nil, List.nil_append, List.all_cons, List.all_nil, List.length_cons, List.length_nil, eq_self], by simp only [SS, Nat.reduceBEq, Nat.reduceEqDiff, Nat.reduceAdd, reduceIte, Nat.reduceMul, ptrTo, sliceTo, mapTo, List.getElem?_cons_zero, List.getElem?_cons_succ, Option.map_some, List.append_nil, List.nil_append, List.all_cons, List.all_nil, List.length_cons, List.length_nil, eq_self]; rfl, by simp only [SS, Nat.reduceBEq, Nat.reduceEqDiff, Nat.reduceAdd, reduceIte, Nat.reduceMul, ptrTo, sliceTo, mapTo, List.getElem?_cons_zero, List.getElem?_cons_succ, Option.map_some, List.append_nil, List.nil_append, List.all_cons, List.all_nil, List.length_cons, List.length_nil, eq_self, t44], ⟨(fun h => by cases h), fun ⟨j, hj, _⟩ => by omega⟩⟩ (by omega) ?_
    rintro _ tm h2 ⟨k, bb, hkl, rfl, s2, t0, t1, t5, t6, t7, t8, t44, hbb⟩ Q2 hN2 hE2
    by_cases hlt2 : k < G.length
    · obtain ⟨hb, eb, sb, _, _⟩ := Sm.bump h2 14
      have s2b := s2.trans sb (fun _ _ h => h) (fun _ _ h => h)
      cases bb with
      | true =>
        simp only [F29, SS, Nat.reduceBEq, Nat.reduceEqDiff, Nat.reduceAdd, reduceIte, Nat.reduceMul, ptrTo, sliceTo, mapTo, List.getElem?_cons_zero, List.getElem?_cons_succ, Option.map_some, List.append_nil, List.nil_append, List.all_cons, List.all_nil, List.length_cons, List.length_nil, eq_self, t0, t1, t5, t6, t7, t8, t44, x_len_43, Int.ofNat_lt, hlt2, eb, wAdd1 (show k ≤ 1000000 by omega)]
        refine hN2 _ _ (G.length - (k + 1)) (by omega) ⟨k + 1, true, hlt2, rfl, s2b, by simp only [SS, Nat.reduceBEq, Nat.reduceEqDiff, Nat.reduceAdd, reduceIte, Nat.reduceMul, ptrTo, sliceTo, mapTo, List.getElem?_cons_zero, List.getElem?_cons_succ, Option.map_some, List.append_nil, List.nil_append, List.all_cons, List.all_nil, List.length_cons, List.length_nil, eq_self, t0], by simp only [SS, Nat.reduceBEq, Nat.reduceEqDiff, Nat.reduceAdd, reduceIte, Nat.reduceMul, ptrTo, sliceTo, mapTo, List.getElem?_cons_zero, List.getElem?_cons_succ, Option.map_some, List.append_nil, List.nil_append, List.all_cons, List.all_nil, List.length_cons, List.length_nil, eq_self, t1], by simp only [SS, Nat.reduceBEq, Nat.reduceEqDiff, Nat.reduceAdd, reduceIte, Nat.reduceMul, ptrTo, sliceTo, mapTo, List.getElem?_cons_zero, List.getElem?_cons_succ, Option.map_some, List.append_nil, List.nil_append, List.all_cons, List.all_nil, List.length_cons, List.length_nil, eq_self, t5], by simp only [SS, Nat.reduceBEq, Nat.reduceEqDiff, Nat.reduceAdd, reduceIte, Nat.reduceMul, ptrTo, sliceTo, mapTo, List.getElem?_cons_zero, List.getElem?_cons_succ, Option.map_some, List.append_nil, List.nil_append, List.all_cons, List.all_nil, List.length_cons, List.length_nil, eq_self, t6], by simp only [SS, Nat.reduceBEq, Nat.reduceEqDiff, Nat.reduceAdd, reduceIte, Nat.reduceMul, ptrTo, sliceTo, mapTo, List.getElem?_cons_zero, List.getElem?_cons_succ, Option.map_some, List.append_nil, List.nil_append, List.all_cons, List.all_nil, List.length_cons, List.length_nil, eq_self], by simp only [SS, Nat.reduceBEq, Nat.reduceEqDiff, Nat.reduceAdd, reduceIte, Nat.reduceMul, ptrTo, sliceTo, mapTo, List.getElem?_cons_zero, List.getElem?_cons_succ, Option.map_some, List.append_nil, List.nil_append, List.all_cons, List.all_nil, List.length_cons, List.length_nil, eq_self], by simp only [SS, Nat.reduceBEq, Nat.reduceEqDiff, Nat.reduceAdd, reduceIte, Nat.reduceMul, ptrTo, sliceTo, mapTo, List.getElem?_cons_zero, List.getElem?_cons_succ, Option.map_some, List.append_nil, List.nil_append, List.all_cons, List.all_nil, List.length_cons, List.length_nil, eq_self, t44], ⟨fun _ => ?_, fun _ => rfl⟩⟩
        obtain ⟨j, j1, j2⟩ := hbb.1 rfl
        exact ⟨j, by omega, j2⟩
      | false =>
        have hib := hi1.sm s2b (fun _ _ h => h)
        have hgb := els_sm hg1 s2b (fun _ _ h => h)
        obtain ⟨b, o, rfl, _, i2, _⟩ := hib.at hlt
        rw [← iti_at hlt] at i2
        obtain ⟨b2, o2, rfl, hcell⟩ := hgb.cell (by omega)
        have lc := hcell k (by omega)
        have hx : G[k]? = some G[k] := List.getElem?_eq_getElem hlt2
        rw [List.getElem?_map, hx, Option.map_some] at lc
        have x1 := x_ia_43 (k := .i64) (b := b2) (o := o2) (c := c2) (g := g2) hlt2
        have x2 := x_ia_41 (k := .i64) (b := b) (o := o) (c := c) (g := g) hlt
        by_cases he : G[k] = (iti L i).id
        · simp only [F29, SS, Nat.reduceBEq, Nat.reduceEqDiff, Nat.reduceAdd, reduceIte, Nat.reduceMul, ptrTo, sliceTo, mapTo, List.getElem?_cons_zero, List.getElem?_cons_succ, Option.map_some, List.append_nil, List.nil_append, List.all_cons, List.all_nil, List.length_cons, List.length_nil, eq_self, t0, t1, t5, t6, t7, t8, t44, x_len_43, Int.ofNat_lt, hlt2, eb, x1, x2, lc, x_fa_53_1, i2, he, wAdd1 (show k ≤ 1000000 by omega)]
          exact hN2 _ _ (G.length - (k + 1)) (by omega) ⟨k + 1, true, hlt2, rfl, s2b, by simp only [SS, Nat.reduceBEq, Nat.reduceEqDiff, Nat.reduceAdd, reduceIte, Nat.reduceMul, ptrTo, sliceTo, mapTo, List.getElem?_cons_zero, List.getElem?_cons_succ, Option.map_some, List.append_nil, List.nil_append, List.all_cons, List.all_nil, List.length_cons, List.length_nil, eq_self, t0], by simp only [SS, Nat.reduceBEq, Nat.reduceEqDiff, Nat.reduceAdd, reduceIte, Nat.reduceMul, ptrTo, sliceTo, mapTo, List.getElem?_cons_zero, List.getElem?_cons_succ, Option.map_some, List.append_nil, List.nil_append, List.all_cons, List.all_nil, List.length_cons, List.length_nil, eq_self, t1], by simp only [SS, Nat.reduceBEq, Nat.reduceEqDiff, Nat.reduceAdd, reduceIte, Nat.reduceMul, ptrTo, sliceTo, mapTo, List.getElem?_cons_zero, List.getElem?_cons_succ, Option.map_some, List.append_nil, List.nil_append, List.all_cons, List.all_nil, List.length_cons, List.length_nil, eq_self, t5], by simp only [SS, Nat.reduceBEq, Nat.reduceEqDiff, Nat.reduceAdd, reduceIte, Nat.reduceMul, ptrTo, sliceTo, mapTo, List.getElem?_cons_zero, List.getElem?_cons_succ, Option.map_some, List.append_nil, List.nil_append, List.all_cons, List.all_nil, List.length_cons, List.length_nil, eq_self, t6], by simp only [SS, Nat.reduceBEq, Nat.reduceEqDiff, Nat.reduceAdd, reduceIte, Nat.reduceMul, ptrTo, sliceTo, mapTo, List.getElem?_cons_zero, List.getElem?_cons_succ, Option.map_some, List.append_nil, List.nil_append, List.all_cons, List.all_nil, List.length_cons, List.length_nil, eq_self], by simp only [SS, Nat.reduceBEq, Nat.reduceEqDiff, Nat.reduceAdd, reduceIte, Nat.reduceMul, ptrTo, sliceTo, mapTo, List.getElem?_cons_zero, List.getElem?_cons_succ, Option.map_some, List.append_nil, List.nil_append, List.all_cons, List.all_nil, List.length_cons, List.length_nil, eq_self], by simp only [SS, Nat.reduceBEq, Nat.reduceEqDiff, Nat.reduceAdd, reduceIte, Nat.reduceMul, ptrTo, sliceTo, mapTo, List.getElem?_cons_zero, List.getElem?_cons_succ, Option.map_some, List.append_nil, List.nil_append, List.all_cons, List.all_nil, List.length_cons, List.length_nil, eq_self, t44], ⟨fun _ => ⟨k, by omega, by rw [hx, he]⟩, fun _ => rfl⟩⟩
        · simp only [F29, SS, Nat.reduceBEq, Nat.reduceEqDiff, Nat.reduceAdd, reduceIte, Nat.reduceMul, ptrTo, sliceTo, mapTo, List.getElem?_cons_zero, List.getElem?_cons_succ, Option.map_some, List.append_nil, List.nil_append, List.all_cons, List.all_nil, List.length_cons, List.length_nil, eq_self, t0, t1, t5, t6, t7, t8, t44, x_len_43, Int.ofNat_lt, hlt2, eb, x1, x2, lc, x_fa_53_1, i2, he, wAdd1 (show k ≤ 1000000 by omega)]
          refine hN2 _ _ (G.length - (k + 1)) (by omega) ⟨k + 1, false, hlt2, rfl, s2b, by simp only [SS, Nat.reduceBEq, Nat.reduceEqDiff, Nat.reduceAdd, reduceIte, Nat.reduceMul, ptrTo, sliceTo, mapTo, List.getElem?_cons_zero, List.getElem?_cons_succ, Option.map_some, List.append_nil, List.nil_append, List.all_cons, List.all_nil, List.length_cons, List.length_nil, eq_self, t0], by simp only [SS, Nat.reduceBEq, Nat.reduceEqDiff, Nat.reduceAdd, reduceIte, Nat.reduceMul, ptrTo, sliceTo, mapTo, List.getElem?_cons_zero, List.getElem?_cons_succ, Option.map_some, List.append_nil, List.nil_append, List.all_cons, List.all_nil, List.length_cons, List.length_nil, eq_self, t1], by simp only [SS, Nat.reduceBEq, Nat.reduceEqDiff, Nat.reduceAdd, reduceIte, Nat.reduceMul, ptrTo, sliceTo, mapTo, List.getElem?_cons_zero, List.getElem?_cons_succ, Option.map_some, List.append_nil, List.nil_append, List.all_cons, List.all_nil, List.length_cons, List.length_nil, eq_self, t5], by simp only [SS, Nat.reduceBEq, Nat.reduceEqDiff, Nat.reduceAdd, reduceIte, Nat.reduceMul, ptrTo, sliceTo, mapTo, List.getElem?_cons_zero, List.getElem?_cons_succ, Option.map_some, List.append_nil, List.nil_append, List.all_cons, List.all_nil, List.length_cons, List.length_nil, eq_self, t6], by simp only [SS, Nat.reduceBEq, Nat.reduceEqDiff, Nat.reduceAdd, reduceIte, Nat.reduceMul, ptrTo, sliceTo, mapTo, List.getElem?_cons_zero, List.getElem?_cons_succ, Option.map_some, List.append_nil, List.nil_append, List.all_cons, List.all_nil, List.length_cons, List.length_nil, eq_self], by simp only [SS, Nat.reduceBEq, Nat.reduceEqDiff, Nat.reduceAdd, reduceIte, Nat.reduceMul, ptrTo, sliceTo, mapTo, List.getElem?_cons_zero, List.getElem?_cons_succ, Option.map_some, List.append_nil, List.nil_append, List.all_cons, List.all_nil, List.length_cons, List.length_nil, eq_self], by simp only [SS, Nat.reduceBEq, Nat.reduceEqDiff, Nat.reduceAdd, reduceIte, Nat.reduceMul, ptrTo, sliceTo, mapTo, List.getElem?_cons_zero, List.getElem?_cons_succ, Option.map_some, List.append_nil, List.nil_append, List.all_cons, List.all_nil, List.length_cons, List.length_nil, eq_self, t44], ⟨fun h => (by cases h), fun ⟨j, j1, j2⟩ => ?_⟩⟩
          by_cases e : j = k
          · rw [e, hx] at j2; exact absurd (Option.some.inj j2) he
          · exact hbb.2 ⟨j, by omega, j2⟩
    · obtain rfl : k = G.length := by omega
      simp only [F29, SS, Nat.reduceBEq, Nat.reduceEqDiff, Nat.reduceAdd, reduceIte, Nat.reduceMul, ptrTo, sliceTo, mapTo, List.getElem?_cons_zero, List.getElem?_cons_succ, Option.map_some, List.append_nil, List.nil_append, List.all_cons, List.all_nil, List.length_cons, List.length_nil, eq_self, t0, t1, t5, t6, t7, t8, t44, x_len_43, Int.ofNat_lt, hlt2]
      refine hE2 _ _ _ (by simp) ?_
      have hmem : bb = true ↔ (iti L i).id ∈ G := by
        rw [hbb]
        constructor
        · rintro ⟨j, _, hj⟩; exact List.mem_of_getElem? hj
        · intro hm
          obtain ⟨j, hj⟩ := List.getElem?_of_mem hm
          exact ⟨j, (List.getElem?_eq_some_iff.1 hj).1, hj⟩
      have hi2 := hi1.sm s2 (fun _ _ h => h)
      have hg2 := els_sm hg1 s2 (fun _ _ h => h)
      have ho2 := ho.sm s2 (fun _ _ h => h)
      have s02 := s1.trans s2 (fun _ _ h => h) (fun _ _ h => h)
      cases bb with
      | true =>
        simp only [F29, SS, Nat.reduceBEq, Nat.reduceEqDiff, Nat.reduceAdd, reduceIte, Nat.reduceMul, ptrTo, sliceTo, mapTo, List.getElem?_cons_zero, List.getElem?_cons_succ, Option.map_some, List.append_nil, List.nil_append, List.all_cons, List.all_nil, List.length_cons, List.length_nil, eq_self, t0, t1, t5, t6, t7, t8, t44, wAdd1 (show i ≤ 1000000 by omega)]
        have hl' : lfTo L G (i + 1) = lfTo L G i := by rw [lfTo, if_pos (hmem.1 rfl)]
        exact hN1 _ _ (L.length - (i + 1)) (by omega) ⟨i + 1, r, bs, hlt, rfl, hi2, hg2, by rw [hl']; exact ho2, s02, hbs, by simp only [SS, Nat.reduceBEq, Nat.reduceEqDiff, Nat.reduceAdd, reduceIte, Nat.reduceMul, ptrTo, sliceTo, mapTo, List.getElem?_cons_zero, List.getElem?_cons_succ, Option.map_some, List.append_nil, List.nil_append, List.all_cons, List.all_nil, List.length_cons, List.length_nil, eq_self, t0], by simp only [SS, Nat.reduceBEq, Nat.reduceEqDiff, Nat.reduceAdd, reduceIte, Nat.reduceMul, ptrTo, sliceTo, mapTo, List.getElem?_cons_zero, List.getElem?_cons_succ, Option.map_some, List.append_nil, List.nil_append, List.all_cons, List.all_nil, List.length_cons, List.length_nil, eq_self, t1], by simp only [SS, Nat.reduceBEq, Nat.reduceEqDiff, Nat.reduceAdd, reduceIte, Nat.reduceMul, ptrTo, sliceTo, mapTo, List.getElem?_cons_zero, List.getElem?_cons_succ, Option.map_some, List.append_nil, List.nil_append, List.all_cons, List.all_nil, List.length_cons, List.length_nil, eq_self, t5], by simp only [SS, Nat.reduceBEq, Nat.reduceEqDiff, Nat.reduceAdd, reduceIte, Nat.reduceMul, ptrTo, sliceTo, mapTo, List.getElem?_cons_zero, List.getElem?_cons_succ, Option.map_some, List.append_nil, List.nil_append, List.all_cons, List.all_nil, List.length_cons, List.length_nil, eq_self], by simp only [SS, Nat.reduceBEq, Nat.reduceEqDiff, Nat.reduceAdd, reduceIte, Nat.reduceMul, ptrTo, sliceTo, mapTo, List.getElem?_cons_zero, List.getElem?_cons_succ, Option.map_some, List.append_nil, List.nil_append, List.all_cons, List.all_nil, List.length_cons, List.length_nil, eq_self, t44]⟩
      | false =>
        have hnm : ¬ (iti L i).id ∈ G := fun h => by cases hmem.2 h
        have hl' : lfTo L G (i + 1) = lfTo L G i ++ [iti L i] := by rw [lfTo, if_neg hnm]
        obtain ⟨b, o, rfl, _, _, _, _, i4⟩ := hi2.at hlt
        rw [← iti_at hlt] at i4
        have x2 := x_ia_41 (k := .i64) (b := b) (o := o) (c := c) (g := g) hlt
        obtain ⟨h3, e3, r3, n3, g3⟩ := Rw.alloc h2 (id := h2.next) (n := 4) (vs := (iti L i).c) (z := []) (ro := false) (Nat.le_refl _) rfl
        have s3 : Sm NoB h2 h3 := ⟨by omega, fun c hc _ => g3 c (by omega)⟩
        have hs6 : srcOf 4 (fun n => n) (.slice (some (h2.next, 0)) 1 1 none) h3 = some ((iti L i).c, 1) := srcOf_row r3 (Nat.le_refl _)
        have hll := lfTo_len L G i
        obtain ⟨v', h4, bs', e4, o4, n4, g4, b4, _⟩ := app_own (t := 41) u_41 s_53 b_53 z_53 rfl (ho2.sm s3 (fun _ _ h => h)) hs6 (by omega) rfl rfl (room_le (by omega) (by omega)) (Nat.le_refl h3.next)
        have ebs : buildSliceN P 41 1 [0] [.agg (iti L i).c] = some (.cells (fillC (iti L i).c .leaf 0) [] 4 false, sliceTo 1) := x_bs_41_1 _ _ _ _
        have hlt3 := (ho2.sm s3 (fun _ _ h => h)).lt
        have s4 : Sm (fun q => q ∈ bs) h3 h4 := ⟨n4, fun c hc hb => g4 c hb (by omega)⟩
        have k1 := s02.1
        simp only [F29, SS, Nat.reduceBEq, Nat.reduceEqDiff, Nat.reduceAdd, reduceIte, Nat.reduceMul, ptrTo, sliceTo, mapTo, List.getElem?_cons_zero, List.getElem?_cons_succ, Option.map_some, List.append_nil, List.nil_append, List.all_cons, List.all_nil, List.length_cons, List.length_nil, eq_self, t0, t1, t5, t6, t7, t8, t44, x2, i4, ebs, e3, e4, wAdd1 (show i ≤ 1000000 by omega)]
        refine hN1 _ _ (L.length - (i + 1)) (by omega) ⟨i + 1, v', bs', hlt, rfl, (hi2.sm s3 (fun _ _ h => h)).sm s4 (fun q hq hb => by have := hlb q hq; have := hbs q hb; omega), els_sm (els_sm hg2 s3 (fun _ _ h => h)) s4 (fun q hq hb => by have := hlb2 q hq; have := hbs q hb; omega), ?_, ?_, fun q hq => ?_, by simp only [SS, Nat.reduceBEq, Nat.reduceEqDiff, Nat.reduceAdd, reduceIte, Nat.reduceMul, ptrTo, sliceTo, mapTo, List.getElem?_cons_zero, List.getElem?_cons_succ, Option.map_some, List.append_nil, List.nil_append, List.all_cons, List.all_nil, List.length_cons, List.length_nil, eq_self, t0], by simp only [SS, Nat.reduceBEq, Nat.reduceEqDiff, Nat.reduceAdd, reduceIte, Nat.reduceMul, ptrTo, sliceTo, mapTo, List.getElem?_cons_zero, List.getElem?_cons_succ, Option.map_some, List.append_nil, List.nil_append, List.all_cons, List.all_nil, List.length_cons, List.length_nil, eq_self, t1], by simp only [SS, Nat.reduceBEq, Nat.reduceEqDiff, Nat.reduceAdd, reduceIte, Nat.reduceMul, ptrTo, sliceTo, mapTo, List.getElem?_cons_zero, List.getElem?_cons_succ, Option.map_some, List.append_nil, List.nil_append, List.all_cons, List.all_nil, List.length_cons, List.length_nil, eq_self], by simp only [SS, Nat.reduceBEq, Nat.reduceEqDiff, Nat.reduceAdd, reduceIte, Nat.reduceMul, ptrTo, sliceTo, mapTo, List.getElem?_cons_zero, List.getElem?_cons_succ, Option.map_some, List.append_nil, List.nil_append, List.all_cons, List.all_nil, List.length_cons, List.length_nil, eq_self], by simp only [SS, Nat.reduceBEq, Nat.reduceEqDiff, Nat.reduceAdd, reduceIte, Nat.reduceMul, ptrTo, sliceTo, mapTo, List.getElem?_cons_zero, List.getElem?_cons_succ, Option.map_some, List.append_nil, List.nil_append, List.all_cons, List.all_nil, List.length_cons, List.length_nil, eq_self, t44]⟩
        · rw [hl', cs_app, List.length_append]; exact o4
        · refine ⟨by omega, fun c hc _ => ?_⟩
          rw [g4 c (fun hb => by have := hbs c hb; omega) (by omega), g3 c (by omega), s02.2 c hc (fun h => h)]
        · rcases b4 q hq with h | h
          · exact hbs q h
          · omega
  · obtain rfl : i = L.length := by omega
    simp only [F29, SS, Nat.reduceBEq, Nat.reduceEqDiff, Nat.reduceAdd, reduceIte, Nat.reduceMul, ptrTo, sliceTo, mapTo, List.getElem?_cons_zero, List.getElem?_cons_succ, Option.map_some, List.append_nil, List.nil_append, List.all_cons, List.all_nil, List.length_cons, List.length_nil, eq_self, t0, t1, t5, t6, t44, x_len_41, Int.ofNat_lt, hlt]
    refine hE _ _ _ (by simp) ?_
    simp only [F29, SS, Nat.reduceBEq, Nat.reduceEqDiff, Nat.reduceAdd, reduceIte, Nat.reduceMul, ptrTo, sliceTo, mapTo, List.getElem?_cons_zero, List.getElem?_cons_succ, Option.map_some, List.append_nil, List.nil_append, List.all_cons, List.all_nil, List.length_cons, List.length_nil, eq_self, t5, t44]
    refine hQ _ _ _ _ (.inr rfl) (by simp only [SS, Nat.reduceBEq, Nat.reduceEqDiff, Nat.reduceAdd, reduceIte, Nat.reduceMul, ptrTo, sliceTo, mapTo, List.getElem?_cons_zero, List.getElem?_cons_succ, Option.map_some, List.append_nil, List.nil_append, List.all_cons, List.all_nil, List.length_cons, List.length_nil, eq_self, t44]) (by simp only [SS, Nat.reduceBEq, Nat.reduceEqDiff, Nat.reduceAdd, reduceIte, Nat.reduceMul, ptrTo, sliceTo, mapTo, List.getElem?_cons_zero, List.getElem?_cons_succ, Option.map_some, List.append_nil, List.nil_append, List.all_cons, List.all_nil, List.length_cons, List.length_nil, eq_self]; rfl) ?_
    exact ⟨bs, ho, s1, hbs⟩
end Go.Proofs.Ytlfednnfkejcjaa

namespace Go.Proofs.Ytlfednnfkejcjaa
open Go.Am Go.Qs
set_option maxRecDepth 10000
/-- a row that is sorted as it stands stays -/
theorem row_id {N : Nat} {d : Nat → Nat} {lt : Nat → Nat → Prop} (hw : Wk lt) (hup : ∀ x y, x < y → y < N → lt x y) (hP : Perm 0 N id d) (hS : Sorted lt 0 N d) : ∀ k, k < N → d k = k := by
  have hd : ∀ k, k < N → d k < N := hP.lt (Nat.le_refl _) (fun k hk => hk)
  have hmono : ∀ i j, i < j → j < N → d i < d j := by
    intro i j hij hj
    have hr := hS i j (Nat.zero_le _) hij hj
    by_cases h : d i < d j
    · exact h
    · exfalso
      by_cases e : d i = d j
      · rw [e] at hr; exact R.asymm hw hr hr
      · exact R.asymm hw hr (.inl (hup (d j) (d i) (by omega) (hd i (by omega))))
  have hge : ∀ k, k < N → k ≤ d k := by
    intro k
    induction k with
    | zero => intro _; omega
    | succ k ih => intro hk; have := ih (by omega); have := hmono k (k + 1) (by omega) hk; omega
  have hle : ∀ j k, k + j + 1 = N → d k ≤ k := by
    intro j
    induction j with
    | zero => intro k hk; have := hd k (by omega); omega
    | succ j ih => intro k hk; have := ih (k + 1) (by omega); have := hmono k (k + 1) (by omega) (by omega); omega
  intro k hk
  have h1 := hge k hk
  have h2 := hle (N - k - 1) k (by omega)
  omega
theorem more_cg {L : List It} {d : Nat → Nat} (hd : ∀ k, k < L.length → d k = k) {i : Nat} (hi : i < L.length) : more L d i ↔ more L id i := by
  unfold more
  constructor
  · rintro ⟨k, h1, h2, h3⟩; rw [hd k h2, hd i hi] at h3; exact ⟨k, h1, h2, h3⟩
  · rintro ⟨k, h1, h2, h3⟩; refine ⟨k, h1, h2, ?_⟩; rw [hd k h2, hd i hi]; exact h3
theorem pr_cg {L : List It} {d : Nat → Nat} (hd : ∀ k, k < L.length → d k = k) (q : Int) : ∀ i, i ≤ L.length → pr L d q i = pr L id q i
  | 0, _ => rfl
  | i + 1, h => by
    have ih := pr_cg hd q i (by omega)
    rw [pr, pr, ih, hd i (by omega)]
    by_cases hm : more L id i
    · have hm' := (more_cg hd (by omega)).2 hm
      by_cases hq : q < (pr L id q i).1
      · rw [if_pos ⟨hm', hq⟩, if_pos ⟨hm, hq⟩]; rfl
      · rw [if_neg (fun h => hq h.2), if_neg (fun h => hq h.2)]
    · rw [if_neg (fun h => hm ((more_cg hd (by omega)).1 h.1)), if_neg (fun h => hm h.1)]
/-- with a greater quota the first ones go -/
theorem pr_mono {L : List It} {d : Nat → Nat} {q q' : Int} (hq : q ≤ q') : ∀ i, (∃ t, (pr L d q i).2 = (pr L d q' i).2 ++ t) ∧ (pr L d q' i = pr L d q i ∨ (pr L d q' i).1 ≤ q')
  | 0 => ⟨⟨[], by unfold pr; rfl⟩, .inl rfl⟩
  | i + 1 => by
    obtain ⟨⟨t, ht⟩, h⟩ := pr_mono hq i
    rcases h with h | h
    · rw [pr, pr, h]
      by_cases hm : more L d i
      · by_cases c1 : q < (pr L d q i).1
        · by_cases c2 : q' < (pr L d q i).1
          · rw [if_pos ⟨hm, c1⟩, if_pos ⟨hm, c2⟩]; exact ⟨⟨[], by rw [List.append_nil]⟩, .inl rfl⟩
          · rw [if_pos ⟨hm, c1⟩, if_neg (fun h => c2 h.2)]; exact ⟨⟨[d i], rfl⟩, .inr (by omega)⟩
        · rw [if_neg (fun h => c1 h.2), if_neg (fun h => c1 (by have := h.2; omega))]; exact ⟨⟨[], by rw [List.append_nil]⟩, .inl rfl⟩
      · rw [if_neg (fun h => hm h.1), if_neg (fun h => hm h.1)]; exact ⟨⟨[], by rw [List.append_nil]⟩, .inl rfl⟩
    · have h1 : pr L d q' (i + 1) = pr L d q' i := pr_stop h 1
      rw [h1]
      refine ⟨?_, .inr h⟩
      rw [pr]
      split
      · exact ⟨t ++ [d i], by rw [ht, List.append_assoc]⟩
      · exact ⟨t, ht⟩
theorem pr_lt {L : List It} {q : Int} : ∀ i k, k ∈ (pr L id q i).2 → k < i
  | 0, k, h => by unfold pr at h; cases h
  | i + 1, k, h => by
    rw [pr] at h
    split at h
    · rcases List.mem_append.1 h with h | h
      · have := pr_lt i k h; omega
      · have := List.mem_singleton.1 h
        have : k = i := this
        omega
    · have := pr_lt i k h; omega
/-- the sizes of those that are not in S -/
def sumF (L : List It) (S : List Nat) : Nat → Int
  | 0 => 0
  | k + 1 => sumF L S k + if k ∈ S then 0 else sz (iti L k).size
theorem sumF_nil (L : List It) : ∀ n, sumF L [] n = sumTo L n
  | 0 => rfl
  | n + 1 => by unfold sumF sumTo; rw [sumF_nil L n, if_neg (by simp)]
theorem sumF_out {L : List It} {S : List Nat} {i : Nat} : ∀ n, n ≤ i → sumF L (S ++ [i]) n = sumF L S n
  | 0, _ => rfl
  | n + 1, h => by
    unfold sumF
    rw [sumF_out n (by omega)]
    have : n ∈ S ++ [i] ↔ n ∈ S := by
      rw [List.mem_append, List.mem_singleton]
      exact ⟨fun h' => h'.elim (fun h => h) (fun h => by omega), .inl⟩
    by_cases hm : n ∈ S
    · rw [if_pos hm, if_pos (this.2 hm)]
    · rw [if_neg hm, if_neg (fun h => hm (this.1 h))]
theorem sumF_in {L : List It} {S : List Nat} {i : Nat} (hi : ¬ i ∈ S) : ∀ n, i < n → sumF L (S ++ [i]) n = sumF L S n - sz (iti L i).size
  | 0, h => by omega
  | n + 1, h => by
    unfold sumF
    by_cases e : n = i
    · subst e
      rw [sumF_out n (Nat.le_refl _), if_pos (by simp), if_neg hi]; omega
    · rw [sumF_in hi n (by omega)]
      have : n ∈ S ++ [i] ↔ n ∈ S := by
        rw [List.mem_append, List.mem_singleton]
        exact ⟨fun h' => h'.elim (fun h => h) (fun h => absurd h e), .inl⟩
      by_cases hm : n ∈ S
      · rw [if_pos hm, if_pos (this.2 hm)]; omega
      · rw [if_neg hm, if_neg (fun h => hm (this.1 h))]; omega
theorem pr_sum {L : List It} {q : Int} : ∀ i, i ≤ L.length → (pr L id q i).1 = sumF L (pr L id q i).2 L.length
  | 0, _ => by unfold pr; rw [sumF_nil]
  | i + 1, h => by
    have ih := pr_sum (L := L) (q := q) i (by omega)
    rw [pr]
    split
    · show _ = sumF L ((pr L id q i).2 ++ [i]) _
      rw [sumF_in (fun h => by have := pr_lt i i h; omega) _ (by omega), ← ih]; rfl
    · exact ih
theorem iti_app {A : List It} {x : It} {k : Nat} (h : k < A.length) : iti (A ++ [x]) k = iti A k := by
  rw [iti_at (by rw [List.length_append]; omega), iti_at h, List.getElem_append_left h]
theorem sumTo_app {A : List It} {x : It} : ∀ k, k ≤ A.length → sumTo (A ++ [x]) k = sumTo A k
  | 0, _ => rfl
  | k + 1, h => by unfold sumTo; rw [sumTo_app k (by omega), iti_app (by omega)]
theorem sumTo_end (A : List It) (x : It) : sumTo (A ++ [x]) (A ++ [x]).length = sumTo A A.length + sz x.size := by
  rw [List.length_append, List.length_singleton]
  show sumTo (A ++ [x]) A.length + sz (iti (A ++ [x]) A.length).size = _
  rw [sumTo_app _ (Nat.le_refl _), iti_at (by rw [List.length_append]; simp)]
  simp
theorem left_sum {L : List It} {S : List Nat} {G : List Int} (hG : ∀ i, i < L.length → ((iti L i).id ∈ G ↔ i ∈ S)) : ∀ i, i ≤ L.length → sumTo (lfTo L G i) (lfTo L G i).length = sumF L S i
  | 0, _ => rfl
  | i + 1, h => by
    have ih := left_sum hG i (by omega)
    unfold lfTo sumF
    by_cases hm : i ∈ S
    · rw [if_pos hm, if_pos ((hG i (by omega)).2 hm), ih]; omega
    · rw [if_neg hm, if_neg (fun h' => hm ((hG i (by omega)).1 h')), sumTo_end, ih]
theorem iti_num {L : List It} {i : Nat} (h : i < L.length) : iti (numTo L L.length) i = nu L i := by
  rw [iti_at (by rw [numTo_len]; exact h)]; simp [numTo]
theorem num_up {L : List It} (ht : Ticks L) : ∀ x y, x < y → y < (numTo L L.length).length → ltI (numTo L L.length) x y := by
  intro x y hxy hy
  rw [numTo_len] at hy
  unfold ltI old
  rw [iti_num (by omega), iti_num hy]
  have hm : ∀ j, x + 1 + j ≤ L.length → tk L (x + 1) ≤ tk L (x + 1 + j) := by
    intro j
    induction j with
    | zero => intro _; exact Int.le_refl _
    | succ j ih =>
      intro h
      have h1 := ih (by omega)
      have h2 := ht (x + 1 + j) (by omega)
      have e : (iti L (x + 1 + j)).tick.tmod 3 = (iti L (x + 1 + j)).tick % 3 := Int.tmod_eq_emod_of_nonneg h2
      show _ ≤ tk L (x + 1 + j) + (iti L (x + 1 + j)).tick.tmod 3
      rw [e]; omega
  have := hm (y - x) (by omega)
  rw [show x + 1 + (y - x) = y + 1 by omega] at this
  show tk L (x + 1) < tk L (y + 1) ∨ _ ∧ ((x + 1 : Nat) : Int) < ((y + 1 : Nat) : Int)
  by_cases e : tk L (x + 1) < tk L (y + 1)
  · exact .inl e
  · exact .inr ⟨show tk L (x + 1) = tk L (y + 1) by omega, by omega⟩
theorem num_mem {L : List It} {S : List Nat} (hS : ∀ k, k ∈ S → k < L.length) : ∀ i, i < (numTo L L.length).length → ((iti (numTo L L.length) i).id ∈ S.map (fun k => (iti (numTo L L.length) k).id) ↔ i ∈ S) := by
  intro i hi
  rw [numTo_len] at hi
  rw [List.mem_map]
  constructor
  · rintro ⟨k, h1, h2⟩
    rw [iti_num (hS k h1), iti_num hi] at h2
    have : ((k + 1 : Nat) : Int) = ((i + 1 : Nat) : Int) := h2
    have : k = i := by omega
    rw [← this]; exact h1
  · intro h; exact ⟨i, h, rfl⟩
end Go.Proofs.Ytlfednnfkejcjaa

namespace Go.Proofs.Ytlfednnfkejcjaa
open Go.Am Go.Qs
set_option maxRecDepth 10000
theorem slo_blk {e s : Nat} {h : Heap} {v : AV} {n : Nat} {cs : List AV} {bs : List Nat} (ho : SlO e s h v n cs bs) {b : Nat} (hb : blkOf v b) : b ∈ bs := by
  rcases ho with ⟨rfl, _⟩ | ⟨b', c, _, _, rfl, _, _, _, _, _, rfl, _⟩
  · exact hb.elim
  · have : b' = b := hb; rw [this]; exact List.mem_singleton.2 rfl
/-- Prune of numbered items: what goes -/
noncomputable def gn (L : List It) (q : Int) : List Nat := (pr (numTo L L.length) id q L.length).2
theorem prune_num {n : Nat} (hn : 70 ≤ n) {h : Heap} {lv : AV} {L : List It} (q : Int) (ht : Ticks L) (hi : Its h lv (numTo L L.length)) (h40 : L.length < 40) :
    WC (Q n (.fn 21) [lv, .int .i64 q] h) fun r h' => ∃ gv ok bs g, r = .tuple [gv, .bool ok] ∧ Sm NoB h h' ∧ SlO 27 1 h' gv g.length (idc (numTo L L.length) g) bs ∧ (∀ b, b ∈ bs → h.next ≤ b) ∧
      ((ok = true ∧ g = gn L q ∧ (pr (numTo L L.length) id q L.length).1 ≤ q) ∨ (ok = false ∧ g = [] ∧ q < (pr (numTo L L.length) id q L.length).1)) := by
  obtain ⟨r, h', e, d, gv, ok, bs, g, rfl, hP, hS, s, o, hb, hc⟩ := prune_ok hn q hi (by rw [numTo_len]; exact h40)
  have hd := row_id (ltI_wk _) (num_up ht) hP hS
  have hp : pr (numTo L L.length) d q (numTo L L.length).length = pr (numTo L L.length) id q L.length := by
    rw [pr_cg hd q _ (Nat.le_refl _), numTo_len]
  rw [hp] at hc
  exact ⟨_, h', e, gv, ok, bs, g, rfl, s, o, hb, hc⟩
/-- Prune of what is left: none goes -/
theorem prune_left {n : Nat} (hn : 70 ≤ n) {h : Heap} {lv : AV} {L : List It} {q : Int} (hi : Its h lv L) (h40 : L.length < 40) (hq : sumTo L L.length ≤ q) :
    WC (Q n (.fn 21) [lv, .int .i64 q] h) fun r h' => ∃ gv bs, r = .tuple [gv, .bool true] ∧ Sm NoB h h' ∧ SlO 27 1 h' gv 0 [] bs := by
  obtain ⟨r, h', e, d, gv, ok, bs, g, rfl, hP, hS, s, o, hb, hc⟩ := prune_ok hn q hi h40
  have hst : pr L d q (0 + L.length) = pr L d q 0 := pr_stop (by unfold pr; exact hq) L.length
  rw [Nat.zero_add] at hst
  rw [hst] at hc
  have h0 : pr L d q 0 = (sumTo L L.length, []) := by unfold pr; rfl
  rw [h0] at hc
  rcases hc with ⟨rfl, rfl, _⟩ | ⟨_, _, h1⟩
  · exact ⟨_, h', e, gv, bs, rfl, s, o⟩
  · have h1 : q < sumTo L L.length := h1
    omega
theorem u_ids (L : List It) (g : List Nat) : idc L g = (g.map fun k => (iti L k).id).map u := by rw [List.map_map]; rfl
end Go.Proofs.Ytlfednnfkejcjaa

namespace Go.Proofs.Ytlfednnfkejcjaa
open Go.Am Go.Qs
set_option maxRecDepth 10000
theorem newest_ok {n : Nat} (hn : 1 ≤ n) {h : Heap} {v : AV} {L : List It} (hi : Its h v L) (hl : L.length ≤ 1000) {i : Nat} (hil : i < L.length) :
    WC (Q n (.fn 28) [v, I i] h) fun r h' => ∃ b, r = .bool b ∧ (b = true ↔ ¬ more L id i) ∧ Sm NoB h h' := by
  obtain ⟨a, c, g, rfl⟩ := hi.sl
  obtain ⟨m, rfl⟩ : ∃ m, n = m + 1 := ⟨n - 1, by omega⟩
  refine call_fn _ f28A rfl (by simp [fn28]) fun QQ hQ => ?_
  simp only [fn28] at hQ
  simp only [fn28, fill_cons, fill_nil, Nat.zero_add, Nat.reduceAdd]
  simp only [F28, SS, Nat.reduceBEq, Nat.reduceEqDiff, Nat.reduceAdd, reduceIte, Nat.reduceMul, ptrTo, sliceTo, mapTo, List.getElem?_cons_zero, List.getElem?_cons_succ, Option.map_some, List.append_nil, List.nil_append, List.all_cons, List.all_nil, List.length_cons, List.length_nil, eq_self, wAdd1 (show i ≤ 1000000 by omega)]
  refine run_loop (c := c28_7) (I := fun m' tm' h' => ∃ k, i < k ∧ k ≤ L.length ∧ m' = L.length - k ∧ Its h' (.slice a L.length c g) L ∧ Sm NoB h h' ∧ (∀ j, i < j → j < k → (iti L j).p ≠ (iti L i).p) ∧ tm'.gt 0 = some (.slice a L.length c g) ∧ tm'.gt 1 = some (I i) ∧ tm'.gt 5 = some (I k) ∧ tm'.gt 25 = none) (n := L.length - (i + 1))
    ⟨i + 1, by omega, by omega, rfl, hi, Sm.refl _ _, (fun j h1 h2 => by omega), by simp only [SS, Nat.reduceBEq, Nat.reduceEqDiff, Nat.reduceAdd, reduceIte, Nat.reduceMul, ptrTo, sliceTo, mapTo, List.getElem?_cons_zero, List.getElem?_cons_succ, Option.map_some, List.append_nil, List.nil_append, List.all_cons, List.all_nil, List.length_cons, List.length_nil, eq_self], by simp only [SS, Nat.reduceBEq, Nat.reduceEqDiff, Nat.reduceAdd, reduceIte, Nat.reduceMul, ptrTo, sliceTo, mapTo, List.getElem?_cons_zero, List.getElem?_cons_succ, Option.map_some, List.append_nil, List.nil_append, List.all_cons, List.all_nil, List.length_cons, List.length_nil, eq_self], by simp only [SS, Nat.reduceBEq, Nat.reduceEqDiff, Nat.reduceAdd, reduceIte, Nat.reduceMul, ptrTo, sliceTo, mapTo, List.getElem?_cons_zero, List.getElem?_cons_succ, Option.map_some, List.append_nil, List.nil_append, List.all_cons, List.all_nil, List.length_cons, List.length_nil, eq_self], by simp only [SS, Nat.reduceBEq, Nat.reduceEqDiff, Nat.reduceAdd, reduceIte, Nat.reduceMul, ptrTo, sliceTo, mapTo, List.getElem?_cons_zero, List.getElem?_cons_succ, Option.map_some, List.append_nil, List.nil_append, List.all_cons, List.all_nil, List.length_cons, List.length_nil, eq_self]⟩ (by omega) ?_
  rintro _ tm h1 ⟨k, hik, hkl, rfl, hi1, s1, hno, t0, t1, t5, t25⟩ Q1 hN1 hE
  by_cases hlt : k < L.length
  · obtain ⟨hb, eb, sb, _, _⟩ := Sm.bump h1 11
    have hib := hi1.sm sb (fun _ _ h => h)
    have s1b := s1.trans sb (fun _ _ h => h) (fun _ _ h => h)
    obtain ⟨b, o, rfl, i1, _⟩ := hib.at hlt
    obtain ⟨b', o', e', j1, _⟩ := hib.at hil
    cases e'
    rw [← iti_at hlt] at i1
    rw [← iti_at hil] at j1
    have x1 := x_ia_41 (k := .i64) (b := b) (o := o) (c := c) (g := g) hlt
    have x2 := x_ia_41 (k := .i64) (b := b) (o := o) (c := c) (g := g) hil
    by_cases he : (iti L k).p = (iti L i).p
    · simp only [F28, SS, Nat.reduceBEq, Nat.reduceEqDiff, Nat.reduceAdd, reduceIte, Nat.reduceMul, ptrTo, sliceTo, mapTo, List.getElem?_cons_zero, List.getElem?_cons_succ, Option.map_some, List.append_nil, List.nil_append, List.all_cons, List.all_nil, List.length_cons, List.length_nil, eq_self, t0, t1, t5, t25, x_len_41, Int.ofNat_lt, hlt, eb, x1, x2, x_fa_53_0, i1, j1, he]
      refine hE _ _ _ (by simp) ?_
      simp only [SS, Nat.reduceBEq, Nat.reduceEqDiff, Nat.reduceAdd, reduceIte, Nat.reduceMul, ptrTo, sliceTo, mapTo, List.getElem?_cons_zero, List.getElem?_cons_succ, Option.map_some, List.append_nil, List.nil_append, List.all_cons, List.all_nil, List.length_cons, List.length_nil, eq_self]
      exact hQ _ _ _ _ (.inr rfl) (by simp only [SS, Nat.reduceBEq, Nat.reduceEqDiff, Nat.reduceAdd, reduceIte, Nat.reduceMul, ptrTo, sliceTo, mapTo, List.getElem?_cons_zero, List.getElem?_cons_succ, Option.map_some, List.append_nil, List.nil_append, List.all_cons, List.all_nil, List.length_cons, List.length_nil, eq_self, t25]) (by simp only [SS, Nat.reduceBEq, Nat.reduceEqDiff, Nat.reduceAdd, reduceIte, Nat.reduceMul, ptrTo, sliceTo, mapTo, List.getElem?_cons_zero, List.getElem?_cons_succ, Option.map_some, List.append_nil, List.nil_append, List.all_cons, List.all_nil, List.length_cons, List.length_nil, eq_self]; rfl) ⟨false, rfl, ⟨(fun h => by cases h), fun h => absurd ⟨k, hik, hlt, he⟩ h⟩, s1b⟩
    · simp only [F28, SS, Nat.reduceBEq, Nat.reduceEqDiff, Nat.reduceAdd, reduceIte, Nat.reduceMul, ptrTo, sliceTo, mapTo, List.getElem?_cons_zero, List.getElem?_cons_succ, Option.map_some, List.append_nil, List.nil_append, List.all_cons, List.all_nil, List.length_cons, List.length_nil, eq_self, t0, t1, t5, t25, x_len_41, Int.ofNat_lt, hlt, eb, x1, x2, x_fa_53_0, i1, j1, he, wAdd1 (show k ≤ 1000000 by omega)]
      refine hN1 _ _ (L.length - (k + 1)) (by omega) ⟨k + 1, by omega, hlt, rfl, hib, s1b, fun j j1 j2 => ?_, by simp only [SS, Nat.reduceBEq, Nat.reduceEqDiff, Nat.reduceAdd, reduceIte, Nat.reduceMul, ptrTo, sliceTo, mapTo, List.getElem?_cons_zero, List.getElem?_cons_succ, Option.map_some, List.append_nil, List.nil_append, List.all_cons, List.all_nil, List.length_cons, List.length_nil, eq_self, t0], by simp only [SS, Nat.reduceBEq, Nat.reduceEqDiff, Nat.reduceAdd, reduceIte, Nat.reduceMul, ptrTo, sliceTo, mapTo, List.getElem?_cons_zero, List.getElem?_cons_succ, Option.map_some, List.append_nil, List.nil_append, List.all_cons, List.all_nil, List.length_cons, List.length_nil, eq_self, t1], by simp only [SS, Nat.reduceBEq, Nat.reduceEqDiff, Nat.reduceAdd, reduceIte, Nat.reduceMul, ptrTo, sliceTo, mapTo, List.getElem?_cons_zero, List.getElem?_cons_succ, Option.map_some, List.append_nil, List.nil_append, List.all_cons, List.all_nil, List.length_cons, List.length_nil, eq_self], by simp only [SS, Nat.reduceBEq, Nat.reduceEqDiff, Nat.reduceAdd, reduceIte, Nat.reduceMul, ptrTo, sliceTo, mapTo, List.getElem?_cons_zero, List.getElem?_cons_succ, Option.map_some, List.append_nil, List.nil_append, List.all_cons, List.all_nil, List.length_cons, List.length_nil, eq_self, t25]⟩
      by_cases e : j = k
      · rw [e]; exact he
      · exact hno j j1 (by omega)
  · obtain rfl : k = L.length := by omega
    simp only [F28, SS, Nat.reduceBEq, Nat.reduceEqDiff, Nat.reduceAdd, reduceIte, Nat.reduceMul, ptrTo, sliceTo, mapTo, List.getElem?_cons_zero, List.getElem?_cons_succ, Option.map_some, List.append_nil, List.nil_append, List.all_cons, List.all_nil, List.length_cons, List.length_nil, eq_self, t0, t1, t5, t25, x_len_41, Int.ofNat_lt, hlt]
    refine hE _ _ _ (by simp) ?_
    simp only [F28, SS, Nat.reduceBEq, Nat.reduceEqDiff, Nat.reduceAdd, reduceIte, Nat.reduceMul, ptrTo, sliceTo, mapTo, List.getElem?_cons_zero, List.getElem?_cons_succ, Option.map_some, List.append_nil, List.nil_append, List.all_cons, List.all_nil, List.length_cons, List.length_nil, eq_self, t25]
    exact hQ _ _ _ _ (.inr rfl) (by simp only [SS, Nat.reduceBEq, Nat.reduceEqDiff, Nat.reduceAdd, reduceIte, Nat.reduceMul, ptrTo, sliceTo, mapTo, List.getElem?_cons_zero, List.getElem?_cons_succ, Option.map_some, List.append_nil, List.nil_append, List.all_cons, List.all_nil, List.length_cons, List.length_nil, eq_self, t25]) (by simp only [SS, Nat.reduceBEq, Nat.reduceEqDiff, Nat.reduceAdd, reduceIte, Nat.reduceMul, ptrTo, sliceTo, mapTo, List.getElem?_cons_zero, List.getElem?_cons_succ, Option.map_some, List.append_nil, List.nil_append, List.all_cons, List.all_nil, List.length_cons, List.length_nil, eq_self]; rfl) ⟨true, rfl, ⟨fun _ ⟨j, h1, h2, h3⟩ => hno j h1 h2 h3, fun _ => rfl⟩, s1⟩

/-! The plain law of QuotaOldest: of a row that is sorted as it stands -/
theorem pr_step {L : List It} {q : Int} {i : Nat} (hm : more L id i) (hq : q < (pr L id q i).1) : pr L id q (i + 1) = ((pr L id q i).1 - sz (iti L i).size, (pr L id q i).2 ++ [i]) := by
  rw [pr, if_pos ⟨hm, hq⟩]; rfl
theorem pr_more {L : List It} {q : Int} : ∀ i k, k ∈ (pr L id q i).2 → more L id k
  | 0, k, h => by unfold pr at h; cases h
  | i + 1, k, h => by
    rw [pr] at h
    split at h
    · rename_i hc
      rcases List.mem_append.1 h with h | h
      · exact pr_more i k h
      · have : k = i := List.mem_singleton.1 h
        rw [this]; exact hc.1
    · exact pr_more i k h
theorem pr_anti {L : List It} {q : Int} (i : Nat) : ∀ k, (pr L id q (i + k)).1 ≤ (pr L id q i).1
  | 0 => Int.le_refl _
  | k + 1 => by
    have ih := pr_anti (L := L) (q := q) i k
    show (pr L id q (i + k + 1)).1 ≤ _
    have := sz_le (iti L (id (i + k))).size
    rw [pr]
    split
    · show (pr L id q (i + k)).1 - sz (iti L (id (i + k))).size ≤ _
      omega
    · exact ih
/-- an older one that may go has gone, if the quota was not yet met at it -/
theorem pr_all {L : List It} {q : Int} : ∀ i k, k < i → more L id k → q < (pr L id q k).1 → k ∈ (pr L id q i).2
  | 0, k, h, _, _ => by omega
  | i + 1, k, h, hm, hq => by
    by_cases e : k = i
    · subst e; rw [pr_step hm hq]; exact List.mem_append_right _ (List.mem_singleton.2 rfl)
    · have ih := pr_all i k (by omega) hm hq
      rw [pr]
      split
      · exact List.mem_append_left _ ih
      · exact ih
/-- what went stands in rising order; ahead of each the quota was not met, and just those ahead of it had gone -/
theorem pr_at {L : List It} {q : Int} : ∀ i (t : Nat) k, (pr L id q i).2[t]? = some k → k < i ∧ q < (pr L id q k).1 ∧ (pr L id q k).2 = (pr L id q i).2.take t
  | 0, t, k, h => by unfold pr at h; cases h
  | i + 1, t, k, h => by
    by_cases hc : more L id i ∧ q < (pr L id q i).1
    · rw [pr_step hc.1 hc.2] at h ⊢
      have h : ((pr L id q i).2 ++ [i])[t]? = some k := h
      show k < i + 1 ∧ _ ∧ _ = ((pr L id q i).2 ++ [i]).take t
      by_cases ht : t < (pr L id q i).2.length
      · rw [List.getElem?_append_left ht] at h
        obtain ⟨h1, h2, h3⟩ := pr_at i t k h
        exact ⟨by omega, h2, by rw [List.take_append_of_le_length (by omega)]; exact h3⟩
      · rw [List.getElem?_append_right (by omega)] at h
        have ht0 : t - (pr L id q i).2.length = 0 := by
          by_cases e : t - (pr L id q i).2.length = 0
          · exact e
          · rw [List.getElem?_eq_none (by simp; omega)] at h; cases h
        rw [ht0] at h
        have hk : i = k := Option.some.inj h
        subst hk
        refine ⟨by omega, hc.2, ?_⟩
        rw [show t = (pr L id q i).2.length by omega, List.take_left']
        rfl
    · have e : pr L id q (i + 1) = pr L id q i := by rw [pr, if_neg hc]
      rw [e] at h ⊢
      obtain ⟨h1, h2, h3⟩ := pr_at i t k h
      exact ⟨by omega, h2, h3⟩
theorem pr_rise {L : List It} {q : Int} {i t k k' : Nat} (h : (pr L id q i).2[t]? = some k) (h' : (pr L id q i).2[t + 1]? = some k') : k < k' := by
  obtain ⟨a1, _, a3⟩ := pr_at i (t + 1) k' h'
  have : k ∈ (pr L id q k').2 := by
    rw [a3]
    refine List.mem_of_getElem? (i := t) ?_
    rw [List.getElem?_take_of_lt (by omega)]; exact h
  exact pr_lt _ _ this
open Classical in
/-- the newest ones' sizes -/
noncomputable def topF (L : List It) : Nat → Int
  | 0 => 0
  | k + 1 => topF L k + if more L id k then 0 else sz (iti L k).size
theorem topF_le {L : List It} {S : List Nat} (hS : ∀ k, k ∈ S → more L id k) : ∀ n, topF L n ≤ sumF L S n
  | 0 => Int.le_refl _
  | n + 1 => by
    have ih := topF_le hS n
    have := sz_le (iti L n).size
    unfold topF sumF
    by_cases h1 : n ∈ S
    · rw [if_pos h1, if_pos (hS n h1)]; omega
    · rw [if_neg h1]
      split <;> omega
theorem topF_eq {L : List It} {S : List Nat} : ∀ n, (∀ k, k < n → (k ∈ S ↔ more L id k)) → topF L n = sumF L S n
  | 0, _ => rfl
  | n + 1, h => by
    have ih := topF_eq n fun k hk => h k (by omega)
    unfold topF sumF
    rw [ih]
    by_cases h1 : n ∈ S
    · rw [if_pos h1, if_pos ((h n (by omega)).1 h1)]
    · rw [if_neg h1, if_neg (fun h' => h1 ((h n (by omega)).2 h'))]
/-- false is told just if the newest ones alone are above the quota -/
theorem pr_tops {L : List It} {q : Int} : (pr L id q L.length).1 ≤ q ↔ topF L L.length ≤ q := by
  have hs := pr_sum (L := L) (q := q) L.length (Nat.le_refl _)
  constructor
  · intro h
    have := topF_le (L := L) (S := (pr L id q L.length).2) (fun k hk => pr_more _ k hk) L.length
    omega
  · intro h
    by_cases hc : (pr L id q L.length).1 ≤ q
    · exact hc
    · exfalso
      have := topF_eq (L := L) (S := (pr L id q L.length).2) L.length fun k hk => ⟨fun h => pr_more _ k h, fun hm => pr_all _ k hk hm (by
        have := pr_anti (L := L) (q := q) k (L.length - k)
        rw [show k + (L.length - k) = L.length by omega] at this
        omega)⟩
      omega
end Go.Proofs.Ytlfednnfkejcjaa

namespace Go.Proofs.Ytlfednnfkejcjaa
open Go.Am Go.Qs
set_option maxRecDepth 10000
open Classical in
/-- the newest ones of paths -/
noncomputable def tpTo (M : List It) : Nat → List It
  | 0 => []
  | i + 1 => if more M id i then tpTo M i else tpTo M i ++ [iti M i]
theorem tpTo_len (M : List It) : ∀ i, (tpTo M i).length ≤ i
  | 0 => Nat.le_refl _
  | i + 1 => by
    have := tpTo_len M i
    unfold tpTo
    split
    · omega
    · rw [List.length_append]; simp; omega
theorem tp_sum (M : List It) : ∀ i, sumTo (tpTo M i) (tpTo M i).length = topF M i
  | 0 => rfl
  | i + 1 => by
    have ih := tp_sum M i
    unfold tpTo topF
    split
    · rw [ih]; omega
    · rw [sumTo_end, ih]
def Ids (M : List It) : Prop := ∀ i, i < M.length → (iti M i).id = ((i + 1 : Nat) : Int)
theorem ids_num (L : List It) : Ids (numTo L L.length) := fun i hi => by rw [numTo_len] at hi; rw [iti_num hi]; rfl
theorem ids_mem {M : List It} (hM : Ids M) {S : List Nat} (hS : ∀ k, k ∈ S → k < M.length) : ∀ i, i < M.length → ((iti M i).id ∈ S.map (fun k => (iti M k).id) ↔ i ∈ S) := by
  intro i hi
  rw [List.mem_map]
  constructor
  · rintro ⟨k, h1, h2⟩
    rw [hM k (hS k h1), hM i hi] at h2
    have : k = i := by omega
    rw [← this]; exact h1
  · intro h; exact ⟨i, h, rfl⟩
/-- how many are left -/
theorem left_len {M : List It} {S : List Nat} {G : List Int} (hG : ∀ i, i < M.length → ((iti M i).id ∈ G ↔ i ∈ S)) : ∀ i, i ≤ M.length → (lfTo M G i).length + (S.filter (· < i)).length = i + 0 ∨ ¬ S.Nodup
  | 0, _ => by
    left
    have : S.filter (fun x => decide (x < 0)) = [] := by rw [List.filter_eq_nil_iff]; intro a _; simp
    simp only [this]; rfl
  | i + 1, h => by
    rcases left_len hG i (by omega) with ih | ih
    · by_cases hn : S.Nodup
      · left
        have hcount : (S.filter (fun x => decide (x < i + 1))).length = (S.filter (fun x => decide (x < i))).length + (if i ∈ S then 1 else 0) := by
          clear ih hG
          induction S with
          | nil => rfl
          | cons x S ihS =>
            have hx := List.nodup_cons.1 hn
            have ihS := ihS hx.2
            rw [List.filter_cons, List.filter_cons]
            by_cases e : x = i
            · subst e
              rw [if_pos (by simp), if_neg (by simp), if_pos (List.mem_cons_self ..), List.length_cons, ihS, if_neg hx.1]
            · have hm : i ∈ x :: S ↔ i ∈ S := by
                rw [List.mem_cons]; exact ⟨fun h => h.elim (fun h => absurd h.symm e) (fun h => h), .inr⟩
              by_cases e1 : x < i
              · rw [if_pos (by simpa using (by omega : x < i + 1)), if_pos (by simpa using e1), List.length_cons, List.length_cons, ihS]
                by_cases hi : i ∈ S
                · rw [if_pos hi, if_pos (hm.2 hi)]
                · rw [if_neg hi, if_neg (fun h => hi (hm.1 h))]
              · rw [if_neg (by simpa using (by omega : ¬ x < i + 1)), if_neg (by simpa using e1), ihS]
                by_cases hi : i ∈ S
                · rw [if_pos hi, if_pos (hm.2 hi)]
                · rw [if_neg hi, if_neg (fun h => hi (hm.1 h))]
        unfold lfTo
        rw [hcount]
        by_cases hm : i ∈ S
        · rw [if_pos ((hG i (by omega)).2 hm), if_pos hm]; omega
        · rw [if_neg (fun h' => hm ((hG i (by omega)).1 h')), if_neg hm, List.length_append, List.length_singleton]; omega
      · exact .inr hn
    · exact .inr ih
theorem pr_nodup {L : List It} {q : Int} : ∀ i, (pr L id q i).2.Nodup
  | 0 => by unfold pr; exact List.nodup_nil
  | i + 1 => by
    have ih := pr_nodup (L := L) (q := q) i
    rw [pr]
    split
    · show ((pr L id q i).2 ++ [i]).Nodup
      rw [List.nodup_append]
      exact ⟨ih, List.nodup_cons.2 ⟨List.not_mem_nil, List.nodup_nil⟩, fun a ha b hb => by rw [List.mem_singleton.1 hb]; have := pr_lt _ _ ha; omega⟩
    · exact ih
theorem pr_count {M : List It} (hM : Ids M) {q : Int} : (lfTo M ((pr M id q M.length).2.map fun k => (iti M k).id) M.length).length + (pr M id q M.length).2.length = M.length := by
  rcases left_len (ids_mem hM (fun k hk => pr_lt _ _ hk)) M.length (Nat.le_refl _) with h | h
  · have hf : ((pr M id q M.length).2.filter (fun x => decide (x < M.length))) = (pr M id q M.length).2 := by
      rw [List.filter_eq_self]; intro a ha; simpa using pr_lt _ _ ha
    rw [hf] at h; omega
  · exact absurd (pr_nodup _) h
end Go.Proofs.Ytlfednnfkejcjaa

namespace Go.Proofs.Ytlfednnfkejcjaa
open Go.Am Go.Qs
set_option maxRecDepth 10000
theorem els_take {h : Heap} {a : Option (Nat × Nat)} {n c s : Nat} {g : Option Nat} {cs : List AV} (hv : Els h (.slice a n c g) n s cs) {k : Nat} (hk : k ≤ n) : Els h (.slice a k c g) k s (cs.take (k * s)) := by
  obtain ⟨h0, a', c', g', e, h1, h2⟩ := hv
  cases e
  refine ⟨by rw [List.length_take, h0, Nat.min_eq_left (Nat.mul_le_mul_right s hk)], a, c, g, rfl, fun h => by have := h1 h; omega, fun b o e => ?_⟩
  obtain ⟨g1, g2⟩ := h2 b o e
  refine ⟨g1, ?_⟩
  have := ld_part g2 (i := 0) (k := k * s) (by rw [Nat.zero_add]; exact Nat.mul_le_mul_right s hk)
  rw [Nat.add_zero, List.drop_zero] at this
  exact this
theorem its_sub {h : Heap} {a : Option (Nat × Nat)} {c : Nat} {g : Option Nat} {M : List It} (hi : Its h (.slice a M.length c g) M) {i : Nat} (hl : i < M.length) : Its h (.slice (a.map fun p => (p.1, p.2 + i * 4)) (i + 1 - i) (c - i) g) [iti M i] := by
  obtain ⟨b, o, rfl, _, _, _, _, i4⟩ := hi.at hl
  rw [← iti_at hl] at i4
  have hlt := hi.lt (b := b) rfl
  rw [show i + 1 - i = 1 by omega]
  refine ⟨rfl, some (b, o + i * 4), c - i, g, rfl, (fun e => by cases e), fun b' o' e => ?_⟩
  cases e
  exact ⟨hlt, fun _ => i4⟩
theorem oldest_ok {n : Nat} (hn : 80 ≤ n) {h : Heap} {v : AV} {L : List It} {q : Int} (hi : Its h v L) (ht : Ticks L) :
    WC (Q n (.fn 5) [v, .int .i64 q] h) fun r h' => r = .bool true := by
  obtain ⟨m, rfl⟩ : ∃ m, n = m + 1 := ⟨n - 1, by omega⟩
  refine call_fn _ f5A rfl (by simp [fn5]) fun QQ hQ => ?_
  simp only [fn5] at hQ
  simp only [fn5, fill_cons, fill_nil, Nat.zero_add, Nat.reduceAdd]
  obtain ⟨_, _, ef, rfl, b, rfl, hb⟩ := few_ok (n := m) (by omega) hi
  cases b with
  | false =>
    simp only [F5, r5_61, SS, Nat.reduceBEq, Nat.reduceEqDiff, Nat.reduceAdd, reduceIte, Nat.reduceMul, ptrTo, sliceTo, mapTo, List.getElem?_cons_zero, List.getElem?_cons_succ, Option.map_some, List.append_nil, List.nil_append, List.all_cons, List.all_nil, List.length_cons, List.length_nil, eq_self, ef, works_q (show 1 ≤ m by omega)]
    exact hQ _ _ _ _ (.inr rfl) (by simp only [SS, Nat.reduceBEq, Nat.reduceEqDiff, Nat.reduceAdd, reduceIte, Nat.reduceMul, ptrTo, sliceTo, mapTo, List.getElem?_cons_zero, List.getElem?_cons_succ, Option.map_some, List.append_nil, List.nil_append, List.all_cons, List.all_nil, List.length_cons, List.length_nil, eq_self]) (by simp only [SS, Nat.reduceBEq, Nat.reduceEqDiff, Nat.reduceAdd, reduceIte, Nat.reduceMul, ptrTo, sliceTo, mapTo, List.getElem?_cons_zero, List.getElem?_cons_succ, Option.map_some, List.append_nil, List.nil_append, List.all_cons, List.all_nil, List.length_cons, List.length_nil, eq_self]; rfl) rfl
  | true =>
  have hl := hb rfl
  obtain ⟨lv, h1, e1, bs1, o1, s1, k1⟩ := numbered_ok (n := m) (by omega) hi (by omega) ht
  obtain ⟨_, h2, e2, gv, ok, bs2, S, rfl, s2, o2, k2, hc⟩ := prune_num (n := m) (by omega) q ht (slo_its o1) (by omega)
  have hMl := numTo_len L L.length
  have hIds := ids_num L
  unfold gn at hc
  rw [← hMl] at hc hl
  rw [numTo_len] at hc
  generalize hM : numTo L L.length = M at *
  rw [← hMl] at hc
  have o12 := o1.sm s2 (fun _ _ h => h)
  obtain ⟨_, a, c, g, rfl, _⟩ := id o12.els
  obtain ⟨_, a2, c2, g2, rfl, _⟩ := id o2.els
  have hSl : S.length ≤ M.length := by
    rcases hc with ⟨_, rfl, _⟩ | ⟨_, rfl, _⟩
    · exact (pr_le _ _ _ _).2.2
    · exact Nat.zero_le _
  simp only [F5, r5_61, SS, Nat.reduceBEq, Nat.reduceEqDiff, Nat.reduceAdd, reduceIte, Nat.reduceMul, ptrTo, sliceTo, mapTo, List.getElem?_cons_zero, List.getElem?_cons_succ, Option.map_some, List.append_nil, List.nil_append, List.all_cons, List.all_nil, List.length_cons, List.length_nil, eq_self, ef, e1, e2]
  refine run_loop (c := c5_21) (I := fun m' tm' h' => ∃ i tv bs, i ≤ M.length ∧ m' = M.length - i ∧ SlO 53 4 h' (.slice a M.length c g) M.length (cs M) bs1 ∧ SlO 27 1 h' (.slice a2 S.length c2 g2) S.length (idc M S) bs2 ∧ SlO 53 4 h' tv (tpTo M i).length (cs (tpTo M i)) bs ∧ (∀ b, b ∈ bs → h2.next ≤ b) ∧ h2.next ≤ h'.next ∧ tm'.gt 1 = some (.int .i64 q) ∧ tm'.gt 5 = some (.slice a M.length c g) ∧ tm'.gt 6 = some (.slice a2 S.length c2 g2) ∧ tm'.gt 7 = some (.bool ok) ∧ tm'.gt 8 = some tv ∧ tm'.gt 9 = some (I i) ∧ tm'.gt 177 = none) (n := M.length)
    ⟨0, _, [], by omega, rfl, o12, o2, SlO.nil, (fun _ h => by cases h), Nat.le_refl _, by simp only [SS, Nat.reduceBEq, Nat.reduceEqDiff, Nat.reduceAdd, reduceIte, Nat.reduceMul, ptrTo, sliceTo, mapTo, List.getElem?_cons_zero, List.getElem?_cons_succ, Option.map_some, List.append_nil, List.nil_append, List.all_cons, List.all_nil, List.length_cons, List.length_nil, eq_self], by simp only [SS, Nat.reduceBEq, Nat.reduceEqDiff, Nat.reduceAdd, reduceIte, Nat.reduceMul, ptrTo, sliceTo, mapTo, List.getElem?_cons_zero, List.getElem?_cons_succ, Option.map_some, List.append_nil, List.nil_append, List.all_cons, List.all_nil, List.length_cons, List.length_nil, eq_self], by simp only [SS, Nat.reduceBEq, Nat.reduceEqDiff, Nat.reduceAdd, reduceIte, Nat.reduceMul, ptrTo, sliceTo, mapTo, List.getElem?_cons_zero, List.getElem?_cons_succ, Option.map_some, List.append_nil, List.nil_append, List.all_cons, List.all_nil, List.length_cons, List.length_nil, eq_self], by simp only [SS, Nat.reduceBEq, Nat.reduceEqDiff, Nat.reduceAdd, reduceIte, Nat.reduceMul, ptrTo, sliceTo, mapTo, List.getElem?_cons_zero, List.getElem?_cons_succ, Option.map_some, List.append_nil, List.nil_append, List.all_cons, List.all_nil, List.length_cons, List.length_nil, eq_self], by simp only [SS, Nat.reduceBEq, Nat.reduceEqDiff, Nat.reduceAdd, reduceIte, Nat.reduceMul, ptrTo, sliceTo, mapTo, List.getElem?_cons_zero, List.getElem?_cons_succ, Option.map_some, List.append_nil, List.nil_append, List.all_cons, List.all_nil, List.length_cons, List.length_nil, eq_self], by simp only [SS, Nat.reduceBEq, Nat.reduceEqDiff, Nat.reduceAdd, reduceIte, Nat.reduceMul, ptrTo, sliceTo, mapTo, List.getElem?_cons_zero, List.getElem?_cons_succ, Option.map_some, List.append_nil, List.nil_append, List.all_cons, List.all_nil, List.length_cons, List.length_nil, eq_self]; rfl, by simp only [SS, Nat.reduceBEq, Nat.reduceEqDiff, Nat.reduceAdd, reduceIte, Nat.reduceMul, ptrTo, sliceTo, mapTo, List.getElem?_cons_zero, List.getElem?_cons_succ, Option.map_some, List.append_nil, List.nil_append, List.all_cons, List.all_nil, List.length_cons, List.length_nil, eq_self]⟩ (by omega) ?_
  rintro _ tm h3 ⟨i, tv, bs, hil, rfl, p1, p2, p3, hbs, hn3, t1, t5, t6, t7, t8, t9, t177⟩ Q1 hN1 hE
  have hlt1 := o12.lt
  have hlt2 := o2.lt
  by_cases hlt : i < M.length
  · obtain ⟨r4, h4, e4, bb, rfl, hbb, s4⟩ := newest_ok (n := m) (by omega) (slo_its p1) (by omega) hlt
    have hn4 := s4.1
    cases bb with
    | false =>
      have hmo : more M id i := Classical.not_not.1 (fun h => by cases hbb.2 h)
      simp only [F5, r5_61, SS, Nat.reduceBEq, Nat.reduceEqDiff, Nat.reduceAdd, reduceIte, Nat.reduceMul, ptrTo, sliceTo, mapTo, List.getElem?_cons_zero, List.getElem?_cons_succ, Option.map_some, List.append_nil, List.nil_append, List.all_cons, List.all_nil, List.length_cons, List.length_nil, eq_self, t1, t5, t6, t7, t8, t9, t177, x_len_41, Int.ofNat_lt, hlt, e4, wAdd1 (show i ≤ 1000000 by omega)]
      exact hN1 _ _ (M.length - (i + 1)) (by omega) ⟨i + 1, tv, bs, hlt, rfl, p1.sm s4 (fun _ _ h => h), p2.sm s4 (fun _ _ h => h), by rw [tpTo, if_pos hmo]; exact p3.sm s4 (fun _ _ h => h), hbs, by omega, by simp only [SS, Nat.reduceBEq, Nat.reduceEqDiff, Nat.reduceAdd, reduceIte, Nat.reduceMul, ptrTo, sliceTo, mapTo, List.getElem?_cons_zero, List.getElem?_cons_succ, Option.map_some, List.append_nil, List.nil_append, List.all_cons, List.all_nil, List.length_cons, List.length_nil, eq_self, t1], by simp only [SS, Nat.reduceBEq, Nat.reduceEqDiff, Nat.reduceAdd, reduceIte, Nat.reduceMul, ptrTo, sliceTo, mapTo, List.getElem?_cons_zero, List.getElem?_cons_succ, Option.map_some, List.append_nil, List.nil_append, List.all_cons, List.all_nil, List.length_cons, List.length_nil, eq_self, t5], by simp only [SS, Nat.reduceBEq, Nat.reduceEqDiff, Nat.reduceAdd, reduceIte, Nat.reduceMul, ptrTo, sliceTo, mapTo, List.getElem?_cons_zero, List.getElem?_cons_succ, Option.map_some, List.append_nil, List.nil_append, List.all_cons, List.all_nil, List.length_cons, List.length_nil, eq_self, t6], by simp only [SS, Nat.reduceBEq, Nat.reduceEqDiff, Nat.reduceAdd, reduceIte, Nat.reduceMul, ptrTo, sliceTo, mapTo, List.getElem?_cons_zero, List.getElem?_cons_succ, Option.map_some, List.append_nil, List.nil_append, List.all_cons, List.all_nil, List.length_cons, List.length_nil, eq_self, t7], by simp only [SS, Nat.reduceBEq, Nat.reduceEqDiff, Nat.reduceAdd, reduceIte, Nat.reduceMul, ptrTo, sliceTo, mapTo, List.getElem?_cons_zero, List.getElem?_cons_succ, Option.map_some, List.append_nil, List.nil_append, List.all_cons, List.all_nil, List.length_cons, List.length_nil, eq_self, t8], by simp only [SS, Nat.reduceBEq, Nat.reduceEqDiff, Nat.reduceAdd, reduceIte, Nat.reduceMul, ptrTo, sliceTo, mapTo, List.getElem?_cons_zero, List.getElem?_cons_succ, Option.map_some, List.append_nil, List.nil_append, List.all_cons, List.all_nil, List.length_cons, List.length_nil, eq_self], by simp only [SS, Nat.reduceBEq, Nat.reduceEqDiff, Nat.reduceAdd, reduceIte, Nat.reduceMul, ptrTo, sliceTo, mapTo, List.getElem?_cons_zero, List.getElem?_cons_succ, Option.map_some, List.append_nil, List.nil_append, List.all_cons, List.all_nil, List.length_cons, List.length_nil, eq_self, t177]⟩
    | true =>
      have hmo := hbb.1 rfl
      have hi4 := slo_its (p1.sm s4 (fun _ _ h => h))
      obtain ⟨b, o, rfl, _, _, _, _, i4⟩ := hi4.at hlt
      rw [← iti_at hlt] at i4
      have x2 := x_ia_41 (k := .i64) (b := b) (o := o) (c := c) (g := g) hlt
      obtain ⟨h5, e5, r5, n5, g5⟩ := Rw.alloc h4 (id := h4.next) (n := 4) (vs := (iti M i).c) (z := []) (ro := false) (Nat.le_refl _) rfl
      have s5 : Sm NoB h4 h5 := ⟨by omega, fun c hc _ => g5 c (by omega)⟩
      have hs6 : srcOf 4 (fun n => n) (.slice (some (h4.next, 0)) 1 1 none) h5 = some ((iti M i).c, 1) := srcOf_row r5 (Nat.le_refl _)
      have hll := tpTo_len M i
      have p35 := (p3.sm s4 (fun _ _ h => h)).sm s5 (fun _ _ h => h)
      obtain ⟨v', h6, bs', e6, o6, n6, g6, b6, _⟩ := app_own (t := 41) u_41 s_53 b_53 z_53 rfl p35 hs6 (by omega) rfl rfl (room_le (by omega) (by omega)) (Nat.le_refl h5.next)
      have ebs : buildSliceN P 41 1 [0] [.agg (iti M i).c] = some (.cells (fillC (iti M i).c .leaf 0) [] 4 false, sliceTo 1) := x_bs_41_1 _ _ _ _
      have hlt5 := p35.lt
      have s6 : Sm (fun q => q ∈ bs) h5 h6 := ⟨n6, fun c hc hb => g6 c hb (by omega)⟩
      simp only [F5, r5_61, SS, Nat.reduceBEq, Nat.reduceEqDiff, Nat.reduceAdd, reduceIte, Nat.reduceMul, ptrTo, sliceTo, mapTo, List.getElem?_cons_zero, List.getElem?_cons_succ, Option.map_some, List.append_nil, List.nil_append, List.all_cons, List.all_nil, List.length_cons, List.length_nil, eq_self, t1, t5, t6, t7, t8, t9, t177, x_len_41, Int.ofNat_lt, hlt, e4, x2, i4, ebs, e5, e6, wAdd1 (show i ≤ 1000000 by omega)]
      refine hN1 _ _ (M.length - (i + 1)) (by omega) ⟨i + 1, v', bs', hlt, rfl, ((p1.sm s4 (fun _ _ h => h)).sm s5 (fun _ _ h => h)).sm s6 (fun q hq hb => by have := hlt1 q hq; have := hbs q hb; omega), ((p2.sm s4 (fun _ _ h => h)).sm s5 (fun _ _ h => h)).sm s6 (fun q hq hb => by have := hlt2 q hq; have := hbs q hb; omega), ?_, fun q hq => ?_, by omega, by simp only [SS, Nat.reduceBEq, Nat.reduceEqDiff, Nat.reduceAdd, reduceIte, Nat.reduceMul, ptrTo, sliceTo, mapTo, List.getElem?_cons_zero, List.getElem?_cons_succ, Option.map_some, List.append_nil, List.nil_append, List.all_cons, List.all_nil, List.length_cons, List.length_nil, eq_self, t1], by simp only [SS, Nat.reduceBEq, Nat.reduceEqDiff, Nat.reduceAdd, reduceIte, Nat.reduceMul, ptrTo, sliceTo, mapTo, List.getElem?_cons_zero, List.getElem?_cons_succ, Option.map_some, List.append_nil, List.nil_append, List.all_cons, List.all_nil, List.length_cons, List.length_nil, eq_self, t5], by simp only [SS, Nat.reduceBEq, Nat.reduceEqDiff, Nat.reduceAdd, reduceIte, Nat.reduceMul, ptrTo, sliceTo, mapTo, List.getElem?_cons_zero, List.getElem?_cons_succ, Option.map_some, List.append_nil, List.nil_append, List.all_cons, List.all_nil, List.length_cons, List.length_nil, eq_self, t6], by simp only [SS, Nat.reduceBEq, Nat.reduceEqDiff, Nat.reduceAdd, reduceIte, Nat.reduceMul, ptrTo, sliceTo, mapTo, List.getElem?_cons_zero, List.getElem?_cons_succ, Option.map_some, List.append_nil, List.nil_append, List.all_cons, List.all_nil, List.length_cons, List.length_nil, eq_self, t7], by simp only [SS, Nat.reduceBEq, Nat.reduceEqDiff, Nat.reduceAdd, reduceIte, Nat.reduceMul, ptrTo, sliceTo, mapTo, List.getElem?_cons_zero, List.getElem?_cons_succ, Option.map_some, List.append_nil, List.nil_append, List.all_cons, List.all_nil, List.length_cons, List.length_nil, eq_self], by simp only [SS, Nat.reduceBEq, Nat.reduceEqDiff, Nat.reduceAdd, reduceIte, Nat.reduceMul, ptrTo, sliceTo, mapTo, List.getElem?_cons_zero, List.getElem?_cons_succ, Option.map_some, List.append_nil, List.nil_append, List.all_cons, List.all_nil, List.length_cons, List.length_nil, eq_self], by simp only [SS, Nat.reduceBEq, Nat.reduceEqDiff, Nat.reduceAdd, reduceIte, Nat.reduceMul, ptrTo, sliceTo, mapTo, List.getElem?_cons_zero, List.getElem?_cons_succ, Option.map_some, List.append_nil, List.nil_append, List.all_cons, List.all_nil, List.length_cons, List.length_nil, eq_self, t177]⟩
      · rw [tpTo, if_neg hmo, cs_app, List.length_append]; exact o6
      · rcases b6 q hq with h | h
        · exact hbs q h
        · omega
  · obtain rfl : i = M.length := by omega
    have hll := tpTo_len M M.length
    obtain ⟨rs, h4, e4, rfl, s4⟩ := sum_ok (n := m) (by omega) (slo_its p3) (by omega)
    rw [tp_sum] at e4
    simp only [F5, r5_61, SS, Nat.reduceBEq, Nat.reduceEqDiff, Nat.reduceAdd, reduceIte, Nat.reduceMul, ptrTo, sliceTo, mapTo, List.getElem?_cons_zero, List.getElem?_cons_succ, Option.map_some, List.append_nil, List.nil_append, List.all_cons, List.all_nil, List.length_cons, List.length_nil, eq_self, t1, t5, t6, t7, t8, t9, t177, x_len_41, Int.ofNat_lt, hlt]
    refine hE _ _ _ (by simp) ?_
    rcases hc with ⟨rfl, rfl, hle⟩ | ⟨rfl, rfl, hgt⟩
    case inr =>
      have htop : ¬ topF M M.length ≤ q := fun h => by have := pr_tops.2 h; omega
      simp only [F5, r5_61, SS, Nat.reduceBEq, Nat.reduceEqDiff, Nat.reduceAdd, reduceIte, Nat.reduceMul, ptrTo, sliceTo, mapTo, List.getElem?_cons_zero, List.getElem?_cons_succ, Option.map_some, List.append_nil, List.nil_append, List.all_cons, List.all_nil, List.length_cons, List.length_nil, eq_self, t1, t5, t6, t7, t8, t177, e4, htop, x_ne_4, x_len_43, Bool.beq_eq_decide_eq, works_q (show 1 ≤ m by omega), List.length_nil]
      exact hQ _ _ _ _ (.inr rfl) (by simp only [SS, Nat.reduceBEq, Nat.reduceEqDiff, Nat.reduceAdd, reduceIte, Nat.reduceMul, ptrTo, sliceTo, mapTo, List.getElem?_cons_zero, List.getElem?_cons_succ, Option.map_some, List.append_nil, List.nil_append, List.all_cons, List.all_nil, List.length_cons, List.length_nil, eq_self, t177]) (by simp only [SS, Nat.reduceBEq, Nat.reduceEqDiff, Nat.reduceAdd, reduceIte, Nat.reduceMul, ptrTo, sliceTo, mapTo, List.getElem?_cons_zero, List.getElem?_cons_succ, Option.map_some, List.append_nil, List.nil_append, List.all_cons, List.all_nil, List.length_cons, List.length_nil, eq_self]; rfl) rfl
    case inl =>
      have htop : topF M M.length ≤ q := pr_tops.1 hle
      generalize hSd : (pr M id q M.length).2 = S at *
      have hSlt : ∀ k, k ∈ S → k < M.length := fun k hk => by rw [← hSd] at hk; exact pr_lt _ _ hk
      have p14 := p1.sm s4 (fun _ _ h => h)
      have p24 := p2.sm s4 (fun _ _ h => h)
      have hel := p24.els
      rw [u_ids] at hel
      obtain ⟨l5, h5, e5, bs5, o5, s5, _⟩ := left_ok (n := m) (by omega) (slo_its p14) (by omega) (w := .slice a2 S.length c2 g2) (G := S.map fun k => (iti M k).id) (by rw [List.length_map]; exact hel) (by rw [List.length_map]; omega)
      have hmem := ids_mem hIds hSlt
      have hsum : sumTo (lfTo M (S.map fun k => (iti M k).id) M.length) (lfTo M (S.map fun k => (iti M k).id) M.length).length ≤ q := by
        rw [left_sum hmem _ (Nat.le_refl _)]
        have := pr_sum (L := M) (q := q) M.length (Nat.le_refl _)
        rw [hSd] at this
        rw [← this]; exact hle
      have hcnt : (lfTo M (S.map fun k => (iti M k).id) M.length).length + S.length = M.length := by
        have := pr_count hIds (q := q)
        rw [hSd] at this; exact this
      obtain ⟨rs6, h6, e6, rfl, s6⟩ := sum_ok (n := m) (by omega) (slo_its o5) (by omega)
      have hsum' : ¬ q < sumTo (lfTo M (S.map fun k => (iti M k).id) M.length) (lfTo M (S.map fun k => (iti M k).id) M.length).length := by omega
      have p16 := (p14.sm s5 (fun _ _ h => h)).sm s6 (fun _ _ h => h)
      have p26 := (p24.sm s5 (fun _ _ h => h)).sm s6 (fun _ _ h => h)
      obtain ⟨_, a5, c5, g5, rfl, _⟩ := id o5.els
      -- the last two loops
      have kZ : ∀ tm h7, tm.gt 1 = some (.int .i64 q) → tm.gt 5 = some (.slice a M.length c g) → tm.gt 6 = some (.slice a2 S.length c2 g2) → tm.gt 177 = none → SlO 53 4 h7 (.slice a M.length c g) M.length (cs M) bs1 → SlO 27 1 h7 (.slice a2 S.length c2 g2) S.length (idc M S) bs2 →
          run (Q m) 100000 177 5 none c5_61 [] tm h7 QQ := by
        intro tm h7 t1 t5 t6 t177 q1 q2
        have hSm : ∀ k, k ∈ S → more M id k := fun k hk => by rw [← hSd] at hk; exact pr_more _ k hk
        simp only [F5, r5_61, SS, Nat.reduceBEq, Nat.reduceEqDiff, Nat.reduceAdd, reduceIte, Nat.reduceMul, ptrTo, sliceTo, mapTo, List.getElem?_cons_zero, List.getElem?_cons_succ, Option.map_some, List.append_nil, List.nil_append, List.all_cons, List.all_nil, List.length_cons, List.length_nil, eq_self, t1, t5, t6, t177]
        refine run_loop (c := c5_66) (I := fun m' tm' h' => ∃ i, i ≤ S.length ∧ m' = S.length - i ∧ SlO 53 4 h' (.slice a M.length c g) M.length (cs M) bs1 ∧ SlO 27 1 h' (.slice a2 S.length c2 g2) S.length (idc M S) bs2 ∧ tm'.gt 5 = some (.slice a M.length c g) ∧ tm'.gt 6 = some (.slice a2 S.length c2 g2) ∧ tm'.gt 11 = some (I i) ∧ tm'.gt 177 = none) (n := S.length)
          ⟨0, by omega, rfl, q1, q2, by simp only [SS, Nat.reduceBEq, Nat.reduceEqDiff, Nat.reduceAdd, reduceIte, Nat.reduceMul, ptrTo, sliceTo, mapTo, List.getElem?_cons_zero, List.getElem?_cons_succ, Option.map_some, List.append_nil, List.nil_append, List.all_cons, List.all_nil, List.length_cons, List.length_nil, eq_self, t5], by simp only [SS, Nat.reduceBEq, Nat.reduceEqDiff, Nat.reduceAdd, reduceIte, Nat.reduceMul, ptrTo, sliceTo, mapTo, List.getElem?_cons_zero, List.getElem?_cons_succ, Option.map_some, List.append_nil, List.nil_append, List.all_cons, List.all_nil, List.length_cons, List.length_nil, eq_self, t6], by simp only [SS, Nat.reduceBEq, Nat.reduceEqDiff, Nat.reduceAdd, reduceIte, Nat.reduceMul, ptrTo, sliceTo, mapTo, List.getElem?_cons_zero, List.getElem?_cons_succ, Option.map_some, List.append_nil, List.nil_append, List.all_cons, List.all_nil, List.length_cons, List.length_nil, eq_self]; rfl, by simp only [SS, Nat.reduceBEq, Nat.reduceEqDiff, Nat.reduceAdd, reduceIte, Nat.reduceMul, ptrTo, sliceTo, mapTo, List.getElem?_cons_zero, List.getElem?_cons_succ, Option.map_some, List.append_nil, List.nil_append, List.all_cons, List.all_nil, List.length_cons, List.length_nil, eq_self, t177]⟩ (by omega) ?_
        rintro _ tm h8 ⟨i, hil, rfl, q1, q2, t5, t6, t11, t177⟩ Q2 hN2 hE2
        by_cases hlt : i < S.length
        · obtain ⟨hb, eb, sb, _, _⟩ := Sm.bump h8 41
          have q1b := q1.sm sb (fun _ _ h => h)
          have q2b := q2.sm sb (fun _ _ h => h)
          have hSi := hSlt S[i] (List.getElem_mem hlt)
          obtain ⟨r9, h9, e9, bb, rfl, hbb, s9⟩ := newest_ok (n := m) (by omega) (slo_its q1b) (by omega) hSi
          have hbf : bb = false := by
            cases bb with
            | false => rfl
            | true => exact absurd (hSm _ (List.getElem_mem hlt)) (hbb.1 rfl)
          subst hbf
          have q19 := q1b.sm s9 (fun _ _ h => h)
          have q29 := q2b.sm s9 (fun _ _ h => h)
          obtain ⟨b2, o2', rfl, cell⟩ := q2b.els.cell (by omega)
          obtain ⟨b2', o2'', e', cell9⟩ := q29.els.cell (by omega)
          cases e'
          have hid : ∀ t (ht : t < S.length), (idc M S)[t]? = some (.int .u32 ((S[t] + 1 : Nat) : Int)) := fun t ht => by
            rw [List.getElem?_map, List.getElem?_eq_getElem ht, Option.map_some, hIds _ (hSlt S[t] (List.getElem_mem ht))]
          have l1 := cell i (by omega)
          have l9 := cell9 i (by omega)
          rw [hid i hlt] at l1 l9
          have x1 := x_ia_43 (k := .i64) (b := b2) (o := o2') (c := c2) (g := g2) hlt
          have d1 : ¬ ((S[i] + 1 : Nat) : Int) < 1 := by omega
          have d2 : ¬ (M.length : Int) < ((S[i] + 1 : Nat) : Int) := by omega
          have d3 : IntKind.i64.wrap (((S[i] + 1 : Nat) : Int) - 1) = ((S[i] : Nat) : Int) := by rw [wrap_i64 (by omega) (by omega)]; omega
          by_cases hi0 : 0 < i
          · have hi0' : (0 : Int) < (i : Int) := by omega
            have l2 := cell (i - 1) (by omega)
            have l92 := cell9 (i - 1) (by omega)
            rw [hid (i - 1) (by omega)] at l2 l92
            have x2 := x_ia_43 (k := .i64) (b := b2) (o := o2') (c := c2) (g := g2) (show i - 1 < S.length by omega)
            have hrise := pr_rise (L := M) (q := q) (i := M.length) (t := i - 1) (k := S[i - 1]) (k' := S[i]) (by rw [hSd]; exact List.getElem?_eq_getElem (by omega)) (by rw [hSd, show i - 1 + 1 = i by omega]; exact List.getElem?_eq_getElem hlt)
            have d0 : ¬ ((S[i] + 1 : Nat) : Int) ≤ ((S[i - 1] + 1 : Nat) : Int) := by omega
            simp only [F5, r5_61, SS, Nat.reduceBEq, Nat.reduceEqDiff, Nat.reduceAdd, reduceIte, Nat.reduceMul, ptrTo, sliceTo, mapTo, List.getElem?_cons_zero, List.getElem?_cons_succ, Option.map_some, List.append_nil, List.nil_append, List.all_cons, List.all_nil, List.length_cons, List.length_nil, eq_self, t5, t6, t11, t177, x_len_43, x_len_41, Int.ofNat_lt, hlt, eb, hi0', x1, x2, wSub1 (show 1 ≤ i by omega) (show i ≤ 1000000 by omega), l1, l2, l9, l92, d0, d1, x_cv_27_3, wI (show S[i] + 1 ≤ 1000000 by omega), d2, d3, e9, s_int, s_ptr, s_slice, and'_eq, iff'_true, wAdd1 (show i ≤ 1000000 by omega)]
            exact hN2 _ _ (S.length - (i + 1)) (by omega) ⟨i + 1, hlt, rfl, q19, q29, by simp only [SS, Nat.reduceBEq, Nat.reduceEqDiff, Nat.reduceAdd, reduceIte, Nat.reduceMul, ptrTo, sliceTo, mapTo, List.getElem?_cons_zero, List.getElem?_cons_succ, Option.map_some, List.append_nil, List.nil_append, List.all_cons, List.all_nil, List.length_cons, List.length_nil, eq_self, t5], by simp only [SS, Nat.reduceBEq, Nat.reduceEqDiff, Nat.reduceAdd, reduceIte, Nat.reduceMul, ptrTo, sliceTo, mapTo, List.getElem?_cons_zero, List.getElem?_cons_succ, Option.map_some, List.append_nil, List.nil_append, List.all_cons, List.all_nil, List.length_cons, List.length_nil, eq_self, t6], by simp only [SS, Nat.reduceBEq, Nat.reduceEqDiff, Nat.reduceAdd, reduceIte, Nat.reduceMul, ptrTo, sliceTo, mapTo, List.getElem?_cons_zero, List.getElem?_cons_succ, Option.map_some, List.append_nil, List.nil_append, List.all_cons, List.all_nil, List.length_cons, List.length_nil, eq_self], by simp only [SS, Nat.reduceBEq, Nat.reduceEqDiff, Nat.reduceAdd, reduceIte, Nat.reduceMul, ptrTo, sliceTo, mapTo, List.getElem?_cons_zero, List.getElem?_cons_succ, Option.map_some, List.append_nil, List.nil_append, List.all_cons, List.all_nil, List.length_cons, List.length_nil, eq_self, t177]⟩
          · have hi0' : ¬ (0 : Int) < (i : Int) := by omega
            simp only [F5, r5_61, SS, Nat.reduceBEq, Nat.reduceEqDiff, Nat.reduceAdd, reduceIte, Nat.reduceMul, ptrTo, sliceTo, mapTo, List.getElem?_cons_zero, List.getElem?_cons_succ, Option.map_some, List.append_nil, List.nil_append, List.all_cons, List.all_nil, List.length_cons, List.length_nil, eq_self, t5, t6, t11, t177, x_len_43, x_len_41, Int.ofNat_lt, hlt, eb, hi0', x1, l1, l9, d1, x_cv_27_3, wI (show S[i] + 1 ≤ 1000000 by omega), d2, d3, e9, s_int, s_ptr, s_slice, and'_eq, iff'_true, wAdd1 (show i ≤ 1000000 by omega)]
            exact hN2 _ _ (S.length - (i + 1)) (by omega) ⟨i + 1, hlt, rfl, q19, q29, by simp only [SS, Nat.reduceBEq, Nat.reduceEqDiff, Nat.reduceAdd, reduceIte, Nat.reduceMul, ptrTo, sliceTo, mapTo, List.getElem?_cons_zero, List.getElem?_cons_succ, Option.map_some, List.append_nil, List.nil_append, List.all_cons, List.all_nil, List.length_cons, List.length_nil, eq_self, t5], by simp only [SS, Nat.reduceBEq, Nat.reduceEqDiff, Nat.reduceAdd, reduceIte, Nat.reduceMul, ptrTo, sliceTo, mapTo, List.getElem?_cons_zero, List.getElem?_cons_succ, Option.map_some, List.append_nil, List.nil_append, List.all_cons, List.all_nil, List.length_cons, List.length_nil, eq_self, t6], by simp only [SS, Nat.reduceBEq, Nat.reduceEqDiff, Nat.reduceAdd, reduceIte, Nat.reduceMul, ptrTo, sliceTo, mapTo, List.getElem?_cons_zero, List.getElem?_cons_succ, Option.map_some, List.append_nil, List.nil_append, List.all_cons, List.all_nil, List.length_cons, List.length_nil, eq_self], by simp only [SS, Nat.reduceBEq, Nat.reduceEqDiff, Nat.reduceAdd, reduceIte, Nat.reduceMul, ptrTo, sliceTo, mapTo, List.getElem?_cons_zero, List.getElem?_cons_succ, Option.map_some, List.append_nil, List.nil_append, List.all_cons, List.all_nil, List.length_cons, List.length_nil, eq_self, t177]⟩
        · simp only [F5, r5_61, SS, Nat.reduceBEq, Nat.reduceEqDiff, Nat.reduceAdd, reduceIte, Nat.reduceMul, ptrTo, sliceTo, mapTo, List.getElem?_cons_zero, List.getElem?_cons_succ, Option.map_some, List.append_nil, List.nil_append, List.all_cons, List.all_nil, List.length_cons, List.length_nil, eq_self, t5, t6, t11, t177, x_len_43, Int.ofNat_lt, hlt]
          refine hE2 _ _ _ (by simp) ?_
          simp only [F5, r5_61, SS, Nat.reduceBEq, Nat.reduceEqDiff, Nat.reduceAdd, reduceIte, Nat.reduceMul, ptrTo, sliceTo, mapTo, List.getElem?_cons_zero, List.getElem?_cons_succ, Option.map_some, List.append_nil, List.nil_append, List.all_cons, List.all_nil, List.length_cons, List.length_nil, eq_self, t5, t6, t177]
          have hg4 : 0 < M.length → g = some 4 ∧ M.length ≤ c := fun h0 => by
            rcases q1 with ⟨e, hl0, _⟩ | ⟨b, c', _, _, e, _, _, hle', _⟩
            · omega
            · cases e; exact ⟨rfl, hle'⟩
          refine run_loop (c := c5_87) (I := fun m' tm' h' => ∃ i, i ≤ M.length ∧ m' = M.length - i ∧ SlO 53 4 h' (.slice a M.length c g) M.length (cs M) bs1 ∧ SlO 27 1 h' (.slice a2 S.length c2 g2) S.length (idc M S) bs2 ∧ tm'.gt 5 = some (.slice a M.length c g) ∧ tm'.gt 6 = some (.slice a2 S.length c2 g2) ∧ tm'.gt 12 = some (I i) ∧ tm'.gt 177 = none) (n := M.length)
            ⟨0, by omega, rfl, q1, q2, by simp only [SS, Nat.reduceBEq, Nat.reduceEqDiff, Nat.reduceAdd, reduceIte, Nat.reduceMul, ptrTo, sliceTo, mapTo, List.getElem?_cons_zero, List.getElem?_cons_succ, Option.map_some, List.append_nil, List.nil_append, List.all_cons, List.all_nil, List.length_cons, List.length_nil, eq_self, t5], by simp only [SS, Nat.reduceBEq, Nat.reduceEqDiff, Nat.reduceAdd, reduceIte, Nat.reduceMul, ptrTo, sliceTo, mapTo, List.getElem?_cons_zero, List.getElem?_cons_succ, Option.map_some, List.append_nil, List.nil_append, List.all_cons, List.all_nil, List.length_cons, List.length_nil, eq_self, t6], by simp only [SS, Nat.reduceBEq, Nat.reduceEqDiff, Nat.reduceAdd, reduceIte, Nat.reduceMul, ptrTo, sliceTo, mapTo, List.getElem?_cons_zero, List.getElem?_cons_succ, Option.map_some, List.append_nil, List.nil_append, List.all_cons, List.all_nil, List.length_cons, List.length_nil, eq_self]; rfl, by simp only [SS, Nat.reduceBEq, Nat.reduceEqDiff, Nat.reduceAdd, reduceIte, Nat.reduceMul, ptrTo, sliceTo, mapTo, List.getElem?_cons_zero, List.getElem?_cons_succ, Option.map_some, List.append_nil, List.nil_append, List.all_cons, List.all_nil, List.length_cons, List.length_nil, eq_self, t177]⟩ (by omega) ?_
          rintro _ tm h8 ⟨i, hil, rfl, q1, q2, t5, t6, t12, t177⟩ Q3 hN3 hE3
          by_cases hlt : i < M.length
          · obtain ⟨hb, eb, sb, _, _⟩ := Sm.bump h8 34
            have q1b := q1.sm sb (fun _ _ h => h)
            have q2b := q2.sm sb (fun _ _ h => h)
            have go : ∀ tm h9, SlO 53 4 h9 (.slice a M.length c g) M.length (cs M) bs1 → SlO 27 1 h9 (.slice a2 S.length c2 g2) S.length (idc M S) bs2 → tm.gt 5 = some (.slice a M.length c g) → tm.gt 6 = some (.slice a2 S.length c2 g2) → tm.gt 12 = some (I (i + 1)) → tm.gt 177 = none → Q3 .normal tm h9 := fun tm h9 g1 g2 g3 g4 g5 g6 =>
              hN3 _ _ (M.length - (i + 1)) (by omega) ⟨i + 1, hlt, rfl, g1, g2, g3, g4, g5, g6⟩
            by_cases hS0 : S.length = 0
            · have c0 : ¬ (0 : Int) < (S.length : Int) := by omega
              simp only [F5, r5_61, SS, Nat.reduceBEq, Nat.reduceEqDiff, Nat.reduceAdd, reduceIte, Nat.reduceMul, ptrTo, sliceTo, mapTo, List.getElem?_cons_zero, List.getElem?_cons_succ, Option.map_some, List.append_nil, List.nil_append, List.all_cons, List.all_nil, List.length_cons, List.length_nil, eq_self, t5, t6, t12, t177, x_len_43, x_len_41, Int.ofNat_lt, hlt, eb, c0, wAdd1 (show i ≤ 1000000 by omega)]
              exact go _ _ q1b q2b (by simp only [SS, Nat.reduceBEq, Nat.reduceEqDiff, Nat.reduceAdd, reduceIte, Nat.reduceMul, ptrTo, sliceTo, mapTo, List.getElem?_cons_zero, List.getElem?_cons_succ, Option.map_some, List.append_nil, List.nil_append, List.all_cons, List.all_nil, List.length_cons, List.length_nil, eq_self, t5]) (by simp only [SS, Nat.reduceBEq, Nat.reduceEqDiff, Nat.reduceAdd, reduceIte, Nat.reduceMul, ptrTo, sliceTo, mapTo, List.getElem?_cons_zero, List.getElem?_cons_succ, Option.map_some, List.append_nil, List.nil_append, List.all_cons, List.all_nil, List.length_cons, List.length_nil, eq_self, t6]) (by simp only [SS, Nat.reduceBEq, Nat.reduceEqDiff, Nat.reduceAdd, reduceIte, Nat.reduceMul, ptrTo, sliceTo, mapTo, List.getElem?_cons_zero, List.getElem?_cons_succ, Option.map_some, List.append_nil, List.nil_append, List.all_cons, List.all_nil, List.length_cons, List.length_nil, eq_self]) (by simp only [SS, Nat.reduceBEq, Nat.reduceEqDiff, Nat.reduceAdd, reduceIte, Nat.reduceMul, ptrTo, sliceTo, mapTo, List.getElem?_cons_zero, List.getElem?_cons_succ, Option.map_some, List.append_nil, List.nil_append, List.all_cons, List.all_nil, List.length_cons, List.length_nil, eq_self, t177])
            · have c0 : (0 : Int) < (S.length : Int) := by omega
              have hkl : S.length - 1 < S.length := by omega
              have hSl' := hSlt S[S.length - 1] (List.getElem_mem hkl)
              obtain ⟨b2, o2', rfl, cell⟩ := q2b.els.cell (by omega)
              obtain ⟨b, o, rfl, _, i2, _⟩ := (slo_its q1b).at hlt
              rw [← iti_at hlt, hIds i hlt] at i2
              have l1 := cell (S.length - 1) (by omega)
              rw [List.getElem?_map, List.getElem?_eq_getElem hkl, Option.map_some, hIds _ hSl'] at l1
              have x1 := x_ia_43 (k := .i64) (b := b2) (o := o2') (c := c2) (g := g2) hkl
              have x2 := x_ia_41 (k := .i64) (b := b) (o := o) (c := c) (g := g) hlt
              have ew := wSub1 (show 1 ≤ S.length by omega) (show S.length ≤ 1000000 by omega)
              by_cases hlk : i < S[S.length - 1]
              · have d1 : ((i + 1 : Nat) : Int) < ((S[S.length - 1] + 1 : Nat) : Int) := by omega
                obtain ⟨r9, h9, e9, bb, rfl, hbb, s9⟩ := newest_ok (n := m) (by omega) (slo_its q1b) (by omega) hlt
                have q19 := q1b.sm s9 (fun _ _ h => h)
                have q29 := q2b.sm s9 (fun _ _ h => h)
                obtain ⟨b2', o2'', e', cell9⟩ := q29.els.cell (by omega)
                cases e'
                obtain ⟨b', o', e', _, j2, _⟩ := (slo_its q19).at hlt
                cases e'
                rw [← iti_at hlt, hIds i hlt] at j2
                have l9 := cell9 (S.length - 1) (by omega)
                rw [List.getElem?_map, List.getElem?_eq_getElem hkl, Option.map_some, hIds _ hSl'] at l9
                cases bb with
                | true =>
                  simp only [F5, r5_61, SS, Nat.reduceBEq, Nat.reduceEqDiff, Nat.reduceAdd, reduceIte, Nat.reduceMul, ptrTo, sliceTo, mapTo, List.getElem?_cons_zero, List.getElem?_cons_succ, Option.map_some, List.append_nil, List.nil_append, List.all_cons, List.all_nil, List.length_cons, List.length_nil, eq_self, t5, t6, t12, t177, x_len_43, x_len_41, Int.ofNat_lt, hlt, eb, c0, x1, x2, x_fa_53_1, i2, l1, j2, l9, ew, d1, e9, s_int, s_ptr, s_slice, and'_eq, iff'_true, wAdd1 (show i ≤ 1000000 by omega)]
                  exact go _ _ q19 q29 (by simp only [SS, Nat.reduceBEq, Nat.reduceEqDiff, Nat.reduceAdd, reduceIte, Nat.reduceMul, ptrTo, sliceTo, mapTo, List.getElem?_cons_zero, List.getElem?_cons_succ, Option.map_some, List.append_nil, List.nil_append, List.all_cons, List.all_nil, List.length_cons, List.length_nil, eq_self, t5]) (by simp only [SS, Nat.reduceBEq, Nat.reduceEqDiff, Nat.reduceAdd, reduceIte, Nat.reduceMul, ptrTo, sliceTo, mapTo, List.getElem?_cons_zero, List.getElem?_cons_succ, Option.map_some, List.append_nil, List.nil_append, List.all_cons, List.all_nil, List.length_cons, List.length_nil, eq_self, t6]) (by simp only [SS, Nat.reduceBEq, Nat.reduceEqDiff, Nat.reduceAdd, reduceIte, Nat.reduceMul, ptrTo, sliceTo, mapTo, List.getElem?_cons_zero, List.getElem?_cons_succ, Option.map_some, List.append_nil, List.nil_append, List.all_cons, List.all_nil, List.length_cons, List.length_nil, eq_self]) (by simp only [SS, Nat.reduceBEq, Nat.reduceEqDiff, Nat.reduceAdd, reduceIte, Nat.reduceMul, ptrTo, sliceTo, mapTo, List.getElem?_cons_zero, List.getElem?_cons_succ, Option.map_some, List.append_nil, List.nil_append, List.all_cons, List.all_nil, List.length_cons, List.length_nil, eq_self, t177])
                | false =>
                  have hmo : more M id i := Classical.not_not.1 (fun h => by cases hbb.2 h)
                  obtain ⟨rfl, hMc⟩ := hg4 (by omega)
                  have hpa := pr_at (L := M) (q := q) M.length (S.length - 1) S[S.length - 1] (by rw [hSd]; exact List.getElem?_eq_getElem hkl)
                  have han := pr_anti (L := M) (q := q) i (S[S.length - 1] - i)
                  rw [show i + (S[S.length - 1] - i) = S[S.length - 1] by omega] at han
                  have hiS : i ∈ S := by
                    have := pr_all (L := M) (q := q) M.length i hlt hmo (by omega)
                    rw [hSd] at this; exact this
                  have hsub := its_sub (slo_its q19) hlt
                  have hel9 := q29.els
                  rw [u_ids] at hel9
                  obtain ⟨l10, h10, e10, bs10, o10, s10, _⟩ := left_ok (n := m) (by omega) hsub (by simp) (w := .slice (some (b2, o2')) S.length c2 g2) (G := S.map fun k => (iti M k).id) (by rw [List.length_map]; exact hel9) (by rw [List.length_map]; omega)
                  have hz : lfTo [iti M i] (S.map fun k => (iti M k).id) [iti M i].length = [] := by
                    show lfTo [iti M i] _ 1 = []
                    unfold lfTo
                    rw [if_pos (by show (iti M i).id ∈ _; exact (hmem i hlt).2 hiS)]; rfl
                  rw [hz] at o10
                  obtain ⟨_, a10, c10, g10, rfl, _⟩ := id o10.els
                  have xs := x_sl_41_110 (a := some (b, o)) (n := M.length) (c := c) (lo := i) (hi := i + 1) (g := some 4) (k := .i64) (k' := .i64) rfl (by omega) (by omega)
                  have q1x := q19.sm s10 (fun _ _ h => h)
                  have q2x := q29.sm s10 (fun _ _ h => h)
                  obtain ⟨b2', o2'', e', cellx⟩ := q2x.els.cell (by omega)
                  cases e'
                  obtain ⟨b', o', e', _, jx, _⟩ := (slo_its q1x).at hlt
                  cases e'
                  rw [← iti_at hlt, hIds i hlt] at jx
                  have lx := cellx (S.length - 1) (by omega)
                  rw [List.getElem?_map, List.getElem?_eq_getElem hkl, Option.map_some, hIds _ hSl'] at lx
                  simp only [Option.map_some] at xs e10
                  have d9 : ¬ (0 : Int) < ((0 : Nat) : Int) := by decide
                  simp only [F5, r5_61, SS, Nat.reduceBEq, Nat.reduceEqDiff, Nat.reduceAdd, reduceIte, Nat.reduceMul, ptrTo, sliceTo, mapTo, List.getElem?_cons_zero, List.getElem?_cons_succ, Option.map_some, List.append_nil, List.nil_append, List.all_cons, List.all_nil, List.length_cons, List.length_nil, eq_self, t5, t6, t12, t177, x_len_43, x_len_41, Int.ofNat_lt, hlt, eb, c0, x1, x2, x_fa_53_1, i2, l1, j2, l9, jx, lx, ew, d1, e9, xs, e10, d9, s_int, s_ptr, s_slice, and'_eq, iff'_true, wAdd1 (show i ≤ 1000000 by omega)]
                  exact go _ _ q1x q2x (by simp only [SS, Nat.reduceBEq, Nat.reduceEqDiff, Nat.reduceAdd, reduceIte, Nat.reduceMul, ptrTo, sliceTo, mapTo, List.getElem?_cons_zero, List.getElem?_cons_succ, Option.map_some, List.append_nil, List.nil_append, List.all_cons, List.all_nil, List.length_cons, List.length_nil, eq_self, t5]) (by simp only [SS, Nat.reduceBEq, Nat.reduceEqDiff, Nat.reduceAdd, reduceIte, Nat.reduceMul, ptrTo, sliceTo, mapTo, List.getElem?_cons_zero, List.getElem?_cons_succ, Option.map_some, List.append_nil, List.nil_append, List.all_cons, List.all_nil, List.length_cons, List.length_nil, eq_self, t6]) (by simp only [SS, Nat.reduceBEq, Nat.reduceEqDiff, Nat.reduceAdd, reduceIte, Nat.reduceMul, ptrTo, sliceTo, mapTo, List.getElem?_cons_zero, List.getElem?_cons_succ, Option.map_some, List.append_nil, List.nil_append, List.all_cons, List.all_nil, List.length_cons, List.length_nil, eq_self]) (by simp only [SS, Nat.reduceBEq, Nat.reduceEqDiff, Nat.reduceAdd, reduceIte, Nat.reduceMul, ptrTo, sliceTo, mapTo, List.getElem?_cons_zero, List.getElem?_cons_succ, Option.map_some, List.append_nil, List.nil_append, List.all_cons, List.all_nil, List.length_cons, List.length_nil, eq_self, t177])
              · have d1 : ¬ ((i + 1 : Nat) : Int) < ((S[S.length - 1] + 1 : Nat) : Int) := by omega
                simp only [F5, r5_61, SS, Nat.reduceBEq, Nat.reduceEqDiff, Nat.reduceAdd, reduceIte, Nat.reduceMul, ptrTo, sliceTo, mapTo, List.getElem?_cons_zero, List.getElem?_cons_succ, Option.map_some, List.append_nil, List.nil_append, List.all_cons, List.all_nil, List.length_cons, List.length_nil, eq_self, t5, t6, t12, t177, x_len_43, x_len_41, Int.ofNat_lt, hlt, eb, c0, x1, x2, x_fa_53_1, i2, l1, ew, d1, s_int, s_ptr, s_slice, and'_eq, iff'_true, wAdd1 (show i ≤ 1000000 by omega)]
                exact go _ _ q1b q2b (by simp only [SS, Nat.reduceBEq, Nat.reduceEqDiff, Nat.reduceAdd, reduceIte, Nat.reduceMul, ptrTo, sliceTo, mapTo, List.getElem?_cons_zero, List.getElem?_cons_succ, Option.map_some, List.append_nil, List.nil_append, List.all_cons, List.all_nil, List.length_cons, List.length_nil, eq_self, t5]) (by simp only [SS, Nat.reduceBEq, Nat.reduceEqDiff, Nat.reduceAdd, reduceIte, Nat.reduceMul, ptrTo, sliceTo, mapTo, List.getElem?_cons_zero, List.getElem?_cons_succ, Option.map_some, List.append_nil, List.nil_append, List.all_cons, List.all_nil, List.length_cons, List.length_nil, eq_self, t6]) (by simp only [SS, Nat.reduceBEq, Nat.reduceEqDiff, Nat.reduceAdd, reduceIte, Nat.reduceMul, ptrTo, sliceTo, mapTo, List.getElem?_cons_zero, List.getElem?_cons_succ, Option.map_some, List.append_nil, List.nil_append, List.all_cons, List.all_nil, List.length_cons, List.length_nil, eq_self]) (by simp only [SS, Nat.reduceBEq, Nat.reduceEqDiff, Nat.reduceAdd, reduceIte, Nat.reduceMul, ptrTo, sliceTo, mapTo, List.getElem?_cons_zero, List.getElem?_cons_succ, Option.map_some, List.append_nil, List.nil_append, List.all_cons, List.all_nil, List.length_cons, List.length_nil, eq_self, t177])
          · simp only [F5, r5_61, SS, Nat.reduceBEq, Nat.reduceEqDiff, Nat.reduceAdd, reduceIte, Nat.reduceMul, ptrTo, sliceTo, mapTo, List.getElem?_cons_zero, List.getElem?_cons_succ, Option.map_some, List.append_nil, List.nil_append, List.all_cons, List.all_nil, List.length_cons, List.length_nil, eq_self, t5, t6, t12, t177, x_len_41, Int.ofNat_lt, hlt]
            refine hE3 _ _ _ (by simp) ?_
            simp only [F5, r5_61, SS, Nat.reduceBEq, Nat.reduceEqDiff, Nat.reduceAdd, reduceIte, Nat.reduceMul, ptrTo, sliceTo, mapTo, List.getElem?_cons_zero, List.getElem?_cons_succ, Option.map_some, List.append_nil, List.nil_append, List.all_cons, List.all_nil, List.length_cons, List.length_nil, eq_self, t177, works_q (show 1 ≤ m by omega)]
            exact hQ _ _ _ _ (.inr rfl) (by simp only [SS, Nat.reduceBEq, Nat.reduceEqDiff, Nat.reduceAdd, reduceIte, Nat.reduceMul, ptrTo, sliceTo, mapTo, List.getElem?_cons_zero, List.getElem?_cons_succ, Option.map_some, List.append_nil, List.nil_append, List.all_cons, List.all_nil, List.length_cons, List.length_nil, eq_self, t177]) (by simp only [SS, Nat.reduceBEq, Nat.reduceEqDiff, Nat.reduceAdd, reduceIte, Nat.reduceMul, ptrTo, sliceTo, mapTo, List.getElem?_cons_zero, List.getElem?_cons_succ, Option.map_some, List.append_nil, List.nil_append, List.all_cons, List.all_nil, List.length_cons, List.length_nil, eq_self]; rfl) rfl
      have ec : IntKind.i64.wrap (((lfTo M (S.map fun k => (iti M k).id) M.length).length : Int) + (S.length : Int)) = (M.length : Int) := by
        rw [wrap_i64 (by omega) (by omega)]; omega
      by_cases hS0 : S.length = 0
      · have c0 : ¬ (0 : Int) < (S.length : Int) := by omega
        simp only [F5, SS, Nat.reduceBEq, Nat.reduceEqDiff, Nat.reduceAdd, reduceIte, Nat.reduceMul, ptrTo, sliceTo, mapTo, List.getElem?_cons_zero, List.getElem?_cons_succ, Option.map_some, List.append_nil, List.nil_append, List.all_cons, List.all_nil, List.length_cons, List.length_nil, eq_self, t1, t5, t6, t7, t8, t177, e4, htop, x_ne_4, x_len_43, x_len_41, Bool.beq_eq_decide_eq, e5, e6, hsum', ec, c0]
        exact kZ _ h6 (by simp only [SS, Nat.reduceBEq, Nat.reduceEqDiff, Nat.reduceAdd, reduceIte, Nat.reduceMul, ptrTo, sliceTo, mapTo, List.getElem?_cons_zero, List.getElem?_cons_succ, Option.map_some, List.append_nil, List.nil_append, List.all_cons, List.all_nil, List.length_cons, List.length_nil, eq_self, t1]) (by simp only [SS, Nat.reduceBEq, Nat.reduceEqDiff, Nat.reduceAdd, reduceIte, Nat.reduceMul, ptrTo, sliceTo, mapTo, List.getElem?_cons_zero, List.getElem?_cons_succ, Option.map_some, List.append_nil, List.nil_append, List.all_cons, List.all_nil, List.length_cons, List.length_nil, eq_self, t5]) (by simp only [SS, Nat.reduceBEq, Nat.reduceEqDiff, Nat.reduceAdd, reduceIte, Nat.reduceMul, ptrTo, sliceTo, mapTo, List.getElem?_cons_zero, List.getElem?_cons_succ, Option.map_some, List.append_nil, List.nil_append, List.all_cons, List.all_nil, List.length_cons, List.length_nil, eq_self, t6]) (by simp only [SS, Nat.reduceBEq, Nat.reduceEqDiff, Nat.reduceAdd, reduceIte, Nat.reduceMul, ptrTo, sliceTo, mapTo, List.getElem?_cons_zero, List.getElem?_cons_succ, Option.map_some, List.append_nil, List.nil_append, List.all_cons, List.all_nil, List.length_cons, List.length_nil, eq_self, t177]) p16 p26
      · have c0 : (0 : Int) < (S.length : Int) := by omega
        have hk : S[S.length - 1]? = some S[S.length - 1] := List.getElem?_eq_getElem (by omega)
        have hpa := pr_at (L := M) (q := q) M.length (S.length - 1) S[S.length - 1] (by rw [hSd]; exact hk)
        rw [hSd] at hpa
        obtain ⟨a1, a2', a3⟩ := hpa
        have hg : g2 = some 1 ∧ S.length ≤ c2 := by
          rcases p26 with ⟨e, hl0, _⟩ | ⟨b, c', _, _, e, _, _, hle', _⟩
          · exact absurd hl0 hS0
          · cases e; exact ⟨rfl, hle'⟩
        obtain ⟨rfl, hc2⟩ := hg
        have elt := els_take p26.els (k := S.length - 1) (by omega)
        have hidt : (idc M S).take ((S.length - 1) * 1) = ((S.take (S.length - 1)).map fun k => (iti M k).id).map u := by
          rw [Nat.mul_one, ← u_ids]
          show (S.map _).take _ = (S.take _).map _
          rw [List.map_take]
        rw [hidt] at elt
        have htl : (S.take (S.length - 1)).length = S.length - 1 := by rw [List.length_take]; omega
        obtain ⟨l7, h7, e7, bs7, o7, s7, _⟩ := left_ok (n := m) (by omega) (slo_its p16) (by omega) (w := .slice a2 (S.length - 1) c2 (some 1)) (G := (S.take (S.length - 1)).map fun k => (iti M k).id) (by rw [List.length_map, htl]; exact elt) (by rw [List.length_map, htl]; omega)
        have hll7 := lfTo_len M ((S.take (S.length - 1)).map fun k => (iti M k).id) M.length
        obtain ⟨rs8, h8, e8, rfl, s8⟩ := sum_ok (n := m) (by omega) (slo_its o7) (by omega)
        have hmem7 := ids_mem hIds (S := S.take (S.length - 1)) (fun k hk => hSlt k (List.mem_of_mem_take hk))
        rw [left_sum hmem7 _ (Nat.le_refl _)] at e8
        have hs8 : ¬ sumF M (S.take (S.length - 1)) M.length ≤ q := by
          have h9 := pr_sum (L := M) (q := q) S[S.length - 1] (by omega)
          rw [a3] at h9; omega
        have p18 := (p16.sm s7 (fun _ _ h => h)).sm s8 (fun _ _ h => h)
        have p28 := (p26.sm s7 (fun _ _ h => h)).sm s8 (fun _ _ h => h)
        have xs : sliceN P 43 false true false [.slice a2 S.length c2 (some 1), .int .i64 ((S.length - 1 : Nat) : Int)] = some (.slice a2 (S.length - 1) c2 (some 1)) := by
          rw [x_sl_43_010 rfl (by omega)]; cases a2 <;> simp
        simp only [F5, SS, Nat.reduceBEq, Nat.reduceEqDiff, Nat.reduceAdd, reduceIte, Nat.reduceMul, ptrTo, sliceTo, mapTo, List.getElem?_cons_zero, List.getElem?_cons_succ, Option.map_some, List.append_nil, List.nil_append, List.all_cons, List.all_nil, List.length_cons, List.length_nil, eq_self, t1, t5, t6, t7, t8, t177, e4, htop, x_ne_4, x_len_43, x_len_41, Bool.beq_eq_decide_eq, e5, e6, hsum', ec, c0, wSub1 (show 1 ≤ S.length by omega) (show S.length ≤ 1000000 by omega), xs, e7, e8, hs8]
        exact kZ _ h8 (by simp only [SS, Nat.reduceBEq, Nat.reduceEqDiff, Nat.reduceAdd, reduceIte, Nat.reduceMul, ptrTo, sliceTo, mapTo, List.getElem?_cons_zero, List.getElem?_cons_succ, Option.map_some, List.append_nil, List.nil_append, List.all_cons, List.all_nil, List.length_cons, List.length_nil, eq_self, t1]) (by simp only [SS, Nat.reduceBEq, Nat.reduceEqDiff, Nat.reduceAdd, reduceIte, Nat.reduceMul, ptrTo, sliceTo, mapTo, List.getElem?_cons_zero, List.getElem?_cons_succ, Option.map_some, List.append_nil, List.nil_append, List.all_cons, List.all_nil, List.length_cons, List.length_nil, eq_self, t5]) (by simp only [SS, Nat.reduceBEq, Nat.reduceEqDiff, Nat.reduceAdd, reduceIte, Nat.reduceMul, ptrTo, sliceTo, mapTo, List.getElem?_cons_zero, List.getElem?_cons_succ, Option.map_some, List.append_nil, List.nil_append, List.all_cons, List.all_nil, List.length_cons, List.length_nil, eq_self, t6]) (by simp only [SS, Nat.reduceBEq, Nat.reduceEqDiff, Nat.reduceAdd, reduceIte, Nat.reduceMul, ptrTo, sliceTo, mapTo, List.getElem?_cons_zero, List.getElem?_cons_succ, Option.map_some, List.append_nil, List.nil_append, List.all_cons, List.all_nil, List.length_cons, List.length_nil, eq_self, t177]) p18 p28
end Go.Proofs.Ytlfednnfkejcjaa

namespace Go.Proofs.Ytlfednnfkejcjaa
open Go.ChangeShapes Go.WideShapes Go.Am Go.Deep
set_option maxRecDepth 10000
noncomputable def fs53 : Array Field := match Try.prog.underlying 53 with
  | some (.struct fs) => fs
  | _ => #[]
theorem un53 : Try.prog.underlying 53 = some (.struct fs53) := by kernel_rfl
theorem one53 : oneCellFields Try.prog fs53 = true := by kernel_rfl
theorem size53 : fs53.size = 4 := by kernel_rfl
theorem ce53 : Try.prog.cellsOf 53 = 4 := by kernel_rfl
theorem ty53_0 : (fs53[0]?).map (·.type) = some 9 := by kernel_rfl
theorem ty53_1 : (fs53[1]?).map (·.type) = some 27 := by kernel_rfl
theorem ty53_2 : (fs53[2]?).map (·.type) = some 27 := by kernel_rfl
theorem ty53_3 : (fs53[3]?).map (·.type) = some 3 := by kernel_rfl
theorem un27 : Try.prog.underlying 27 = some (.int .u32) := by kernel_rfl
theorem un3 : Try.prog.underlying 3 = some (.int .i64) := by kernel_rfl
theorem exists_list {α : Type} {Pr : Nat → α → Prop} : ∀ n, (∀ i, i < n → ∃ x, Pr i x) → ∃ l : List α, l.length = n ∧ ∀ i, i < n → ∃ x, l[i]? = some x ∧ Pr i x
  | 0, _ => ⟨[], rfl, fun i h => by omega⟩
  | n + 1, h => by
    obtain ⟨l, hl, hp⟩ := exists_list n fun i hi => h i (by omega)
    obtain ⟨x, hx⟩ := h n (by omega)
    refine ⟨l ++ [x], by simp [hl], fun i hi => ?_⟩
    by_cases e : i < n
    · obtain ⟨y, hy, hp'⟩ := hp i e
      exact ⟨y, by rw [List.getElem?_append_left (by omega)]; exact hy, hp'⟩
    · obtain rfl : i = n := by omega
      refine ⟨x, ?_, hx⟩
      rw [List.getElem?_append_right (by omega), hl]; simp
def bts (s : ByteArray) : List Nat := s.data.toList.map (·.toNat)
def ItAt (W : World) (a : Addr) (i : Nat) (x : It) : Prop := ∃ s, x.p = bts s ∧ W.cell? (a.add (i * 4)) = some (.string s) ∧ W.cell? (a.add (i * 4 + 1)) = some (.int .u32 x.id) ∧ W.cell? (a.add (i * 4 + 2)) = some (.int .u32 x.tick) ∧ 0 ≤ x.tick ∧ W.cell? (a.add (i * 4 + 3)) = some (.int .i64 x.size)
section
variable {H : Type} {enc : TypeId × Value → H}
theorem item_in {W : World} {base n : Nat} {sp : Nat → Bool} {held : Bool} {a : Addr} {i : Nat} {cs' : List Value} {x : DataW H × List MemPlace} (hc : W.cells? base (a.add (i * 4)) 4 = some cs') (ht : DataW.trod enc Try.prog W base sp held n 53 cs' = some x) : ∃ x, ItAt W a i x := by
  obtain ⟨ys, n', _, _, hlen, hyl, hf⟩ := DataW.trod_struct un53 ht
  obtain ⟨_, hcl, hat⟩ := World.cells?_some hc
  rw [size53] at hyl
  have get : ∀ j t, j < 4 → (fs53[j]?).map (·.type) = some t → ∃ v y, W.cell? (a.add (i * 4 + j)) = some v ∧ DataW.trod enc Try.prog W base sp held n' t [v] = some y := by
    intro j t hj htj
    cases hfj : fs53[j]? with
    | none => rw [hfj] at htj; cases htj
    | some f =>
      rw [hfj] at htj
      have htj : f.type = t := Option.some.inj htj
      obtain ⟨ho, hk⟩ := hone_of one53 j f hfj
      have h1 := hf j f hfj
      rw [ho, hk] at h1
      have hone' : (cs'.drop j).take 1 = [cs'[j]'(by omega)] := by
        rw [List.drop_eq_getElem_cons (by omega)]; rfl
      rw [hone', List.getElem?_eq_getElem (by omega), htj] at h1
      refine ⟨cs'[j]'(by omega), _, ?_, h1⟩
      rw [← add_add, hat j hj, List.getElem?_eq_getElem (by omega)]
  obtain ⟨v0, y0, c0, t0⟩ := get 0 9 (by omega) ty53_0
  obtain ⟨v1, y1, c1, t1⟩ := get 1 27 (by omega) ty53_1
  obtain ⟨v2, y2, c2, t2⟩ := get 2 27 (by omega) ty53_2
  obtain ⟨v3, y3, c3, t3⟩ := get 3 3 (by omega) ty53_3
  obtain ⟨s, e0, _, _⟩ := DataW.trod_string u_9 t0
  obtain ⟨n1, e1, _, _⟩ := DataW.trod_int un27 t1
  obtain ⟨n2, e2, _, w2⟩ := DataW.trod_int un27 t2
  obtain ⟨n3, e3, _, _⟩ := DataW.trod_int un3 t3
  cases e0; cases e1; cases e2; cases e3
  refine ⟨⟨bts s, n1, n2, n3⟩, s, rfl, c0, c1, c2, ?_, c3⟩
  simp only [Lit.wf, Bool.and_eq_true, decide_eq_true_eq] at w2
  exact w2.1
/-- a slice of items that came in -/
theorem items_in {W : World} {base : Nat} {v : Value} {d : DataW H} {p : List MemPlace} {r : Reach} {b0 : Nat} (hok : Value.okWide Try.prog W r b0 41 v)
    (h : DataW.Trod enc Try.prog W base (fun _ => true) true 41 v d p) (i : Nat) :
    ∃ (it : ArgIt) (lv : AV) (L : List It), (∀ l1 l2 : List ArgIt, l1.length = i → VR (argP (l1 ++ it :: l2)) lv v ∧ Its (argH (l1 ++ it :: l2)) lv L) ∧ (∀ ρ, ArgOk W ρ it) ∧ Ticks L := by
  obtain ⟨a0, len, cap, rfl⟩ := okWide_slice u_41 hok
  obtain ⟨n, hn⟩ := h
  have hn : DataW.trod enc Try.prog W base (fun _ => true) true n 41 [.slice a0 len cap] = some (d, p) := hn
  have hat : ∀ (l1 l2 : List ArgIt) (it : ArgIt), l1.length = i → (l1 ++ it :: l2)[i]? = some it := fun l1 l2 it hl => by subst hl; simp
  rcases open_slice u_41 hn with ⟨e1, _⟩ | ⟨a, len', cap', m, n', D, Pl, e1, _, hle, _, hm, _, hi⟩
  · cases e1
    exact ⟨⟨none, ⟨0, 0, 0⟩⟩, .slice none 0 0 none, [], fun l1 l2 _ => ⟨⟨rfl, rfl, rfl, rfl⟩, rfl, none, 0, none, rfl, fun _ => rfl, (fun _ _ e => by cases e)⟩, (fun _ _ e => by cases e), (fun _ h => absurd h (Nat.not_lt_zero _))⟩
  · cases e1
    have hm : m = cap := hm
    subst hm
    by_cases h0 : m = 0
    · subst h0
      obtain rfl : len = 0 := by omega
      refine ⟨⟨none, ⟨0, 0, 0⟩⟩, .slice (some (i, 0)) 0 0 none, [], fun l1 l2 hl => ⟨⟨⟨0, 0, 0⟩, a, 0, ?_, rfl, Nat.le_refl _, Nat.le_refl _, fun _ => rfl, (fun _ e => by cases e), fun h => absurd rfl h⟩, rfl, some (i, 0), 0, none, rfl, (fun e => by cases e), fun b o e => ?_⟩, (fun _ _ e => by cases e), (fun _ h => absurd h (Nat.not_lt_zero _))⟩
      · unfold argP; rw [hat l1 l2 _ hl]; rfl
      · cases e; exact ⟨args_lt (hat l1 l2 _ hl), fun h => absurd h (Nat.lt_irrefl 0)⟩
    · rw [ce53] at hi
      obtain ⟨L, hL, hLi⟩ := exists_list (Pr := ItAt W a) len fun j hj => by
        obtain ⟨cs', hc, ht⟩ := hi j (by omega)
        exact item_in hc ht
      obtain ⟨x0, s0, _, h00, _⟩ := (fun ⟨cs', hc, ht⟩ => item_in hc ht : _ → ∃ x, ItAt W a 0 x) (hi 0 (by omega))
      obtain ⟨blk, off, spot⟩ := a
      have hadd : ∀ j, (⟨blk, off, spot⟩ : Addr).add j = if j = 0 then ⟨blk, off, spot⟩ else ⟨blk, off + j, none⟩ := fun j => rfl
      rw [Nat.zero_mul, hadd, if_pos rfl] at h00
      have hex : ∃ c e fz, W.heap[blk]? = some (.cells c e fz) ∧ spot = none := by
        unfold World.cell? at h00
        cases hh : W.heap[blk]? with
        | none => rw [hh] at h00; cases h00
        | some ob =>
          rw [hh] at h00
          cases ob with
          | cells c e fz =>
            cases spot with
            | none => exact ⟨c, e, fz, rfl, rfl⟩
            | some k => cases h00
          | _ => cases h00
      obtain ⟨c, e', fz, hblk, rfl⟩ := hex
      have hcell : ∀ j w, W.cell? ((⟨blk, off, none⟩ : Addr).add j) = some w → c[off + j]? = some w := fun j w hw => by
        rw [hadd] at hw
        split at hw
        · rename_i e0; subst e0; rw [cell_of_heap hblk] at hw; exact hw
        · rw [cell_of_heap hblk] at hw; exact hw
      -- the last cell of all
      obtain ⟨xl, sl, _, _, _, _, _, hl3⟩ := (fun ⟨cs', hc, ht⟩ => item_in hc ht : _ → ∃ x, ItAt W ⟨blk, off, none⟩ (m - 1) x) (hi (m - 1) (by omega))
      have hsz : off + m * 4 ≤ c.size := by
        have := (Array.getElem?_eq_some_iff.1 (hcell _ _ hl3)).1
        omega
      have hLv : ∀ j (hj : j < L.length), ItAt W ⟨blk, off, none⟩ j L[j] := fun j hj => by
        obtain ⟨x, hx, hp⟩ := hLi j (by omega)
        rw [List.getElem?_eq_getElem hj] at hx
        rw [Option.some.inj hx]; exact hp
      refine ⟨⟨some (cs L), ⟨blk, off, c.size⟩⟩, .slice (some (i, 0)) len m none, L, fun l1 l2 hl => ⟨⟨⟨blk, off, c.size⟩, ⟨blk, off, none⟩, m, ?_, rfl, hle, Nat.le_refl _, fun _ => rfl, (fun _ e => by cases e), fun _ => rfl⟩, ?_⟩, ?_, ?_⟩
      · unfold argP; rw [hat l1 l2 _ hl]; rfl
      · refine ⟨cs_len L, some (i, 0), m, none, by rw [hL], (fun e => by cases e), fun b o e => ?_⟩
        cases e
        refine ⟨args_lt (hat l1 l2 _ hl), fun _ => ?_⟩
        rw [(args_Rw (hat l1 l2 _ hl)).ld (by rw [cs_len]; omega), List.drop_zero, List.take_of_length_le (by rw [cs_len]; omega)]
      · intro ρ xs hcs
        cases hcs
        refine ⟨c, e', fz, hblk, rfl, by rw [cs_len, hL]; exact Nat.le_trans (Nat.add_le_add_left (Nat.mul_le_mul_right 4 hle) _) hsz, fun j w hw => ?_⟩
        have hjl : j < L.length * 4 := by have := (List.getElem?_eq_some_iff.1 hw).1; rw [cs_len] at this; exact this
        have hq : j / 4 < L.length := by omega
        have hj4 : j = j / 4 * 4 + j % 4 := by omega
        obtain ⟨s, q1, q2, q3, q4, _, q5⟩ := hLv (j / 4) hq
        rw [hj4, cs_get L (j / 4) hq (j % 4) (Nat.mod_lt _ (by omega))] at hw
        have h4 : j % 4 = 0 ∨ j % 4 = 1 ∨ j % 4 = 2 ∨ j % 4 = 3 := by omega
        rcases h4 with h4 | h4 | h4 | h4
        · rw [h4] at hw; cases hw
          have h5 := hcell _ _ q2
          rw [show j / 4 * 4 = j by omega] at h5
          exact ⟨rfl, _, h5, s, rfl, q1.symm⟩
        · rw [h4] at hw; cases hw
          have h5 := hcell _ _ q3
          rw [show j / 4 * 4 + 1 = j by omega] at h5
          exact ⟨rfl, _, h5, rfl⟩
        · rw [h4] at hw; cases hw
          have h5 := hcell _ _ q4
          rw [show j / 4 * 4 + 2 = j by omega] at h5
          exact ⟨rfl, _, h5, rfl⟩
        · rw [h4] at hw; cases hw
          have h5 := hcell _ _ q5
          rw [show j / 4 * 4 + 3 = j by omega] at h5
          exact ⟨rfl, _, h5, rfl⟩
      · intro j hj
        rw [iti_at hj]
        obtain ⟨s, _, _, _, _, q5, _⟩ := hLv j hj
        exact q5
end
end Go.Proofs.Ytlfednnfkejcjaa


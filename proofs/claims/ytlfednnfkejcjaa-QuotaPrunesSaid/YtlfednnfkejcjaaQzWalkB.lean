/-
  The quota laws, walked by the rules.
-/
import Derived.Test.YtlfednnfkejcjaaQzWalkA
set_option linter.unusedVariables false
set_option linter.unusedSimpArgs false
set_option linter.constructorNameAsVariable false

namespace Go.Proofs.Ytlfednnfkejcjaa
open Go.Am Go.Qs
set_option maxRecDepth 10000
theorem s_int {k : IntKind} {n : Int} : AV.same (.int k n) (.int k n) = true := by cases k <;> simp [AV.same]
theorem s_ptr {p : Option (Nat × Nat)} : AV.same (.ptr p) (.ptr p) = true := by simp [AV.same]
theorem s_str {p : List Nat} : AV.same (.str p) (.str p) = true := by simp [AV.same]
theorem s_slice {p : Option (Nat × Nat)} {n c : Nat} {g : Option Nat} : AV.same (.slice p n c g) (.slice p n c g) = true := by simp [AV.same]

/-- an item -/
structure It where
  p : List Nat
  id : Int
  tick : Int
  size : Int
def It.c (x : It) : List AV := [.str x.p, .int .u32 x.id, .int .u32 x.tick, .int .i64 x.size]
abbrev cs (L : List It) : List AV := L.flatMap It.c
theorem cs_len (L : List It) : (cs L).length = L.length * 4 := by
  induction L with
  | nil => rfl
  | cons x L ih => show (It.c x ++ cs L).length = _; rw [List.length_append, ih, List.length_cons]; simp [It.c]; omega
theorem cs_get : ∀ (L : List It) (i : Nat) (h : i < L.length) (f : Nat), f < 4 → (cs L)[i * 4 + f]? = (L[i].c)[f]?
  | x :: L, 0, h, f, hf => by show (It.c x ++ cs L)[0 * 4 + f]? = _; rw [List.getElem?_append_left (by simp [It.c]; omega), Nat.zero_mul, Nat.zero_add]; rfl
  | x :: L, i + 1, h, f, hf => by
    show (It.c x ++ cs L)[(i + 1) * 4 + f]? = _
    rw [List.getElem?_append_right (by simp [It.c]; omega), show (i + 1) * 4 + f - (It.c x).length = i * 4 + f by simp [It.c]; omega]
    exact cs_get L i (by simpa using h) f hf
theorem cs_one (L : List It) : (cs L).all AV.one = true := by
  rw [List.all_eq_true]; intro x hx
  obtain ⟨y, _, hy⟩ := List.mem_flatMap.1 hx
  simp only [It.c, List.mem_cons, List.not_mem_nil, or_false] at hy
  rcases hy with rfl | rfl | rfl | rfl <;> rfl

/-- a slice of items, and the block that it lies in -/
def Its (h : Heap) (v : AV) (L : List It) : Prop := ElsR h v L.length 4 (cs L)
def blkOf : AV → Nat → Prop
  | .slice (some (b, _)) _ _ _, c => b = c
  | _, _ => False
theorem loadC_of {t : Tr AV} {z : List AV} : ∀ (n i : Nat) (l : List AV), l.length = n → (∀ j, j < n → cellAt t z (i + j) = l[j]?) → loadC t z n i = some l
  | 0, i, l, hl, _ => by rw [List.eq_nil_of_length_eq_zero hl]; rfl
  | n + 1, i, x :: l, hl, h => by
    show (Option.rec (motive := fun _ => Option (List AV)) none (fun v => Option.rec (motive := fun _ => Option (List AV)) none (fun vs => some (v :: vs)) (loadC t z n (i + 1))) (cellAt t z i) : Option (List AV)) = _
    rw [show cellAt t z i = some x from h 0 (by omega), loadC_of n (i + 1) l (by simpa using hl) (fun j hj => by rw [show i + 1 + j = i + (j + 1) by omega, h (j + 1) (by omega)]; rfl)]
theorem ld_part {h : Heap} {b o n : Nat} {vs : List AV} (hl : h.ld b o n = some vs) {i k : Nat} (hi : i + k ≤ n) : h.ld b (o + i) k = some ((vs.drop i).take k) := by
  obtain ⟨t, z, m, ro, h1, h2, h3, h4⟩ := ld_some hl
  unfold Heap.ld Heap.cells
  rw [h1]
  show (Bool.rec (motive := fun _ => Option (List AV)) none (loadC t z k (o + i)) (Nat.ble (o + i + k) m) : Option (List AV)) = _
  rw [show Nat.ble (o + i + k) m = true from Nat.ble_eq_true_of_le (by omega)]
  refine loadC_of k (o + i) _ (by simp; omega) fun j hj => ?_
  rw [show o + i + j = o + (i + j) by omega, h4 _ (by omega), List.getElem?_take_of_lt hj, List.getElem?_drop]
section
variable {h h' : Heap} {v : AV} {L : List It}
theorem Its.sl (hi : Its h v L) : ∃ a c g, v = .slice a L.length c g := by
  obtain ⟨_, a, c, g, e, _⟩ := hi
  exact ⟨a, c, g, e⟩
theorem Its.sm {F : Nat → Prop} (hi : Its h v L) (hs : Sm F h h') (hF : ∀ b, blkOf v b → ¬ F b) : Its h' v L := by
  obtain ⟨h0, a, c, g, rfl, h1, h2⟩ := hi
  refine ⟨h0, a, c, g, rfl, h1, fun b o e => ?_⟩
  subst e
  obtain ⟨g1, g2⟩ := h2 b o rfl
  refine ⟨Nat.lt_of_lt_of_le g1 hs.1, fun hn => ?_⟩
  rw [← g2 hn]
  unfold Heap.ld Heap.cells
  rw [hs.2 b g1 (hF b rfl)]
theorem Its.lt (hi : Its h v L) {b : Nat} (hb : blkOf v b) : b < h.next := by
  obtain ⟨h0, a, c, g, rfl, h1, h2⟩ := hi
  cases a with
  | none => exact hb.elim
  | some p => have : p.1 = b := hb; rw [← this]; exact (h2 p.1 p.2 rfl).1
/-- an item read -/
theorem Its.at {a : Option (Nat × Nat)} {c : Nat} {g : Option Nat} (hi : Its h (.slice a L.length c g) L) {i : Nat} (hl : i < L.length) :
    ∃ b o, a = some (b, o) ∧ h.ld1 b (o + i * 4) = some (.str L[i].p) ∧ h.ld1 b (o + i * 4 + 1) = some (.int .u32 L[i].id) ∧ h.ld1 b (o + i * 4 + 2) = some (.int .u32 L[i].tick) ∧ h.ld1 b (o + i * 4 + 3) = some (.int .i64 L[i].size) ∧ h.ld b (o + i * 4) 4 = some L[i].c := by
  obtain ⟨h0, a', c', g', e, h1, h2⟩ := hi
  cases e
  cases a with
  | none => have := h1 rfl; omega
  | some p =>
    have hld := (h2 p.1 p.2 rfl).2 (by omega)
    have hc := (ld_ld1 hld).2
    have hp := ld_part hld (i := i * 4) (k := 4) (by omega)
    refine ⟨p.1, p.2, rfl, ?_, ?_, ?_, ?_, ?_⟩
    · rw [hc _ (by omega)]; exact (cs_get L i hl 0 (by omega))
    · rw [Nat.add_assoc, hc _ (by omega)]; exact (cs_get L i hl 1 (by omega))
    · rw [Nat.add_assoc, hc _ (by omega)]; exact (cs_get L i hl 2 (by omega))
    · rw [Nat.add_assoc, hc _ (by omega)]; exact (cs_get L i hl 3 (by omega))
    · rw [hp]; congr 1
      apply List.ext_getElem?
      intro f
      by_cases hf : f < 4
      · rw [List.getElem?_take_of_lt hf, List.getElem?_drop]; exact cs_get L i hl f hf
      · rw [List.getElem?_eq_none (by simp; omega), List.getElem?_eq_none (by simp [It.c]; omega)]
end

theorem nan_ok' {n : Nat} (hn : 1 ≤ n) (x : Int) (h : Heap) : WC (Q n (.fn 107) [.int .u32 x] h) fun r h' => h' = h ∧ r = .bool false := by
  obtain ⟨m, rfl⟩ : ∃ m, n = m + 1 := ⟨n - 1, by omega⟩
  refine call_fn _ f107A rfl (by simp [fn107]) fun QQ hQ => ?_
  simp only [fn107] at hQ
  simp only [fn107, fill_cons, fill_nil, Nat.zero_add, Nat.reduceAdd]
  simp only [F107, SS, Nat.reduceBEq, Nat.reduceEqDiff, Nat.reduceAdd, reduceIte, Nat.reduceMul, ptrTo, sliceTo, mapTo, List.getElem?_cons_zero, List.getElem?_cons_succ, Option.map_some, List.append_nil, List.nil_append, List.all_cons, List.all_nil, List.length_cons, List.length_nil, eq_self]
  exact hQ _ _ _ _ (.inr rfl) (by simp only [SS, Nat.reduceBEq, Nat.reduceEqDiff, Nat.reduceAdd, reduceIte, Nat.reduceMul, ptrTo, sliceTo, mapTo, List.getElem?_cons_zero, List.getElem?_cons_succ, Option.map_some, List.append_nil, List.nil_append, List.all_cons, List.all_nil, List.length_cons, List.length_nil, eq_self]) (by simp only [SS, Nat.reduceBEq, Nat.reduceEqDiff, Nat.reduceAdd, reduceIte, Nat.reduceMul, ptrTo, sliceTo, mapTo, List.getElem?_cons_zero, List.getElem?_cons_succ, Option.map_some, List.append_nil, List.nil_append, List.all_cons, List.all_nil, List.length_cons, List.length_nil, eq_self]; rfl) ⟨rfl, by simp [tupled_one]⟩
theorem nan_ok {n : Nat} (hn : 1 ≤ n) (x : Int) (h : Heap) : Q n (.fn 107) [.int .u32 x] h = some (.bool false, h) := by
  have key : WC (Q n (.fn 107) [.int .u32 x] h) fun r h' => h' = h ∧ r = .bool false := by
    exact nan_ok' hn x h
  obtain ⟨r, h', e, rfl, rfl⟩ := key
  exact e
theorem compare_ok {n : Nat} (hn : 2 ≤ n) (a b : Int) (h : Heap) : WC (Q n (.fn 100) [.int .u32 a, .int .u32 b] h) fun r h' => h' = h ∧ r = .int .i64 (if a < b then -1 else if b < a then 1 else 0) := by
  have nan : ∀ n, 1 ≤ n → ∀ x : Int, Q n (.fn 107) [.int .u32 x] h = some (.bool false, h) := fun n hn x => nan_ok hn x h
  obtain ⟨m, rfl⟩ : ∃ m, n = m + 1 := ⟨n - 1, by omega⟩
  refine call_fn _ f100A rfl (by simp [fn100]) fun QQ hQ => ?_
  simp only [fn100] at hQ
  simp only [fn100, fill_cons, fill_nil, Nat.zero_add, Nat.reduceAdd]
  by_cases c1 : a < b
  · simp only [F100, SS, Nat.reduceBEq, Nat.reduceEqDiff, Nat.reduceAdd, reduceIte, Nat.reduceMul, ptrTo, sliceTo, mapTo, List.getElem?_cons_zero, List.getElem?_cons_succ, Option.map_some, List.append_nil, List.nil_append, List.all_cons, List.all_nil, List.length_cons, List.length_nil, eq_self, nan m (by omega), c1]
    exact hQ _ _ _ _ (.inr rfl) (by simp only [SS, Nat.reduceBEq, Nat.reduceEqDiff, Nat.reduceAdd, reduceIte, Nat.reduceMul, ptrTo, sliceTo, mapTo, List.getElem?_cons_zero, List.getElem?_cons_succ, Option.map_some, List.append_nil, List.nil_append, List.all_cons, List.all_nil, List.length_cons, List.length_nil, eq_self]) (by simp only [SS, Nat.reduceBEq, Nat.reduceEqDiff, Nat.reduceAdd, reduceIte, Nat.reduceMul, ptrTo, sliceTo, mapTo, List.getElem?_cons_zero, List.getElem?_cons_succ, Option.map_some, List.append_nil, List.nil_append, List.all_cons, List.all_nil, List.length_cons, List.length_nil, eq_self]; rfl) ⟨rfl, by rw [if_pos c1]; rfl⟩
  · by_cases c2 : b < a
    · simp only [F100, SS, Nat.reduceBEq, Nat.reduceEqDiff, Nat.reduceAdd, reduceIte, Nat.reduceMul, ptrTo, sliceTo, mapTo, List.getElem?_cons_zero, List.getElem?_cons_succ, Option.map_some, List.append_nil, List.nil_append, List.all_cons, List.all_nil, List.length_cons, List.length_nil, eq_self, nan m (by omega), c1, c2]
      exact hQ _ _ _ _ (.inr rfl) (by simp only [SS, Nat.reduceBEq, Nat.reduceEqDiff, Nat.reduceAdd, reduceIte, Nat.reduceMul, ptrTo, sliceTo, mapTo, List.getElem?_cons_zero, List.getElem?_cons_succ, Option.map_some, List.append_nil, List.nil_append, List.all_cons, List.all_nil, List.length_cons, List.length_nil, eq_self]) (by simp only [SS, Nat.reduceBEq, Nat.reduceEqDiff, Nat.reduceAdd, reduceIte, Nat.reduceMul, ptrTo, sliceTo, mapTo, List.getElem?_cons_zero, List.getElem?_cons_succ, Option.map_some, List.append_nil, List.nil_append, List.all_cons, List.all_nil, List.length_cons, List.length_nil, eq_self]; rfl) ⟨rfl, by rw [if_neg c1, if_pos c2]; rfl⟩
    · simp only [F100, SS, Nat.reduceBEq, Nat.reduceEqDiff, Nat.reduceAdd, reduceIte, Nat.reduceMul, ptrTo, sliceTo, mapTo, List.getElem?_cons_zero, List.getElem?_cons_succ, Option.map_some, List.append_nil, List.nil_append, List.all_cons, List.all_nil, List.length_cons, List.length_nil, eq_self, nan m (by omega), c1, c2]
      exact hQ _ _ _ _ (.inr rfl) (by simp only [SS, Nat.reduceBEq, Nat.reduceEqDiff, Nat.reduceAdd, reduceIte, Nat.reduceMul, ptrTo, sliceTo, mapTo, List.getElem?_cons_zero, List.getElem?_cons_succ, Option.map_some, List.append_nil, List.nil_append, List.all_cons, List.all_nil, List.length_cons, List.length_nil, eq_self]) (by simp only [SS, Nat.reduceBEq, Nat.reduceEqDiff, Nat.reduceAdd, reduceIte, Nat.reduceMul, ptrTo, sliceTo, mapTo, List.getElem?_cons_zero, List.getElem?_cons_succ, Option.map_some, List.append_nil, List.nil_append, List.all_cons, List.all_nil, List.length_cons, List.length_nil, eq_self]; rfl) ⟨rfl, by rw [if_neg c1, if_neg c2]; rfl⟩
theorem or_ok {n : Nat} (hn : 1 ≤ n) {a b : Int} {h : Heap} {id : Nat} {z : List AV} (hr : Rw h id [.int .i64 a, .int .i64 b] z false) : WC (Q n (.fn 99) [.slice (some (id, 0)) 2 2 none] h) fun r h' => h' = h ∧ r = .int .i64 (if a = 0 then b else a) := by
  obtain ⟨m, rfl⟩ : ∃ m, n = m + 1 := ⟨n - 1, by omega⟩
  refine call_fn _ f99A rfl (by simp [fn99]) fun QQ hQ => ?_
  simp only [fn99] at hQ
  simp only [fn99, fill_cons, fill_nil, Nat.zero_add, Nat.reduceAdd]
  simp only [F99, SS, Nat.reduceBEq, Nat.reduceEqDiff, Nat.reduceAdd, reduceIte, Nat.reduceMul, ptrTo, sliceTo, mapTo, List.getElem?_cons_zero, List.getElem?_cons_succ, Option.map_some, List.append_nil, List.nil_append, List.all_cons, List.all_nil, List.length_cons, List.length_nil, eq_self, x_len_142]
  refine run_loop (c := c99_9) (I := fun m' tm' h' => ∃ i : Nat, i ≤ 2 ∧ m' = 2 - i ∧ h' = h ∧ (1 ≤ i → a = 0) ∧ (2 ≤ i → b = 0) ∧ tm'.gt 3 = some (.int .i64 0) ∧ tm'.gt 6 = some (.slice (some (id, 0)) 2 2 none) ∧ tm'.gt 7 = some (I 2) ∧ tm'.gt 8 = some (I i) ∧ tm'.gt 18 = none) (n := 2)
    ⟨0, by omega, rfl, rfl, (fun h => by omega), (fun h => by omega), by simp only [SS, Nat.reduceBEq, Nat.reduceEqDiff, Nat.reduceAdd, reduceIte, Nat.reduceMul, ptrTo, sliceTo, mapTo, List.getElem?_cons_zero, List.getElem?_cons_succ, Option.map_some, List.append_nil, List.nil_append, List.all_cons, List.all_nil, List.length_cons, List.length_nil, eq_self], by simp only [SS, Nat.reduceBEq, Nat.reduceEqDiff, Nat.reduceAdd, reduceIte, Nat.reduceMul, ptrTo, sliceTo, mapTo, List.getElem?_cons_zero, List.getElem?_cons_succ, Option.map_some, List.append_nil, List.nil_append, List.all_cons, List.all_nil, List.length_cons, List.length_nil, eq_self], by simp only [SS, Nat.reduceBEq, Nat.reduceEqDiff, Nat.reduceAdd, reduceIte, Nat.reduceMul, ptrTo, sliceTo, mapTo, List.getElem?_cons_zero, List.getElem?_cons_succ, Option.map_some, List.append_nil, List.nil_append, List.all_cons, List.all_nil, List.length_cons, List.length_nil, eq_self], by simp only [SS, Nat.reduceBEq, Nat.reduceEqDiff, Nat.reduceAdd, reduceIte, Nat.reduceMul, ptrTo, sliceTo, mapTo, List.getElem?_cons_zero, List.getElem?_cons_succ, Option.map_some, List.append_nil, List.nil_append, List.all_cons, List.all_nil, List.length_cons, List.length_nil, eq_self]; rfl, by simp only [SS, Nat.reduceBEq, Nat.reduceEqDiff, Nat.reduceAdd, reduceIte, Nat.reduceMul, ptrTo, sliceTo, mapTo, List.getElem?_cons_zero, List.getElem?_cons_succ, Option.map_some, List.append_nil, List.nil_append, List.all_cons, List.all_nil, List.length_cons, List.length_nil, eq_self]⟩ (by omega) ?_
  rintro _ tm h1 ⟨i, hi, rfl, rfl, i1, i2, t3, t6, t7, t8, t18⟩ Q1 hN1 hE
  have e0 := hr.ld1 0
  have e1 := hr.ld1 1
  simp only [List.getElem?_cons_zero, List.getElem?_cons_succ] at e0 e1
  have ia := fun hi => x_ia_142 (k := .i64) (b := id) (o := 0) (n := 2) (c := 2) (g := none) (i := i) hi
  by_cases c1 : i < 2
  · have fin : ∀ x : Int, h1.ld1 id i = some (.int .i64 x) → (¬ x = 0 → x = if a = 0 then b else a) → (x = 0 → (1 ≤ i + 1 → a = 0) ∧ (2 ≤ i + 1 → b = 0)) → run (callN P (keepF P) prQ 100000 m) 100000 18 99 none c99_9 [] tm h1 Q1 := by
      intro x hx h1 h2
      by_cases c2 : x = 0
      · obtain ⟨g1, g2⟩ := h2 c2
        simp only [F99, t3, t6, t7, t8, t18, SS, Nat.reduceBEq, Nat.reduceEqDiff, Nat.reduceAdd, reduceIte, Nat.reduceMul, ptrTo, sliceTo, mapTo, List.getElem?_cons_zero, List.getElem?_cons_succ, Option.map_some, List.append_nil, List.nil_append, List.all_cons, List.all_nil, List.length_cons, List.length_nil, eq_self, Int.ofNat_lt, c1, ia c1, hx, c2, wAdd1 (show i ≤ 1000000 by omega)]
        exact hN1 _ _ (2 - (i + 1)) (by omega) ⟨i + 1, by omega, rfl, rfl, g1, g2, by simp only [SS, Nat.reduceBEq, Nat.reduceEqDiff, Nat.reduceAdd, reduceIte, Nat.reduceMul, ptrTo, sliceTo, mapTo, List.getElem?_cons_zero, List.getElem?_cons_succ, Option.map_some, List.append_nil, List.nil_append, List.all_cons, List.all_nil, List.length_cons, List.length_nil, eq_self, t3], by simp only [SS, Nat.reduceBEq, Nat.reduceEqDiff, Nat.reduceAdd, reduceIte, Nat.reduceMul, ptrTo, sliceTo, mapTo, List.getElem?_cons_zero, List.getElem?_cons_succ, Option.map_some, List.append_nil, List.nil_append, List.all_cons, List.all_nil, List.length_cons, List.length_nil, eq_self, t6], by simp only [SS, Nat.reduceBEq, Nat.reduceEqDiff, Nat.reduceAdd, reduceIte, Nat.reduceMul, ptrTo, sliceTo, mapTo, List.getElem?_cons_zero, List.getElem?_cons_succ, Option.map_some, List.append_nil, List.nil_append, List.all_cons, List.all_nil, List.length_cons, List.length_nil, eq_self, t7], by simp only [SS, Nat.reduceBEq, Nat.reduceEqDiff, Nat.reduceAdd, reduceIte, Nat.reduceMul, ptrTo, sliceTo, mapTo, List.getElem?_cons_zero, List.getElem?_cons_succ, Option.map_some, List.append_nil, List.nil_append, List.all_cons, List.all_nil, List.length_cons, List.length_nil, eq_self], by simp only [SS, Nat.reduceBEq, Nat.reduceEqDiff, Nat.reduceAdd, reduceIte, Nat.reduceMul, ptrTo, sliceTo, mapTo, List.getElem?_cons_zero, List.getElem?_cons_succ, Option.map_some, List.append_nil, List.nil_append, List.all_cons, List.all_nil, List.length_cons, List.length_nil, eq_self, t18]⟩
      · simp only [F99, t3, t6, t7, t8, t18, SS, Nat.reduceBEq, Nat.reduceEqDiff, Nat.reduceAdd, reduceIte, Nat.reduceMul, ptrTo, sliceTo, mapTo, List.getElem?_cons_zero, List.getElem?_cons_succ, Option.map_some, List.append_nil, List.nil_append, List.all_cons, List.all_nil, List.length_cons, List.length_nil, eq_self, Int.ofNat_lt, c1, ia c1, hx, c2]
        refine hE _ _ _ (by simp) ?_
        simp only [SS, Nat.reduceBEq, Nat.reduceEqDiff, Nat.reduceAdd, reduceIte, Nat.reduceMul, ptrTo, sliceTo, mapTo, List.getElem?_cons_zero, List.getElem?_cons_succ, Option.map_some, List.append_nil, List.nil_append, List.all_cons, List.all_nil, List.length_cons, List.length_nil, eq_self]
        exact hQ _ _ _ _ (.inr rfl) (by simp only [SS, Nat.reduceBEq, Nat.reduceEqDiff, Nat.reduceAdd, reduceIte, Nat.reduceMul, ptrTo, sliceTo, mapTo, List.getElem?_cons_zero, List.getElem?_cons_succ, Option.map_some, List.append_nil, List.nil_append, List.all_cons, List.all_nil, List.length_cons, List.length_nil, eq_self, t18]) (by simp only [SS, Nat.reduceBEq, Nat.reduceEqDiff, Nat.reduceAdd, reduceIte, Nat.reduceMul, ptrTo, sliceTo, mapTo, List.getElem?_cons_zero, List.getElem?_cons_succ, Option.map_some, List.append_nil, List.nil_append, List.all_cons, List.all_nil, List.length_cons, List.length_nil, eq_self]; rfl) ⟨rfl, by rw [h1 c2]; rfl⟩
    have : i = 0 ∨ i = 1 := by omega
    rcases this with rfl | rfl
    · exact fin a e0 (fun h => by rw [if_neg h]) (fun h => ⟨fun _ => h, fun h => by omega⟩)
    · exact fin b e1 (fun h => by rw [if_pos (i1 (by omega))]) (fun h => ⟨fun _ => i1 (by omega), fun _ => h⟩)
  · have : i = 2 := by omega
    subst this
    simp only [F99, t3, t6, t7, t8, t18, SS, Nat.reduceBEq, Nat.reduceEqDiff, Nat.reduceAdd, reduceIte, Nat.reduceMul, ptrTo, sliceTo, mapTo, List.getElem?_cons_zero, List.getElem?_cons_succ, Option.map_some, List.append_nil, List.nil_append, List.all_cons, List.all_nil, List.length_cons, List.length_nil, eq_self, Int.ofNat_lt, c1]
    refine hE _ _ _ (by simp) ?_
    simp only [F99, t3, t18, SS, Nat.reduceBEq, Nat.reduceEqDiff, Nat.reduceAdd, reduceIte, Nat.reduceMul, ptrTo, sliceTo, mapTo, List.getElem?_cons_zero, List.getElem?_cons_succ, Option.map_some, List.append_nil, List.nil_append, List.all_cons, List.all_nil, List.length_cons, List.length_nil, eq_self]
    exact hQ _ _ _ _ (.inr rfl) (by simp only [SS, Nat.reduceBEq, Nat.reduceEqDiff, Nat.reduceAdd, reduceIte, Nat.reduceMul, ptrTo, sliceTo, mapTo, List.getElem?_cons_zero, List.getElem?_cons_succ, Option.map_some, List.append_nil, List.nil_append, List.all_cons, List.all_nil, List.length_cons, List.length_nil, eq_self, t18]) (by simp only [SS, Nat.reduceBEq, Nat.reduceEqDiff, Nat.reduceAdd, reduceIte, Nat.reduceMul, ptrTo, sliceTo, mapTo, List.getElem?_cons_zero, List.getElem?_cons_succ, Option.map_some, List.append_nil, List.nil_append, List.all_cons, List.all_nil, List.length_cons, List.length_nil, eq_self]; rfl) ⟨rfl, by rw [if_pos (i1 (by omega)), i2 (by omega)]; rfl⟩
end Go.Proofs.Ytlfednnfkejcjaa

namespace Go.Proofs.Ytlfednnfkejcjaa
open Go.Am Go.Qs
set_option maxRecDepth 10000
/-- older, by tick and id -/
def old (x y : It) : Prop := x.tick < y.tick ∨ (x.tick = y.tick ∧ x.id < y.id)
def nil' : It := ⟨[], 0, 0, 0⟩
def iti (L : List It) (i : Nat) : It := L.getD i nil'
theorem iti_at {L : List It} {i : Nat} (h : i < L.length) : iti L i = L[i] := by simp [iti, List.getD_eq_getElem?_getD, List.getElem?_eq_getElem h]
def ltI (L : List It) (i j : Nat) : Prop := old (iti L i) (iti L j)
theorem ltI_wk (L : List It) : Wk (ltI L) := ⟨fun x => by unfold ltI old; omega, fun x y z => by unfold ltI old; omega, fun x y z => by unfold ltI old; omega⟩
/-- the captured list -/
def CapAt (bl : Nat) (lv : AV) (L : List It) (h : Heap) : Prop := (∃ z ro, Rw h bl [lv] z ro) ∧ bl < h.next ∧ Its h lv L
theorem CapAt.sm {bl : Nat} {lv : AV} {L : List It} {h h' : Heap} {F : Nat → Prop} (hc : CapAt bl lv L h) (hs : Sm F h h') (h1 : ¬ F bl) (h2 : ∀ b, blkOf lv b → ¬ F b) : CapAt bl lv L h' := by
  obtain ⟨⟨z, ro, r⟩, lt, hi⟩ := hc
  exact ⟨⟨z, ro, r.sm hs lt h1⟩, Nat.lt_of_lt_of_le lt hs.1, hi.sm hs h2⟩
theorem CapAt.no {bl : Nat} {lv : AV} {L : List It} {h h' : Heap} (hc : CapAt bl lv L h) (hs : Sm NoB h h') : CapAt bl lv L h' := hc.sm hs (fun h => h) (fun _ _ h => h)
/-- a drawn region's new block -/
theorem Rw.allocP (h : Heap) {id n : Nat} {vs z : List AV} {ro : Bool} (hn : n = vs.length) :
    ∃ h1, Heap.mk (h.bs.up (some (.cells (fillC vs .leaf 0) z n ro)) id) h.next = h1 ∧ Rw h1 id vs z ro ∧ h1.next = h.next ∧ ∀ c, c ≠ id → h1.bs.gt c = h.bs.gt c := by
  subst hn
  refine ⟨_, rfl, ⟨fillC vs .leaf 0, by show (h.bs.up _ id).gt id = _; rw [Tr.gt_up, if_pos rfl], fun i hi => ?_⟩, rfl, fun c hc => by show (h.bs.up _ id).gt c = _; rw [Tr.gt_up, if_neg hc]⟩
  unfold cellAt
  rw [gt_fillC, if_pos (by omega), Nat.sub_zero, List.getElem?_eq_getElem hi]
theorem byage_ok {n : Nat} (hn : 3 ≤ n) {h : Heap} {bl : Nat} {lv : AV} {L : List It} (hc : CapAt bl lv L h) {i j : Nat} (hi : i < L.length) (hj : j < L.length) :
    WC (Q n (.fn 98) [I i, I j, .ptr (some (bl, 0))] h) fun r h' => ∃ v : Int, r = .int .i64 v ∧ (v < 0 ↔ ltI L i j) ∧ Sm NoB h h' := by
  obtain ⟨m, rfl⟩ : ∃ m, n = m + 1 := ⟨n - 1, by omega⟩
  refine call_fn _ f98A rfl (by simp [fn98]) fun QQ hQ => ?_
  simp only [fn98] at hQ
  simp only [fn98, fill_cons, fill_nil, Nat.zero_add, Nat.reduceAdd]
  obtain ⟨hb, eb, sb, _, nb⟩ := Sm.bump h 25
  have hcb := hc.no sb
  obtain ⟨⟨z, ro, rb⟩, ltb, its⟩ := id hcb
  have l0 := rb.ld1 0
  rw [List.getElem?_cons_zero] at l0
  obtain ⟨a, c, g, rfl⟩ := its.sl
  obtain ⟨b, o, rfl, _, i2, i3, _⟩ := its.at hi
  obtain ⟨b', o', e', _, j2, j3, _⟩ := its.at hj
  cases e'
  have e1 : ∃ v1, Q m (.fn 100) [.int .u32 L[i].tick, .int .u32 L[j].tick] hb = some (.int .i64 v1, hb) ∧ v1 = if L[i].tick < L[j].tick then (-1 : Int) else if L[j].tick < L[i].tick then 1 else 0 := by
    obtain ⟨r1, h1, e1, rfl, rfl⟩ := compare_ok (n := m) (by omega) L[i].tick L[j].tick hb
    exact ⟨_, e1, rfl⟩
  have e2 : ∃ v2, Q m (.fn 100) [.int .u32 L[i].id, .int .u32 L[j].id] hb = some (.int .i64 v2, hb) ∧ v2 = if L[i].id < L[j].id then (-1 : Int) else if L[j].id < L[i].id then 1 else 0 := by
    obtain ⟨r1, h1, e1, rfl, rfl⟩ := compare_ok (n := m) (by omega) L[i].id L[j].id hb
    exact ⟨_, e1, rfl⟩
  obtain ⟨v1, e1, hv1⟩ := e1
  obtain ⟨v2, e2, hv2⟩ := e2
  obtain ⟨h3, e3, r3, n3, g3⟩ := Rw.allocP hb (id := h.next + 22) (n := 2) (vs := [.int .i64 v1, .int .i64 v2]) (z := []) (ro := false) rfl
  obtain ⟨r, h4, e4, rfl, rfl⟩ := or_ok (n := m) (by omega) r3
  have x1 := x_ia_41 (k := .i64) (b := b) (o := o) (c := c) (g := g) hi
  have x2 := x_ia_41 (k := .i64) (b := b) (o := o) (c := c) (g := g) hj
  simp only [F98, x_fa_53_1, x_fa_53_2, x_bs_142_2, SS, Nat.reduceBEq, Nat.reduceEqDiff, Nat.reduceAdd, reduceIte, Nat.reduceMul, ptrTo, sliceTo, mapTo, List.getElem?_cons_zero, List.getElem?_cons_succ, Option.map_some, List.append_nil, List.nil_append, List.all_cons, List.all_nil, List.length_cons, List.length_nil, eq_self, eb, l0, x1, x2, i2, i3, j2, j3, e1, e2, e3, e4, s_int, s_ptr, s_slice, and'_eq, iff'_true, Nat.add_eq]
  refine hQ _ _ _ _ (.inr rfl) (by simp only [SS, Nat.reduceBEq, Nat.reduceEqDiff, Nat.reduceAdd, reduceIte, Nat.reduceMul, ptrTo, sliceTo, mapTo, List.getElem?_cons_zero, List.getElem?_cons_succ, Option.map_some, List.append_nil, List.nil_append, List.all_cons, List.all_nil, List.length_cons, List.length_nil, eq_self]) (by simp only [SS, Nat.reduceBEq, Nat.reduceEqDiff, Nat.reduceAdd, reduceIte, Nat.reduceMul, ptrTo, sliceTo, mapTo, List.getElem?_cons_zero, List.getElem?_cons_succ, Option.map_some, List.append_nil, List.nil_append, List.all_cons, List.all_nil, List.length_cons, List.length_nil, eq_self]; rfl) ⟨_, rfl, ?_, ?_⟩
  · unfold ltI old
    rw [iti_at hi, iti_at hj, hv1, hv2]
    (repeat' split) <;> omega
  · exact ⟨by have := sb.1; omega, fun c hc _ => by rw [g3 c (by omega), sb.2 c hc (fun h => h)]⟩
end Go.Proofs.Ytlfednnfkejcjaa

namespace Go.Proofs.Ytlfednnfkejcjaa
open Go.Am Go.Qs
set_option maxRecDepth 10000
theorem box_slice {a : Option (Nat × Nat)} {n c : Nat} {g : Option Nat} : box1 (.slice a n c g) = some (.cells (fillC [.slice a n c g] .leaf 0) [] 1 false, ptrTo) := box_one rfl rfl
theorem box_int {k : IntKind} {n : Int} : box1 (.int k n) = some (.cells (fillC [.int k n] .leaf 0) [] 1 false, ptrTo) := box_one rfl rfl
theorem mk_fn {f : Nat} {us : List AV} : mkFunc (Fn.func f) 0 us = some (.func (Fn.func f) [] us) := rfl
theorem dl_succ (d : Nat → Nat) (n : Nat) : dl d (n + 1) = dl d n ++ [I (d n)] := by simp [dl, List.range_succ]
theorem ins_nil {n : Nat} (hn : 1 ≤ n) {cm : AV} {h : Heap} : WC (Q n (.fn 111) [.slice none 0 0 none, I 0, I 0, cm] h) fun r h' => h' = h := by
  obtain ⟨m, rfl⟩ : ∃ m, n = m + 1 := ⟨n - 1, by omega⟩
  refine call_fn _ f111A rfl (by simp [fn111]) fun QQ hQ => ?_
  simp only [fn111] at hQ
  simp only [fn111, fill_cons, fill_nil, Nat.zero_add, Nat.reduceAdd]
  have w1 : IntKind.i64.wrap ((0 : Nat) + 1) = 1 := by decide
  simp only [F111, SS, Nat.reduceBEq, Nat.reduceEqDiff, Nat.reduceAdd, reduceIte, Nat.reduceMul, ptrTo, sliceTo, mapTo, List.getElem?_cons_zero, List.getElem?_cons_succ, Option.map_some, List.append_nil, List.nil_append, List.all_cons, List.all_nil, List.length_cons, List.length_nil, eq_self, w1]
  refine run_loop (c := c111_4) (I := fun m' tm' h1 => h1 = h ∧ tm'.gt 2 = some (I 0) ∧ tm'.gt 8 = some (.int .i64 1) ∧ tm'.gt 53 = none) (n := 0) ⟨rfl, by simp only [SS, Nat.reduceBEq, Nat.reduceEqDiff, Nat.reduceAdd, reduceIte, Nat.reduceMul, ptrTo, sliceTo, mapTo, List.getElem?_cons_zero, List.getElem?_cons_succ, Option.map_some, List.append_nil, List.nil_append, List.all_cons, List.all_nil, List.length_cons, List.length_nil, eq_self], by simp only [SS, Nat.reduceBEq, Nat.reduceEqDiff, Nat.reduceAdd, reduceIte, Nat.reduceMul, ptrTo, sliceTo, mapTo, List.getElem?_cons_zero, List.getElem?_cons_succ, Option.map_some, List.append_nil, List.nil_append, List.all_cons, List.all_nil, List.length_cons, List.length_nil, eq_self], by simp only [SS, Nat.reduceBEq, Nat.reduceEqDiff, Nat.reduceAdd, reduceIte, Nat.reduceMul, ptrTo, sliceTo, mapTo, List.getElem?_cons_zero, List.getElem?_cons_succ, Option.map_some, List.append_nil, List.nil_append, List.all_cons, List.all_nil, List.length_cons, List.length_nil, eq_self]⟩ (by omega) ?_
  rintro _ tm h1 ⟨rfl, t2, t8, t53⟩ Q1 hN1 hE
  have c1 : ¬ ((1 : Int) < ((0 : Nat) : Int)) := by omega
  simp only [F111, SS, Nat.reduceBEq, Nat.reduceEqDiff, Nat.reduceAdd, reduceIte, Nat.reduceMul, ptrTo, sliceTo, mapTo, List.getElem?_cons_zero, List.getElem?_cons_succ, Option.map_some, List.append_nil, List.nil_append, List.all_cons, List.all_nil, List.length_cons, List.length_nil, eq_self, t2, t8, t53, c1]
  refine hE _ _ _ (by simp) ?_
  simp only [SS, Nat.reduceBEq, Nat.reduceEqDiff, Nat.reduceAdd, reduceIte, Nat.reduceMul, ptrTo, sliceTo, mapTo, List.getElem?_cons_zero, List.getElem?_cons_succ, Option.map_some, List.append_nil, List.nil_append, List.all_cons, List.all_nil, List.length_cons, List.length_nil, eq_self]
  exact hQ _ _ _ _ (.inl rfl) (by simp only [SS, Nat.reduceBEq, Nat.reduceEqDiff, Nat.reduceAdd, reduceIte, Nat.reduceMul, ptrTo, sliceTo, mapTo, List.getElem?_cons_zero, List.getElem?_cons_succ, Option.map_some, List.append_nil, List.nil_append, List.all_cons, List.all_nil, List.length_cons, List.length_nil, eq_self, t53]) (by simp only [SS, Nat.reduceBEq, Nat.reduceEqDiff, Nat.reduceAdd, reduceIte, Nat.reduceMul, ptrTo, sliceTo, mapTo, List.getElem?_cons_zero, List.getElem?_cons_succ, Option.map_some, List.append_nil, List.nil_append, List.all_cons, List.all_nil, List.length_cons, List.length_nil, eq_self]; rfl) rfl
theorem stable_nil {n : Nat} (hn : 2 ≤ n) {cm : AV} {h : Heap} : WC (Q n (.fn 106) [.slice none 0 0 none, I 0, cm] h) fun r h' => h' = h := by
  obtain ⟨m, rfl⟩ : ∃ m, n = m + 1 := ⟨n - 1, by omega⟩
  refine call_fn _ f106A rfl (by simp [fn106]) fun QQ hQ => ?_
  simp only [fn106] at hQ
  simp only [fn106, fill_cons, fill_nil, Nat.zero_add, Nat.reduceAdd]
  simp only [F106, r106_21, SS, Nat.reduceBEq, Nat.reduceEqDiff, Nat.reduceAdd, reduceIte, Nat.reduceMul, ptrTo, sliceTo, mapTo, List.getElem?_cons_zero, List.getElem?_cons_succ, Option.map_some, List.append_nil, List.nil_append, List.all_cons, List.all_nil, List.length_cons, List.length_nil, eq_self]
  refine run_loop (c := c106_7) (I := fun m' tm' h1 => h1 = h ∧ tm'.gt 0 = some (.slice none 0 0 none) ∧ tm'.gt 1 = some (I 0) ∧ tm'.gt 2 = some cm ∧ tm'.gt 6 = some (.int .i64 20) ∧ tm'.gt 7 = some (I 0) ∧ tm'.gt 8 = some (.int .i64 20) ∧ tm'.gt 63 = none) (n := 0) ⟨rfl, by simp only [SS, Nat.reduceBEq, Nat.reduceEqDiff, Nat.reduceAdd, reduceIte, Nat.reduceMul, ptrTo, sliceTo, mapTo, List.getElem?_cons_zero, List.getElem?_cons_succ, Option.map_some, List.append_nil, List.nil_append, List.all_cons, List.all_nil, List.length_cons, List.length_nil, eq_self], by simp only [SS, Nat.reduceBEq, Nat.reduceEqDiff, Nat.reduceAdd, reduceIte, Nat.reduceMul, ptrTo, sliceTo, mapTo, List.getElem?_cons_zero, List.getElem?_cons_succ, Option.map_some, List.append_nil, List.nil_append, List.all_cons, List.all_nil, List.length_cons, List.length_nil, eq_self], by simp only [SS, Nat.reduceBEq, Nat.reduceEqDiff, Nat.reduceAdd, reduceIte, Nat.reduceMul, ptrTo, sliceTo, mapTo, List.getElem?_cons_zero, List.getElem?_cons_succ, Option.map_some, List.append_nil, List.nil_append, List.all_cons, List.all_nil, List.length_cons, List.length_nil, eq_self], by simp only [SS, Nat.reduceBEq, Nat.reduceEqDiff, Nat.reduceAdd, reduceIte, Nat.reduceMul, ptrTo, sliceTo, mapTo, List.getElem?_cons_zero, List.getElem?_cons_succ, Option.map_some, List.append_nil, List.nil_append, List.all_cons, List.all_nil, List.length_cons, List.length_nil, eq_self], by simp only [SS, Nat.reduceBEq, Nat.reduceEqDiff, Nat.reduceAdd, reduceIte, Nat.reduceMul, ptrTo, sliceTo, mapTo, List.getElem?_cons_zero, List.getElem?_cons_succ, Option.map_some, List.append_nil, List.nil_append, List.all_cons, List.all_nil, List.length_cons, List.length_nil, eq_self]; rfl, by simp only [SS, Nat.reduceBEq, Nat.reduceEqDiff, Nat.reduceAdd, reduceIte, Nat.reduceMul, ptrTo, sliceTo, mapTo, List.getElem?_cons_zero, List.getElem?_cons_succ, Option.map_some, List.append_nil, List.nil_append, List.all_cons, List.all_nil, List.length_cons, List.length_nil, eq_self], by simp only [SS, Nat.reduceBEq, Nat.reduceEqDiff, Nat.reduceAdd, reduceIte, Nat.reduceMul, ptrTo, sliceTo, mapTo, List.getElem?_cons_zero, List.getElem?_cons_succ, Option.map_some, List.append_nil, List.nil_append, List.all_cons, List.all_nil, List.length_cons, List.length_nil, eq_self]⟩ (by omega) ?_
  rintro _ tm h1 ⟨rfl, t0, t1, t2, t6, t7, t8, t63⟩ Q1 hN1 hE
  have c1 : ¬ ((20 : Int) ≤ ((0 : Nat) : Int)) := by omega
  obtain ⟨r, h2, e2, rfl⟩ := ins_nil (n := m) (by omega) (cm := cm) (h := h1)
  simp only [F106, r106_21, SS, Nat.reduceBEq, Nat.reduceEqDiff, Nat.reduceAdd, reduceIte, Nat.reduceMul, ptrTo, sliceTo, mapTo, List.getElem?_cons_zero, List.getElem?_cons_succ, Option.map_some, List.append_nil, List.nil_append, List.all_cons, List.all_nil, List.length_cons, List.length_nil, eq_self, t0, t1, t2, t6, t7, t8, t63, c1]
  refine hE _ _ _ (by simp) ?_
  simp only [F106, r106_21, SS, Nat.reduceBEq, Nat.reduceEqDiff, Nat.reduceAdd, reduceIte, Nat.reduceMul, ptrTo, sliceTo, mapTo, List.getElem?_cons_zero, List.getElem?_cons_succ, Option.map_some, List.append_nil, List.nil_append, List.all_cons, List.all_nil, List.length_cons, List.length_nil, eq_self, t0, t1, t2, t6, t7, t8, t63, e2]
  refine run_loop (c := c106_23) (I := fun m' tm' h1 => h1 = h2 ∧ tm'.gt 1 = some (I 0) ∧ tm'.gt 6 = some (.int .i64 20) ∧ tm'.gt 63 = none) (n := 0) ⟨rfl, by simp only [SS, Nat.reduceBEq, Nat.reduceEqDiff, Nat.reduceAdd, reduceIte, Nat.reduceMul, ptrTo, sliceTo, mapTo, List.getElem?_cons_zero, List.getElem?_cons_succ, Option.map_some, List.append_nil, List.nil_append, List.all_cons, List.all_nil, List.length_cons, List.length_nil, eq_self, t1], by simp only [SS, Nat.reduceBEq, Nat.reduceEqDiff, Nat.reduceAdd, reduceIte, Nat.reduceMul, ptrTo, sliceTo, mapTo, List.getElem?_cons_zero, List.getElem?_cons_succ, Option.map_some, List.append_nil, List.nil_append, List.all_cons, List.all_nil, List.length_cons, List.length_nil, eq_self, t6], by simp only [SS, Nat.reduceBEq, Nat.reduceEqDiff, Nat.reduceAdd, reduceIte, Nat.reduceMul, ptrTo, sliceTo, mapTo, List.getElem?_cons_zero, List.getElem?_cons_succ, Option.map_some, List.append_nil, List.nil_append, List.all_cons, List.all_nil, List.length_cons, List.length_nil, eq_self, t63]⟩ (by omega) ?_
  rintro _ tm h1 ⟨rfl, t1, t6, t63⟩ Q2 hN2 hE2
  have c1 : ¬ ((20 : Int) < ((0 : Nat) : Int)) := by omega
  simp only [F106, r106_21, SS, Nat.reduceBEq, Nat.reduceEqDiff, Nat.reduceAdd, reduceIte, Nat.reduceMul, ptrTo, sliceTo, mapTo, List.getElem?_cons_zero, List.getElem?_cons_succ, Option.map_some, List.append_nil, List.nil_append, List.all_cons, List.all_nil, List.length_cons, List.length_nil, eq_self, t1, t6, t63, c1]
  refine hE2 _ _ _ (by simp) ?_
  simp only [SS, Nat.reduceBEq, Nat.reduceEqDiff, Nat.reduceAdd, reduceIte, Nat.reduceMul, ptrTo, sliceTo, mapTo, List.getElem?_cons_zero, List.getElem?_cons_succ, Option.map_some, List.append_nil, List.nil_append, List.all_cons, List.all_nil, List.length_cons, List.length_nil, eq_self]
  exact hQ _ _ _ _ (.inl rfl) (by simp only [SS, Nat.reduceBEq, Nat.reduceEqDiff, Nat.reduceAdd, reduceIte, Nat.reduceMul, ptrTo, sliceTo, mapTo, List.getElem?_cons_zero, List.getElem?_cons_succ, Option.map_some, List.append_nil, List.nil_append, List.all_cons, List.all_nil, List.length_cons, List.length_nil, eq_self, t63]) (by simp only [SS, Nat.reduceBEq, Nat.reduceEqDiff, Nat.reduceAdd, reduceIte, Nat.reduceMul, ptrTo, sliceTo, mapTo, List.getElem?_cons_zero, List.getElem?_cons_succ, Option.map_some, List.append_nil, List.nil_append, List.all_cons, List.all_nil, List.length_cons, List.length_nil, eq_self]; rfl) rfl
theorem sort_nil {n : Nat} (hn : 3 ≤ n) {cm : AV} {h : Heap} : WC (Q n (.fn 97) [.slice none 0 0 none, cm] h) fun r h' => h' = h := by
  obtain ⟨m, rfl⟩ : ∃ m, n = m + 1 := ⟨n - 1, by omega⟩
  refine call_fn _ f97A rfl (by simp [fn97]) fun QQ hQ => ?_
  simp only [fn97] at hQ
  simp only [fn97, fill_cons, fill_nil, Nat.zero_add, Nat.reduceAdd]
  obtain ⟨r, h1, e1, rfl⟩ := stable_nil (n := m) (by omega) (cm := cm) (h := h)
  simp only [F97, x_len_142, SS, Nat.reduceBEq, Nat.reduceEqDiff, Nat.reduceAdd, reduceIte, Nat.reduceMul, ptrTo, sliceTo, mapTo, List.getElem?_cons_zero, List.getElem?_cons_succ, Option.map_some, List.append_nil, List.nil_append, List.all_cons, List.all_nil, List.length_cons, List.length_nil, eq_self, e1]
  exact hQ _ _ _ _ (.inl rfl) (by simp only [SS, Nat.reduceBEq, Nat.reduceEqDiff, Nat.reduceAdd, reduceIte, Nat.reduceMul, ptrTo, sliceTo, mapTo, List.getElem?_cons_zero, List.getElem?_cons_succ, Option.map_some, List.append_nil, List.nil_append, List.all_cons, List.all_nil, List.length_cons, List.length_nil, eq_self]) (by simp only [SS, Nat.reduceBEq, Nat.reduceEqDiff, Nat.reduceAdd, reduceIte, Nat.reduceMul, ptrTo, sliceTo, mapTo, List.getElem?_cons_zero, List.getElem?_cons_succ, Option.map_some, List.append_nil, List.nil_append, List.all_cons, List.all_nil, List.length_cons, List.length_nil, eq_self]; rfl) rfl
theorem order_ok {n : Nat} (hn : 60 ≤ n) {h : Heap} {lv : AV} {L : List It} (hi : Its h lv L) (h40 : L.length < 40) :
    WC (Q n (.fn 84) [lv] h) fun r h' => ∃ d' bs, SlO 3 1 h' r L.length (dl d' L.length) bs ∧ Perm 0 L.length id d' ∧ Sorted (ltI L) 0 L.length d' ∧ Sm NoB h h' ∧ ∀ b, b ∈ bs → h.next ≤ b := by
  obtain ⟨a, c, g, rfl⟩ := hi.sl
  obtain ⟨m, rfl⟩ : ∃ m, n = m + 1 := ⟨n - 1, by omega⟩
  refine call_fn _ f84A rfl (by simp [fn84]) fun QQ hQ => ?_
  simp only [fn84] at hQ
  simp only [fn84, fill_cons, fill_nil, Nat.zero_add, Nat.reduceAdd]
  obtain ⟨h1, e1, r1, n1, g1⟩ := Rw.alloc h (id := h.next) (n := 1) (vs := [.slice a L.length c g]) (z := []) (ro := false) (Nat.le_refl _) rfl
  have s1 : Sm NoB h h1 := ⟨by omega, fun c hc _ => g1 c (by omega)⟩
  have l0 := r1.ld1 0
  rw [List.getElem?_cons_zero] at l0
  simp only [F84, SS, Nat.reduceBEq, Nat.reduceEqDiff, Nat.reduceAdd, reduceIte, Nat.reduceMul, ptrTo, sliceTo, mapTo, List.getElem?_cons_zero, List.getElem?_cons_succ, Option.map_some, List.append_nil, List.nil_append, List.all_cons, List.all_nil, List.length_cons, List.length_nil, eq_self, box_slice, e1, l0, x_len_41]
  refine run_loop (c := c84_9) (I := fun m' tm' h' => ∃ i v bs, i ≤ L.length ∧ m' = L.length - i ∧ SlO 3 1 h' v i (dl id i) bs ∧ (∀ b, b ∈ bs → h1.next ≤ b) ∧ Sm NoB h1 h' ∧ tm'.gt 1 = some (.ptr (some (h.next, 0))) ∧ tm'.gt 3 = some v ∧ tm'.gt 6 = some (I L.length) ∧ tm'.gt 7 = some (I i) ∧ tm'.gt 19 = none) (n := L.length)
    ⟨0, _, [], by omega, rfl, SlO.nil, (fun _ h => by cases h), Sm.refl _ _, by simp only [SS, Nat.reduceBEq, Nat.reduceEqDiff, Nat.reduceAdd, reduceIte, Nat.reduceMul, ptrTo, sliceTo, mapTo, List.getElem?_cons_zero, List.getElem?_cons_succ, Option.map_some, List.append_nil, List.nil_append, List.all_cons, List.all_nil, List.length_cons, List.length_nil, eq_self], by simp only [SS, Nat.reduceBEq, Nat.reduceEqDiff, Nat.reduceAdd, reduceIte, Nat.reduceMul, ptrTo, sliceTo, mapTo, List.getElem?_cons_zero, List.getElem?_cons_succ, Option.map_some, List.append_nil, List.nil_append, List.all_cons, List.all_nil, List.length_cons, List.length_nil, eq_self], by simp only [SS, Nat.reduceBEq, Nat.reduceEqDiff, Nat.reduceAdd, reduceIte, Nat.reduceMul, ptrTo, sliceTo, mapTo, List.getElem?_cons_zero, List.getElem?_cons_succ, Option.map_some, List.append_nil, List.nil_append, List.all_cons, List.all_nil, List.length_cons, List.length_nil, eq_self], by simp only [SS, Nat.reduceBEq, Nat.reduceEqDiff, Nat.reduceAdd, reduceIte, Nat.reduceMul, ptrTo, sliceTo, mapTo, List.getElem?_cons_zero, List.getElem?_cons_succ, Option.map_some, List.append_nil, List.nil_append, List.all_cons, List.all_nil, List.length_cons, List.length_nil, eq_self]; rfl, by simp only [SS, Nat.reduceBEq, Nat.reduceEqDiff, Nat.reduceAdd, reduceIte, Nat.reduceMul, ptrTo, sliceTo, mapTo, List.getElem?_cons_zero, List.getElem?_cons_succ, Option.map_some, List.append_nil, List.nil_append, List.all_cons, List.all_nil, List.length_cons, List.length_nil, eq_self]⟩ (by omega) ?_
  rintro _ tm h2 ⟨i, v, bs, hil, rfl, ho, hbs, s2, t1, t3, t6, t7, t19⟩ Q1 hN1 hE
  by_cases hlt : i < L.length
  · obtain ⟨h3, e3, r3, n3, g3⟩ := Rw.alloc h2 (id := h2.next) (n := 1) (vs := [I i]) (z := []) (ro := false) (Nat.le_refl _) rfl
    have s3 : Sm NoB h2 h3 := ⟨by omega, fun c hc _ => g3 c (by omega)⟩
    have ho3 := ho.sm s3 (fun _ _ h => h)
    have hs6 : srcOf 1 (fun n => n) (.slice (some (h2.next, 0)) 1 1 none) h3 = some ([I i], 1) := srcOf_row r3 (Nat.le_refl _)
    obtain ⟨v', h4, bs', e4, o4, n4, g4, b4, _⟩ := app_own (t := 142) u_142 s_3 b_3 z_3 rfl ho3 hs6 (by omega) rfl rfl (room_le (by omega) (by omega)) (Nat.le_refl h3.next)
    have s4 : Sm (fun b => b ∈ bs) h3 h4 := ⟨n4, fun c hc hb => g4 c hb (by omega)⟩
    simp only [F84, SS, Nat.reduceBEq, Nat.reduceEqDiff, Nat.reduceAdd, reduceIte, Nat.reduceMul, ptrTo, sliceTo, mapTo, List.getElem?_cons_zero, List.getElem?_cons_succ, Option.map_some, List.append_nil, List.nil_append, List.all_cons, List.all_nil, List.length_cons, List.length_nil, eq_self, t1, t3, t6, t7, t19, Int.ofNat_lt, hlt, x_bs_142_1, e3, e4, wAdd1 (show i ≤ 1000000 by omega)]
    refine hN1 _ _ (L.length - (i + 1)) (by omega) ⟨i + 1, v', bs', hlt, rfl, by rw [dl_succ]; exact o4, fun b hb => ?_, ?_, by simp only [SS, Nat.reduceBEq, Nat.reduceEqDiff, Nat.reduceAdd, reduceIte, Nat.reduceMul, ptrTo, sliceTo, mapTo, List.getElem?_cons_zero, List.getElem?_cons_succ, Option.map_some, List.append_nil, List.nil_append, List.all_cons, List.all_nil, List.length_cons, List.length_nil, eq_self, t1], by simp only [SS, Nat.reduceBEq, Nat.reduceEqDiff, Nat.reduceAdd, reduceIte, Nat.reduceMul, ptrTo, sliceTo, mapTo, List.getElem?_cons_zero, List.getElem?_cons_succ, Option.map_some, List.append_nil, List.nil_append, List.all_cons, List.all_nil, List.length_cons, List.length_nil, eq_self], by simp only [SS, Nat.reduceBEq, Nat.reduceEqDiff, Nat.reduceAdd, reduceIte, Nat.reduceMul, ptrTo, sliceTo, mapTo, List.getElem?_cons_zero, List.getElem?_cons_succ, Option.map_some, List.append_nil, List.nil_append, List.all_cons, List.all_nil, List.length_cons, List.length_nil, eq_self, t6], by simp only [SS, Nat.reduceBEq, Nat.reduceEqDiff, Nat.reduceAdd, reduceIte, Nat.reduceMul, ptrTo, sliceTo, mapTo, List.getElem?_cons_zero, List.getElem?_cons_succ, Option.map_some, List.append_nil, List.nil_append, List.all_cons, List.all_nil, List.length_cons, List.length_nil, eq_self], by simp only [SS, Nat.reduceBEq, Nat.reduceEqDiff, Nat.reduceAdd, reduceIte, Nat.reduceMul, ptrTo, sliceTo, mapTo, List.getElem?_cons_zero, List.getElem?_cons_succ, Option.map_some, List.append_nil, List.nil_append, List.all_cons, List.all_nil, List.length_cons, List.length_nil, eq_self, t19]⟩
    · rcases b4 b hb with h | h
      · exact hbs b h
      · have := s2.1; omega
    · refine ⟨by have := s2.1; omega, fun c hc _ => ?_⟩
      have := s2.1
      rw [g4 c (fun h => by have := hbs c h; omega) (by omega), g3 c (by omega), s2.2 c hc (fun h => h)]
  · obtain rfl : i = L.length := by omega
    simp only [F84, SS, Nat.reduceBEq, Nat.reduceEqDiff, Nat.reduceAdd, reduceIte, Nat.reduceMul, ptrTo, sliceTo, mapTo, List.getElem?_cons_zero, List.getElem?_cons_succ, Option.map_some, List.append_nil, List.nil_append, List.all_cons, List.all_nil, List.length_cons, List.length_nil, eq_self, t1, t3, t6, t7, t19, Int.ofNat_lt, hlt]
    refine hE _ _ _ (by simp) ?_
    have hcap : CapAt h.next (.slice a L.length c g) L h2 := (show CapAt h.next (.slice a L.length c g) L h1 from ⟨⟨_, _, r1⟩, by omega, hi.sm s1 (fun _ _ h => h)⟩).no s2
    rcases id ho with ⟨rfl, hl0, _, rfl⟩ | ⟨b, cp, rest, z, rfl, k1, k2, k3, k4, k5, rfl, rfl, k8⟩
    · have hL : L = [] := List.eq_nil_of_length_eq_zero hl0
      subst hL
      obtain ⟨r, h3, e3, rfl⟩ := sort_nil (n := m) (by omega) (cm := .func (Fn.func 98) [] [.ptr (some (h.next, 0))]) (h := h2)
      simp only [F84, SS, Nat.reduceBEq, Nat.reduceEqDiff, Nat.reduceAdd, reduceIte, Nat.reduceMul, ptrTo, sliceTo, mapTo, List.getElem?_cons_zero, List.getElem?_cons_succ, Option.map_some, List.append_nil, List.nil_append, List.all_cons, List.all_nil, List.length_cons, List.length_nil, eq_self, t1, t3, t19, mk_fn, e3]
      refine hQ _ _ _ _ (.inr rfl) (by simp only [SS, Nat.reduceBEq, Nat.reduceEqDiff, Nat.reduceAdd, reduceIte, Nat.reduceMul, ptrTo, sliceTo, mapTo, List.getElem?_cons_zero, List.getElem?_cons_succ, Option.map_some, List.append_nil, List.nil_append, List.all_cons, List.all_nil, List.length_cons, List.length_nil, eq_self, t19]) (by simp only [SS, Nat.reduceBEq, Nat.reduceEqDiff, Nat.reduceAdd, reduceIte, Nat.reduceMul, ptrTo, sliceTo, mapTo, List.getElem?_cons_zero, List.getElem?_cons_succ, Option.map_some, List.append_nil, List.nil_append, List.all_cons, List.all_nil, List.length_cons, List.length_nil, eq_self]; rfl) ?_
      exact ⟨id, [], ho, Perm.refl _ _ _, (fun i j h1 h2 h3 => absurd h3 (Nat.not_lt_zero _)), s1.trans s2 (fun _ _ h => h) (fun _ _ h => h), fun _ h => by cases h⟩
    · have hbn := hbs b (List.mem_singleton.2 rfl)
      have hlb : ∀ q, blkOf (.slice a L.length c g) q → q < h.next := fun q hq => hi.lt hq
      let X : Cx := ⟨b, cp, rest, tyMark 3 false, .func (Fn.func 98) [] [.ptr (some (h.next, 0))], CapAt h.next (.slice a L.length c g) L, ltI L, L.length, 3⟩
      have hX : X.Ok := ⟨fun h h' hj hs => hj.sm hs (show ¬ _ = b by omega) (fun q hq => show ¬ q = b by have := hlb q hq; omega),
        fun n hn h3 i j hj hi hj' => by
          obtain ⟨r, h4, e4, v, rfl, g1, g2⟩ := byage_ok (n := n) hn hj hi hj'
          exact ⟨v, h4, e4, g1, g2⟩, ltI_wk L, by show L.length ≤ 1000; omega⟩
      have hA : X.At h2 id := ⟨k4, k5, hcap, fun k hk => hk⟩
      obtain ⟨r, h3, e3, d', A3, s3, p3, q3⟩ := sort_ok hX (n := m) (by show 3 + 51 ≤ m; omega) hA h40
      have e3' : Q m (.fn 97) [.slice (some (b, 0)) L.length cp (some 1), .func (Fn.func 98) [] [.ptr (some (h.next, 0))]] h2 = some (r, h3) := e3
      simp only [F84, SS, Nat.reduceBEq, Nat.reduceEqDiff, Nat.reduceAdd, reduceIte, Nat.reduceMul, ptrTo, sliceTo, mapTo, List.getElem?_cons_zero, List.getElem?_cons_succ, Option.map_some, List.append_nil, List.nil_append, List.all_cons, List.all_nil, List.length_cons, List.length_nil, eq_self, t1, t3, t19, mk_fn, e3']
      refine hQ _ _ _ _ (.inr rfl) (by simp only [SS, Nat.reduceBEq, Nat.reduceEqDiff, Nat.reduceAdd, reduceIte, Nat.reduceMul, ptrTo, sliceTo, mapTo, List.getElem?_cons_zero, List.getElem?_cons_succ, Option.map_some, List.append_nil, List.nil_append, List.all_cons, List.all_nil, List.length_cons, List.length_nil, eq_self, t19]) (by simp only [SS, Nat.reduceBEq, Nat.reduceEqDiff, Nat.reduceAdd, reduceIte, Nat.reduceMul, ptrTo, sliceTo, mapTo, List.getElem?_cons_zero, List.getElem?_cons_succ, Option.map_some, List.append_nil, List.nil_append, List.all_cons, List.all_nil, List.length_cons, List.length_nil, eq_self]; rfl) ⟨d', [b], .inr ⟨b, cp, rest, _, rfl, by rw [dl_len, Nat.mul_one], by rw [← k2, List.length_append, List.length_append, dl_len, dl_len], k3, A3.rw, A3.lt, rfl, rfl, dl_one _ _⟩, p3, q3, ?_, fun q hq => by rw [List.mem_singleton.1 hq]; omega⟩
      refine ⟨by have := s1.1; have := s2.1; have := s3.1; omega, fun q hq _ => ?_⟩
      have := s1.1
      have := s2.1
      rw [s3.2 q (by omega) (show ¬ q = b by omega), s2.2 q (by omega) (fun h => h), s1.2 q hq (fun h => h)]
end Go.Proofs.Ytlfednnfkejcjaa

namespace Go.Proofs.Ytlfednnfkejcjaa
open Go.Am Go.Qs
set_option maxRecDepth 10000
theorem u_144 : P.underlying 144 = some (.map 9 3) := by kernel_rfl
theorem ap_yield {call : CallFn} {args : List AV} {h : Heap} {l : Nat} : applyV call args h (.func (.yield l) [] []) = call (.loop l) args h := rfl
/-- an item that has a later one of its path -/
def more (L : List It) (d : Nat → Nat) (i : Nat) : Prop := ∃ k, i < k ∧ k < L.length ∧ (iti L (d k)).p = (iti L (d i)).p
def Lst (L : List It) (d : Nat → Nat) (i : Nat) (p : List Nat) (r : Option AV) : Prop :=
  (r = none ∧ ∀ k, k < i → (iti L (d k)).p ≠ p) ∨ ∃ k, k < i ∧ r = some (I (d k)) ∧ (iti L (d k)).p = p ∧ ∀ k', k < k' → k' < i → (iti L (d k')).p ≠ p
theorem put_sm {h : Heap} {b : Nat} {x : Blk} : ∃ h', h.put b x = h' ∧ h'.bs.gt b = some x ∧ h'.next = h.next ∧ Sm (· = b) h h' := by
  refine ⟨_, rfl, by show (h.bs.up _ b).gt b = _; rw [Tr.gt_up, if_pos rfl], rfl, Nat.le_refl _, fun c _ hc => by show (h.bs.up _ b).gt c = _; rw [Tr.gt_up, if_neg hc]⟩
theorem aged_ok {n l bl : Nat} (hn : 62 ≤ n) {h : Heap} {lv : AV} {L : List It} (hc : CapAt bl lv L h) (h40 : L.length < 40)
    (J : (Nat → Nat) → Nat → (Nat → Prop) → Heap → Prop) (D : Heap → Prop)
    (hJ0 : ∀ d, Perm 0 L.length id d → Sorted (ltI L) 0 L.length d → ∃ F, (∀ b, F b → b < h.next) ∧ J d 0 F h)
    (hF : ∀ d i F h', J d i F h' → ¬ F bl ∧ ∀ b, blkOf lv b → ¬ F b)
    (hst : ∀ d i F h1 h2 G, J d i F h1 → Sm G h1 h2 → (∀ b, F b → ¬ G b) → (∀ b, G b → h.next ≤ b) → J d i F h2)
    (hskip : ∀ d i F h', J d i F h' → ¬ more L d i → J d (i + 1) F h')
    (hyield : ∀ d, Perm 0 L.length id d → Sorted (ltI L) 0 L.length d → ∀ m i F h', n ≤ m + 1 → i < L.length → J d i F h' → more L d i → WC (Q m (.loop l) [.agg (iti L (d i)).c] h') fun r h2 => ∃ F', (∀ b, b < h'.next → F' b → F b) ∧ Sm F h' h2 ∧ ((r = .bool true ∧ J d (i + 1) F' h2) ∨ (r = .bool false ∧ D h2))) :
    WC (Q n (.fn 83) [.func (.yield l) [] [], .ptr (some (bl, 0))] h) fun r h' => (∃ d F, Perm 0 L.length id d ∧ Sorted (ltI L) 0 L.length d ∧ J d L.length F h') ∨ D h' := by
  obtain ⟨m, rfl⟩ : ∃ m, n = m + 1 := ⟨n - 1, by omega⟩
  refine call_fn _ f83A rfl (by simp [fn83]) fun QQ hQ => ?_
  simp only [fn83] at hQ
  simp only [fn83, fill_cons, fill_nil, Nat.zero_add, Nat.reduceAdd]
  obtain ⟨⟨z, ro, rb⟩, ltb, its⟩ := id hc
  have l0 := rb.ld1 0
  rw [List.getElem?_cons_zero] at l0
  obtain ⟨v, h1, e1, d, bs, ho, hP, hS, s1, hbs⟩ := order_ok (n := m) (by omega) its h40
  obtain ⟨F0, hF0, hJ⟩ := hJ0 d hP hS
  obtain ⟨hlv, a, c, g, rfl, _⟩ := id ho.els
  have hd : ∀ k, k < L.length → d k < L.length := hP.lt (Nat.le_refl _) (fun k hk => hk)
  have hinj : ∀ i k, d i = d k → i = k := by
    obtain ⟨s, t, p1, p2, _, p4⟩ := hP
    intro i k he
    rw [p4, p4] at he
    have := congrArg t he
    rw [show id (s i) = s i from rfl, show id (s k) = s k from rfl, p1, p1] at this
    exact this
  -- the map
  obtain ⟨h2, e2, _⟩ : ∃ h2, h1.new h1.next (.map [] 0) = h2 ∧ True := ⟨_, rfl, trivial⟩
  have m2 : h2.bs.gt h1.next = some (.map [] 0) := by rw [← e2, new_get' (Nat.le_refl _), if_pos rfl]
  have n2 : h2.next = h1.next + 1 := by rw [← e2, new_next' (Nat.le_refl _)]
  have s2 : Sm NoB h1 h2 := ⟨by omega, fun c hc _ => by rw [← e2, new_get' (Nat.le_refl _), if_neg (by omega)]⟩
  have hsl : SlO 3 1 h2 (.slice a L.length c g) L.length (dl d L.length) bs := ho.sm s2 (fun _ _ h => h)
  have hc2 := (hc.no s1).no s2
  have hJ2 : J d 0 F0 h2 := hst d 0 F0 h h2 NoB hJ (s1.trans s2 (fun _ _ h => h) (fun _ _ h => h)) (fun _ _ h => h) (fun _ h => h.elim)
  have hown : ∀ b, b ∈ bs → ¬ F0 b := fun b hb hf => by have := hF0 b hf; have := hbs b hb; omega
  have hmb : ¬ F0 h1.next := fun hf => by have := hF0 _ hf; have := s1.1; omega
  have hbsl : ∀ b, b ∈ bs → b < h1.next := ho.lt
  have hlb : ∀ q, blkOf lv q → q < h.next := fun q hq => its.lt hq
  have s1n := s1.1
  simp only [F83, SS, Nat.reduceBEq, Nat.reduceEqDiff, Nat.reduceAdd, reduceIte, Nat.reduceMul, ptrTo, sliceTo, mapTo, List.getElem?_cons_zero, List.getElem?_cons_succ, Option.map_some, List.append_nil, List.nil_append, List.all_cons, List.all_nil, List.length_cons, List.length_nil, eq_self, l0, e1, x_mm_144, e2, x_len_142]
  generalize hmbe : h1.next = mb at m2 n2 hmb hbsl s1n ⊢
  refine run_loop (c := c83_9) (I := fun m' tm' h' => ∃ i es cl, i ≤ L.length ∧ m' = L.length - i ∧ h'.bs.gt mb = some (.map es cl) ∧ AllStr es ∧ (∀ p, Lst L d i p (getS p es)) ∧ Sm (· = mb) h2 h' ∧ tm'.gt 0 = some (.func (.yield l) [] []) ∧ tm'.gt 1 = some (.ptr (some (bl, 0))) ∧ tm'.gt 3 = some (.slice a L.length c g) ∧ tm'.gt 4 = some (.map (some mb)) ∧ tm'.gt 12 = some (.slice a L.length c g) ∧ tm'.gt 13 = some (I L.length) ∧ tm'.gt 14 = some (I i) ∧ tm'.gt 51 = none) (n := L.length)
    ⟨0, [], 0, by omega, rfl, m2, (fun _ h => by cases h), (fun p => .inl ⟨rfl, fun k hk => absurd hk (Nat.not_lt_zero _)⟩), Sm.refl _ _, by simp only [SS, Nat.reduceBEq, Nat.reduceEqDiff, Nat.reduceAdd, reduceIte, Nat.reduceMul, ptrTo, sliceTo, mapTo, List.getElem?_cons_zero, List.getElem?_cons_succ, Option.map_some, List.append_nil, List.nil_append, List.all_cons, List.all_nil, List.length_cons, List.length_nil, eq_self], by simp only [SS, Nat.reduceBEq, Nat.reduceEqDiff, Nat.reduceAdd, reduceIte, Nat.reduceMul, ptrTo, sliceTo, mapTo, List.getElem?_cons_zero, List.getElem?_cons_succ, Option.map_some, List.append_nil, List.nil_append, List.all_cons, List.all_nil, List.length_cons, List.length_nil, eq_self], by simp only [SS, Nat.reduceBEq, Nat.reduceEqDiff, Nat.reduceAdd, reduceIte, Nat.reduceMul, ptrTo, sliceTo, mapTo, List.getElem?_cons_zero, List.getElem?_cons_succ, Option.map_some, List.append_nil, List.nil_append, List.all_cons, List.all_nil, List.length_cons, List.length_nil, eq_self], by simp only [SS, Nat.reduceBEq, Nat.reduceEqDiff, Nat.reduceAdd, reduceIte, Nat.reduceMul, ptrTo, sliceTo, mapTo, List.getElem?_cons_zero, List.getElem?_cons_succ, Option.map_some, List.append_nil, List.nil_append, List.all_cons, List.all_nil, List.length_cons, List.length_nil, eq_self], by simp only [SS, Nat.reduceBEq, Nat.reduceEqDiff, Nat.reduceAdd, reduceIte, Nat.reduceMul, ptrTo, sliceTo, mapTo, List.getElem?_cons_zero, List.getElem?_cons_succ, Option.map_some, List.append_nil, List.nil_append, List.all_cons, List.all_nil, List.length_cons, List.length_nil, eq_self], by simp only [SS, Nat.reduceBEq, Nat.reduceEqDiff, Nat.reduceAdd, reduceIte, Nat.reduceMul, ptrTo, sliceTo, mapTo, List.getElem?_cons_zero, List.getElem?_cons_succ, Option.map_some, List.append_nil, List.nil_append, List.all_cons, List.all_nil, List.length_cons, List.length_nil, eq_self], by simp only [SS, Nat.reduceBEq, Nat.reduceEqDiff, Nat.reduceAdd, reduceIte, Nat.reduceMul, ptrTo, sliceTo, mapTo, List.getElem?_cons_zero, List.getElem?_cons_succ, Option.map_some, List.append_nil, List.nil_append, List.all_cons, List.all_nil, List.length_cons, List.length_nil, eq_self]; rfl, by simp only [SS, Nat.reduceBEq, Nat.reduceEqDiff, Nat.reduceAdd, reduceIte, Nat.reduceMul, ptrTo, sliceTo, mapTo, List.getElem?_cons_zero, List.getElem?_cons_succ, Option.map_some, List.append_nil, List.nil_append, List.all_cons, List.all_nil, List.length_cons, List.length_nil, eq_self]⟩ (by omega) ?_
  rintro _ tm h3 ⟨i, es, cl, hil, rfl, hm3, hall, hls, s3, t0, t1, t3, t4, t12, t13, t14, t51⟩ Q1 hN1 hE
  have hc3 : CapAt bl lv L h3 := hc2.sm s3 (show ¬ bl = mb by omega) (fun b hb => show ¬ b = mb by have := hlb b hb; omega)
  have ho3 := hsl.sm s3 (fun b hb => show ¬ b = mb by have := hbsl b hb; omega)
  by_cases hlt : i < L.length
  · obtain ⟨b, o, rfl, hcell⟩ := ho3.els.cell (by omega)
    have lq := hcell i (by omega)
    rw [dl_get hlt] at lq
    obtain ⟨⟨z3, ro3, rb3⟩, ltb3, its3⟩ := id hc3
    have l3 := rb3.ld1 0
    rw [List.getElem?_cons_zero] at l3
    obtain ⟨a', c', g', rfl⟩ := its3.sl
    obtain ⟨b', o', rfl, i1, _⟩ := its3.at (hd i hlt)
    rw [← iti_at (hd i hlt)] at i1
    have x1 := x_ia_142 (k := .i64) (b := b) (o := o) (c := c) (g := g) hlt
    have x2 := x_ia_41 (k := .i64) (b := b') (o := o') (c := c') (g := g') (hd i hlt)
    have eu := mu_str u_144 u_9 hm3 hall (iti L (d i)).p (I (d i))
    obtain ⟨h4, e4, m4, n4, s4⟩ := put_sm (h := h3) (b := mb) (x := .map (putS (iti L (d i)).p (I (d i)) cl es) (if es.any (kStr (iti L (d i)).p) then cl else cl + 1))
    rw [e4] at eu
    simp only [F83, SS, Nat.reduceBEq, Nat.reduceEqDiff, Nat.reduceAdd, reduceIte, Nat.reduceMul, ptrTo, sliceTo, mapTo, List.getElem?_cons_zero, List.getElem?_cons_succ, Option.map_some, List.append_nil, List.nil_append, List.all_cons, List.all_nil, List.length_cons, List.length_nil, eq_self, t0, t1, t3, t4, t12, t13, t14, t51, Int.ofNat_lt, hlt, x1, x2, lq, l3, x_fa_53_0, i1, eu, wAdd1 (show i ≤ 1000000 by omega)]
    refine hN1 _ _ (L.length - (i + 1)) (by omega) ⟨i + 1, _, _, hlt, rfl, m4, putS_all hall, fun p => ?_, s3.trans s4 (fun _ _ h => h) (fun _ _ h => h), by simp only [SS, Nat.reduceBEq, Nat.reduceEqDiff, Nat.reduceAdd, reduceIte, Nat.reduceMul, ptrTo, sliceTo, mapTo, List.getElem?_cons_zero, List.getElem?_cons_succ, Option.map_some, List.append_nil, List.nil_append, List.all_cons, List.all_nil, List.length_cons, List.length_nil, eq_self, t0], by simp only [SS, Nat.reduceBEq, Nat.reduceEqDiff, Nat.reduceAdd, reduceIte, Nat.reduceMul, ptrTo, sliceTo, mapTo, List.getElem?_cons_zero, List.getElem?_cons_succ, Option.map_some, List.append_nil, List.nil_append, List.all_cons, List.all_nil, List.length_cons, List.length_nil, eq_self, t1], by simp only [SS, Nat.reduceBEq, Nat.reduceEqDiff, Nat.reduceAdd, reduceIte, Nat.reduceMul, ptrTo, sliceTo, mapTo, List.getElem?_cons_zero, List.getElem?_cons_succ, Option.map_some, List.append_nil, List.nil_append, List.all_cons, List.all_nil, List.length_cons, List.length_nil, eq_self, t3], by simp only [SS, Nat.reduceBEq, Nat.reduceEqDiff, Nat.reduceAdd, reduceIte, Nat.reduceMul, ptrTo, sliceTo, mapTo, List.getElem?_cons_zero, List.getElem?_cons_succ, Option.map_some, List.append_nil, List.nil_append, List.all_cons, List.all_nil, List.length_cons, List.length_nil, eq_self, t4], by simp only [SS, Nat.reduceBEq, Nat.reduceEqDiff, Nat.reduceAdd, reduceIte, Nat.reduceMul, ptrTo, sliceTo, mapTo, List.getElem?_cons_zero, List.getElem?_cons_succ, Option.map_some, List.append_nil, List.nil_append, List.all_cons, List.all_nil, List.length_cons, List.length_nil, eq_self, t12], by simp only [SS, Nat.reduceBEq, Nat.reduceEqDiff, Nat.reduceAdd, reduceIte, Nat.reduceMul, ptrTo, sliceTo, mapTo, List.getElem?_cons_zero, List.getElem?_cons_succ, Option.map_some, List.append_nil, List.nil_append, List.all_cons, List.all_nil, List.length_cons, List.length_nil, eq_self, t13], by simp only [SS, Nat.reduceBEq, Nat.reduceEqDiff, Nat.reduceAdd, reduceIte, Nat.reduceMul, ptrTo, sliceTo, mapTo, List.getElem?_cons_zero, List.getElem?_cons_succ, Option.map_some, List.append_nil, List.nil_append, List.all_cons, List.all_nil, List.length_cons, List.length_nil, eq_self], by simp only [SS, Nat.reduceBEq, Nat.reduceEqDiff, Nat.reduceAdd, reduceIte, Nat.reduceMul, ptrTo, sliceTo, mapTo, List.getElem?_cons_zero, List.getElem?_cons_succ, Option.map_some, List.append_nil, List.nil_append, List.all_cons, List.all_nil, List.length_cons, List.length_nil, eq_self, t51]⟩
    rw [getS_put hall]
    by_cases hp : p = (iti L (d i)).p
    · rw [if_pos hp]
      exact .inr ⟨i, by omega, rfl, hp.symm, fun k' h1 h2 => by omega⟩
    · rw [if_neg hp]
      rcases hls p with ⟨q1, q2⟩ | ⟨k, q1, q2, q3, q4⟩
      · refine .inl ⟨q1, fun k hk => ?_⟩
        by_cases e : k = i
        · rw [e]; exact fun h => hp h.symm
        · exact q2 k (by omega)
      · refine .inr ⟨k, by omega, q2, q3, fun k' h1 h2 => ?_⟩
        by_cases e : k' = i
        · rw [e]; exact fun h => hp h.symm
        · exact q4 k' h1 (by omega)
  · obtain rfl : i = L.length := by omega
    have hJ3 : J d 0 F0 h3 := hst d 0 F0 h2 h3 _ hJ2 s3 (fun b hf e => hmb (e ▸ hf)) (fun b e => by have e : b = mb := e; omega)
    have hn3 : mb < h3.next := by have := s3.1; omega
    simp only [F83, SS, Nat.reduceBEq, Nat.reduceEqDiff, Nat.reduceAdd, reduceIte, Nat.reduceMul, ptrTo, sliceTo, mapTo, List.getElem?_cons_zero, List.getElem?_cons_succ, Option.map_some, List.append_nil, List.nil_append, List.all_cons, List.all_nil, List.length_cons, List.length_nil, eq_self, t0, t1, t3, t4, t12, t13, t14, t51, Int.ofNat_lt, hlt]
    refine hE _ _ _ (by simp) ?_
    simp only [F83, SS, Nat.reduceBEq, Nat.reduceEqDiff, Nat.reduceAdd, reduceIte, Nat.reduceMul, ptrTo, sliceTo, mapTo, List.getElem?_cons_zero, List.getElem?_cons_succ, Option.map_some, List.append_nil, List.nil_append, List.all_cons, List.all_nil, List.length_cons, List.length_nil, eq_self, t0, t1, t3, t4, t51, x_len_142]
    refine run_loop (c := c83_25) (I := fun m' tm' h' => ∃ i F, i ≤ L.length ∧ m' = L.length - i ∧ h'.bs.gt mb = some (.map es cl) ∧ mb < h'.next ∧ ¬ F mb ∧ (∀ b, b ∈ bs → ¬ F b) ∧ SlO 3 1 h' (.slice a L.length c g) L.length (dl d L.length) bs ∧ CapAt bl lv L h' ∧ J d i F h' ∧ tm'.gt 0 = some (.func (.yield l) [] []) ∧ tm'.gt 1 = some (.ptr (some (bl, 0))) ∧ tm'.gt 4 = some (.map (some mb)) ∧ tm'.gt 26 = some (.slice a L.length c g) ∧ tm'.gt 27 = some (I L.length) ∧ tm'.gt 28 = some (I i) ∧ tm'.gt 51 = none) (n := L.length)
      ⟨0, F0, by omega, rfl, hm3, hn3, hmb, hown, ho3, hc3, hJ3, by simp only [SS, Nat.reduceBEq, Nat.reduceEqDiff, Nat.reduceAdd, reduceIte, Nat.reduceMul, ptrTo, sliceTo, mapTo, List.getElem?_cons_zero, List.getElem?_cons_succ, Option.map_some, List.append_nil, List.nil_append, List.all_cons, List.all_nil, List.length_cons, List.length_nil, eq_self, t0], by simp only [SS, Nat.reduceBEq, Nat.reduceEqDiff, Nat.reduceAdd, reduceIte, Nat.reduceMul, ptrTo, sliceTo, mapTo, List.getElem?_cons_zero, List.getElem?_cons_succ, Option.map_some, List.append_nil, List.nil_append, List.all_cons, List.all_nil, List.length_cons, List.length_nil, eq_self, t1], by simp only [SS, Nat.reduceBEq, Nat.reduceEqDiff, Nat.reduceAdd, reduceIte, Nat.reduceMul, ptrTo, sliceTo, mapTo, List.getElem?_cons_zero, List.getElem?_cons_succ, Option.map_some, List.append_nil, List.nil_append, List.all_cons, List.all_nil, List.length_cons, List.length_nil, eq_self, t4], by simp only [SS, Nat.reduceBEq, Nat.reduceEqDiff, Nat.reduceAdd, reduceIte, Nat.reduceMul, ptrTo, sliceTo, mapTo, List.getElem?_cons_zero, List.getElem?_cons_succ, Option.map_some, List.append_nil, List.nil_append, List.all_cons, List.all_nil, List.length_cons, List.length_nil, eq_self], by simp only [SS, Nat.reduceBEq, Nat.reduceEqDiff, Nat.reduceAdd, reduceIte, Nat.reduceMul, ptrTo, sliceTo, mapTo, List.getElem?_cons_zero, List.getElem?_cons_succ, Option.map_some, List.append_nil, List.nil_append, List.all_cons, List.all_nil, List.length_cons, List.length_nil, eq_self], by simp only [SS, Nat.reduceBEq, Nat.reduceEqDiff, Nat.reduceAdd, reduceIte, Nat.reduceMul, ptrTo, sliceTo, mapTo, List.getElem?_cons_zero, List.getElem?_cons_succ, Option.map_some, List.append_nil, List.nil_append, List.all_cons, List.all_nil, List.length_cons, List.length_nil, eq_self]; rfl, by simp only [SS, Nat.reduceBEq, Nat.reduceEqDiff, Nat.reduceAdd, reduceIte, Nat.reduceMul, ptrTo, sliceTo, mapTo, List.getElem?_cons_zero, List.getElem?_cons_succ, Option.map_some, List.append_nil, List.nil_append, List.all_cons, List.all_nil, List.length_cons, List.length_nil, eq_self, t51]⟩ (by omega) ?_
    rintro _ tm h5 ⟨i, F, hil, rfl, hm5, hn5, hmF, hbF, ho5, hc5, hJ5, t0, t1, t4, t26, t27, t28, t51⟩ Q2 hN2 hE2
    by_cases hlt : i < L.length
    · obtain ⟨b, o, rfl, hcell⟩ := ho5.els.cell (by omega)
      have lq := hcell i (by omega)
      rw [dl_get hlt] at lq
      obtain ⟨⟨z3, ro3, rb3⟩, ltb3, its3⟩ := id hc5
      have l3 := rb3.ld1 0
      rw [List.getElem?_cons_zero] at l3
      obtain ⟨hFb, hFl⟩ := hF d i F h5 hJ5
      obtain ⟨a', c', g', rfl⟩ := its3.sl
      obtain ⟨b', o', rfl, i1, _, _, _, i4⟩ := its3.at (hd i hlt)
      rw [← iti_at (hd i hlt)] at i1 i4
      have x1 := x_ia_142 (k := .i64) (b := b) (o := o) (c := c) (g := g) hlt
      have x2 := x_ia_41 (k := .i64) (b := b') (o := o') (c := c') (g := g') (hd i hlt)
      obtain ⟨k, k1, k2, k3, k4⟩ : ∃ k, k < L.length ∧ getS (iti L (d i)).p es = some (I (d k)) ∧ (iti L (d k)).p = (iti L (d i)).p ∧ ∀ k', k < k' → k' < L.length → (iti L (d k')).p ≠ (iti L (d i)).p := by
        rcases hls (iti L (d i)).p with ⟨q1, q2⟩ | ⟨k, q1, q2, q3, q4⟩
        · exact absurd rfl (q2 i hlt)
        · exact ⟨k, q1, q2, q3, q4⟩
      have elk : lookup2 P 144 false (.map (some mb)) (.str (iti L (d i)).p) h5 = some (I (d k)) := by
        rw [lk_str u_144 u_9 z_3 hm5 hall]
        unfold getS at k2
        cases hf : es.find? (kStr (iti L (d i)).p) with
        | none => rw [hf] at k2; cases k2
        | some x =>
          rw [hf] at k2
          have hx : x.val = I (d k) := Option.some.inj k2
          show some x.val = _
          rw [hx]
      have hik : i ≤ k := by
        by_cases h : i ≤ k
        · exact h
        · exact absurd rfl (k4 i (by omega) hlt)
      by_cases hmo : i = k
      · have hnm : ¬ more L d i := fun ⟨q, q1, q2, q3⟩ => k4 q (by omega) q2 q3
        have c1 : ((d k : Nat) : Int) = (d i : Int) := by rw [hmo]
        simp only [F83, SS, Nat.reduceBEq, Nat.reduceEqDiff, Nat.reduceAdd, reduceIte, Nat.reduceMul, ptrTo, sliceTo, mapTo, List.getElem?_cons_zero, List.getElem?_cons_succ, Option.map_some, List.append_nil, List.nil_append, List.all_cons, List.all_nil, List.length_cons, List.length_nil, eq_self, t0, t1, t4, t26, t27, t28, t51, Int.ofNat_lt, hlt, x1, x2, lq, l3, x_fa_53_0, i1, elk, c1, wAdd1 (show i ≤ 1000000 by omega)]
        refine hN2 _ _ (L.length - (i + 1)) (by omega) ⟨i + 1, F, hlt, rfl, hm5, hn5, hmF, hbF, ho5, hc5, hskip d i F h5 hJ5 hnm, by simp only [SS, Nat.reduceBEq, Nat.reduceEqDiff, Nat.reduceAdd, reduceIte, Nat.reduceMul, ptrTo, sliceTo, mapTo, List.getElem?_cons_zero, List.getElem?_cons_succ, Option.map_some, List.append_nil, List.nil_append, List.all_cons, List.all_nil, List.length_cons, List.length_nil, eq_self, t0], by simp only [SS, Nat.reduceBEq, Nat.reduceEqDiff, Nat.reduceAdd, reduceIte, Nat.reduceMul, ptrTo, sliceTo, mapTo, List.getElem?_cons_zero, List.getElem?_cons_succ, Option.map_some, List.append_nil, List.nil_append, List.all_cons, List.all_nil, List.length_cons, List.length_nil, eq_self, t1], by simp only [SS, Nat.reduceBEq, Nat.reduceEqDiff, Nat.reduceAdd, reduceIte, Nat.reduceMul, ptrTo, sliceTo, mapTo, List.getElem?_cons_zero, List.getElem?_cons_succ, Option.map_some, List.append_nil, List.nil_append, List.all_cons, List.all_nil, List.length_cons, List.length_nil, eq_self, t4], by simp only [SS, Nat.reduceBEq, Nat.reduceEqDiff, Nat.reduceAdd, reduceIte, Nat.reduceMul, ptrTo, sliceTo, mapTo, List.getElem?_cons_zero, List.getElem?_cons_succ, Option.map_some, List.append_nil, List.nil_append, List.all_cons, List.all_nil, List.length_cons, List.length_nil, eq_self, t26], by simp only [SS, Nat.reduceBEq, Nat.reduceEqDiff, Nat.reduceAdd, reduceIte, Nat.reduceMul, ptrTo, sliceTo, mapTo, List.getElem?_cons_zero, List.getElem?_cons_succ, Option.map_some, List.append_nil, List.nil_append, List.all_cons, List.all_nil, List.length_cons, List.length_nil, eq_self, t27], by simp only [SS, Nat.reduceBEq, Nat.reduceEqDiff, Nat.reduceAdd, reduceIte, Nat.reduceMul, ptrTo, sliceTo, mapTo, List.getElem?_cons_zero, List.getElem?_cons_succ, Option.map_some, List.append_nil, List.nil_append, List.all_cons, List.all_nil, List.length_cons, List.length_nil, eq_self], by simp only [SS, Nat.reduceBEq, Nat.reduceEqDiff, Nat.reduceAdd, reduceIte, Nat.reduceMul, ptrTo, sliceTo, mapTo, List.getElem?_cons_zero, List.getElem?_cons_succ, Option.map_some, List.append_nil, List.nil_append, List.all_cons, List.all_nil, List.length_cons, List.length_nil, eq_self, t51]⟩
      · have hmm : more L d i := ⟨k, by omega, k1, k3⟩
        have c1 : ¬ ((d k : Nat) : Int) = (d i : Int) := fun h => hmo (hinj i k (by omega))
        obtain ⟨r, h6, e6, F', f1, f2, f3⟩ := hyield d hP hS m i F h5 (by omega) hlt hJ5 hmm
        rcases f3 with ⟨rfl, hJ6⟩ | ⟨rfl, hD⟩
        · simp only [F83, SS, Nat.reduceBEq, Nat.reduceEqDiff, Nat.reduceAdd, reduceIte, Nat.reduceMul, ptrTo, sliceTo, mapTo, List.getElem?_cons_zero, List.getElem?_cons_succ, Option.map_some, List.append_nil, List.nil_append, List.all_cons, List.all_nil, List.length_cons, List.length_nil, eq_self, t0, t1, t4, t26, t27, t28, t51, Int.ofNat_lt, hlt, x1, x2, lq, l3, x_fa_53_0, i1, elk, c1, i4, ap_yield, e6, wAdd1 (show i ≤ 1000000 by omega)]
          refine hN2 _ _ (L.length - (i + 1)) (by omega) ⟨i + 1, F', hlt, rfl, ?_, Nat.lt_of_lt_of_le hn5 f2.1, fun h => hmF (f1 _ hn5 h), fun b hb h => hbF b hb (f1 b (ho5.lt b hb) h), ho5.sm f2 hbF, hc5.sm f2 hFb hFl, hJ6, by simp only [SS, Nat.reduceBEq, Nat.reduceEqDiff, Nat.reduceAdd, reduceIte, Nat.reduceMul, ptrTo, sliceTo, mapTo, List.getElem?_cons_zero, List.getElem?_cons_succ, Option.map_some, List.append_nil, List.nil_append, List.all_cons, List.all_nil, List.length_cons, List.length_nil, eq_self, t0], by simp only [SS, Nat.reduceBEq, Nat.reduceEqDiff, Nat.reduceAdd, reduceIte, Nat.reduceMul, ptrTo, sliceTo, mapTo, List.getElem?_cons_zero, List.getElem?_cons_succ, Option.map_some, List.append_nil, List.nil_append, List.all_cons, List.all_nil, List.length_cons, List.length_nil, eq_self, t1], by simp only [SS, Nat.reduceBEq, Nat.reduceEqDiff, Nat.reduceAdd, reduceIte, Nat.reduceMul, ptrTo, sliceTo, mapTo, List.getElem?_cons_zero, List.getElem?_cons_succ, Option.map_some, List.append_nil, List.nil_append, List.all_cons, List.all_nil, List.length_cons, List.length_nil, eq_self, t4], by simp only [SS, Nat.reduceBEq, Nat.reduceEqDiff, Nat.reduceAdd, reduceIte, Nat.reduceMul, ptrTo, sliceTo, mapTo, List.getElem?_cons_zero, List.getElem?_cons_succ, Option.map_some, List.append_nil, List.nil_append, List.all_cons, List.all_nil, List.length_cons, List.length_nil, eq_self, t26], by simp only [SS, Nat.reduceBEq, Nat.reduceEqDiff, Nat.reduceAdd, reduceIte, Nat.reduceMul, ptrTo, sliceTo, mapTo, List.getElem?_cons_zero, List.getElem?_cons_succ, Option.map_some, List.append_nil, List.nil_append, List.all_cons, List.all_nil, List.length_cons, List.length_nil, eq_self, t27], by simp only [SS, Nat.reduceBEq, Nat.reduceEqDiff, Nat.reduceAdd, reduceIte, Nat.reduceMul, ptrTo, sliceTo, mapTo, List.getElem?_cons_zero, List.getElem?_cons_succ, Option.map_some, List.append_nil, List.nil_append, List.all_cons, List.all_nil, List.length_cons, List.length_nil, eq_self], by simp only [SS, Nat.reduceBEq, Nat.reduceEqDiff, Nat.reduceAdd, reduceIte, Nat.reduceMul, ptrTo, sliceTo, mapTo, List.getElem?_cons_zero, List.getElem?_cons_succ, Option.map_some, List.append_nil, List.nil_append, List.all_cons, List.all_nil, List.length_cons, List.length_nil, eq_self, t51]⟩
          rw [f2.2 mb hn5 hmF]; exact hm5
        · simp only [F83, SS, Nat.reduceBEq, Nat.reduceEqDiff, Nat.reduceAdd, reduceIte, Nat.reduceMul, ptrTo, sliceTo, mapTo, List.getElem?_cons_zero, List.getElem?_cons_succ, Option.map_some, List.append_nil, List.nil_append, List.all_cons, List.all_nil, List.length_cons, List.length_nil, eq_self, t0, t1, t4, t26, t27, t28, t51, Int.ofNat_lt, hlt, x1, x2, lq, l3, x_fa_53_0, i1, elk, c1, i4, ap_yield, e6]
          refine hE2 _ _ _ (by simp) ?_
          simp only [F83, SS, Nat.reduceBEq, Nat.reduceEqDiff, Nat.reduceAdd, reduceIte, Nat.reduceMul, ptrTo, sliceTo, mapTo, List.getElem?_cons_zero, List.getElem?_cons_succ, Option.map_some, List.append_nil, List.nil_append, List.all_cons, List.all_nil, List.length_cons, List.length_nil, eq_self]
          exact hQ _ _ _ _ (.inr rfl) (by simp only [SS, Nat.reduceBEq, Nat.reduceEqDiff, Nat.reduceAdd, reduceIte, Nat.reduceMul, ptrTo, sliceTo, mapTo, List.getElem?_cons_zero, List.getElem?_cons_succ, Option.map_some, List.append_nil, List.nil_append, List.all_cons, List.all_nil, List.length_cons, List.length_nil, eq_self, t51]) (by simp only [SS, Nat.reduceBEq, Nat.reduceEqDiff, Nat.reduceAdd, reduceIte, Nat.reduceMul, ptrTo, sliceTo, mapTo, List.getElem?_cons_zero, List.getElem?_cons_succ, Option.map_some, List.append_nil, List.nil_append, List.all_cons, List.all_nil, List.length_cons, List.length_nil, eq_self]; rfl) (.inr hD)
    · obtain rfl : i = L.length := by omega
      simp only [F83, SS, Nat.reduceBEq, Nat.reduceEqDiff, Nat.reduceAdd, reduceIte, Nat.reduceMul, ptrTo, sliceTo, mapTo, List.getElem?_cons_zero, List.getElem?_cons_succ, Option.map_some, List.append_nil, List.nil_append, List.all_cons, List.all_nil, List.length_cons, List.length_nil, eq_self, t0, t1, t4, t26, t27, t28, t51, Int.ofNat_lt, hlt]
      refine hE2 _ _ _ (by simp) ?_
      simp only [F83, SS, Nat.reduceBEq, Nat.reduceEqDiff, Nat.reduceAdd, reduceIte, Nat.reduceMul, ptrTo, sliceTo, mapTo, List.getElem?_cons_zero, List.getElem?_cons_succ, Option.map_some, List.append_nil, List.nil_append, List.all_cons, List.all_nil, List.length_cons, List.length_nil, eq_self]
      exact hQ _ _ _ _ (.inl rfl) (by simp only [SS, Nat.reduceBEq, Nat.reduceEqDiff, Nat.reduceAdd, reduceIte, Nat.reduceMul, ptrTo, sliceTo, mapTo, List.getElem?_cons_zero, List.getElem?_cons_succ, Option.map_some, List.append_nil, List.nil_append, List.all_cons, List.all_nil, List.length_cons, List.length_nil, eq_self, t51]) (by simp only [SS, Nat.reduceBEq, Nat.reduceEqDiff, Nat.reduceAdd, reduceIte, Nat.reduceMul, ptrTo, sliceTo, mapTo, List.getElem?_cons_zero, List.getElem?_cons_succ, Option.map_some, List.append_nil, List.nil_append, List.all_cons, List.all_nil, List.length_cons, List.length_nil, eq_self]; rfl) (.inl ⟨d, F, hP, hS, hJ5⟩)
end Go.Proofs.Ytlfednnfkejcjaa

namespace Go.Proofs.Ytlfednnfkejcjaa
open Go.Am Go.Qs
set_option maxRecDepth 10000
/-- what a size counts as -/
def sz (n : Int) : Int := min (max 0 n) 65536
theorem sz_le (n : Int) : 0 ≤ sz n ∧ sz n ≤ 65536 := by unfold sz; omega
def sumTo (L : List It) : Nat → Int
  | 0 => 0
  | i + 1 => sumTo L i + sz (iti L i).size
theorem sumTo_le (L : List It) : ∀ i, 0 ≤ sumTo L i ∧ sumTo L i ≤ 65536 * i
  | 0 => ⟨Int.le_refl _, Int.le_refl _⟩
  | i + 1 => by
    have := sumTo_le L i
    have := sz_le (iti L i).size
    unfold sumTo; omega
theorem size_ok {n : Nat} (hn : 1 ≤ n) {h : Heap} (x : It) : WC (Q n (.fn 60) [.agg x.c] h) fun r h' => r = .int .i64 (sz x.size) ∧ Sm NoB h h' := by
  obtain ⟨m, rfl⟩ : ∃ m, n = m + 1 := ⟨n - 1, by omega⟩
  refine call_fn _ f60A rfl (by simp [fn60]) fun QQ hQ => ?_
  simp only [fn60] at hQ
  simp only [fn60, fill_cons, fill_nil, Nat.zero_add, Nat.reduceAdd]
  obtain ⟨h1, e1, r1, n1, g1⟩ := Rw.alloc h (id := h.next) (n := 4) (vs := x.c) (z := []) (ro := false) (Nat.le_refl _) rfl
  unfold It.c at e1 r1
  have l3 := r1.ld1 3
  rw [show ([AV.str x.p, .int .u32 x.id, .int .u32 x.tick, .int .i64 x.size] : List AV)[3]? = some (.int .i64 x.size) from rfl] at l3
  simp only [F60, SS, Nat.reduceBEq, Nat.reduceEqDiff, Nat.reduceAdd, reduceIte, Nat.reduceMul, ptrTo, sliceTo, mapTo, List.getElem?_cons_zero, List.getElem?_cons_succ, Option.map_some, List.append_nil, List.nil_append, List.all_cons, List.all_nil, List.length_cons, List.length_nil, eq_self, It.c, e1, x_fa_53_3, l3]
  exact hQ _ _ _ _ (.inr rfl) (by simp only [SS, Nat.reduceBEq, Nat.reduceEqDiff, Nat.reduceAdd, reduceIte, Nat.reduceMul, ptrTo, sliceTo, mapTo, List.getElem?_cons_zero, List.getElem?_cons_succ, Option.map_some, List.append_nil, List.nil_append, List.all_cons, List.all_nil, List.length_cons, List.length_nil, eq_self]) (by simp only [SS, Nat.reduceBEq, Nat.reduceEqDiff, Nat.reduceAdd, reduceIte, Nat.reduceMul, ptrTo, sliceTo, mapTo, List.getElem?_cons_zero, List.getElem?_cons_succ, Option.map_some, List.append_nil, List.nil_append, List.all_cons, List.all_nil, List.length_cons, List.length_nil, eq_self]; rfl) ⟨rfl, ⟨by omega, fun c hc _ => g1 c (by omega)⟩⟩
theorem sum_ok {n : Nat} (hn : 2 ≤ n) {h : Heap} {v : AV} {L : List It} (hi : Its h v L) (hl : L.length ≤ 1000) : WC (Q n (.fn 25) [v] h) fun r h' => r = .int .i64 (sumTo L L.length) ∧ Sm NoB h h' := by
  obtain ⟨a, c, g, rfl⟩ := hi.sl
  obtain ⟨m, rfl⟩ : ∃ m, n = m + 1 := ⟨n - 1, by omega⟩
  refine call_fn _ f25A rfl (by simp [fn25]) fun QQ hQ => ?_
  simp only [fn25] at hQ
  simp only [fn25, fill_cons, fill_nil, Nat.zero_add, Nat.reduceAdd]
  simp only [F25, SS, Nat.reduceBEq, Nat.reduceEqDiff, Nat.reduceAdd, reduceIte, Nat.reduceMul, ptrTo, sliceTo, mapTo, List.getElem?_cons_zero, List.getElem?_cons_succ, Option.map_some, List.append_nil, List.nil_append, List.all_cons, List.all_nil, List.length_cons, List.length_nil, eq_self, x_len_41]
  refine run_loop (c := c25_7) (I := fun m' tm' h' => ∃ i, i ≤ L.length ∧ m' = L.length - i ∧ Its h' (.slice a L.length c g) L ∧ Sm NoB h h' ∧ tm'.gt 2 = some (.int .i64 (sumTo L i)) ∧ tm'.gt 5 = some (.slice a L.length c g) ∧ tm'.gt 6 = some (I L.length) ∧ tm'.gt 7 = some (I i) ∧ tm'.gt 17 = none) (n := L.length)
    ⟨0, by omega, rfl, hi, Sm.refl _ _, by simp only [SS, Nat.reduceBEq, Nat.reduceEqDiff, Nat.reduceAdd, reduceIte, Nat.reduceMul, ptrTo, sliceTo, mapTo, List.getElem?_cons_zero, List.getElem?_cons_succ, Option.map_some, List.append_nil, List.nil_append, List.all_cons, List.all_nil, List.length_cons, List.length_nil, eq_self]; rfl, by simp only [SS, Nat.reduceBEq, Nat.reduceEqDiff, Nat.reduceAdd, reduceIte, Nat.reduceMul, ptrTo, sliceTo, mapTo, List.getElem?_cons_zero, List.getElem?_cons_succ, Option.map_some, List.append_nil, List.nil_append, List.all_cons, List.all_nil, List.length_cons, List.length_nil, eq_self], by simp only [SS, Nat.reduceBEq, Nat.reduceEqDiff, Nat.reduceAdd, reduceIte, Nat.reduceMul, ptrTo, sliceTo, mapTo, List.getElem?_cons_zero, List.getElem?_cons_succ, Option.map_some, List.append_nil, List.nil_append, List.all_cons, List.all_nil, List.length_cons, List.length_nil, eq_self], by simp only [SS, Nat.reduceBEq, Nat.reduceEqDiff, Nat.reduceAdd, reduceIte, Nat.reduceMul, ptrTo, sliceTo, mapTo, List.getElem?_cons_zero, List.getElem?_cons_succ, Option.map_some, List.append_nil, List.nil_append, List.all_cons, List.all_nil, List.length_cons, List.length_nil, eq_self]; rfl, by simp only [SS, Nat.reduceBEq, Nat.reduceEqDiff, Nat.reduceAdd, reduceIte, Nat.reduceMul, ptrTo, sliceTo, mapTo, List.getElem?_cons_zero, List.getElem?_cons_succ, Option.map_some, List.append_nil, List.nil_append, List.all_cons, List.all_nil, List.length_cons, List.length_nil, eq_self]⟩ (by omega) ?_
  rintro _ tm h1 ⟨i, hil, rfl, hi1, s1, t2, t5, t6, t7, t17⟩ Q1 hN1 hE
  by_cases hlt : i < L.length
  · obtain ⟨b, o, rfl, _, _, _, _, i4⟩ := hi1.at hlt
    rw [← iti_at hlt] at i4
    have x2 := x_ia_41 (k := .i64) (b := b) (o := o) (c := c) (g := g) hlt
    obtain ⟨h2, e2, r2, n2, g2⟩ := Rw.alloc h1 (id := h1.next) (n := 4) (vs := [.str [], .int .u32 0, .int .u32 0, .int .i64 0]) (z := tyMark 53 true) (ro := false) (Nat.le_refl _) rfl
    have s2 : Sm NoB h1 h2 := ⟨by omega, fun c hc _ => g2 c (by omega)⟩
    have i4' : h2.ld b (o + i * 4) 4 = some (iti L i).c := by
      have := (hi1.sm s2 (fun _ _ h => h)).at hlt
      obtain ⟨b', o', e', _, _, _, _, k4⟩ := this
      cases e'
      rw [← iti_at hlt] at k4
      exact k4
    obtain ⟨w1, w2, w3, w4⟩ := r2.sto (o := 0) (us := (iti L i).c) (by simp [It.c]) rfl
    have hw : putL [.str [], .int .u32 0, .int .u32 0, .int .i64 0] 0 (iti L i).c = (iti L i).c := rfl
    rw [hw] at w2
    generalize h2.wr h1.next 0 (iti L i).c = h3 at w1 w2 w3 w4
    have s3 : Sm NoB h1 h3 := ⟨by omega, fun c hc _ => by rw [w4 c (by omega), g2 c (by omega)]⟩
    have l3 := w2.ld (i := 0) (n := 4) (Nat.le_refl _)
    rw [show ((iti L i).c.drop 0).take 4 = (iti L i).c from rfl] at l3
    obtain ⟨r, h4, e4, rfl, s4⟩ := size_ok (n := m) (by omega) (h := h3) (iti L i)
    have b1 := sumTo_le L i
    have b2 := sz_le (iti L i).size
    have e7 : IntKind.i64.wrap (sumTo L i + sz (iti L i).size) = sumTo L (i + 1) := by rw [wrap_i64 (by omega) (by omega)]; rfl
    simp only [F25, SS, Nat.reduceBEq, Nat.reduceEqDiff, Nat.reduceAdd, reduceIte, Nat.reduceMul, ptrTo, sliceTo, mapTo, List.getElem?_cons_zero, List.getElem?_cons_succ, Option.map_some, List.append_nil, List.nil_append, List.all_cons, List.all_nil, List.length_cons, List.length_nil, eq_self, t2, t5, t6, t7, t17, Int.ofNat_lt, hlt, x2, i4, i4', x_al_53, e2, st_agg (show (iti L i).c.length = 4 from rfl), w1, l3, e4, e7, wAdd1 (show i ≤ 1000000 by omega)]
    exact hN1 _ _ (L.length - (i + 1)) (by omega) ⟨i + 1, hlt, rfl, (hi1.sm s3 (fun _ _ h => h)).sm s4 (fun _ _ h => h), (s1.trans s3 (fun _ _ h => h) (fun _ _ h => h)).trans s4 (fun _ _ h => h) (fun _ _ h => h), by simp only [SS, Nat.reduceBEq, Nat.reduceEqDiff, Nat.reduceAdd, reduceIte, Nat.reduceMul, ptrTo, sliceTo, mapTo, List.getElem?_cons_zero, List.getElem?_cons_succ, Option.map_some, List.append_nil, List.nil_append, List.all_cons, List.all_nil, List.length_cons, List.length_nil, eq_self], by simp only [SS, Nat.reduceBEq, Nat.reduceEqDiff, Nat.reduceAdd, reduceIte, Nat.reduceMul, ptrTo, sliceTo, mapTo, List.getElem?_cons_zero, List.getElem?_cons_succ, Option.map_some, List.append_nil, List.nil_append, List.all_cons, List.all_nil, List.length_cons, List.length_nil, eq_self, t5], by simp only [SS, Nat.reduceBEq, Nat.reduceEqDiff, Nat.reduceAdd, reduceIte, Nat.reduceMul, ptrTo, sliceTo, mapTo, List.getElem?_cons_zero, List.getElem?_cons_succ, Option.map_some, List.append_nil, List.nil_append, List.all_cons, List.all_nil, List.length_cons, List.length_nil, eq_self, t6], by simp only [SS, Nat.reduceBEq, Nat.reduceEqDiff, Nat.reduceAdd, reduceIte, Nat.reduceMul, ptrTo, sliceTo, mapTo, List.getElem?_cons_zero, List.getElem?_cons_succ, Option.map_some, List.append_nil, List.nil_append, List.all_cons, List.all_nil, List.length_cons, List.length_nil, eq_self], by simp only [SS, Nat.reduceBEq, Nat.reduceEqDiff, Nat.reduceAdd, reduceIte, Nat.reduceMul, ptrTo, sliceTo, mapTo, List.getElem?_cons_zero, List.getElem?_cons_succ, Option.map_some, List.append_nil, List.nil_append, List.all_cons, List.all_nil, List.length_cons, List.length_nil, eq_self, t17]⟩
  · obtain rfl : i = L.length := by omega
    simp only [F25, SS, Nat.reduceBEq, Nat.reduceEqDiff, Nat.reduceAdd, reduceIte, Nat.reduceMul, ptrTo, sliceTo, mapTo, List.getElem?_cons_zero, List.getElem?_cons_succ, Option.map_some, List.append_nil, List.nil_append, List.all_cons, List.all_nil, List.length_cons, List.length_nil, eq_self, t2, t5, t6, t7, t17, Int.ofNat_lt, hlt]
    refine hE _ _ _ (by simp) ?_
    simp only [F25, SS, Nat.reduceBEq, Nat.reduceEqDiff, Nat.reduceAdd, reduceIte, Nat.reduceMul, ptrTo, sliceTo, mapTo, List.getElem?_cons_zero, List.getElem?_cons_succ, Option.map_some, List.append_nil, List.nil_append, List.all_cons, List.all_nil, List.length_cons, List.length_nil, eq_self, t2, t17]
    exact hQ _ _ _ _ (.inr rfl) (by simp only [SS, Nat.reduceBEq, Nat.reduceEqDiff, Nat.reduceAdd, reduceIte, Nat.reduceMul, ptrTo, sliceTo, mapTo, List.getElem?_cons_zero, List.getElem?_cons_succ, Option.map_some, List.append_nil, List.nil_append, List.all_cons, List.all_nil, List.length_cons, List.length_nil, eq_self, t17]) (by simp only [SS, Nat.reduceBEq, Nat.reduceEqDiff, Nat.reduceAdd, reduceIte, Nat.reduceMul, ptrTo, sliceTo, mapTo, List.getElem?_cons_zero, List.getElem?_cons_succ, Option.map_some, List.append_nil, List.nil_append, List.all_cons, List.all_nil, List.length_cons, List.length_nil, eq_self]; rfl) ⟨rfl, s1⟩
theorem seq_ok {n : Nat} (hn : 1 ≤ n) {h : Heap} {a : Option (Nat × Nat)} {k c : Nat} {g : Option Nat} : WC (Q n (.fn 59) [.slice a k c g] h) fun r h' => r = .func (Fn.func 83) [] [.ptr (some (h.next, 0))] ∧ Rw h' h.next [.slice a k c g] [] false ∧ h'.next = h.next + 1 ∧ Sm NoB h h' := by
  obtain ⟨m, rfl⟩ : ∃ m, n = m + 1 := ⟨n - 1, by omega⟩
  refine call_fn _ f59A rfl (by simp [fn59]) fun QQ hQ => ?_
  simp only [fn59] at hQ
  simp only [fn59, fill_cons, fill_nil, Nat.zero_add, Nat.reduceAdd]
  obtain ⟨h1, e1, r1, n1, g1⟩ := Rw.alloc h (id := h.next) (n := 1) (vs := [.slice a k c g]) (z := []) (ro := false) (Nat.le_refl _) rfl
  simp only [F59, SS, Nat.reduceBEq, Nat.reduceEqDiff, Nat.reduceAdd, reduceIte, Nat.reduceMul, ptrTo, sliceTo, mapTo, List.getElem?_cons_zero, List.getElem?_cons_succ, Option.map_some, List.append_nil, List.nil_append, List.all_cons, List.all_nil, List.length_cons, List.length_nil, eq_self, box_slice, e1, mk_fn]
  exact hQ _ _ _ _ (.inr rfl) (by simp only [SS, Nat.reduceBEq, Nat.reduceEqDiff, Nat.reduceAdd, reduceIte, Nat.reduceMul, ptrTo, sliceTo, mapTo, List.getElem?_cons_zero, List.getElem?_cons_succ, Option.map_some, List.append_nil, List.nil_append, List.all_cons, List.all_nil, List.length_cons, List.length_nil, eq_self]) (by simp only [SS, Nat.reduceBEq, Nat.reduceEqDiff, Nat.reduceAdd, reduceIte, Nat.reduceMul, ptrTo, sliceTo, mapTo, List.getElem?_cons_zero, List.getElem?_cons_succ, Option.map_some, List.append_nil, List.nil_append, List.all_cons, List.all_nil, List.length_cons, List.length_nil, eq_self]; rfl) ⟨rfl, r1, n1, ⟨by omega, fun c hc _ => g1 c (by omega)⟩⟩
end Go.Proofs.Ytlfednnfkejcjaa

namespace Go.Proofs.Ytlfednnfkejcjaa
open Go.Am Go.Qs
set_option maxRecDepth 10000
open Classical in
/-- what is left, and which are gone, once the first i of the row have been gone through -/
noncomputable def pr (L : List It) (d : Nat → Nat) (q : Int) : Nat → Int × List Nat
  | 0 => (sumTo L L.length, [])
  | i + 1 => if more L d i ∧ q < (pr L d q i).1 then ((pr L d q i).1 - sz (iti L (d i)).size, (pr L d q i).2 ++ [d i]) else pr L d q i
theorem pr_le (L : List It) (d : Nat → Nat) (q : Int) : ∀ i : Nat, -65536 * (i : Int) ≤ (pr L d q i).1 ∧ (pr L d q i).1 ≤ sumTo L L.length ∧ (pr L d q i).2.length ≤ i
  | 0 => by have := sumTo_le L L.length; unfold pr; simp only [List.length_nil]; omega
  | i + 1 => by
    have := pr_le L d q i
    have h2 := sz_le (iti L (d i)).size
    unfold pr
    split
    · simp only [List.length_append, List.length_cons, List.length_nil]; omega
    · omega
theorem pr_stop {L : List It} {d : Nat → Nat} {q : Int} {i : Nat} (h : (pr L d q i).1 ≤ q) : ∀ k, pr L d q (i + k) = pr L d q i
  | 0 => rfl
  | k + 1 => by
    have ih := pr_stop h k
    show pr L d q (i + k + 1) = _
    rw [pr, ih, if_neg (by omega)]
theorem pr_no {L : List It} {d : Nat → Nat} {q : Int} {i : Nat} (h : ¬ more L d i) : pr L d q (i + 1) = pr L d q i := by rw [pr, if_neg (fun h' => h h'.1)]
abbrev idc (L : List It) (g : List Nat) : List AV := g.map fun k => .int .u32 (iti L k).id

/-- the cells of Prune, midway -/
structure PrAt (L : List It) (q left : Int) (g : List Nat) (bq bg bf : Nat) (gv : AV) (bs : List Nat) (h : Heap) : Prop where
  rq : ∃ z, Rw h bq [.int .i64 q] z false
  rf : ∃ z, Rw h bf [.int .i64 left] z false
  rg : ∃ z, Rw h bg [gv] z false
  ow : SlO 27 1 h gv g.length (idc L g) bs
  lt : bq < h.next ∧ bg < h.next ∧ bf < h.next
  nb : ∀ b, b ∈ bs → b ≠ bq ∧ b ≠ bg ∧ b ≠ bf
theorem PrAt.sm {L : List It} {q left : Int} {g : List Nat} {bq bg bf : Nat} {gv : AV} {bs : List Nat} {h h' : Heap} {G : Nat → Prop} (hp : PrAt L q left g bq bg bf gv bs h) (hs : Sm G h h') (h1 : ¬ G bq) (h2 : ¬ G bg) (h3 : ¬ G bf) (h4 : ∀ b, b ∈ bs → ¬ G b) : PrAt L q left g bq bg bf gv bs h' := by
  obtain ⟨⟨z1, r1⟩, ⟨z2, r2⟩, ⟨z3, r3⟩, o, ⟨l1, l2, l3⟩, nb⟩ := hp
  have := hs.1
  exact ⟨⟨z1, r1.sm hs l1 h1⟩, ⟨z2, r2.sm hs l3 h3⟩, ⟨z3, r3.sm hs l2 h2⟩, o.sm hs h4, ⟨by omega, by omega, by omega⟩, nb⟩
theorem keep21 : keepF P 21 29 = false := by kernel_rfl
theorem nt21 : ntOf P 21 = 29 := by kernel_rfl
theorem slo_is1 {e s : Nat} {h : Heap} {v : AV} {n : Nat} {cs : List AV} {bs : List Nat} (ho : SlO e s h v n cs bs) : v.one = true ∧ ∃ a c g, v = .slice a n c g := by
  rcases ho with ⟨rfl, rfl, _⟩ | ⟨b, c, _, _, rfl, _⟩
  · exact ⟨rfl, none, 0, none, rfl⟩
  · exact ⟨rfl, _, _, _, rfl⟩
/-- the loop's record -/
structure RecAt (l bq bg bf : Nat) (st : LState) (pd : Option Code) (h : Heap) (b : LRec) : Prop where
  at' : h.bs.gt l = some (.loop b)
  st : b.st = st
  pd : b.pending = pd
  fn : b.fn = 21
  ps : b.params = [12]
  asg : b.assign = c21_8A
  bo : b.body = c21_8B
  t3 : b.tm.gt 3 = some (.ptr (some (bq, 0)))
  t4 : b.tm.gt 4 = some (.ptr (some (bg, 0)))
  t6 : b.tm.gt 6 = some (.ptr (some (bf, 0)))
  t29 : b.tm.gt 29 = none
/-- A ROUND of Prune. -/
theorem round_ok {m : Nat} (hm : 3 ≤ m) {L : List It} {q left : Int} {g : List Nat} {bq bg bf l k : Nat} {gv : AV} {bs : List Nat} {h : Heap} {b : LRec} (hp : PrAt L q left g bq bg bf gv bs h) (hr : RecAt l bq bg bf .ready none h b) (hl : l < h.next) (hlq : l ≠ bq ∧ l ≠ bg ∧ l ≠ bf) (hbl : ∀ b, b ∈ bs → b ≠ l)
    (hd : bq ≠ bg ∧ bq ≠ bf ∧ bg ≠ bf) (hle : -10000000 ≤ left ∧ left ≤ 10000000) (hg : g.length ≤ 1000) :
    WC (Q m (.loop l) [.agg (iti L k).c] h) fun r h2 => Sm (fun c => c = bq ∨ c = bg ∨ c = bf ∨ c = l ∨ c ∈ bs) h h2 ∧
      ((left ≤ q ∧ r = .bool false ∧ PrAt L q left g bq bg bf gv bs h2 ∧ ∃ b', RecAt l bq bg bf .done (some (.exit 0)) h2 b') ∨
      (q < left ∧ r = .bool true ∧ ∃ gv' bs' b', PrAt L q (left - sz (iti L k).size) (g ++ [k]) bq bg bf gv' bs' h2 ∧ (∀ c, c ∈ bs' → c ∈ bs ∨ h.next ≤ c) ∧ RecAt l bq bg bf .ready none h2 b')) := by
  obtain ⟨m, rfl⟩ : ∃ m', m = m' + 1 := ⟨m - 1, by omega⟩
  obtain ⟨hat, hst, hpd, hfn, hps, has, hbo, t3, t4, t6, t29⟩ := hr
  refine call_loop _ hat (nt := 29) (CA := c21_9) (CB := c21_10) (tm' := b.tm.up (some (.agg (iti L k).c)) 12) (by rw [hfn]; exact nt21) (by rw [hps]; rfl) (by rw [hfn]; exact keep21) t29 (by rw [hfn, has]; exact q21_8a) (by rw [hfn, hbo]; exact q21_8b) fun QA hA => ?_
  rw [hfn] at hA ⊢
  -- x takes the value
  obtain ⟨h1, e1, r1, n1, g1⟩ := Rw.alloc h (id := h.next) (n := 4) (vs := [.str [], .int .u32 0, .int .u32 0, .int .i64 0]) (z := tyMark 53 true) (ro := false) (Nat.le_refl _) rfl
  obtain ⟨w1, w2, w3, w4⟩ := r1.sto (o := 0) (us := (iti L k).c) (by simp [It.c]) rfl
  rw [show putL [.str [], .int .u32 0, .int .u32 0, .int .i64 0] 0 (iti L k).c = (iti L k).c from rfl] at w2
  generalize h1.wr h.next 0 (iti L k).c = h2 at w1 w2 w3 w4
  have s2 : Sm NoB h h2 := ⟨by omega, fun c hc _ => by rw [w4 c (by omega), g1 c (by omega)]⟩
  simp only [F21, r21_20, SS, Nat.reduceBEq, Nat.reduceEqDiff, Nat.reduceAdd, reduceIte, Nat.reduceMul, ptrTo, sliceTo, mapTo, List.getElem?_cons_zero, List.getElem?_cons_succ, Option.map_some, List.append_nil, List.nil_append, List.all_cons, List.all_nil, List.length_cons, List.length_nil, eq_self, x_al_53, e1, st_agg (show (iti L k).c.length = 4 from rfl), w1]
  have hat2 : h2.bs.gt l = some (.loop b) := by rw [s2.2 l hl (fun h => h)]; exact hat
  refine hA _ _ b hat2 hst fun QB hB => ?_
  obtain ⟨h3, e3, m3, n3, s3⟩ := put_sm (h := h2) (b := l) (x := .loop { b with st := .busy })
  rw [e3]
  have hp3 : PrAt L q left g bq bg bf gv bs h3 := (hp.sm s2 (fun h => h) (fun h => h) (fun h => h) (fun _ _ h => h)).sm s3 (fun h => hlq.1 h.symm) (fun h => hlq.2.1 h.symm) (fun h => hlq.2.2 h.symm) (fun b hb h => hbl b hb h)
  have w3' : Rw h3 h.next (iti L k).c (tyMark 53 true) false := w2.sm s3 (by omega) (show ¬ h.next = l by omega)
  obtain ⟨⟨zq, rq⟩, ⟨zf, rf⟩, ⟨zg, rg⟩, ow, ⟨l1, l2, l3'⟩, nb⟩ := id hp3
  have lq := rq.ld1 0
  have lf := rf.ld1 0
  have lg := rg.ld1 0
  rw [List.getElem?_cons_zero] at lq lf lg
  by_cases hq : left ≤ q
  · simp only [F21, r21_20, SS, Nat.reduceBEq, Nat.reduceEqDiff, Nat.reduceAdd, reduceIte, Nat.reduceMul, ptrTo, sliceTo, mapTo, List.getElem?_cons_zero, List.getElem?_cons_succ, Option.map_some, List.append_nil, List.nil_append, List.all_cons, List.all_nil, List.length_cons, List.length_nil, eq_self, t3, t4, t6, lq, lf, hq]
    refine hB _ _ _ _ m3 rfl ?_
    obtain ⟨h4, e4, m4, n4, s4⟩ := put_sm (h := h3) (b := l) (x := .loop (endL (.exit 0) { b with st := .busy }).2)
    rw [e4]
    refine ⟨⟨by omega, fun c hc hF => by rw [s4.2 c (by omega) (fun e => hF (.inr (.inr (.inr (.inl e))))), s3.2 c (by omega) (fun e => hF (.inr (.inr (.inr (.inl e))))), s2.2 c hc (fun h => h)]⟩, .inl ⟨hq, rfl, hp3.sm s4 (fun h => hlq.1 h.symm) (fun h => hlq.2.1 h.symm) (fun h => hlq.2.2 h.symm) (fun b hb h => hbl b hb h), _, m4, rfl, rfl, hfn, hps, has, hbo, t3, t4, t6, t29⟩⟩
  · -- the item goes
    obtain ⟨hb, eb, sb, _, nb'⟩ := Sm.bump h3 5
    obtain ⟨r5, h5, e5, rfl, s5⟩ := size_ok (n := m) (by omega) (h := hb) (iti L k)
    have hsz := sz_le (iti L k).size
    have ew : IntKind.i64.wrap (left - sz (iti L k).size) = left - sz (iti L k).size := wrap_i64 (by omega) (by omega)
    have s35 : Sm NoB h3 h5 := sb.trans s5 (fun _ _ h => h) (fun _ _ h => h)
    have lxb := (w3'.sm sb (by omega) (fun h => h)).ld (i := 0) (n := 4) (Nat.le_refl _)
    rw [show ((iti L k).c.drop 0).take 4 = (iti L k).c from rfl] at lxb
    have w5 := w3'.sm s35 (by omega) (fun h => h)
    have lfb := (rf.sm sb l3' (fun h => h)).ld1 0
    have rf5 := rf.sm s35 l3' (fun h => h)
    have lf5 := rf5.ld1 0
    have lx5 := w5.ld (i := 0) (n := 4) (Nat.le_refl _)
    rw [show ((iti L k).c.drop 0).take 4 = (iti L k).c from rfl] at lx5
    rw [List.getElem?_cons_zero] at lfb lf5
    obtain ⟨y1, y2, y3, y4⟩ := rf5.st1 (o := 0) (v := .int .i64 (left - sz (iti L k).size)) (by simp) rfl
    rw [show ([AV.int .i64 left] : List AV).set 0 (.int .i64 (left - sz (iti L k).size)) = [.int .i64 (left - sz (iti L k).size)] from rfl] at y2
    generalize h5.wr bf 0 [.int .i64 (left - sz (iti L k).size)] = h6 at y1 y2 y3 y4
    have h53 := s35.1
    have s56 : Sm (· = bf) h5 h6 := ⟨by omega, fun c _ hc => y4 c hc⟩
    have w6 := w5.sm s56 (by omega) (show ¬ h.next = bf by have := hp.lt; omega)
    have lx1 := w6.ld1 1
    rw [show (iti L k).c[1]? = some (.int .u32 (iti L k).id) from rfl] at lx1
    have rg6 := (rg.sm s35 l2 (fun h => h)).sm s56 (by omega) hd.2.2
    have lg6 := rg6.ld1 0
    rw [List.getElem?_cons_zero] at lg6
    have ow6 := (ow.sm s35 (fun _ _ h => h)).sm s56 (fun b hb => (nb b hb).2.2)
    obtain ⟨h7, e7, r7, n7, g7⟩ := Rw.alloc h6 (id := h6.next) (n := 1) (vs := [.int .u32 (iti L k).id]) (z := []) (ro := false) (Nat.le_refl _) rfl
    have s67 : Sm NoB h6 h7 := ⟨by omega, fun c hc _ => g7 c (by omega)⟩
    have hs6 : srcOf 1 (fun n => n) (.slice (some (h6.next, 0)) 1 1 none) h7 = some ([.int .u32 (iti L k).id], 1) := srcOf_row r7 (Nat.le_refl _)
    have hbl7 := (ow6.sm s67 (fun _ _ h => h)).lt
    obtain ⟨gv', h8, bs', e8, o8, n8, g8, b8, _⟩ := app_own (t := 43) u_43 s_27 b_27 z_27 rfl (ow6.sm s67 (fun _ _ h => h)) hs6 (by omega) rfl rfl (room_le (by omega) (by omega)) (Nat.le_refl h7.next)
    have s78 : Sm (fun b => b ∈ bs) h7 h8 := ⟨n8, fun c hc hb => g8 c hb (by omega)⟩
    have rg8 := (rg6.sm s67 (by omega) (fun h => h)).sm s78 (by omega) (fun hb => (nb bg hb).2.1 rfl)
    obtain ⟨hone, _⟩ := slo_is1 o8
    obtain ⟨v1, v2, v3, v4⟩ := rg8.st1 (o := 0) (v := gv') (by simp) hone
    rw [show ([gv] : List AV).set 0 gv' = [gv'] from rfl] at v2
    generalize h8.wr bg 0 [gv'] = h9 at v1 v2 v3 v4
    have s89 : Sm (· = bg) h8 h9 := ⟨by omega, fun c _ hc => v4 c hc⟩
    simp only [F21, r21_20, SS, Nat.reduceBEq, Nat.reduceEqDiff, Nat.reduceAdd, reduceIte, Nat.reduceMul, ptrTo, sliceTo, mapTo, List.getElem?_cons_zero, List.getElem?_cons_succ, Option.map_some, List.append_nil, List.nil_append, List.all_cons, List.all_nil, List.length_cons, List.length_nil, eq_self, t3, t4, t6, lq, lf, hq, eb, lfb, lxb, e5, ew, lf5, lx5, y1, s_int, and'_eq, iff'_true, x_fa_53_1, lx1, lg6, x_bs_43_1, e7, e8, v1]
    have hle9 : ∀ c, c < h.next → ¬ (c = bq ∨ c = bg ∨ c = bf ∨ c = l ∨ c ∈ bs) → h9.bs.gt c = h.bs.gt c := by
      intro c hc hF
      have f1 : ¬ c = bg := fun e => hF (.inr (.inl e))
      have f2 : ¬ c = bf := fun e => hF (.inr (.inr (.inl e)))
      have f3 : ¬ c = l := fun e => hF (.inr (.inr (.inr (.inl e))))
      have f4 : ¬ c ∈ bs := fun e => hF (.inr (.inr (.inr (.inr e))))
      rw [s89.2 c (by omega) f1, s78.2 c (by omega) f4, s67.2 c (by omega) (fun h => h), s56.2 c (by omega) f2, s35.2 c (by omega) (fun h => h), s3.2 c (by omega) f3, s2.2 c hc (fun h => h)]
    have hml : h9.bs.gt l = some (.loop { b with st := .busy }) := by
      rw [s89.2 l (by omega) hlq.2.1, s78.2 l (by omega) (fun hb => hbl l hb rfl), s67.2 l (by omega) (fun h => h), s56.2 l (by omega) hlq.2.2, s35.2 l (by omega) (fun h => h)]; exact m3
    refine hB _ _ _ _ hml rfl ?_
    obtain ⟨h10, e10, m10, n10, s10⟩ := put_sm (h := h9) (b := l) (x := .loop (endL .normal { b with st := .busy }).2)
    rw [e10]
    have hbs8 : ∀ c, c ∈ bs' → c ∈ bs ∨ h.next ≤ c := fun c hc => by
      rcases b8 c hc with h | h
      · exact .inl h
      · exact .inr (by omega)
    have hnl : ∀ c, c ∈ bs' → c ≠ bq ∧ c ≠ bg ∧ c ≠ bf ∧ c ≠ l := fun c hc => by
      have := hp.lt
      rcases hbs8 c hc with h | h
      · exact ⟨(nb c h).1, (nb c h).2.1, (nb c h).2.2, hbl c h⟩
      · exact ⟨by omega, by omega, by omega, by omega⟩
    refine ⟨⟨by omega, fun c hc hF => by rw [s10.2 c (by omega) (fun e => hF (.inr (.inr (.inr (.inl e))))), hle9 c hc hF]⟩, .inr ⟨by omega, rfl, gv', bs', _, ?_, hbs8, m10, rfl, rfl, hfn, hps, has, hbo, t3, t4, t6, t29⟩⟩
    refine PrAt.sm ⟨⟨zq, ?_⟩, ⟨zf, ?_⟩, ⟨zg, v2⟩, ?_, ⟨by omega, by omega, by omega⟩, fun c hc => ⟨(hnl c hc).1, (hnl c hc).2.1, (hnl c hc).2.2.1⟩⟩ s10 (fun h => hlq.1 h.symm) (fun h => hlq.2.1 h.symm) (fun h => hlq.2.2 h.symm) (fun c hc => (hnl c hc).2.2.2)
    · exact ((((rq.sm s35 l1 (fun h => h)).sm s56 (by omega) hd.2.1).sm s67 (by omega) (fun h => h)).sm s78 (by omega) (fun hb => (nb bq hb).1 rfl)).sm s89 (by omega) hd.1
    · exact ((y2.sm s67 (by omega) (fun h => h)).sm s78 (by omega) (fun hb => (nb bf hb).2.2 rfl)).sm s89 (by omega) (fun h => hd.2.2 h.symm)
    · have := o8.sm s89 (fun c hc => (hnl c hc).2.1)
      rw [List.length_append]
      unfold idc
      rw [List.map_append]
      exact this
end Go.Proofs.Ytlfednnfkejcjaa

namespace Go.Proofs.Ytlfednnfkejcjaa
open Go.Am Go.Qs
set_option maxRecDepth 10000
theorem rc_43 : resC P 43 = load1 := by kernel_rfl
theorem prune_ok {n : Nat} (hn : 70 ≤ n) {h : Heap} {lv : AV} {L : List It} (q : Int) (hi : Its h lv L) (h40 : L.length < 40) :
    WC (Q n (.fn 21) [lv, .int .i64 q] h) fun r h' => ∃ d gv ok bs g, r = .tuple [gv, .bool ok] ∧ Perm 0 L.length id d ∧ Sorted (ltI L) 0 L.length d ∧ Sm NoB h h' ∧ SlO 27 1 h' gv g.length (idc L g) bs ∧ (∀ b, b ∈ bs → h.next ≤ b) ∧
      ((ok = true ∧ g = (pr L d q L.length).2 ∧ (pr L d q L.length).1 ≤ q) ∨ (ok = false ∧ g = [] ∧ q < (pr L d q L.length).1)) := by
  obtain ⟨a, c, g, rfl⟩ := hi.sl
  obtain ⟨m, rfl⟩ : ∃ m, n = m + 1 := ⟨n - 1, by omega⟩
  refine call_fn _ f21A rfl (by simp [fn21]) fun QQ hQ => ?_
  simp only [fn21] at hQ
  simp only [fn21, fill_cons, fill_nil, Nat.zero_add, Nat.reduceAdd]
  obtain ⟨h1, e1, r1, n1, g1⟩ := Rw.alloc h (id := h.next) (n := 1) (vs := [.int .i64 q]) (z := []) (ro := false) (Nat.le_refl _) rfl
  have s1 : Sm NoB h h1 := ⟨by omega, fun c hc _ => g1 c (by omega)⟩
  obtain ⟨h2, e2, r2, n2, g2⟩ := Rw.alloc h1 (id := h1.next) (n := 1) (vs := [.slice none 0 0 none]) (z := tyMark 43 true) (ro := false) (Nat.le_refl _) rfl
  have s2 : Sm NoB h1 h2 := ⟨by omega, fun c hc _ => g2 c (by omega)⟩
  have hi2 := (hi.sm s1 (fun _ _ h => h)).sm s2 (fun _ _ h => h)
  obtain ⟨rs, h3, e3, rfl, s3⟩ := sum_ok (n := m) (by omega) hi2 (by omega)
  obtain ⟨h4, e4, r4, n4, g4⟩ := Rw.alloc h3 (id := h3.next) (n := 1) (vs := [.int .i64 0]) (z := tyMark 3 true) (ro := false) (Nat.le_refl _) rfl
  have s4 : Sm NoB h3 h4 := ⟨by omega, fun c hc _ => g4 c (by omega)⟩
  obtain ⟨y1, y2, y3, y4⟩ := r4.st1 (o := 0) (v := .int .i64 (sumTo L L.length)) (by simp) rfl
  rw [show ([AV.int .i64 0] : List AV).set 0 (.int .i64 (sumTo L L.length)) = [.int .i64 (sumTo L L.length)] from rfl] at y2
  generalize h4.wr h3.next 0 [.int .i64 (sumTo L L.length)] = h5 at y1 y2 y3 y4
  have s35 : Sm NoB h3 h5 := ⟨by omega, fun c hc _ => by rw [y4 c (by omega), g4 c (by omega)]⟩
  obtain ⟨rq, h6, e6, rfl, r6, n6, s6⟩ := seq_ok (n := m) (by omega) (h := h5) (a := a) (k := L.length) (c := c) (g := g)
  have k3 := s3.1
  have k35 := s35.1
  have s36 : Sm NoB h3 h6 := s35.trans s6 (fun _ _ h => h) (fun _ _ h => h)
  have s26 : Sm NoB h2 h6 := s3.trans s36 (fun _ _ h => h) (fun _ _ h => h)
  have s06 : Sm NoB h h6 := (s1.trans s2 (fun _ _ h => h) (fun _ _ h => h)).trans s26 (fun _ _ h => h) (fun _ _ h => h)
  have hi6 := hi2.sm s26 (fun _ _ h => h)
  have rq6 := (r1.sm s2 (by omega) (fun h => h)).sm s26 (by omega) (fun h => h)
  have rg6 := r2.sm s26 (by omega) (fun h => h)
  have rf6 := y2.sm s6 (by omega) (fun h => h)
  have hlb : ∀ b, blkOf (.slice a L.length c g) b → b < h.next := fun b hb => hi.lt hb
  -- the end
  have fin : ∀ tm h7 d gv bs bq bg bf, tm.gt 3 = some (.ptr (some (bq, 0))) → tm.gt 4 = some (.ptr (some (bg, 0))) → tm.gt 6 = some (.ptr (some (bf, 0))) → tm.gt 29 = none → Perm 0 L.length id d → Sorted (ltI L) 0 L.length d →
      PrAt L q (pr L d q L.length).1 (pr L d q L.length).2 bq bg bf gv bs h7 → h.next ≤ bg → Sm NoB h h7 → (∀ c, c ∈ bs → h.next ≤ c) → run (Q m) 100000 29 21 none c21_20 [] tm h7 QQ := by
    intro tm h7 d gv bs bq bg bf t3 t4 t6 t29 hP hS hp hbg s7 hbs
    obtain ⟨⟨zq, rq⟩, ⟨zf, rf⟩, ⟨zg, rg⟩, ow, ⟨l1, l2, l3⟩, nb⟩ := id hp
    have lq := rq.ld1 0
    have lf := rf.ld1 0
    have lg := rg.ld1 0
    rw [List.getElem?_cons_zero] at lq lf lg
    by_cases hlt : q < (pr L d q L.length).1
    · obtain ⟨w1, w2, w3, w4⟩ := rg.st1 (o := 0) (v := .slice none 0 0 none) (by simp) rfl
      rw [show ([gv] : List AV).set 0 (.slice none 0 0 none) = [.slice none 0 0 none] from rfl] at w2
      generalize h7.wr bg 0 [.slice none 0 0 none] = h8 at w1 w2 w3 w4
      have lg8 := w2.ld1 0
      rw [List.getElem?_cons_zero] at lg8
      simp only [F21, r21_20, SS, Nat.reduceBEq, Nat.reduceEqDiff, Nat.reduceAdd, reduceIte, Nat.reduceMul, ptrTo, sliceTo, mapTo, List.getElem?_cons_zero, List.getElem?_cons_succ, Option.map_some, List.append_nil, List.nil_append, List.all_cons, List.all_nil, List.length_cons, List.length_nil, eq_self, t3, t4, t6, lq, lf, hlt, w1]
      refine hQ _ _ _ _ (.inr rfl) (by simp only [SS, Nat.reduceBEq, Nat.reduceEqDiff, Nat.reduceAdd, reduceIte, Nat.reduceMul, ptrTo, sliceTo, mapTo, List.getElem?_cons_zero, List.getElem?_cons_succ, Option.map_some, List.append_nil, List.nil_append, List.all_cons, List.all_nil, List.length_cons, List.length_nil, eq_self, t29]) (by simp only [SS, Nat.reduceBEq, Nat.reduceEqDiff, Nat.reduceAdd, reduceIte, Nat.reduceMul, ptrTo, sliceTo, mapTo, List.getElem?_cons_zero, List.getElem?_cons_succ, Option.map_some, List.append_nil, List.nil_append, List.all_cons, List.all_nil, List.length_cons, List.length_nil, eq_self, t4, rc_43, lg8]; rfl) ?_
      exact ⟨d, .slice none 0 0 none, false, [], [], rfl, hP, hS, ⟨by have := s7.1; omega, fun c hc _ => by rw [w4 c (by omega), s7.2 c hc (fun h => h)]⟩, SlO.nil, (fun _ h => by cases h), .inr ⟨rfl, rfl, hlt⟩⟩
    · obtain ⟨hone, _⟩ := slo_is1 ow
      obtain ⟨w1, w2, w3, w4⟩ := rg.st1 (o := 0) (v := gv) (by simp) hone
      rw [show ([gv] : List AV).set 0 gv = [gv] from rfl] at w2
      generalize h7.wr bg 0 [gv] = h8 at w1 w2 w3 w4
      have lg8 := w2.ld1 0
      rw [List.getElem?_cons_zero] at lg8
      simp only [F21, r21_20, SS, Nat.reduceBEq, Nat.reduceEqDiff, Nat.reduceAdd, reduceIte, Nat.reduceMul, ptrTo, sliceTo, mapTo, List.getElem?_cons_zero, List.getElem?_cons_succ, Option.map_some, List.append_nil, List.nil_append, List.all_cons, List.all_nil, List.length_cons, List.length_nil, eq_self, t3, t4, t6, lq, lf, lg, hlt, w1]
      refine hQ _ _ _ _ (.inr rfl) (by simp only [SS, Nat.reduceBEq, Nat.reduceEqDiff, Nat.reduceAdd, reduceIte, Nat.reduceMul, ptrTo, sliceTo, mapTo, List.getElem?_cons_zero, List.getElem?_cons_succ, Option.map_some, List.append_nil, List.nil_append, List.all_cons, List.all_nil, List.length_cons, List.length_nil, eq_self, t29]) (by simp only [SS, Nat.reduceBEq, Nat.reduceEqDiff, Nat.reduceAdd, reduceIte, Nat.reduceMul, ptrTo, sliceTo, mapTo, List.getElem?_cons_zero, List.getElem?_cons_succ, Option.map_some, List.append_nil, List.nil_append, List.all_cons, List.all_nil, List.length_cons, List.length_nil, eq_self, t4, rc_43, lg8]; rfl) ?_
      exact ⟨d, gv, true, bs, _, rfl, hP, hS, ⟨by have := s7.1; omega, fun c hc _ => by rw [w4 c (by omega), s7.2 c hc (fun h => h)]⟩, ow.sm (F := (· = bg)) ⟨by omega, fun c _ hc => w4 c hc⟩ (fun b hb => (nb b hb).2.1), hbs, .inl ⟨rfl, rfl, by omega⟩⟩
  -- the loop
  have key : ∀ tm, tm.gt 3 = some (.ptr (some (h.next, 0))) → tm.gt 4 = some (.ptr (some (h1.next, 0))) → tm.gt 6 = some (.ptr (some (h3.next, 0))) → tm.gt 11 = some (.func (Fn.func 83) [] [.ptr (some (h5.next, 0))]) → tm.gt 29 = none → run (Q m) 100000 29 21 none c21_8 [.blk 0, .seq c21_20] tm h6 QQ := by
    intro tm t3 t4 t6 t11 t29
    refine run_rangeF (t := 11) (i := 83) (ps := [12]) (A := c21_8A) (B := c21_8B) t11 ?_
    generalize hlb : LRec.mk .ready none 21 (tm.up none 29) [12] c21_8A c21_8B = lr
    have b3 : lr.tm.gt 3 = some (.ptr (some (h.next, 0))) := by rw [← hlb]; show (tm.up none 29).gt 3 = _; simp only [SS, Nat.reduceBEq, Nat.reduceEqDiff, Nat.reduceAdd, reduceIte, Nat.reduceMul, ptrTo, sliceTo, mapTo, List.getElem?_cons_zero, List.getElem?_cons_succ, Option.map_some, List.append_nil, List.nil_append, List.all_cons, List.all_nil, List.length_cons, List.length_nil, eq_self, t3]
    have b4 : lr.tm.gt 4 = some (.ptr (some (h1.next, 0))) := by rw [← hlb]; show (tm.up none 29).gt 4 = _; simp only [SS, Nat.reduceBEq, Nat.reduceEqDiff, Nat.reduceAdd, reduceIte, Nat.reduceMul, ptrTo, sliceTo, mapTo, List.getElem?_cons_zero, List.getElem?_cons_succ, Option.map_some, List.append_nil, List.nil_append, List.all_cons, List.all_nil, List.length_cons, List.length_nil, eq_self, t4]
    have b6 : lr.tm.gt 6 = some (.ptr (some (h3.next, 0))) := by rw [← hlb]; show (tm.up none 29).gt 6 = _; simp only [SS, Nat.reduceBEq, Nat.reduceEqDiff, Nat.reduceAdd, reduceIte, Nat.reduceMul, ptrTo, sliceTo, mapTo, List.getElem?_cons_zero, List.getElem?_cons_succ, Option.map_some, List.append_nil, List.nil_append, List.all_cons, List.all_nil, List.length_cons, List.length_nil, eq_self, t6]
    have b29 : lr.tm.gt 29 = none := by rw [← hlb]; show (tm.up none 29).gt 29 = _; simp only [SS, Nat.reduceBEq, Nat.reduceEqDiff, Nat.reduceAdd, reduceIte, Nat.reduceMul, ptrTo, sliceTo, mapTo, List.getElem?_cons_zero, List.getElem?_cons_succ, Option.map_some, List.append_nil, List.nil_append, List.all_cons, List.all_nil, List.length_cons, List.length_nil, eq_self]
    obtain ⟨h7, e7⟩ : ∃ h7, h6.new h6.next (.loop lr) = h7 := ⟨_, rfl⟩
    have m7 : h7.bs.gt h6.next = some (.loop lr) := by rw [← e7, new_get' (Nat.le_refl _), if_pos rfl]
    have n7 : h7.next = h6.next + 1 := by rw [← e7, new_next' (Nat.le_refl _)]
    have s7 : Sm NoB h6 h7 := ⟨by omega, fun c hc _ => by rw [← e7, new_get' (Nat.le_refl _), if_neg (by omega)]⟩
    rw [e7]
    have s07 : Sm NoB h h7 := s06.trans s7 (fun _ _ h => h) (fun _ _ h => h)
    have hc7 : CapAt h5.next (.slice a L.length c g) L h7 := ⟨⟨_, _, r6.sm s7 (by omega) (fun h => h)⟩, by omega, hi6.sm s7 (fun _ _ h => h)⟩
    have hR : RecAt h6.next h.next h1.next h3.next .ready none h7 lr := ⟨m7, by rw [← hlb], by rw [← hlb], by rw [← hlb], by rw [← hlb], by rw [← hlb], by rw [← hlb], b3, b4, b6, b29⟩
    have hp7 : PrAt L q (sumTo L L.length) [] h.next h1.next h3.next (.slice none 0 0 none) [] h7 := ⟨⟨_, rq6.sm s7 (by omega) (fun h => h)⟩, ⟨_, rf6.sm s7 (by omega) (fun h => h)⟩, ⟨_, rg6.sm s7 (by omega) (fun h => h)⟩, SlO.nil, ⟨by omega, by omega, by omega⟩, fun _ h => by cases h⟩
    have hag := aged_ok (n := m) (l := h6.next) (bl := h5.next) (by omega) hc7 h40
      (fun d i F h' => ∃ gv bs b, (∀ c, F c ↔ c = h.next ∨ c = h1.next ∨ c = h3.next ∨ c = h6.next ∨ c ∈ bs) ∧ PrAt L q (pr L d q i).1 (pr L d q i).2 h.next h1.next h3.next gv bs h' ∧ RecAt h6.next h.next h1.next h3.next .ready none h' b ∧ h6.next < h'.next ∧ (∀ c, c ∈ bs → h7.next ≤ c) ∧ h7.next ≤ h'.next ∧ Sm NoB h h')
      (fun h' => ∃ d i gv bs b, Perm 0 L.length id d ∧ Sorted (ltI L) 0 L.length d ∧ i ≤ L.length ∧ (pr L d q i).1 ≤ q ∧ PrAt L q (pr L d q i).1 (pr L d q i).2 h.next h1.next h3.next gv bs h' ∧ RecAt h6.next h.next h1.next h3.next .done (some (.exit 0)) h' b ∧ h6.next < h'.next ∧ (∀ c, c ∈ bs → h7.next ≤ c) ∧ Sm NoB h h')
      (fun d _ _ => ⟨fun c => c = h.next ∨ c = h1.next ∨ c = h3.next ∨ c = h6.next ∨ c ∈ ([] : List Nat), (fun b hb => by
          rcases hb with h | h | h | h | h
          · omega
          · omega
          · omega
          · omega
          · cases h), _, [], _, fun c => Iff.rfl, hp7, hR, by omega, (fun _ h => by cases h), Nat.le_refl _, s07⟩)
      (fun d i F h' ⟨gv, bs, b, f1, f2, f3, f4, f5, f6, f7⟩ => ⟨fun hf => by
          rcases (f1 _).1 hf with h | h | h | h | h
          · omega
          · omega
          · omega
          · omega
          · have := f5 _ h; omega, fun x hx hf => by
          have := hi.lt hx
          rcases (f1 _).1 hf with h | h | h | h | h
          · omega
          · omega
          · omega
          · omega
          · have := f5 _ h; omega⟩)
      (fun d i F ha hb G ⟨gv, bs, b, f1, f2, f3, f4, f5, f6, f7⟩ hs hG hG2 => ⟨gv, bs, b, f1, f2.sm hs (hG _ ((f1 _).2 (.inl rfl))) (hG _ ((f1 _).2 (.inr (.inl rfl)))) (hG _ ((f1 _).2 (.inr (.inr (.inl rfl))))) (fun c hc => hG _ ((f1 _).2 (.inr (.inr (.inr (.inr hc)))))),
        ⟨by rw [hs.2 _ f4 (hG _ ((f1 _).2 (.inr (.inr (.inr (.inl rfl))))))]; exact f3.at', f3.st, f3.pd, f3.fn, f3.ps, f3.asg, f3.bo, f3.t3, f3.t4, f3.t6, f3.t29⟩, Nat.lt_of_lt_of_le f4 hs.1, f5, Nat.le_trans f6 hs.1,
        ⟨Nat.le_trans f7.1 hs.1, fun c hc _ => by have := f7.1; rw [hs.2 c (by omega) (fun h => by have := hG2 c h; omega), f7.2 c hc (fun h => h)]⟩⟩)
      (fun d i F h' ⟨gv, bs, b, f1, f2, f3, f4, f5, f6, f7⟩ hm => ⟨gv, bs, b, f1, by rw [pr_no hm]; exact f2, f3, f4, f5, f6, f7⟩)
      (fun d hP hS m' i F h' hm' hi' ⟨gv, bs, b, f1, f2, f3, f4, f5, f6, f7⟩ hmo => by
        have hb1 := pr_le L d q i
        have hb2 := sumTo_le L L.length
        obtain ⟨r, h8, e8, s8, hcase⟩ := round_ok (m := m') (by omega) (k := d i) f2 f3 f4 ⟨by omega, by omega, by omega⟩ (fun c hc => by have := f5 c hc; omega) ⟨by omega, by omega, by omega⟩ ⟨by omega, by omega⟩ (by omega)
        have s08 : Sm NoB h h8 := by
          have := f7.1
          have := s8.1
          refine ⟨by omega, fun c hc _ => ?_⟩
          rw [s8.2 c (by omega) ?_, f7.2 c hc (fun h => h)]
          rintro (h | h | h | h | h)
          · omega
          · omega
          · omega
          · omega
          · have := f5 c h; omega
        have s8' : Sm F h' h8 := s8.mono fun c _ hc => (f1 c).2 hc
        have s8n := s8.1
        rcases hcase with ⟨c1, rfl, p8, b', R8⟩ | ⟨c1, rfl, gv', bs', b', p8, hbs', R8⟩
        · exact ⟨_, h8, e8, F, fun b _ h => h, s8', .inr ⟨rfl, d, i, gv, bs, b', hP, hS, by omega, c1, p8, R8, by omega, f5, s08⟩⟩
        · refine ⟨_, h8, e8, fun c => c = h.next ∨ c = h1.next ∨ c = h3.next ∨ c = h6.next ∨ c ∈ bs', fun c hc hf => ?_, s8', .inl ⟨rfl, gv', bs', b', fun c => Iff.rfl, ?_, R8, by omega, fun c hc => ?_, by omega, s08⟩⟩
          · rcases hf with hf | hf | hf | hf | hf
            · exact (f1 c).2 (.inl hf)
            · exact (f1 c).2 (.inr (.inl hf))
            · exact (f1 c).2 (.inr (.inr (.inl hf)))
            · exact (f1 c).2 (.inr (.inr (.inr (.inl hf))))
            · rcases hbs' c hf with h | h
              · exact (f1 c).2 (.inr (.inr (.inr (.inr h))))
              · omega
          · rw [pr, if_pos ⟨hmo, c1⟩]; exact p8
          · rcases hbs' c hc with h | h
            · exact f5 c h
            · omega)
    obtain ⟨r, h8, e8, hend⟩ := hag
    refine ⟨r, h8, e8, ?_⟩
    rcases hend with ⟨d, F, hP, hS, gv, bs, b, f1, f2, f3, f4, f5, f6, f7⟩ | ⟨d, i, gv, bs, b, hP, hS, f0, f1, f2, f3, f4, f5, f7⟩
    · refine ⟨b, f3.at', by rw [f3.st]; exact (fun h => by cases h), ?_⟩
      rw [f3.pd]
      obtain ⟨h9, e9, m9, n9, s9⟩ := put_sm (h := h8) (b := h6.next) (x := .loop { b with st := .exhausted })
      simp only [SS, Nat.reduceBEq, Nat.reduceEqDiff, Nat.reduceAdd, reduceIte, Nat.reduceMul, ptrTo, sliceTo, mapTo, List.getElem?_cons_zero, List.getElem?_cons_succ, Option.map_some, List.append_nil, List.nil_append, List.all_cons, List.all_nil, List.length_cons, List.length_nil, eq_self, f3.pd] at e9 ⊢
      rw [e9]
      exact fin tm h9 d gv bs _ _ _ t3 t4 t6 t29 hP hS (f2.sm s9 (by omega) (by omega) (by omega) (fun c hc h => by have h : c = h6.next := h; have := f5 c hc; omega)) (by omega) ⟨by have := f7.1; omega, fun c hc _ => by have := f7.1; rw [s9.2 c (by omega) (by omega), f7.2 c hc (fun h => h)]⟩ (fun c hc => by have := f5 c hc; have := s07.1; omega)
    · refine ⟨b, f3.at', by rw [f3.st]; exact (fun h => by cases h), ?_⟩
      rw [f3.pd]
      obtain ⟨h9, e9, m9, n9, s9⟩ := put_sm (h := h8) (b := h6.next) (x := .loop { b with st := .exhausted })
      refine ⟨.exit 0, rfl, ?_⟩
      simp only [SS, Nat.reduceBEq, Nat.reduceEqDiff, Nat.reduceAdd, reduceIte, Nat.reduceMul, ptrTo, sliceTo, mapTo, List.getElem?_cons_zero, List.getElem?_cons_succ, Option.map_some, List.append_nil, List.nil_append, List.all_cons, List.all_nil, List.length_cons, List.length_nil, eq_self, f3.pd] at e9 ⊢
      rw [e9]
      have hst := pr_stop f1 (L.length - i)
      rw [show i + (L.length - i) = L.length by omega] at hst
      rw [← hst] at f2
      exact fin tm h9 d gv bs _ _ _ t3 t4 t6 t29 hP hS (f2.sm s9 (by omega) (by omega) (by omega) (fun c hc h => by have h : c = h6.next := h; have := f5 c hc; omega)) (by omega) ⟨by have := f7.1; omega, fun c hc _ => by have := f7.1; rw [s9.2 c (by omega) (by omega), f7.2 c hc (fun h => h)]⟩ (fun c hc => by have := f5 c hc; have := s07.1; omega)
  simp only [F21, SS, Nat.reduceBEq, Nat.reduceEqDiff, Nat.reduceAdd, reduceIte, Nat.reduceMul, ptrTo, sliceTo, mapTo, List.getElem?_cons_zero, List.getElem?_cons_succ, Option.map_some, List.append_nil, List.nil_append, List.all_cons, List.all_nil, List.length_cons, List.length_nil, eq_self, box_int, e1, x_al_43, e2, x_al_3, e3, e4, y1, e6]
  exact key _ (by simp only [SS, Nat.reduceBEq, Nat.reduceEqDiff, Nat.reduceAdd, reduceIte, Nat.reduceMul, ptrTo, sliceTo, mapTo, List.getElem?_cons_zero, List.getElem?_cons_succ, Option.map_some, List.append_nil, List.nil_append, List.all_cons, List.all_nil, List.length_cons, List.length_nil, eq_self]) (by simp only [SS, Nat.reduceBEq, Nat.reduceEqDiff, Nat.reduceAdd, reduceIte, Nat.reduceMul, ptrTo, sliceTo, mapTo, List.getElem?_cons_zero, List.getElem?_cons_succ, Option.map_some, List.append_nil, List.nil_append, List.all_cons, List.all_nil, List.length_cons, List.length_nil, eq_self]) (by simp only [SS, Nat.reduceBEq, Nat.reduceEqDiff, Nat.reduceAdd, reduceIte, Nat.reduceMul, ptrTo, sliceTo, mapTo, List.getElem?_cons_zero, List.getElem?_cons_succ, Option.map_some, List.append_nil, List.nil_append, List.all_cons, List.all_nil, List.length_cons, List.length_nil, eq_self]) (by simp only [SS, Nat.reduceBEq, Nat.reduceEqDiff, Nat.reduceAdd, reduceIte, Nat.reduceMul, ptrTo, sliceTo, mapTo, List.getElem?_cons_zero, List.getElem?_cons_succ, Option.map_some, List.append_nil, List.nil_append, List.all_cons, List.all_nil, List.length_cons, List.length_nil, eq_self]) (by simp only [SS, Nat.reduceBEq, Nat.reduceEqDiff, Nat.reduceAdd, reduceIte, Nat.reduceMul, ptrTo, sliceTo, mapTo, List.getElem?_cons_zero, List.getElem?_cons_succ, Option.map_some, List.append_nil, List.nil_append, List.all_cons, List.all_nil, List.length_cons, List.length_nil, eq_self])
end Go.Proofs.Ytlfednnfkejcjaa

namespace Go.Proofs.Ytlfednnfkejcjaa
open Go.Am Go.Qs
set_option maxRecDepth 10000
theorem works_q {n : Nat} (hn : 1 ≤ n) (h : Heap) : Q n (.fn 20) [] h = some (.bool true, h) := by
  obtain ⟨m, rfl⟩ : ∃ m, n = m + 1 := ⟨n - 1, by omega⟩
  rfl
theorem rc_53 : resC P 53 = loadN 4 := by kernel_rfl
theorem els_its {h : Heap} {v : AV} {L : List It} (hv : Els h v L.length 4 (cs L)) : Its h v L := by
  obtain ⟨h0, a, c, g, rfl, h1, h2⟩ := hv
  exact ⟨h0, a, c, g, rfl, h1, fun b o e => ⟨(h2 b o e).1, fun _ => (h2 b o e).2⟩⟩
theorem few_ok {n : Nat} (hn : 1 ≤ n) {h : Heap} {v : AV} {L : List It} (hi : Its h v L) : WC (Q n (.fn 19) [v] h) fun r h' => h' = h ∧ ∃ b, r = .bool b ∧ (b = true → L.length ≤ 30) := by
  obtain ⟨a, c, g, rfl⟩ := hi.sl
  obtain ⟨m, rfl⟩ : ∃ m, n = m + 1 := ⟨n - 1, by omega⟩
  refine call_fn _ f19A rfl (by simp [fn19]) fun QQ hQ => ?_
  simp only [fn19] at hQ
  simp only [fn19, fill_cons, fill_nil, Nat.zero_add, Nat.reduceAdd]
  simp only [F19, SS, Nat.reduceBEq, Nat.reduceEqDiff, Nat.reduceAdd, reduceIte, Nat.reduceMul, ptrTo, sliceTo, mapTo, List.getElem?_cons_zero, List.getElem?_cons_succ, Option.map_some, List.append_nil, List.nil_append, List.all_cons, List.all_nil, List.length_cons, List.length_nil, eq_self, x_len_41]
  refine run_loop (c := c19_7) (I := fun m' tm' h' => ∃ i, i ≤ L.length ∧ i ≤ 40 ∧ m' = 40 - i ∧ h' = h ∧ tm'.gt 0 = some (.slice a L.length c g) ∧ tm'.gt 3 = some (I i) ∧ tm'.gt 24 = none) (n := 40)
    ⟨0, by omega, by omega, rfl, rfl, by simp only [SS, Nat.reduceBEq, Nat.reduceEqDiff, Nat.reduceAdd, reduceIte, Nat.reduceMul, ptrTo, sliceTo, mapTo, List.getElem?_cons_zero, List.getElem?_cons_succ, Option.map_some, List.append_nil, List.nil_append, List.all_cons, List.all_nil, List.length_cons, List.length_nil, eq_self], by simp only [SS, Nat.reduceBEq, Nat.reduceEqDiff, Nat.reduceAdd, reduceIte, Nat.reduceMul, ptrTo, sliceTo, mapTo, List.getElem?_cons_zero, List.getElem?_cons_succ, Option.map_some, List.append_nil, List.nil_append, List.all_cons, List.all_nil, List.length_cons, List.length_nil, eq_self]; rfl, by simp only [SS, Nat.reduceBEq, Nat.reduceEqDiff, Nat.reduceAdd, reduceIte, Nat.reduceMul, ptrTo, sliceTo, mapTo, List.getElem?_cons_zero, List.getElem?_cons_succ, Option.map_some, List.append_nil, List.nil_append, List.all_cons, List.all_nil, List.length_cons, List.length_nil, eq_self]⟩ (by omega) ?_
  rintro _ tm h1 ⟨i, hil, hi40, rfl, rfl, t0, t3, t24⟩ Q1 hN1 hE
  have fin : ∀ tm, tm.gt 0 = some (.slice a L.length c g) → tm.gt 24 = none → ret (callN P (keepF P) prQ 100000 m) 100000 24 19 none (.exit 0) [.blk 0, .seq c19_23] tm h1 QQ := by
    intro tm t0 t24
    simp only [F19, SS, Nat.reduceBEq, Nat.reduceEqDiff, Nat.reduceAdd, reduceIte, Nat.reduceMul, ptrTo, sliceTo, mapTo, List.getElem?_cons_zero, List.getElem?_cons_succ, Option.map_some, List.append_nil, List.nil_append, List.all_cons, List.all_nil, List.length_cons, List.length_nil, eq_self, t0, t24, x_len_41]
    exact hQ _ _ _ _ (.inr rfl) (by simp only [SS, Nat.reduceBEq, Nat.reduceEqDiff, Nat.reduceAdd, reduceIte, Nat.reduceMul, ptrTo, sliceTo, mapTo, List.getElem?_cons_zero, List.getElem?_cons_succ, Option.map_some, List.append_nil, List.nil_append, List.all_cons, List.all_nil, List.length_cons, List.length_nil, eq_self, t24]) (by simp only [SS, Nat.reduceBEq, Nat.reduceEqDiff, Nat.reduceAdd, reduceIte, Nat.reduceMul, ptrTo, sliceTo, mapTo, List.getElem?_cons_zero, List.getElem?_cons_succ, Option.map_some, List.append_nil, List.nil_append, List.all_cons, List.all_nil, List.length_cons, List.length_nil, eq_self]; rfl) ⟨rfl, _, rfl, fun h => by have := of_decide_eq_true h; omega⟩
  by_cases hlt : i < L.length
  · by_cases hlt2 : i < 40
    · have c2 : (i : Int) < 40 := by omega
      obtain ⟨b, o, rfl, i1, _⟩ := hi.at hlt
      have x2 := x_ia_41 (k := .i64) (b := b) (o := o) (c := c) (g := g) hlt
      by_cases c3 : (100 : Int) < (L[i].p.length : Int)
      · simp only [F19, SS, Nat.reduceBEq, Nat.reduceEqDiff, Nat.reduceAdd, reduceIte, Nat.reduceMul, ptrTo, sliceTo, mapTo, List.getElem?_cons_zero, List.getElem?_cons_succ, Option.map_some, List.append_nil, List.nil_append, List.all_cons, List.all_nil, List.length_cons, List.length_nil, eq_self, t0, t3, t24, x_len_41, Int.ofNat_lt, hlt, c2, x2, x_fa_53_0, i1, x_len_9, c3]
        refine hE _ _ _ (by simp) ?_
        simp only [SS, Nat.reduceBEq, Nat.reduceEqDiff, Nat.reduceAdd, reduceIte, Nat.reduceMul, ptrTo, sliceTo, mapTo, List.getElem?_cons_zero, List.getElem?_cons_succ, Option.map_some, List.append_nil, List.nil_append, List.all_cons, List.all_nil, List.length_cons, List.length_nil, eq_self]
        exact hQ _ _ _ _ (.inr rfl) (by simp only [SS, Nat.reduceBEq, Nat.reduceEqDiff, Nat.reduceAdd, reduceIte, Nat.reduceMul, ptrTo, sliceTo, mapTo, List.getElem?_cons_zero, List.getElem?_cons_succ, Option.map_some, List.append_nil, List.nil_append, List.all_cons, List.all_nil, List.length_cons, List.length_nil, eq_self, t24]) (by simp only [SS, Nat.reduceBEq, Nat.reduceEqDiff, Nat.reduceAdd, reduceIte, Nat.reduceMul, ptrTo, sliceTo, mapTo, List.getElem?_cons_zero, List.getElem?_cons_succ, Option.map_some, List.append_nil, List.nil_append, List.all_cons, List.all_nil, List.length_cons, List.length_nil, eq_self]; rfl) ⟨rfl, false, rfl, fun h => by cases h⟩
      · simp only [F19, SS, Nat.reduceBEq, Nat.reduceEqDiff, Nat.reduceAdd, reduceIte, Nat.reduceMul, ptrTo, sliceTo, mapTo, List.getElem?_cons_zero, List.getElem?_cons_succ, Option.map_some, List.append_nil, List.nil_append, List.all_cons, List.all_nil, List.length_cons, List.length_nil, eq_self, t0, t3, t24, x_len_41, Int.ofNat_lt, hlt, c2, x2, x_fa_53_0, i1, x_len_9, c3, wAdd1 (show i ≤ 1000000 by omega)]
        exact hN1 _ _ (40 - (i + 1)) (by omega) ⟨i + 1, hlt, hlt2, rfl, rfl, by simp only [SS, Nat.reduceBEq, Nat.reduceEqDiff, Nat.reduceAdd, reduceIte, Nat.reduceMul, ptrTo, sliceTo, mapTo, List.getElem?_cons_zero, List.getElem?_cons_succ, Option.map_some, List.append_nil, List.nil_append, List.all_cons, List.all_nil, List.length_cons, List.length_nil, eq_self, t0], by simp only [SS, Nat.reduceBEq, Nat.reduceEqDiff, Nat.reduceAdd, reduceIte, Nat.reduceMul, ptrTo, sliceTo, mapTo, List.getElem?_cons_zero, List.getElem?_cons_succ, Option.map_some, List.append_nil, List.nil_append, List.all_cons, List.all_nil, List.length_cons, List.length_nil, eq_self], by simp only [SS, Nat.reduceBEq, Nat.reduceEqDiff, Nat.reduceAdd, reduceIte, Nat.reduceMul, ptrTo, sliceTo, mapTo, List.getElem?_cons_zero, List.getElem?_cons_succ, Option.map_some, List.append_nil, List.nil_append, List.all_cons, List.all_nil, List.length_cons, List.length_nil, eq_self, t24]⟩
    · have c2 : ¬ (i : Int) < 40 := by omega
      simp only [F19, SS, Nat.reduceBEq, Nat.reduceEqDiff, Nat.reduceAdd, reduceIte, Nat.reduceMul, ptrTo, sliceTo, mapTo, List.getElem?_cons_zero, List.getElem?_cons_succ, Option.map_some, List.append_nil, List.nil_append, List.all_cons, List.all_nil, List.length_cons, List.length_nil, eq_self, t0, t3, t24, x_len_41, Int.ofNat_lt, hlt, c2]
      refine hE _ _ _ (by simp) (fin _ (by simp only [SS, Nat.reduceBEq, Nat.reduceEqDiff, Nat.reduceAdd, reduceIte, Nat.reduceMul, ptrTo, sliceTo, mapTo, List.getElem?_cons_zero, List.getElem?_cons_succ, Option.map_some, List.append_nil, List.nil_append, List.all_cons, List.all_nil, List.length_cons, List.length_nil, eq_self, t0]) (by simp only [SS, Nat.reduceBEq, Nat.reduceEqDiff, Nat.reduceAdd, reduceIte, Nat.reduceMul, ptrTo, sliceTo, mapTo, List.getElem?_cons_zero, List.getElem?_cons_succ, Option.map_some, List.append_nil, List.nil_append, List.all_cons, List.all_nil, List.length_cons, List.length_nil, eq_self, t24]))
  · simp only [F19, SS, Nat.reduceBEq, Nat.reduceEqDiff, Nat.reduceAdd, reduceIte, Nat.reduceMul, ptrTo, sliceTo, mapTo, List.getElem?_cons_zero, List.getElem?_cons_succ, Option.map_some, List.append_nil, List.nil_append, List.all_cons, List.all_nil, List.length_cons, List.length_nil, eq_self, t0, t3, t24, x_len_41, Int.ofNat_lt, hlt]
    refine hE _ _ _ (by simp) (fin _ (by simp only [SS, Nat.reduceBEq, Nat.reduceEqDiff, Nat.reduceAdd, reduceIte, Nat.reduceMul, ptrTo, sliceTo, mapTo, List.getElem?_cons_zero, List.getElem?_cons_succ, Option.map_some, List.append_nil, List.nil_append, List.all_cons, List.all_nil, List.length_cons, List.length_nil, eq_self, t0]) (by simp only [SS, Nat.reduceBEq, Nat.reduceEqDiff, Nat.reduceAdd, reduceIte, Nat.reduceMul, ptrTo, sliceTo, mapTo, List.getElem?_cons_zero, List.getElem?_cons_succ, Option.map_some, List.append_nil, List.nil_append, List.all_cons, List.all_nil, List.length_cons, List.length_nil, eq_self, t24]))
abbrev u (n : Int) : AV := .int .u32 n
def Ticks (L : List It) : Prop := ∀ i, i < L.length → 0 ≤ (iti L i).tick
theorem cs_app (A : List It) (x : It) : cs (A ++ [x]) = cs A ++ x.c := by simp [cs]
theorem slo_its {h : Heap} {v : AV} {L : List It} {bs : List Nat} (ho : SlO 53 4 h v L.length (cs L) bs) : Its h v L := els_its ho.els
theorem els_sm {F : Nat → Prop} {h h' : Heap} {v : AV} {n s : Nat} {cs : List AV} (hi : Els h v n s cs) (hs : Sm F h h') (hF : ∀ b, blkOf v b → ¬ F b) : Els h' v n s cs := by
  obtain ⟨h0, a, c, g, rfl, h1, h2⟩ := hi
  refine ⟨h0, a, c, g, rfl, h1, fun b o e => ?_⟩
  subst e
  obtain ⟨g1, g2⟩ := h2 b o rfl
  refine ⟨Nat.lt_of_lt_of_le g1 hs.1, ?_⟩
  rw [← g2]
  unfold Heap.ld Heap.cells
  rw [hs.2 b g1 (hF b rfl)]
theorem els_lt {h : Heap} {v : AV} {n s : Nat} {cs : List AV} (hi : Els h v n s cs) {b : Nat} (hb : blkOf v b) : b < h.next := by
  obtain ⟨h0, a, c, g, rfl, h1, h2⟩ := hi
  cases a with
  | none => exact hb.elim
  | some p => have : p.1 = b := hb; rw [← this]; exact (h2 p.1 p.2 rfl).1
/-- the sizes of those that are not in S -/
def sumF (L : List It) (S : List Nat) : Nat → Int
  | 0 => 0
  | k + 1 => sumF L S k + if k ∈ S then 0 else sz (iti L k).size
theorem sumF_nil (L : List It) : ∀ n, sumF L [] n = sumTo L n
  | 0 => rfl
  | n + 1 => by unfold sumF sumTo; rw [sumF_nil L n, if_neg (by simp)]
theorem sumF_out {L : List It} {S : List Nat} {i : Nat} : ∀ n, n ≤ i → sumF L (S ++ [i]) n = sumF L S n
  | 0, _ => rfl
  | n + 1, h => by
    unfold sumF
    rw [sumF_out n (by omega)]
    have : n ∈ S ++ [i] ↔ n ∈ S := by
      rw [List.mem_append, List.mem_singleton]
      exact ⟨fun h' => h'.elim (fun h => h) (fun h => by omega), .inl⟩
    by_cases hm : n ∈ S
    · rw [if_pos hm, if_pos (this.2 hm)]
    · rw [if_neg hm, if_neg (fun h => hm (this.1 h))]
theorem sumF_in {L : List It} {S : List Nat} {i : Nat} (hi : ¬ i ∈ S) : ∀ n, i < n → sumF L (S ++ [i]) n = sumF L S n - sz (iti L i).size
  | 0, h => by omega
  | n + 1, h => by
    unfold sumF
    by_cases e : n = i
    · subst e
      rw [sumF_out n (Nat.le_refl _), if_pos (by simp), if_neg hi]; omega
    · rw [sumF_in hi n (by omega)]
      have : n ∈ S ++ [i] ↔ n ∈ S := by
        rw [List.mem_append, List.mem_singleton]
        exact ⟨fun h' => h'.elim (fun h => h) (fun h => absurd h e), .inl⟩
      by_cases hm : n ∈ S
      · rw [if_pos hm, if_pos (this.2 hm)]; omega
      · rw [if_neg hm, if_neg (fun h => hm (this.1 h))]; omega
theorem iti_app {A : List It} {x : It} {k : Nat} (h : k < A.length) : iti (A ++ [x]) k = iti A k := by
  rw [iti_at (by rw [List.length_append]; omega), iti_at h, List.getElem_append_left h]
theorem sumTo_app {A : List It} {x : It} : ∀ k, k ≤ A.length → sumTo (A ++ [x]) k = sumTo A k
  | 0, _ => rfl
  | k + 1, h => by unfold sumTo; rw [sumTo_app k (by omega), iti_app (by omega)]
theorem sumTo_end (A : List It) (x : It) : sumTo (A ++ [x]) (A ++ [x]).length = sumTo A A.length + sz x.size := by
  rw [List.length_append, List.length_singleton]
  show sumTo (A ++ [x]) A.length + sz (iti (A ++ [x]) A.length).size = _
  rw [sumTo_app _ (Nat.le_refl _), iti_at (by rw [List.length_append]; simp)]
  simp
theorem slo_blk {e s : Nat} {h : Heap} {v : AV} {n : Nat} {cs : List AV} {bs : List Nat} (ho : SlO e s h v n cs bs) {b : Nat} (hb : blkOf v b) : b ∈ bs := by
  rcases ho with ⟨rfl, _⟩ | ⟨b', c, _, _, rfl, _, _, _, _, _, rfl, _⟩
  · exact hb.elim
  · have : b' = b := hb; rw [this]; exact List.mem_singleton.2 rfl
theorem u_ids (L : List It) (g : List Nat) : idc L g = (g.map fun k => (iti L k).id).map u := by rw [List.map_map]; rfl
end Go.Proofs.Ytlfednnfkejcjaa

namespace Go.Proofs.Ytlfednnfkejcjaa
open Go.Am Go.Qs
set_option maxRecDepth 10000
theorem rsize_ok {n : Nat} (hn : 1 ≤ n) (x : Int) (h : Heap) : WC (Q n (.fn 62) [.int .i64 x] h) fun r h' => h' = h ∧ r = .int .i64 (sz x) := by
  obtain ⟨m, rfl⟩ : ∃ m, n = m + 1 := ⟨n - 1, by omega⟩
  refine call_fn _ f62A rfl (by simp [fn62]) fun QQ hQ => ?_
  simp only [fn62] at hQ
  simp only [fn62, fill_cons, fill_nil, Nat.zero_add, Nat.reduceAdd]
  by_cases c1 : x < 0
  · simp only [F62, SS, Nat.reduceBEq, Nat.reduceEqDiff, Nat.reduceAdd, reduceIte, Nat.reduceMul, ptrTo, sliceTo, mapTo, List.getElem?_cons_zero, List.getElem?_cons_succ, Option.map_some, List.append_nil, List.nil_append, List.all_cons, List.all_nil, List.length_cons, List.length_nil, eq_self, c1]
    exact hQ _ _ _ _ (.inr rfl) (by simp only [SS, Nat.reduceBEq, Nat.reduceEqDiff, Nat.reduceAdd, reduceIte, Nat.reduceMul, ptrTo, sliceTo, mapTo, List.getElem?_cons_zero, List.getElem?_cons_succ, Option.map_some, List.append_nil, List.nil_append, List.all_cons, List.all_nil, List.length_cons, List.length_nil, eq_self]) (by simp only [SS, Nat.reduceBEq, Nat.reduceEqDiff, Nat.reduceAdd, reduceIte, Nat.reduceMul, ptrTo, sliceTo, mapTo, List.getElem?_cons_zero, List.getElem?_cons_succ, Option.map_some, List.append_nil, List.nil_append, List.all_cons, List.all_nil, List.length_cons, List.length_nil, eq_self]; rfl) ⟨rfl, by unfold sz; rw [show min (max 0 x) 65536 = 0 by omega]; rfl⟩
  · by_cases c2 : 65536 < x
    · simp only [F62, SS, Nat.reduceBEq, Nat.reduceEqDiff, Nat.reduceAdd, reduceIte, Nat.reduceMul, ptrTo, sliceTo, mapTo, List.getElem?_cons_zero, List.getElem?_cons_succ, Option.map_some, List.append_nil, List.nil_append, List.all_cons, List.all_nil, List.length_cons, List.length_nil, eq_self, c1, c2]
      exact hQ _ _ _ _ (.inr rfl) (by simp only [SS, Nat.reduceBEq, Nat.reduceEqDiff, Nat.reduceAdd, reduceIte, Nat.reduceMul, ptrTo, sliceTo, mapTo, List.getElem?_cons_zero, List.getElem?_cons_succ, Option.map_some, List.append_nil, List.nil_append, List.all_cons, List.all_nil, List.length_cons, List.length_nil, eq_self]) (by simp only [SS, Nat.reduceBEq, Nat.reduceEqDiff, Nat.reduceAdd, reduceIte, Nat.reduceMul, ptrTo, sliceTo, mapTo, List.getElem?_cons_zero, List.getElem?_cons_succ, Option.map_some, List.append_nil, List.nil_append, List.all_cons, List.all_nil, List.length_cons, List.length_nil, eq_self]; rfl) ⟨rfl, by unfold sz; rw [show min (max 0 x) 65536 = 65536 by omega]; rfl⟩
    · simp only [F62, SS, Nat.reduceBEq, Nat.reduceEqDiff, Nat.reduceAdd, reduceIte, Nat.reduceMul, ptrTo, sliceTo, mapTo, List.getElem?_cons_zero, List.getElem?_cons_succ, Option.map_some, List.append_nil, List.nil_append, List.all_cons, List.all_nil, List.length_cons, List.length_nil, eq_self, c1, c2]
      exact hQ _ _ _ _ (.inr rfl) (by simp only [SS, Nat.reduceBEq, Nat.reduceEqDiff, Nat.reduceAdd, reduceIte, Nat.reduceMul, ptrTo, sliceTo, mapTo, List.getElem?_cons_zero, List.getElem?_cons_succ, Option.map_some, List.append_nil, List.nil_append, List.all_cons, List.all_nil, List.length_cons, List.length_nil, eq_self]) (by simp only [SS, Nat.reduceBEq, Nat.reduceEqDiff, Nat.reduceAdd, reduceIte, Nat.reduceMul, ptrTo, sliceTo, mapTo, List.getElem?_cons_zero, List.getElem?_cons_succ, Option.map_some, List.append_nil, List.nil_append, List.all_cons, List.all_nil, List.length_cons, List.length_nil, eq_self]; rfl) ⟨rfl, by unfold sz; rw [show min (max 0 x) 65536 = x by omega]; rfl⟩
theorem rsum_ok {n : Nat} (hn : 2 ≤ n) {h : Heap} {v : AV} {L : List It} (hi : Its h v L) (hl : L.length ≤ 1000) : WC (Q n (.fn 26) [v] h) fun r h' => h' = h ∧ r = .int .i64 (sumTo L L.length) := by
  obtain ⟨a, c, g, rfl⟩ := hi.sl
  obtain ⟨m, rfl⟩ : ∃ m, n = m + 1 := ⟨n - 1, by omega⟩
  refine call_fn _ f26A rfl (by simp [fn26]) fun QQ hQ => ?_
  simp only [fn26] at hQ
  simp only [fn26, fill_cons, fill_nil, Nat.zero_add, Nat.reduceAdd]
  simp only [F26, SS, Nat.reduceBEq, Nat.reduceEqDiff, Nat.reduceAdd, reduceIte, Nat.reduceMul, ptrTo, sliceTo, mapTo, List.getElem?_cons_zero, List.getElem?_cons_succ, Option.map_some, List.append_nil, List.nil_append, List.all_cons, List.all_nil, List.length_cons, List.length_nil, eq_self]
  refine run_loop (c := c26_9) (I := fun m' tm' h' => ∃ i, i ≤ L.length ∧ m' = L.length - i ∧ h' = h ∧ tm'.gt 0 = some (.slice a L.length c g) ∧ tm'.gt 3 = some (.int .i64 (sumTo L i)) ∧ tm'.gt 4 = some (I i) ∧ tm'.gt 20 = none) (n := L.length)
    ⟨0, by omega, rfl, rfl, by simp only [SS, Nat.reduceBEq, Nat.reduceEqDiff, Nat.reduceAdd, reduceIte, Nat.reduceMul, ptrTo, sliceTo, mapTo, List.getElem?_cons_zero, List.getElem?_cons_succ, Option.map_some, List.append_nil, List.nil_append, List.all_cons, List.all_nil, List.length_cons, List.length_nil, eq_self], by simp only [SS, Nat.reduceBEq, Nat.reduceEqDiff, Nat.reduceAdd, reduceIte, Nat.reduceMul, ptrTo, sliceTo, mapTo, List.getElem?_cons_zero, List.getElem?_cons_succ, Option.map_some, List.append_nil, List.nil_append, List.all_cons, List.all_nil, List.length_cons, List.length_nil, eq_self]; rfl, by simp only [SS, Nat.reduceBEq, Nat.reduceEqDiff, Nat.reduceAdd, reduceIte, Nat.reduceMul, ptrTo, sliceTo, mapTo, List.getElem?_cons_zero, List.getElem?_cons_succ, Option.map_some, List.append_nil, List.nil_append, List.all_cons, List.all_nil, List.length_cons, List.length_nil, eq_self]; rfl, by simp only [SS, Nat.reduceBEq, Nat.reduceEqDiff, Nat.reduceAdd, reduceIte, Nat.reduceMul, ptrTo, sliceTo, mapTo, List.getElem?_cons_zero, List.getElem?_cons_succ, Option.map_some, List.append_nil, List.nil_append, List.all_cons, List.all_nil, List.length_cons, List.length_nil, eq_self]⟩ (by omega) ?_
  rintro _ tm h1 ⟨i, hil, rfl, rfl, t0, t3, t4, t20⟩ Q1 hN1 hE
  by_cases hlt : i < L.length
  · obtain ⟨b, o, rfl, _, _, _, i3, _⟩ := hi.at hlt
    rw [← iti_at hlt] at i3
    have x2 := x_ia_47 (k := .i64) (b := b) (o := o) (c := c) (g := g) hlt
    obtain ⟨_, _, e4, rfl, rfl⟩ := rsize_ok (n := m) (by omega) (iti L i).size h1
    have b1 := sumTo_le L i
    have b2 := sz_le (iti L i).size
    have e7 : IntKind.i64.wrap (sumTo L i + sz (iti L i).size) = sumTo L (i + 1) := by rw [wrap_i64 (by omega) (by omega)]; rfl
    simp only [F26, SS, Nat.reduceBEq, Nat.reduceEqDiff, Nat.reduceAdd, reduceIte, Nat.reduceMul, ptrTo, sliceTo, mapTo, List.getElem?_cons_zero, List.getElem?_cons_succ, Option.map_some, List.append_nil, List.nil_append, List.all_cons, List.all_nil, List.length_cons, List.length_nil, eq_self, t0, t3, t4, t20, x_len_47, Int.ofNat_lt, hlt, x2, x_fa_101_3, i3, e4, e7, wAdd1 (show i ≤ 1000000 by omega)]
    exact hN1 _ _ (L.length - (i + 1)) (by omega) ⟨i + 1, hlt, rfl, rfl, by simp only [SS, Nat.reduceBEq, Nat.reduceEqDiff, Nat.reduceAdd, reduceIte, Nat.reduceMul, ptrTo, sliceTo, mapTo, List.getElem?_cons_zero, List.getElem?_cons_succ, Option.map_some, List.append_nil, List.nil_append, List.all_cons, List.all_nil, List.length_cons, List.length_nil, eq_self, t0], by simp only [SS, Nat.reduceBEq, Nat.reduceEqDiff, Nat.reduceAdd, reduceIte, Nat.reduceMul, ptrTo, sliceTo, mapTo, List.getElem?_cons_zero, List.getElem?_cons_succ, Option.map_some, List.append_nil, List.nil_append, List.all_cons, List.all_nil, List.length_cons, List.length_nil, eq_self], by simp only [SS, Nat.reduceBEq, Nat.reduceEqDiff, Nat.reduceAdd, reduceIte, Nat.reduceMul, ptrTo, sliceTo, mapTo, List.getElem?_cons_zero, List.getElem?_cons_succ, Option.map_some, List.append_nil, List.nil_append, List.all_cons, List.all_nil, List.length_cons, List.length_nil, eq_self], by simp only [SS, Nat.reduceBEq, Nat.reduceEqDiff, Nat.reduceAdd, reduceIte, Nat.reduceMul, ptrTo, sliceTo, mapTo, List.getElem?_cons_zero, List.getElem?_cons_succ, Option.map_some, List.append_nil, List.nil_append, List.all_cons, List.all_nil, List.length_cons, List.length_nil, eq_self, t20]⟩
  · obtain rfl : i = L.length := by omega
    simp only [F26, SS, Nat.reduceBEq, Nat.reduceEqDiff, Nat.reduceAdd, reduceIte, Nat.reduceMul, ptrTo, sliceTo, mapTo, List.getElem?_cons_zero, List.getElem?_cons_succ, Option.map_some, List.append_nil, List.nil_append, List.all_cons, List.all_nil, List.length_cons, List.length_nil, eq_self, t0, t3, t4, t20, x_len_47, Int.ofNat_lt, hlt]
    refine hE _ _ _ (by simp) ?_
    simp only [F26, SS, Nat.reduceBEq, Nat.reduceEqDiff, Nat.reduceAdd, reduceIte, Nat.reduceMul, ptrTo, sliceTo, mapTo, List.getElem?_cons_zero, List.getElem?_cons_succ, Option.map_some, List.append_nil, List.nil_append, List.all_cons, List.all_nil, List.length_cons, List.length_nil, eq_self, t3, t20]
    exact hQ _ _ _ _ (.inr rfl) (by simp only [SS, Nat.reduceBEq, Nat.reduceEqDiff, Nat.reduceAdd, reduceIte, Nat.reduceMul, ptrTo, sliceTo, mapTo, List.getElem?_cons_zero, List.getElem?_cons_succ, Option.map_some, List.append_nil, List.nil_append, List.all_cons, List.all_nil, List.length_cons, List.length_nil, eq_self, t20]) (by simp only [SS, Nat.reduceBEq, Nat.reduceEqDiff, Nat.reduceAdd, reduceIte, Nat.reduceMul, ptrTo, sliceTo, mapTo, List.getElem?_cons_zero, List.getElem?_cons_succ, Option.map_some, List.append_nil, List.nil_append, List.all_cons, List.all_nil, List.length_cons, List.length_nil, eq_self]; rfl) ⟨rfl, rfl⟩
theorem older_ok {n : Nat} (hn : 1 ≤ n) {h : Heap} {v : AV} {L : List It} (hi : Its h v L) {i k : Nat} (hil : i < L.length) (hkl : k < L.length) :
    WC (Q n (.fn 86) [v, I i, I k] h) fun r h' => ∃ b, r = .bool b ∧ (b = true ↔ R (ltI L) i k) ∧ Sm NoB h h' := by
  obtain ⟨a, c, g, rfl⟩ := hi.sl
  obtain ⟨m, rfl⟩ : ∃ m, n = m + 1 := ⟨n - 1, by omega⟩
  refine call_fn _ f86A rfl (by simp [fn86]) fun QQ hQ => ?_
  simp only [fn86] at hQ
  simp only [fn86, fill_cons, fill_nil, Nat.zero_add, Nat.reduceAdd]
  obtain ⟨h1, e1, s1, _, _⟩ := Sm.bump h 11
  obtain ⟨h2, e2, s2, _, _⟩ := Sm.bump h1 12
  obtain ⟨h3, e3, s3, _, _⟩ := Sm.bump h1 11
  obtain ⟨h4, e4, s4, _, _⟩ := Sm.bump h3 12
  have hi1 := hi.sm s1 (fun _ _ h => h)
  have hi2 := hi1.sm s2 (fun _ _ h => h)
  have hi3 := hi1.sm s3 (fun _ _ h => h)
  have hi4 := hi3.sm s4 (fun _ _ h => h)
  obtain ⟨b, o, rfl, _, p1, p2, _⟩ := hi1.at hil
  obtain ⟨_, _, e', _, q1, q2, _⟩ := hi1.at hkl; cases e'
  obtain ⟨_, _, e', _, p21, p22, _⟩ := hi2.at hil; cases e'
  obtain ⟨_, _, e', _, q21, q22, _⟩ := hi2.at hkl; cases e'
  obtain ⟨_, _, e', _, p31, p32, _⟩ := hi3.at hil; cases e'
  obtain ⟨_, _, e', _, q31, q32, _⟩ := hi3.at hkl; cases e'
  obtain ⟨_, _, e', _, p41, p42, _⟩ := hi4.at hil; cases e'
  obtain ⟨_, _, e', _, q41, q42, _⟩ := hi4.at hkl; cases e'
  have x1 := x_ia_47 (k := .i64) (b := b) (o := o) (c := c) (g := g) hil
  have x2 := x_ia_47 (k := .i64) (b := b) (o := o) (c := c) (g := g) hkl
  have hR : R (ltI L) i k ↔ (L[i].tick < L[k].tick ∨ (L[i].tick = L[k].tick ∧ L[i].id < L[k].id)) ∨ (¬ (L[k].tick < L[i].tick ∨ (L[k].tick = L[i].tick ∧ L[k].id < L[i].id)) ∧ i < k) := by
    unfold R ltI old; rw [iti_at hil, iti_at hkl]
  have tr := fun {a b c : Heap} (x : Sm NoB a b) (y : Sm NoB b c) => x.trans y (fun _ _ h => h) (fun _ _ h => h) (H := NoB)
  by_cases c1 : L[i].tick = L[k].tick
  · by_cases c2 : L[i].id = L[k].id
    · simp only [F86, SS, Nat.reduceBEq, Nat.reduceEqDiff, Nat.reduceAdd, reduceIte, Nat.reduceMul, ptrTo, sliceTo, mapTo, List.getElem?_cons_zero, List.getElem?_cons_succ, Option.map_some, List.append_nil, List.nil_append, List.all_cons, List.all_nil, List.length_cons, List.length_nil, eq_self, e1, x1, x2, x_fa_101_2, p2, q2, c1, e3, x_fa_101_1, p31, q31, c2]
      refine hQ _ _ _ _ (.inr rfl) (by simp only [SS, Nat.reduceBEq, Nat.reduceEqDiff, Nat.reduceAdd, reduceIte, Nat.reduceMul, ptrTo, sliceTo, mapTo, List.getElem?_cons_zero, List.getElem?_cons_succ, Option.map_some, List.append_nil, List.nil_append, List.all_cons, List.all_nil, List.length_cons, List.length_nil, eq_self]) (by simp only [SS, Nat.reduceBEq, Nat.reduceEqDiff, Nat.reduceAdd, reduceIte, Nat.reduceMul, ptrTo, sliceTo, mapTo, List.getElem?_cons_zero, List.getElem?_cons_succ, Option.map_some, List.append_nil, List.nil_append, List.all_cons, List.all_nil, List.length_cons, List.length_nil, eq_self]; rfl) ⟨_, rfl, ?_, tr s1 s3⟩
      rw [hR, decide_eq_true_eq]; omega
    · simp only [F86, SS, Nat.reduceBEq, Nat.reduceEqDiff, Nat.reduceAdd, reduceIte, Nat.reduceMul, ptrTo, sliceTo, mapTo, List.getElem?_cons_zero, List.getElem?_cons_succ, Option.map_some, List.append_nil, List.nil_append, List.all_cons, List.all_nil, List.length_cons, List.length_nil, eq_self, e1, x1, x2, x_fa_101_2, p2, q2, c1, e3, x_fa_101_1, p31, q31, c2, e4, p41, q41]
      refine hQ _ _ _ _ (.inr rfl) (by simp only [SS, Nat.reduceBEq, Nat.reduceEqDiff, Nat.reduceAdd, reduceIte, Nat.reduceMul, ptrTo, sliceTo, mapTo, List.getElem?_cons_zero, List.getElem?_cons_succ, Option.map_some, List.append_nil, List.nil_append, List.all_cons, List.all_nil, List.length_cons, List.length_nil, eq_self]) (by simp only [SS, Nat.reduceBEq, Nat.reduceEqDiff, Nat.reduceAdd, reduceIte, Nat.reduceMul, ptrTo, sliceTo, mapTo, List.getElem?_cons_zero, List.getElem?_cons_succ, Option.map_some, List.append_nil, List.nil_append, List.all_cons, List.all_nil, List.length_cons, List.length_nil, eq_self]; rfl) ⟨_, rfl, ?_, tr (tr s1 s3) s4⟩
      rw [hR, decide_eq_true_eq]; omega
  · simp only [F86, SS, Nat.reduceBEq, Nat.reduceEqDiff, Nat.reduceAdd, reduceIte, Nat.reduceMul, ptrTo, sliceTo, mapTo, List.getElem?_cons_zero, List.getElem?_cons_succ, Option.map_some, List.append_nil, List.nil_append, List.all_cons, List.all_nil, List.length_cons, List.length_nil, eq_self, e1, x1, x2, x_fa_101_2, p2, q2, c1, e2, p22, q22]
    refine hQ _ _ _ _ (.inr rfl) (by simp only [SS, Nat.reduceBEq, Nat.reduceEqDiff, Nat.reduceAdd, reduceIte, Nat.reduceMul, ptrTo, sliceTo, mapTo, List.getElem?_cons_zero, List.getElem?_cons_succ, Option.map_some, List.append_nil, List.nil_append, List.all_cons, List.all_nil, List.length_cons, List.length_nil, eq_self]) (by simp only [SS, Nat.reduceBEq, Nat.reduceEqDiff, Nat.reduceAdd, reduceIte, Nat.reduceMul, ptrTo, sliceTo, mapTo, List.getElem?_cons_zero, List.getElem?_cons_succ, Option.map_some, List.append_nil, List.nil_append, List.all_cons, List.all_nil, List.length_cons, List.length_nil, eq_self]; rfl) ⟨_, rfl, ?_, tr s1 s2⟩
    rw [hR, decide_eq_true_eq]; omega
end Go.Proofs.Ytlfednnfkejcjaa

namespace Go.Proofs.Ytlfednnfkejcjaa
open Go.Am Go.Qs
set_option maxRecDepth 10000
theorem w_undef {b : Bool} : wanted b undefA = false := rfl
/-- is there a later one of its path? -/
def hasN (L : List It) (i : Nat) : Prop := ∃ k, k < L.length ∧ (iti L k).p = (iti L i).p ∧ R (ltI L) i k
theorem rnewest_ok {n : Nat} (hn : 2 ≤ n) {h : Heap} {v : AV} {L : List It} (hi : Its h v L) (hl : L.length ≤ 1000) {i : Nat} (hil : i < L.length) :
    WC (Q n (.fn 85) [v, I i] h) fun r h' => ∃ b, r = .bool b ∧ (b = true ↔ ¬ hasN L i) ∧ Sm NoB h h' := by
  obtain ⟨a, c, g, rfl⟩ := hi.sl
  obtain ⟨m, rfl⟩ : ∃ m, n = m + 1 := ⟨n - 1, by omega⟩
  refine call_fn _ f85A rfl (by simp [fn85]) fun QQ hQ => ?_
  simp only [fn85] at hQ
  simp only [fn85, fill_cons, fill_nil, Nat.zero_add, Nat.reduceAdd]
  simp only [F85, SS, Nat.reduceBEq, Nat.reduceEqDiff, Nat.reduceAdd, reduceIte, Nat.reduceMul, ptrTo, sliceTo, mapTo, List.getElem?_cons_zero, List.getElem?_cons_succ, Option.map_some, List.append_nil, List.nil_append, List.all_cons, List.all_nil, List.length_cons, List.length_nil, eq_self]
  refine run_loop (c := c85_7) (I := fun m' tm' h' => ∃ k, k ≤ L.length ∧ m' = L.length - k ∧ Its h' (.slice a L.length c g) L ∧ Sm NoB h h' ∧ (∀ j, j < k → (iti L j).p = (iti L i).p → ¬ R (ltI L) i j) ∧ tm'.gt 0 = some (.slice a L.length c g) ∧ tm'.gt 1 = some (I i) ∧ tm'.gt 5 = some (I k) ∧ tm'.gt 29 = none) (n := L.length)
    ⟨0, by omega, rfl, hi, Sm.refl _ _, (fun j h1 => by omega), by simp only [SS, Nat.reduceBEq, Nat.reduceEqDiff, Nat.reduceAdd, reduceIte, Nat.reduceMul, ptrTo, sliceTo, mapTo, List.getElem?_cons_zero, List.getElem?_cons_succ, Option.map_some, List.append_nil, List.nil_append, List.all_cons, List.all_nil, List.length_cons, List.length_nil, eq_self], by simp only [SS, Nat.reduceBEq, Nat.reduceEqDiff, Nat.reduceAdd, reduceIte, Nat.reduceMul, ptrTo, sliceTo, mapTo, List.getElem?_cons_zero, List.getElem?_cons_succ, Option.map_some, List.append_nil, List.nil_append, List.all_cons, List.all_nil, List.length_cons, List.length_nil, eq_self], by simp only [SS, Nat.reduceBEq, Nat.reduceEqDiff, Nat.reduceAdd, reduceIte, Nat.reduceMul, ptrTo, sliceTo, mapTo, List.getElem?_cons_zero, List.getElem?_cons_succ, Option.map_some, List.append_nil, List.nil_append, List.all_cons, List.all_nil, List.length_cons, List.length_nil, eq_self]; rfl, by simp only [SS, Nat.reduceBEq, Nat.reduceEqDiff, Nat.reduceAdd, reduceIte, Nat.reduceMul, ptrTo, sliceTo, mapTo, List.getElem?_cons_zero, List.getElem?_cons_succ, Option.map_some, List.append_nil, List.nil_append, List.all_cons, List.all_nil, List.length_cons, List.length_nil, eq_self]⟩ (by omega) ?_
  rintro _ tm h1 ⟨k, hkl, rfl, hi1, s1, hno, t0, t1, t5, t29⟩ Q1 hN1 hE
  by_cases hlt : k < L.length
  · obtain ⟨hb, eb, sb, _, _⟩ := Sm.bump h1 17
    have hib := hi1.sm sb (fun _ _ h => h)
    have s1b := s1.trans sb (fun _ _ h => h) (fun _ _ h => h)
    obtain ⟨r2, h2, e2, bb, rfl, hbb, s2⟩ := older_ok (n := m) (by omega) hib hil hlt
    have hi2 := hib.sm s2 (fun _ _ h => h)
    have s12 := s1b.trans s2 (fun _ _ h => h) (fun _ _ h => h)
    obtain ⟨b, o, rfl, i1, _⟩ := hib.at hlt
    obtain ⟨b', o', e', j1, _⟩ := hib.at hil
    cases e'
    obtain ⟨b', o', e', i21, _⟩ := hi2.at hlt
    cases e'
    obtain ⟨b', o', e', j21, _⟩ := hi2.at hil
    cases e'
    rw [← iti_at hlt] at i1 i21
    rw [← iti_at hil] at j1 j21
    have x1 := x_ia_47 (k := .i64) (b := b) (o := o) (c := c) (g := g) hlt
    have x2 := x_ia_47 (k := .i64) (b := b) (o := o) (c := c) (g := g) hil
    by_cases he : (iti L k).p = (iti L i).p
    · cases bb with
      | true =>
        simp only [F85, SS, Nat.reduceBEq, Nat.reduceEqDiff, Nat.reduceAdd, reduceIte, Nat.reduceMul, ptrTo, sliceTo, mapTo, List.getElem?_cons_zero, List.getElem?_cons_succ, Option.map_some, List.append_nil, List.nil_append, List.all_cons, List.all_nil, List.length_cons, List.length_nil, eq_self, t0, t1, t5, t29, x_len_47, Int.ofNat_lt, hlt, eb, x1, x2, x_fa_101_0, i1, j1, i21, j21, he, e2, s_int, s_ptr, s_str, s_slice, and'_eq, iff'_true]
        refine hE _ _ _ (by simp) ?_
        simp only [SS, Nat.reduceBEq, Nat.reduceEqDiff, Nat.reduceAdd, reduceIte, Nat.reduceMul, ptrTo, sliceTo, mapTo, List.getElem?_cons_zero, List.getElem?_cons_succ, Option.map_some, List.append_nil, List.nil_append, List.all_cons, List.all_nil, List.length_cons, List.length_nil, eq_self]
        exact hQ _ _ _ _ (.inr rfl) (by simp only [SS, Nat.reduceBEq, Nat.reduceEqDiff, Nat.reduceAdd, reduceIte, Nat.reduceMul, ptrTo, sliceTo, mapTo, List.getElem?_cons_zero, List.getElem?_cons_succ, Option.map_some, List.append_nil, List.nil_append, List.all_cons, List.all_nil, List.length_cons, List.length_nil, eq_self, t29]) (by simp only [SS, Nat.reduceBEq, Nat.reduceEqDiff, Nat.reduceAdd, reduceIte, Nat.reduceMul, ptrTo, sliceTo, mapTo, List.getElem?_cons_zero, List.getElem?_cons_succ, Option.map_some, List.append_nil, List.nil_append, List.all_cons, List.all_nil, List.length_cons, List.length_nil, eq_self]; rfl) ⟨false, rfl, ⟨(fun h => by cases h), fun h => absurd ⟨k, hlt, he, hbb.1 rfl⟩ h⟩, s12⟩
      | false =>
        simp only [F85, SS, Nat.reduceBEq, Nat.reduceEqDiff, Nat.reduceAdd, reduceIte, Nat.reduceMul, ptrTo, sliceTo, mapTo, List.getElem?_cons_zero, List.getElem?_cons_succ, Option.map_some, List.append_nil, List.nil_append, List.all_cons, List.all_nil, List.length_cons, List.length_nil, eq_self, t0, t1, t5, t29, x_len_47, Int.ofNat_lt, hlt, eb, x1, x2, x_fa_101_0, i1, j1, i21, j21, he, e2, s_int, s_ptr, s_str, s_slice, and'_eq, iff'_true, wAdd1 (show k ≤ 1000000 by omega)]
        refine hN1 _ _ (L.length - (k + 1)) (by omega) ⟨k + 1, hlt, rfl, hi2, s12, fun j j1 j2 hr => ?_, by simp only [SS, Nat.reduceBEq, Nat.reduceEqDiff, Nat.reduceAdd, reduceIte, Nat.reduceMul, ptrTo, sliceTo, mapTo, List.getElem?_cons_zero, List.getElem?_cons_succ, Option.map_some, List.append_nil, List.nil_append, List.all_cons, List.all_nil, List.length_cons, List.length_nil, eq_self, t0], by simp only [SS, Nat.reduceBEq, Nat.reduceEqDiff, Nat.reduceAdd, reduceIte, Nat.reduceMul, ptrTo, sliceTo, mapTo, List.getElem?_cons_zero, List.getElem?_cons_succ, Option.map_some, List.append_nil, List.nil_append, List.all_cons, List.all_nil, List.length_cons, List.length_nil, eq_self, t1], by simp only [SS, Nat.reduceBEq, Nat.reduceEqDiff, Nat.reduceAdd, reduceIte, Nat.reduceMul, ptrTo, sliceTo, mapTo, List.getElem?_cons_zero, List.getElem?_cons_succ, Option.map_some, List.append_nil, List.nil_append, List.all_cons, List.all_nil, List.length_cons, List.length_nil, eq_self], by simp only [SS, Nat.reduceBEq, Nat.reduceEqDiff, Nat.reduceAdd, reduceIte, Nat.reduceMul, ptrTo, sliceTo, mapTo, List.getElem?_cons_zero, List.getElem?_cons_succ, Option.map_some, List.append_nil, List.nil_append, List.all_cons, List.all_nil, List.length_cons, List.length_nil, eq_self, t29]⟩
        by_cases e : j = k
        · rw [e] at hr; cases hbb.2 hr
        · exact hno j (by omega) j2 hr
    · simp only [F85, SS, Nat.reduceBEq, Nat.reduceEqDiff, Nat.reduceAdd, reduceIte, Nat.reduceMul, ptrTo, sliceTo, mapTo, List.getElem?_cons_zero, List.getElem?_cons_succ, Option.map_some, List.append_nil, List.nil_append, List.all_cons, List.all_nil, List.length_cons, List.length_nil, eq_self, t0, t1, t5, t29, x_len_47, Int.ofNat_lt, hlt, eb, x1, x2, x_fa_101_0, i1, j1, he, s_int, s_ptr, s_str, s_slice, and'_eq, iff'_true, wAdd1 (show k ≤ 1000000 by omega)]
      refine hN1 _ _ (L.length - (k + 1)) (by omega) ⟨k + 1, hlt, rfl, hib, s1b, fun j j1 j2 hr => ?_, by simp only [SS, Nat.reduceBEq, Nat.reduceEqDiff, Nat.reduceAdd, reduceIte, Nat.reduceMul, ptrTo, sliceTo, mapTo, List.getElem?_cons_zero, List.getElem?_cons_succ, Option.map_some, List.append_nil, List.nil_append, List.all_cons, List.all_nil, List.length_cons, List.length_nil, eq_self, t0], by simp only [SS, Nat.reduceBEq, Nat.reduceEqDiff, Nat.reduceAdd, reduceIte, Nat.reduceMul, ptrTo, sliceTo, mapTo, List.getElem?_cons_zero, List.getElem?_cons_succ, Option.map_some, List.append_nil, List.nil_append, List.all_cons, List.all_nil, List.length_cons, List.length_nil, eq_self, t1], by simp only [SS, Nat.reduceBEq, Nat.reduceEqDiff, Nat.reduceAdd, reduceIte, Nat.reduceMul, ptrTo, sliceTo, mapTo, List.getElem?_cons_zero, List.getElem?_cons_succ, Option.map_some, List.append_nil, List.nil_append, List.all_cons, List.all_nil, List.length_cons, List.length_nil, eq_self], by simp only [SS, Nat.reduceBEq, Nat.reduceEqDiff, Nat.reduceAdd, reduceIte, Nat.reduceMul, ptrTo, sliceTo, mapTo, List.getElem?_cons_zero, List.getElem?_cons_succ, Option.map_some, List.append_nil, List.nil_append, List.all_cons, List.all_nil, List.length_cons, List.length_nil, eq_self, t29]⟩
      by_cases e : j = k
      · rw [e] at j2; exact he j2
      · exact hno j (by omega) j2 hr
  · obtain rfl : k = L.length := by omega
    simp only [F85, SS, Nat.reduceBEq, Nat.reduceEqDiff, Nat.reduceAdd, reduceIte, Nat.reduceMul, ptrTo, sliceTo, mapTo, List.getElem?_cons_zero, List.getElem?_cons_succ, Option.map_some, List.append_nil, List.nil_append, List.all_cons, List.all_nil, List.length_cons, List.length_nil, eq_self, t0, t1, t5, t29, x_len_47, Int.ofNat_lt, hlt]
    refine hE _ _ _ (by simp) ?_
    simp only [F85, SS, Nat.reduceBEq, Nat.reduceEqDiff, Nat.reduceAdd, reduceIte, Nat.reduceMul, ptrTo, sliceTo, mapTo, List.getElem?_cons_zero, List.getElem?_cons_succ, Option.map_some, List.append_nil, List.nil_append, List.all_cons, List.all_nil, List.length_cons, List.length_nil, eq_self, t29]
    exact hQ _ _ _ _ (.inr rfl) (by simp only [SS, Nat.reduceBEq, Nat.reduceEqDiff, Nat.reduceAdd, reduceIte, Nat.reduceMul, ptrTo, sliceTo, mapTo, List.getElem?_cons_zero, List.getElem?_cons_succ, Option.map_some, List.append_nil, List.nil_append, List.all_cons, List.all_nil, List.length_cons, List.length_nil, eq_self, t29]) (by simp only [SS, Nat.reduceBEq, Nat.reduceEqDiff, Nat.reduceAdd, reduceIte, Nat.reduceMul, ptrTo, sliceTo, mapTo, List.getElem?_cons_zero, List.getElem?_cons_succ, Option.map_some, List.append_nil, List.nil_append, List.all_cons, List.all_nil, List.length_cons, List.length_nil, eq_self]; rfl) ⟨true, rfl, ⟨fun _ ⟨j, h1, h2, h3⟩ => hno j h1 h2 h3, fun _ => rfl⟩, s1⟩
/-- where the oldest one stands that has a later one -/
def Old (L : List It) (r : AV) : Prop := (r = .int .i64 (-1) ∧ ∀ j, j < L.length → ¬ hasN L j) ∨ ∃ j, j < L.length ∧ r = I j ∧ hasN L j ∧ ∀ k, k < L.length → hasN L k → k = j ∨ R (ltI L) j k
theorem oldest_at {n : Nat} (hn : 3 ≤ n) {h : Heap} {v : AV} {L : List It} (hi : Its h v L) (hl : L.length ≤ 1000) :
    WC (Q n (.fn 61) [v] h) fun r h' => Old L r ∧ Sm NoB h h' := by
  obtain ⟨a, c, g, rfl⟩ := hi.sl
  obtain ⟨m, rfl⟩ : ∃ m, n = m + 1 := ⟨n - 1, by omega⟩
  refine call_fn _ f61A rfl (by simp [fn61]) fun QQ hQ => ?_
  simp only [fn61] at hQ
  simp only [fn61, fill_cons, fill_nil, Nat.zero_add, Nat.reduceAdd]
  simp only [F61, SS, Nat.reduceBEq, Nat.reduceEqDiff, Nat.reduceAdd, reduceIte, Nat.reduceMul, ptrTo, sliceTo, mapTo, List.getElem?_cons_zero, List.getElem?_cons_succ, Option.map_some, List.append_nil, List.nil_append, List.all_cons, List.all_nil, List.length_cons, List.length_nil, eq_self]
  refine run_loop (c := c61_9) (I := fun m' tm' h' => ∃ k r, k ≤ L.length ∧ m' = L.length - k ∧ Its h' (.slice a L.length c g) L ∧ Sm NoB h h' ∧ ((r = .int .i64 (-1) ∧ ∀ j, j < k → ¬ hasN L j) ∨ ∃ j, j < k ∧ r = I j ∧ hasN L j ∧ ∀ k', k' < k → hasN L k' → k' = j ∨ R (ltI L) j k') ∧ tm'.gt 0 = some (.slice a L.length c g) ∧ tm'.gt 3 = some r ∧ tm'.gt 4 = some (I k) ∧ tm'.gt 27 = none) (n := L.length)
    ⟨0, _, by omega, rfl, hi, Sm.refl _ _, .inl ⟨rfl, fun j h => by omega⟩, by simp only [SS, Nat.reduceBEq, Nat.reduceEqDiff, Nat.reduceAdd, reduceIte, Nat.reduceMul, ptrTo, sliceTo, mapTo, List.getElem?_cons_zero, List.getElem?_cons_succ, Option.map_some, List.append_nil, List.nil_append, List.all_cons, List.all_nil, List.length_cons, List.length_nil, eq_self], by simp only [SS, Nat.reduceBEq, Nat.reduceEqDiff, Nat.reduceAdd, reduceIte, Nat.reduceMul, ptrTo, sliceTo, mapTo, List.getElem?_cons_zero, List.getElem?_cons_succ, Option.map_some, List.append_nil, List.nil_append, List.all_cons, List.all_nil, List.length_cons, List.length_nil, eq_self], by simp only [SS, Nat.reduceBEq, Nat.reduceEqDiff, Nat.reduceAdd, reduceIte, Nat.reduceMul, ptrTo, sliceTo, mapTo, List.getElem?_cons_zero, List.getElem?_cons_succ, Option.map_some, List.append_nil, List.nil_append, List.all_cons, List.all_nil, List.length_cons, List.length_nil, eq_self]; rfl, by simp only [SS, Nat.reduceBEq, Nat.reduceEqDiff, Nat.reduceAdd, reduceIte, Nat.reduceMul, ptrTo, sliceTo, mapTo, List.getElem?_cons_zero, List.getElem?_cons_succ, Option.map_some, List.append_nil, List.nil_append, List.all_cons, List.all_nil, List.length_cons, List.length_nil, eq_self]⟩ (by omega) ?_
  rintro _ tm h1 ⟨k, r, hkl, rfl, hi1, s1, hb, t0, t3, t4, t27⟩ Q1 hN1 hE
  by_cases hlt : k < L.length
  · obtain ⟨r2, h2, e2, bb, rfl, hbb, s2⟩ := rnewest_ok (n := m) (by omega) hi1 hl hlt
    have hi2 := hi1.sm s2 (fun _ _ h => h)
    have s12 := s1.trans s2 (fun _ _ h => h) (fun _ _ h => h)
    cases bb with
    | true =>
      have hnn := hbb.1 rfl
      simp only [F61, SS, Nat.reduceBEq, Nat.reduceEqDiff, Nat.reduceAdd, reduceIte, Nat.reduceMul, ptrTo, sliceTo, mapTo, List.getElem?_cons_zero, List.getElem?_cons_succ, Option.map_some, List.append_nil, List.nil_append, List.all_cons, List.all_nil, List.length_cons, List.length_nil, eq_self, w_undef, t0, t3, t4, t27, x_len_47, Int.ofNat_lt, hlt, e2, wAdd1 (show k ≤ 1000000 by omega)]
      refine hN1 _ _ (L.length - (k + 1)) (by omega) ⟨k + 1, r, hlt, rfl, hi2, s12, ?_, by simp only [SS, Nat.reduceBEq, Nat.reduceEqDiff, Nat.reduceAdd, reduceIte, Nat.reduceMul, ptrTo, sliceTo, mapTo, List.getElem?_cons_zero, List.getElem?_cons_succ, Option.map_some, List.append_nil, List.nil_append, List.all_cons, List.all_nil, List.length_cons, List.length_nil, eq_self, t0], by simp only [SS, Nat.reduceBEq, Nat.reduceEqDiff, Nat.reduceAdd, reduceIte, Nat.reduceMul, ptrTo, sliceTo, mapTo, List.getElem?_cons_zero, List.getElem?_cons_succ, Option.map_some, List.append_nil, List.nil_append, List.all_cons, List.all_nil, List.length_cons, List.length_nil, eq_self, t3], by simp only [SS, Nat.reduceBEq, Nat.reduceEqDiff, Nat.reduceAdd, reduceIte, Nat.reduceMul, ptrTo, sliceTo, mapTo, List.getElem?_cons_zero, List.getElem?_cons_succ, Option.map_some, List.append_nil, List.nil_append, List.all_cons, List.all_nil, List.length_cons, List.length_nil, eq_self], by simp only [SS, Nat.reduceBEq, Nat.reduceEqDiff, Nat.reduceAdd, reduceIte, Nat.reduceMul, ptrTo, sliceTo, mapTo, List.getElem?_cons_zero, List.getElem?_cons_succ, Option.map_some, List.append_nil, List.nil_append, List.all_cons, List.all_nil, List.length_cons, List.length_nil, eq_self, t27]⟩
      rcases hb with ⟨q1, q2⟩ | ⟨j, q0, q1, q2, q3⟩
      · refine .inl ⟨q1, fun j hj => ?_⟩
        by_cases e : j = k
        · rw [e]; exact hnn
        · exact q2 j (by omega)
      · refine .inr ⟨j, by omega, q1, q2, fun k' hk' hh => ?_⟩
        by_cases e : k' = k
        · rw [e] at hh; exact absurd hh hnn
        · exact q3 k' (by omega) hh
    | false =>
      have hnn : hasN L k := Classical.not_not.1 (fun h => by cases hbb.2 h)
      rcases hb with ⟨rfl, q2⟩ | ⟨j, q0, rfl, q2, q3⟩
      · have c0 : (-1 : Int) < 0 := by decide
        simp only [F61, SS, Nat.reduceBEq, Nat.reduceEqDiff, Nat.reduceAdd, reduceIte, Nat.reduceMul, ptrTo, sliceTo, mapTo, List.getElem?_cons_zero, List.getElem?_cons_succ, Option.map_some, List.append_nil, List.nil_append, List.all_cons, List.all_nil, List.length_cons, List.length_nil, eq_self, t0, t3, t4, t27, x_len_47, Int.ofNat_lt, hlt, e2, c0, wAdd1 (show k ≤ 1000000 by omega)]
        refine hN1 _ _ (L.length - (k + 1)) (by omega) ⟨k + 1, I k, hlt, rfl, hi2, s12, .inr ⟨k, by omega, rfl, hnn, fun k' hk' hh => ?_⟩, by simp only [SS, Nat.reduceBEq, Nat.reduceEqDiff, Nat.reduceAdd, reduceIte, Nat.reduceMul, ptrTo, sliceTo, mapTo, List.getElem?_cons_zero, List.getElem?_cons_succ, Option.map_some, List.append_nil, List.nil_append, List.all_cons, List.all_nil, List.length_cons, List.length_nil, eq_self, t0], by simp only [SS, Nat.reduceBEq, Nat.reduceEqDiff, Nat.reduceAdd, reduceIte, Nat.reduceMul, ptrTo, sliceTo, mapTo, List.getElem?_cons_zero, List.getElem?_cons_succ, Option.map_some, List.append_nil, List.nil_append, List.all_cons, List.all_nil, List.length_cons, List.length_nil, eq_self], by simp only [SS, Nat.reduceBEq, Nat.reduceEqDiff, Nat.reduceAdd, reduceIte, Nat.reduceMul, ptrTo, sliceTo, mapTo, List.getElem?_cons_zero, List.getElem?_cons_succ, Option.map_some, List.append_nil, List.nil_append, List.all_cons, List.all_nil, List.length_cons, List.length_nil, eq_self], by simp only [SS, Nat.reduceBEq, Nat.reduceEqDiff, Nat.reduceAdd, reduceIte, Nat.reduceMul, ptrTo, sliceTo, mapTo, List.getElem?_cons_zero, List.getElem?_cons_succ, Option.map_some, List.append_nil, List.nil_append, List.all_cons, List.all_nil, List.length_cons, List.length_nil, eq_self, t27]⟩
        by_cases e : k' = k
        · exact .inl e
        · exact absurd hh (q2 k' (by omega))
      · have c0 : ¬ (j : Int) < 0 := by omega
        obtain ⟨r3, h3, e3, b3, rfl, hb3, s3⟩ := older_ok (n := m) (by omega) hi2 hlt (show j < L.length by omega)
        have hi3 := hi2.sm s3 (fun _ _ h => h)
        have s13 := s12.trans s3 (fun _ _ h => h) (fun _ _ h => h)
        cases b3 with
        | true =>
          have hr := hb3.1 rfl
          simp only [F61, SS, Nat.reduceBEq, Nat.reduceEqDiff, Nat.reduceAdd, reduceIte, Nat.reduceMul, ptrTo, sliceTo, mapTo, List.getElem?_cons_zero, List.getElem?_cons_succ, Option.map_some, List.append_nil, List.nil_append, List.all_cons, List.all_nil, List.length_cons, List.length_nil, eq_self, t0, t3, t4, t27, x_len_47, Int.ofNat_lt, hlt, e2, c0, e3, wAdd1 (show k ≤ 1000000 by omega)]
          refine hN1 _ _ (L.length - (k + 1)) (by omega) ⟨k + 1, I k, hlt, rfl, hi3, s13, .inr ⟨k, by omega, rfl, hnn, fun k' hk' hh => ?_⟩, by simp only [SS, Nat.reduceBEq, Nat.reduceEqDiff, Nat.reduceAdd, reduceIte, Nat.reduceMul, ptrTo, sliceTo, mapTo, List.getElem?_cons_zero, List.getElem?_cons_succ, Option.map_some, List.append_nil, List.nil_append, List.all_cons, List.all_nil, List.length_cons, List.length_nil, eq_self, t0], by simp only [SS, Nat.reduceBEq, Nat.reduceEqDiff, Nat.reduceAdd, reduceIte, Nat.reduceMul, ptrTo, sliceTo, mapTo, List.getElem?_cons_zero, List.getElem?_cons_succ, Option.map_some, List.append_nil, List.nil_append, List.all_cons, List.all_nil, List.length_cons, List.length_nil, eq_self], by simp only [SS, Nat.reduceBEq, Nat.reduceEqDiff, Nat.reduceAdd, reduceIte, Nat.reduceMul, ptrTo, sliceTo, mapTo, List.getElem?_cons_zero, List.getElem?_cons_succ, Option.map_some, List.append_nil, List.nil_append, List.all_cons, List.all_nil, List.length_cons, List.length_nil, eq_self], by simp only [SS, Nat.reduceBEq, Nat.reduceEqDiff, Nat.reduceAdd, reduceIte, Nat.reduceMul, ptrTo, sliceTo, mapTo, List.getElem?_cons_zero, List.getElem?_cons_succ, Option.map_some, List.append_nil, List.nil_append, List.all_cons, List.all_nil, List.length_cons, List.length_nil, eq_self, t27]⟩
          by_cases e : k' = k
          · exact .inl e
          · rcases q3 k' (by omega) hh with rfl | h
            · exact .inr hr
            · exact .inr (hr.trans (ltI_wk L) h)
        | false =>
          have hr : ¬ R (ltI L) k j := fun h => by cases hb3.2 h
          simp only [F61, SS, Nat.reduceBEq, Nat.reduceEqDiff, Nat.reduceAdd, reduceIte, Nat.reduceMul, ptrTo, sliceTo, mapTo, List.getElem?_cons_zero, List.getElem?_cons_succ, Option.map_some, List.append_nil, List.nil_append, List.all_cons, List.all_nil, List.length_cons, List.length_nil, eq_self, t0, t3, t4, t27, x_len_47, Int.ofNat_lt, hlt, e2, c0, e3, wAdd1 (show k ≤ 1000000 by omega)]
          refine hN1 _ _ (L.length - (k + 1)) (by omega) ⟨k + 1, I j, hlt, rfl, hi3, s13, .inr ⟨j, by omega, rfl, q2, fun k' hk' hh => ?_⟩, by simp only [SS, Nat.reduceBEq, Nat.reduceEqDiff, Nat.reduceAdd, reduceIte, Nat.reduceMul, ptrTo, sliceTo, mapTo, List.getElem?_cons_zero, List.getElem?_cons_succ, Option.map_some, List.append_nil, List.nil_append, List.all_cons, List.all_nil, List.length_cons, List.length_nil, eq_self, t0], by simp only [SS, Nat.reduceBEq, Nat.reduceEqDiff, Nat.reduceAdd, reduceIte, Nat.reduceMul, ptrTo, sliceTo, mapTo, List.getElem?_cons_zero, List.getElem?_cons_succ, Option.map_some, List.append_nil, List.nil_append, List.all_cons, List.all_nil, List.length_cons, List.length_nil, eq_self, t3], by simp only [SS, Nat.reduceBEq, Nat.reduceEqDiff, Nat.reduceAdd, reduceIte, Nat.reduceMul, ptrTo, sliceTo, mapTo, List.getElem?_cons_zero, List.getElem?_cons_succ, Option.map_some, List.append_nil, List.nil_append, List.all_cons, List.all_nil, List.length_cons, List.length_nil, eq_self], by simp only [SS, Nat.reduceBEq, Nat.reduceEqDiff, Nat.reduceAdd, reduceIte, Nat.reduceMul, ptrTo, sliceTo, mapTo, List.getElem?_cons_zero, List.getElem?_cons_succ, Option.map_some, List.append_nil, List.nil_append, List.all_cons, List.all_nil, List.length_cons, List.length_nil, eq_self, t27]⟩
          by_cases e : k' = k
          · rw [e]
            rcases R.total (lt := ltI L) (show j ≠ k by omega) with h | h
            · exact .inr h
            · exact absurd h hr
          · exact q3 k' (by omega) hh
  · obtain rfl : k = L.length := by omega
    simp only [F61, SS, Nat.reduceBEq, Nat.reduceEqDiff, Nat.reduceAdd, reduceIte, Nat.reduceMul, ptrTo, sliceTo, mapTo, List.getElem?_cons_zero, List.getElem?_cons_succ, Option.map_some, List.append_nil, List.nil_append, List.all_cons, List.all_nil, List.length_cons, List.length_nil, eq_self, t0, t3, t4, t27, x_len_47, Int.ofNat_lt, hlt]
    refine hE _ _ _ (by simp) ?_
    simp only [F61, SS, Nat.reduceBEq, Nat.reduceEqDiff, Nat.reduceAdd, reduceIte, Nat.reduceMul, ptrTo, sliceTo, mapTo, List.getElem?_cons_zero, List.getElem?_cons_succ, Option.map_some, List.append_nil, List.nil_append, List.all_cons, List.all_nil, List.length_cons, List.length_nil, eq_self, t3, t27]
    refine hQ _ _ _ _ (.inr rfl) (by simp only [SS, Nat.reduceBEq, Nat.reduceEqDiff, Nat.reduceAdd, reduceIte, Nat.reduceMul, ptrTo, sliceTo, mapTo, List.getElem?_cons_zero, List.getElem?_cons_succ, Option.map_some, List.append_nil, List.nil_append, List.all_cons, List.all_nil, List.length_cons, List.length_nil, eq_self, t27]) (by simp only [SS, Nat.reduceBEq, Nat.reduceEqDiff, Nat.reduceAdd, reduceIte, Nat.reduceMul, ptrTo, sliceTo, mapTo, List.getElem?_cons_zero, List.getElem?_cons_succ, Option.map_some, List.append_nil, List.nil_append, List.all_cons, List.all_nil, List.length_cons, List.length_nil, eq_self]; rfl) ?_
    exact ⟨hb, s1⟩
end Go.Proofs.Ytlfednnfkejcjaa

namespace Go.Proofs.Ytlfednnfkejcjaa
open Go.Am Go.Qs
set_option maxRecDepth 10000
/-! The plain law of QuotaPrunes -/
theorem gpr_step {L : List It} {d : Nat → Nat} {q : Int} {i : Nat} (hm : more L d i) (hq : q < (pr L d q i).1) : pr L d q (i + 1) = ((pr L d q i).1 - sz (iti L (d i)).size, (pr L d q i).2 ++ [d i]) := by
  rw [pr, if_pos ⟨hm, hq⟩]
theorem gpr_all {L : List It} {d : Nat → Nat} {q : Int} : ∀ i k, k < i → more L d k → q < (pr L d q k).1 → d k ∈ (pr L d q i).2
  | 0, k, h, _, _ => by omega
  | i + 1, k, h, hm, hq => by
    by_cases e : k = i
    · subst e; rw [gpr_step hm hq]; exact List.mem_append_right _ (List.mem_singleton.2 rfl)
    · have ih := gpr_all i k (by omega) hm hq
      rw [pr]
      split
      · exact List.mem_append_left _ ih
      · exact ih
theorem gpr_at {L : List It} {d : Nat → Nat} {q : Int} : ∀ i (t : Nat) x, (pr L d q i).2[t]? = some x → ∃ k, k < i ∧ x = d k ∧ more L d k ∧ q < (pr L d q k).1 ∧ (pr L d q k).2 = (pr L d q i).2.take t
  | 0, t, x, h => by unfold pr at h; cases h
  | i + 1, t, x, h => by
    by_cases hc : more L d i ∧ q < (pr L d q i).1
    · rw [gpr_step hc.1 hc.2] at h ⊢
      have h : ((pr L d q i).2 ++ [d i])[t]? = some x := h
      show ∃ k, k < i + 1 ∧ x = d k ∧ more L d k ∧ q < (pr L d q k).1 ∧ _ = ((pr L d q i).2 ++ [d i]).take t
      by_cases ht : t < (pr L d q i).2.length
      · rw [List.getElem?_append_left ht] at h
        obtain ⟨k, h1, h2, h3, h4, h5⟩ := gpr_at i t x h
        exact ⟨k, by omega, h2, h3, h4, by rw [List.take_append_of_le_length (by omega)]; exact h5⟩
      · rw [List.getElem?_append_right (by omega)] at h
        have ht0 : t - (pr L d q i).2.length = 0 := by
          by_cases e : t - (pr L d q i).2.length = 0
          · exact e
          · rw [List.getElem?_eq_none (by simp; omega)] at h; cases h
        rw [ht0] at h
        have hk : d i = x := Option.some.inj h
        refine ⟨i, by omega, hk.symm, hc.1, hc.2, ?_⟩
        rw [show t = (pr L d q i).2.length by omega, List.take_left']
        rfl
    · have e : pr L d q (i + 1) = pr L d q i := by rw [pr, if_neg hc]
      rw [e] at h ⊢
      obtain ⟨k, h1, h2⟩ := gpr_at i t x h
      exact ⟨k, by omega, h2⟩
theorem gpr_mem {L : List It} {d : Nat → Nat} {q : Int} {i x : Nat} (h : x ∈ (pr L d q i).2) : ∃ k, k < i ∧ x = d k ∧ more L d k := by
  obtain ⟨t, ht⟩ := List.getElem?_of_mem h
  obtain ⟨k, h1, h2, h3, _⟩ := gpr_at i t x ht
  exact ⟨k, h1, h2, h3⟩
section
variable {L : List It} {d : Nat → Nat} {q : Int} (hd : ∀ k, k < L.length → d k < L.length) (hinj : ∀ i k, d i = d k → i = k)
include hd hinj
theorem gpr_sum : ∀ i, i ≤ L.length → (pr L d q i).1 = sumF L (pr L d q i).2 L.length
  | 0, _ => by unfold pr; rw [sumF_nil]
  | i + 1, h => by
    have ih := gpr_sum i (by omega)
    rw [pr]
    split
    · show _ = sumF L ((pr L d q i).2 ++ [d i]) _
      rw [sumF_in (fun h => by obtain ⟨k, h1, h2, _⟩ := gpr_mem h; have := hinj _ _ h2; omega) _ (hd i (by omega)), ← ih]
    · exact ih
omit hd in
theorem gpr_nodup : ∀ i, (pr L d q i).2.Nodup
  | 0 => by unfold pr; exact List.nodup_nil
  | i + 1 => by
    have ih := gpr_nodup i
    rw [pr]
    split
    · show ((pr L d q i).2 ++ [d i]).Nodup
      rw [List.nodup_append]
      exact ⟨ih, List.nodup_cons.2 ⟨List.not_mem_nil, List.nodup_nil⟩, fun a ha b hb => by rw [List.mem_singleton.1 hb]; intro e; obtain ⟨k, h1, h2, _⟩ := gpr_mem ha; have := hinj _ _ (e.symm.trans h2); omega⟩
    · exact ih
end
/-- which are left -/
def kx (n : Nat) (S : List Nat) : List Nat := (List.range n).filter fun k => decide (¬ k ∈ S)
theorem kx_mem {n : Nat} {S : List Nat} {k : Nat} : k ∈ kx n S ↔ k < n ∧ ¬ k ∈ S := by unfold kx; rw [List.mem_filter, List.mem_range]; simp
theorem kx_nil (n : Nat) : kx n [] = List.range n := by unfold kx; rw [List.filter_eq_self]; intro a _; simp
theorem kx_len (n : Nat) (S : List Nat) : (kx n S).length ≤ n := by
  have := List.length_filter_le (fun k => decide (¬ k ∈ S)) (List.range n)
  rw [List.length_range] at this; exact this
theorem filt_erase : ∀ (l : List Nat) (p x : Nat), l.Nodup → l[p]? = some x → l.filter (fun k => decide (k ≠ x)) = l.take p ++ l.drop (p + 1)
  | [], p, x, _, h => by cases h
  | y :: l, 0, x, hn, h => by
    have hy : y = x := Option.some.inj h
    have hn := List.nodup_cons.1 hn
    rw [List.filter_cons, if_neg (by simp [hy])]
    show l.filter _ = l
    rw [List.filter_eq_self]
    intro a ha
    simp only [decide_eq_true_eq]
    intro e; rw [e, ← hy] at ha; exact hn.1 ha
  | y :: l, p + 1, x, hn, h => by
    have hn := List.nodup_cons.1 hn
    have h : l[p]? = some x := h
    have hy : y ≠ x := fun e => by rw [e] at hn; exact hn.1 (List.mem_of_getElem? h)
    rw [List.filter_cons, if_pos (by simpa using hy), filt_erase l p x hn.2 h]; rfl
theorem kx_erase {n p x : Nat} {S : List Nat} (h : (kx n S)[p]? = some x) : kx n (S ++ [x]) = (kx n S).take p ++ (kx n S).drop (p + 1) := by
  have hn : (kx n S).Nodup := List.Pairwise.filter _ List.nodup_range
  rw [← filt_erase _ p x hn h]
  unfold kx
  rw [List.filter_filter]
  congr 1
  funext k
  by_cases h1 : k ∈ S <;> by_cases h2 : k = x <;> simp [h1, h2]
theorem kx_up {n : Nat} {S : List Nat} : (kx n S).Pairwise (· < ·) := List.Pairwise.filter _ List.pairwise_lt_range
/-- the list that is left -/
def kl (L : List It) (S : List Nat) : List It := (kx L.length S).map (iti L)
theorem kl_len (L : List It) (S : List Nat) : (kl L S).length ≤ L.length := by unfold kl; rw [List.length_map]; exact kx_len _ _
theorem kl_at {L : List It} {S : List Nat} {p : Nat} (h : p < (kl L S).length) : ∃ x, (kx L.length S)[p]? = some x ∧ iti (kl L S) p = iti L x := by
  have h' : p < (kx L.length S).length := by unfold kl at h; rw [List.length_map] at h; exact h
  refine ⟨_, List.getElem?_eq_getElem h', ?_⟩
  rw [iti_at h]; simp [kl]
end Go.Proofs.Ytlfednnfkejcjaa

namespace Go.Proofs.Ytlfednnfkejcjaa
open Go.Am Go.Qs
set_option maxRecDepth 10000
/-! The plain law of QuotaPrunes, 2 -/
theorem gpr_anti {L : List It} {d : Nat → Nat} {q : Int} (i : Nat) : ∀ k, (pr L d q (i + k)).1 ≤ (pr L d q i).1
  | 0 => Int.le_refl _
  | k + 1 => by
    have ih := gpr_anti (L := L) (d := d) (q := q) i k
    show (pr L d q (i + k + 1)).1 ≤ _
    have := sz_le (iti L (d (i + k))).size
    rw [pr]
    split
    · show (pr L d q (i + k)).1 - _ ≤ _; omega
    · exact ih
section
variable {L : List It} {d : Nat → Nat} {q : Int} (hP : Perm 0 L.length id d) (hS : Sorted (ltI L) 0 L.length d)
include hP
theorem gp_inj {i k : Nat} (h : d i = d k) : i = k := by
  obtain ⟨s, t, h1, _, _, h4⟩ := hP
  have := h4 i; have := h4 k
  have e : s i = s k := by have h5 := h4 i; have h6 := h4 k; rw [h, h6] at h5; exact h5.symm
  rw [← h1 i, e, h1]
theorem gp_lt {k : Nat} (h : k < L.length) : d k < L.length := hP.lt (Nat.le_refl _) (fun k hk => hk) k h
theorem gp_sur {x : Nat} (h : x < L.length) : ∃ k, k < L.length ∧ d k = x := by
  obtain ⟨s, t, h1, h2, h3, h4⟩ := hP
  refine ⟨t x, ?_, by rw [h4, h2]; rfl⟩
  by_cases c : t x < L.length
  · exact c
  · have := h3 (t x) (.inr (by omega))
    rw [h2] at this; omega
include hS
omit hP in
theorem gp_R {i k : Nat} (hi : i < L.length) (hk : k < L.length) : R (ltI L) (d i) (d k) ↔ i < k := by
  constructor
  · intro h
    by_cases c : i < k
    · exact c
    · exfalso
      by_cases e : i = k
      · subst e; exact R.asymm (ltI_wk L) h h
      · exact R.asymm (ltI_wk L) h (hS k i (Nat.zero_le _) (by omega) hi)
  · intro h; exact hS i k (Nat.zero_le _) h hk
end
theorem kx_pos {n : Nat} {S : List Nat} {p p' x x' : Nat} (h : (kx n S)[p]? = some x) (h' : (kx n S)[p']? = some x') : p < p' ↔ x < x' := by
  obtain ⟨a1, rfl⟩ := List.getElem?_eq_some_iff.1 h
  obtain ⟨a2, rfl⟩ := List.getElem?_eq_some_iff.1 h'
  have hu := List.pairwise_iff_getElem.1 (kx_up (n := n) (S := S))
  constructor
  · intro c; exact hu p p' a1 a2 c
  · intro c
    by_cases e : p < p'
    · exact e
    · exfalso
      by_cases e' : p = p'
      · subst e'; omega
      · have := hu p' p a2 a1 (by omega); omega
theorem kl_iti {L : List It} {S : List Nat} {p x : Nat} (h : (kx L.length S)[p]? = some x) : p < (kl L S).length ∧ iti (kl L S) p = iti L x := by
  obtain ⟨a1, rfl⟩ := List.getElem?_eq_some_iff.1 h
  have hl : p < (kl L S).length := by unfold kl; rw [List.length_map]; exact a1
  refine ⟨hl, ?_⟩
  rw [iti_at hl]; simp [kl]
theorem kl_R {L : List It} {S : List Nat} {p p' x x' : Nat} (h : (kx L.length S)[p]? = some x) (h' : (kx L.length S)[p']? = some x') : R (ltI (kl L S)) p p' ↔ R (ltI L) x x' := by
  unfold R ltI
  rw [(kl_iti h).2, (kl_iti h').2, kx_pos h h']
theorem kx_at {n : Nat} {S : List Nat} {x : Nat} (h : x < n) (h' : ¬ x ∈ S) : ∃ p : Nat, (kx n S)[p]? = some x := List.getElem?_of_mem (kx_mem.2 ⟨h, h'⟩)
section
variable {L : List It} {d : Nat → Nat} {q : Int} (hP : Perm 0 L.length id d) (hS : Sorted (ltI L) 0 L.length d)
include hP hS
omit hP hS in
theorem last_one {k : Nat} (h : more L d k) : ∃ k', k < k' ∧ k' < L.length ∧ (iti L (d k')).p = (iti L (d k)).p ∧ ¬ more L d k' := by
  have key : ∀ m k, L.length - k ≤ m → more L d k → ∃ k', k < k' ∧ k' < L.length ∧ (iti L (d k')).p = (iti L (d k)).p ∧ ¬ more L d k' := by
    intro m
    induction m with
    | zero => rintro k hk ⟨k', h1, h2, _⟩; omega
    | succ m ih =>
      rintro k hk ⟨k', h1, h2, h3⟩
      by_cases c : more L d k'
      · obtain ⟨k2, g1, g2, g3, g4⟩ := ih k' (by omega) c
        exact ⟨k2, by omega, g2, g3.trans h3, g4⟩
      · exact ⟨k', h1, h2, h3, c⟩
  exact key _ k (Nat.le_refl _) h
theorem kl_has {S : List Nat} (hSm : ∀ x, x ∈ S → ∃ k, x = d k ∧ more L d k) {p k : Nat} (hk : k < L.length) (h : (kx L.length S)[p]? = some (d k)) : hasN (kl L S) p ↔ more L d k := by
  constructor
  · rintro ⟨p', h1, h2, h3⟩
    obtain ⟨x', g1, g2⟩ := kl_at h1
    obtain ⟨k', g3, rfl⟩ := gp_sur hP (kx_mem.1 (List.mem_of_getElem? g1)).1
    rw [kl_R h g1, gp_R hS hk g3] at h3
    rw [g2, (kl_iti h).2] at h2
    exact ⟨k', h3, g3, h2⟩
  · intro hm
    obtain ⟨k', h1, h2, h3, h4⟩ := last_one hm
    have hn : ¬ d k' ∈ S := fun hx => by
      obtain ⟨j, g1, g2⟩ := hSm _ hx
      have := gp_inj hP g1
      subst this
      exact h4 g2
    obtain ⟨p', hp'⟩ := kx_at (gp_lt hP h2) hn
    refine ⟨p', (kl_iti hp').1, ?_, ?_⟩
    · rw [(kl_iti hp').2, (kl_iti h).2]; exact h3
    · rw [kl_R h hp', gp_R hS hk h2]; exact h1
omit hP hS in
theorem next_more (i : Nat) : (∀ k, i ≤ k → k < L.length → ¬ more L d k) ∨ ∃ i', i ≤ i' ∧ i' < L.length ∧ more L d i' ∧ ∀ k, i ≤ k → k < i' → ¬ more L d k := by
  have key : ∀ m i, L.length - i ≤ m → (∀ k, i ≤ k → k < L.length → ¬ more L d k) ∨ ∃ i', i ≤ i' ∧ i' < L.length ∧ more L d i' ∧ ∀ k, i ≤ k → k < i' → ¬ more L d k := by
    intro m
    induction m with
    | zero => intro i hi; exact .inl fun k h1 h2 => by omega
    | succ m ih =>
      intro i hi
      by_cases c : more L d i
      · by_cases h : i < L.length
        · exact .inr ⟨i, Nat.le_refl _, h, c, fun k h1 h2 => by omega⟩
        · exact .inl fun k h1 h2 => by omega
      · rcases ih (i + 1) (by omega) with h | ⟨i', h1, h2, h3, h4⟩
        · refine .inl fun k h1 h2 => ?_
          by_cases e : k = i
          · rw [e]; exact c
          · exact h k (by omega) h2
        · refine .inr ⟨i', by omega, h2, h3, fun k g1 g2 => ?_⟩
          by_cases e : k = i
          · rw [e]; exact c
          · exact h4 k (by omega) g2
  exact key _ i (Nat.le_refl _)
omit hP hS in
theorem pr_skip {i : Nat} : ∀ j, (∀ k, i ≤ k → k < i + j → ¬ more L d k) → pr L d q (i + j) = pr L d q i
  | 0, _ => rfl
  | j + 1, h => by
    have := pr_skip (i := i) j fun k h1 h2 => h k h1 (by omega)
    rw [← this]
    exact pr_no (h (i + j) (by omega) (by omega))
/-- what the reference's next step is -/
theorem old_step {i : Nat} {r : AV} (hi : i ≤ L.length) (hq : q < (pr L d q i).1) (ho : Old (kl L (pr L d q i).2) r) :
    (r = .int .i64 (-1) ∧ pr L d q L.length = pr L d q i) ∨
    ∃ i' p, i ≤ i' ∧ i' < L.length ∧ pr L d q i' = pr L d q i ∧ more L d i' ∧ r = I p ∧ (kx L.length (pr L d q i).2)[p]? = some (d i') := by
  have hSm : ∀ x, x ∈ (pr L d q i).2 → ∃ k, x = d k ∧ more L d k := fun x hx => by
    obtain ⟨k, _, h2, h3⟩ := gpr_mem hx
    exact ⟨k, h2, h3⟩
  have hbelow : ∀ k, more L d k → ¬ d k ∈ (pr L d q i).2 → i ≤ k := fun k h1 h2 => by
    by_cases c : i ≤ k
    · exact c
    · have := gpr_anti (L := L) (d := d) (q := q) k (i - k)
      rw [show k + (i - k) = i by omega] at this
      exact absurd (gpr_all i k (by omega) h1 (by omega)) h2
  rcases next_more (L := L) (d := d) i with hno | ⟨i', h1, h2, h3, h4⟩
  · refine .inl ⟨?_, ?_⟩
    · rcases ho with ⟨h, _⟩ | ⟨p, g1, _, g3, _⟩
      · exact h
      · exfalso
        obtain ⟨x, a1, _⟩ := kl_at g1
        obtain ⟨a2, a3⟩ := kx_mem.1 (List.mem_of_getElem? a1)
        obtain ⟨k, a4, rfl⟩ := gp_sur hP a2
        have hm := (kl_has hP hS hSm a4 a1).1 g3
        exact hno k (hbelow k hm a3) a4 hm
    · have := pr_skip (L := L) (d := d) (q := q) (i := i) (L.length - i) fun k h1 h2 => hno k h1 (by omega)
      rwa [show i + (L.length - i) = L.length by omega] at this
  · have hpr : pr L d q i' = pr L d q i := by
      have := pr_skip (L := L) (d := d) (q := q) (i := i) (i' - i) fun k h1 h2 => h4 k h1 (by omega)
      rwa [show i + (i' - i) = i' by omega] at this
    have hn : ¬ d i' ∈ (pr L d q i).2 := fun hx => by
      obtain ⟨j, g1, g2, _⟩ := gpr_mem hx
      have := gp_inj hP g2
      omega
    obtain ⟨p, hp⟩ := kx_at (gp_lt hP h2) hn
    have hh := (kl_has hP hS hSm h2 hp).2 h3
    refine .inr ⟨i', p, h1, h2, hpr, h3, ?_, hp⟩
    rcases ho with ⟨_, h⟩ | ⟨j, g1, g2, g3, g4⟩
    · exact absurd hh (h p (kl_iti hp).1)
    · rw [g2]
      rcases g4 p (kl_iti hp).1 hh with e | hr
      · rw [e]
      · exfalso
        obtain ⟨x, a1, _⟩ := kl_at g1
        obtain ⟨a2, a3⟩ := kx_mem.1 (List.mem_of_getElem? a1)
        obtain ⟨k, a4, rfl⟩ := gp_sur hP a2
        have hm := (kl_has hP hS hSm a4 a1).1 g3
        have hik := hbelow k hm a3
        rw [kl_R a1 hp, gp_R hS a4 h2] at hr
        exact h4 k hik hr hm
end
theorem kl_sumN {L : List It} {S : List Nat} : ∀ n, n ≤ L.length → sumTo ((kx n S).map (iti L)) ((kx n S).map (iti L)).length = sumF L S n
  | 0, _ => rfl
  | n + 1, h => by
    have ih := kl_sumN (L := L) (S := S) n (by omega)
    have e : kx (n + 1) S = kx n S ++ if n ∈ S then [] else [n] := by
      unfold kx
      rw [List.range_succ, List.filter_append]
      by_cases hm : n ∈ S <;> simp [hm]
    rw [e]
    unfold sumF
    by_cases hm : n ∈ S
    · rw [if_pos hm, if_pos hm, List.append_nil, ih]; omega
    · rw [if_neg hm, if_neg hm, List.map_append]
      show sumTo (_ ++ [iti L n]) (_ ++ [iti L n]).length = _
      rw [sumTo_end, ih]
theorem kl_sum (L : List It) (S : List Nat) : sumTo (kl L S) (kl L S).length = sumF L S L.length := kl_sumN _ (Nat.le_refl _)
theorem kl_nil (L : List It) : kl L [] = L := by
  unfold kl
  rw [kx_nil]
  apply List.ext_getElem?
  intro i
  rw [List.getElem?_map]
  by_cases h : i < L.length
  · rw [List.getElem?_range h, List.getElem?_eq_getElem h, Option.map_some, iti_at h]
  · rw [List.getElem?_eq_none (by simpa using h), List.getElem?_eq_none (by omega)]; rfl
theorem kl_cut {L : List It} {S : List Nat} {p x : Nat} (h : (kx L.length S)[p]? = some x) : kl L (S ++ [x]) = (kl L S).take p ++ (kl L S).drop (p + 1) := by
  unfold kl
  rw [kx_erase h, List.map_append, List.map_take, List.map_drop]
end Go.Proofs.Ytlfednnfkejcjaa

namespace Go.Proofs.Ytlfednnfkejcjaa
open Go.Am Go.Qs
set_option maxRecDepth 10000
/-- append, of any number of elements -/
theorem app_any {P : Program} {t : TypeId} {e k by' m id n : Nat} {h : Heap} {v zv x : AV} {ys cs : List AV} {bs : List Nat} (hu : P.underlying t = some (.slice e)) (hs : tSize P e = some (k + 1)) (hb : tBytes P e = some by') (hz : tZero P e = some zv) (hzl : zv.cells.length = k + 1)
    (ho : SlO e (k + 1) h v n cs bs) (hsrc : srcOf (k + 1) (fun n => n) x h = some (ys, m)) (hyl : ys.length = m * (k + 1)) (hy1 : ys.all AV.one = true) (hr : room by' (n + m) = true) (hid : h.next ≤ id) :
    ∃ v' h' bs', appendS P t v x id h = some (v', h') ∧ SlO e (k + 1) h' v' (n + m) (cs ++ ys) bs' ∧ h.next ≤ h'.next ∧ (∀ c, c ∉ bs → c ≠ id → h'.bs.gt c = h.bs.gt c) ∧ (∀ b, b ∈ bs' → b ∈ bs ∨ b = id) ∧ (h'.next = h.next ∨ h'.next = id + 1) := by
  by_cases hm : 0 < m
  · exact app_own hu hs hb hz hzl ho hsrc hm hyl hy1 hr hid
  · obtain rfl : m = 0 := by omega
    rw [Nat.zero_mul] at hyl
    obtain rfl := List.eq_nil_of_length_eq_zero hyl
    obtain ⟨_, a, c, g, rfl, _⟩ := _root_.id ho.els
    refine ⟨.slice a n c g, h, bs, ?_, ?_, Nat.le_refl _, (fun _ _ _ => rfl), (fun _ hb => .inl hb), .inl rfl⟩
    · rw [appendS_eq hu hs hb hz hzl hsrc (by simp) hr, if_pos rfl]
    · rw [List.append_nil]; exact ho
theorem els_pre {h : Heap} {a : Option (Nat × Nat)} {n c s : Nat} {g : Option Nat} {cs : List AV} (hv : Els h (.slice a n c g) n s cs) {k c' : Nat} {g' : Option Nat} (hk : k ≤ n) :
    srcOf s (fun n => n) (.slice (a.map fun p => (p.1, p.2 + 0 * s)) (k - 0) c' g') h = some (cs.take (k * s), k) := by
  obtain ⟨h0, a', c1, g1, e, h1, h2⟩ := hv
  cases e
  cases a with
  | none =>
    obtain rfl : k = 0 := by have := h1 rfl; omega
    rw [Nat.zero_mul, List.take_zero]; rfl
  | some p =>
    show srcOf s (fun n => n) (.slice (some (p.1, p.2 + 0 * s)) (k - 0) c' g') h = _
    rw [srcOf_at, Nat.sub_zero]
    by_cases h0' : k = 0
    · subst h0'; rw [if_pos rfl, Nat.zero_mul, List.take_zero]
    · have hle := Nat.mul_le_mul_right s hk
      have := ld_part (h2 p.1 p.2 rfl).2 (i := 0) (k := k * s) (by omega)
      rw [if_neg h0']
      show (match h.ld p.1 (p.2 + 0 * s) (k * s) with | none => none | some vs => some (vs, k)) = _
      rw [Nat.zero_mul, this, List.drop_zero]
theorem els_post {h : Heap} {a : Option (Nat × Nat)} {n c s : Nat} {g : Option Nat} {cs : List AV} (hv : Els h (.slice a n c g) n s cs) {k c' : Nat} {g' : Option Nat} (hk : k ≤ n) :
    srcOf s (fun n => n) (.slice (a.map fun p => (p.1, p.2 + k * s)) (n - k) c' g') h = some (cs.drop (k * s), n - k) := by
  obtain ⟨h0, a', c1, g1, e, h1, h2⟩ := hv
  cases e
  have hle := Nat.mul_le_mul_right s hk
  have hsub : (n - k) * s = n * s - k * s := Nat.sub_mul ..
  cases a with
  | none =>
    have := h1 rfl
    obtain rfl : n = 0 := this
    obtain rfl : k = 0 := by omega
    rw [Nat.zero_mul] at h0
    rw [List.eq_nil_of_length_eq_zero h0]; rw [List.drop_nil]; rfl
  | some p =>
    show srcOf s (fun n => n) (.slice (some (p.1, p.2 + k * s)) (n - k) c' g') h = _
    rw [srcOf_at]
    by_cases h0' : n - k = 0
    · rw [if_pos h0', List.drop_of_length_le (by rw [h0]; have : n = k := by omega
                                                 rw [this]; exact Nat.le_refl _), h0']
    · have := ld_part (h2 p.1 p.2 rfl).2 (i := k * s) (k := (n - k) * s) (by omega)
      rw [if_neg h0']
      show (match h.ld p.1 (p.2 + k * s) ((n - k) * s) with | none => none | some vs => some (vs, n - k)) = _
      rw [this, List.take_of_length_le (by simp; omega)]
theorem cs_take (M : List It) (p : Nat) : (cs M).take (p * 4) = cs (M.take p) := by
  have : cs M = cs (M.take p) ++ cs (M.drop p) := by rw [← List.flatMap_append, List.take_append_drop]
  rw [this]
  by_cases h : p ≤ M.length
  · rw [List.take_left' (by rw [cs_len, List.length_take]; congr 1; omega)]
  · rw [List.drop_of_length_le (by omega), List.take_of_length_le (by rw [List.length_append, cs_len, List.length_take]; simp; omega)]
    show _ ++ [] = _
    rw [List.append_nil]
theorem cs_drop (M : List It) (p : Nat) (h : p ≤ M.length) : (cs M).drop (p * 4) = cs (M.drop p) := by
  have : cs M = cs (M.take p) ++ cs (M.drop p) := by rw [← List.flatMap_append, List.take_append_drop]
  rw [this, List.drop_left' (by rw [cs_len, List.length_take]; congr 1; omega)]
theorem slo_itsR {h : Heap} {v : AV} {L : List It} {bs : List Nat} (ho : SlO 101 4 h v L.length (cs L) bs) : Its h v L := els_its ho.els
theorem rprune_ok {n : Nat} (hn : 5 ≤ n) {h : Heap} {lv : AV} {L : List It} {d : Nat → Nat} (q : Int) (hi : Its h lv L) (hl : L.length ≤ 1000) (hP : Perm 0 L.length id d) (hS : Sorted (ltI L) 0 L.length d) :
    WC (Q n (.fn 22) [lv, .int .i64 q] h) fun r h' => ∃ gv ok bs g, r = .tuple [gv, .bool ok] ∧ Sm NoB h h' ∧ SlO 27 1 h' gv g.length (idc L g) bs ∧ (∀ b, b ∈ bs → h.next ≤ b) ∧
      ((ok = true ∧ g = (pr L d q L.length).2 ∧ (pr L d q L.length).1 ≤ q) ∨ (ok = false ∧ g = [] ∧ q < (pr L d q L.length).1)) := by
  obtain ⟨a, c, g, rfl⟩ := hi.sl
  have hsrc : srcOf 4 (fun n => n) (.slice a L.length c g) h = some (cs L, L.length) := hi.src
  obtain ⟨lv1, h1, bs1, e1, o1, n1, g1, b1, _⟩ := app_any (t := 47) u_47 s_101 b_101 z_101 rfl (SlO.nil (h := h)) hsrc (cs_len L) (cs_one L) (room_le (by omega) (by omega)) (Nat.le_refl h.next)
  rw [Nat.zero_add, List.nil_append] at o1
  have s1 : Sm NoB h h1 := ⟨n1, fun c hc _ => g1 c (by simp) (by omega)⟩
  obtain ⟨m, rfl⟩ : ∃ m, n = m + 1 := ⟨n - 1, by omega⟩
  refine call_fn _ f22A rfl (by simp [fn22]) fun QQ hQ => ?_
  simp only [fn22] at hQ
  simp only [fn22, fill_cons, fill_nil, Nat.zero_add, Nat.reduceAdd]
  simp only [F22, SS, Nat.reduceBEq, Nat.reduceEqDiff, Nat.reduceAdd, reduceIte, Nat.reduceMul, ptrTo, sliceTo, mapTo, List.getElem?_cons_zero, List.getElem?_cons_succ, Option.map_some, List.append_nil, List.nil_append, List.all_cons, List.all_nil, List.length_cons, List.length_nil, eq_self, e1]
  refine run_loop (c := c22_11) (I := fun m' tm' h' => ∃ i lv gv bl bg, i ≤ L.length ∧ m' = L.length - i ∧ SlO 101 4 h' lv (kl L (pr L d q i).2).length (cs (kl L (pr L d q i).2)) bl ∧ SlO 27 1 h' gv (pr L d q i).2.length (idc L (pr L d q i).2) bg ∧ (∀ b, b ∈ bl → h.next ≤ b ∧ b ∉ bg) ∧ (∀ b, b ∈ bg → h.next ≤ b) ∧ Sm NoB h h' ∧ tm'.gt 1 = some (.int .i64 q) ∧ tm'.gt 6 = some lv ∧ tm'.gt 7 = some gv ∧ tm'.gt 41 = none) (n := L.length)
    ⟨0, lv1, .slice none 0 0 none, bs1, [], by omega, rfl, ?_, SlO.nil, fun b hb => ⟨?_, by simp⟩, (fun _ h => by cases h), s1, by simp only [SS, Nat.reduceBEq, Nat.reduceEqDiff, Nat.reduceAdd, reduceIte, Nat.reduceMul, ptrTo, sliceTo, mapTo, List.getElem?_cons_zero, List.getElem?_cons_succ, Option.map_some, List.append_nil, List.nil_append, List.all_cons, List.all_nil, List.length_cons, List.length_nil, eq_self], by simp only [SS, Nat.reduceBEq, Nat.reduceEqDiff, Nat.reduceAdd, reduceIte, Nat.reduceMul, ptrTo, sliceTo, mapTo, List.getElem?_cons_zero, List.getElem?_cons_succ, Option.map_some, List.append_nil, List.nil_append, List.all_cons, List.all_nil, List.length_cons, List.length_nil, eq_self], by simp only [SS, Nat.reduceBEq, Nat.reduceEqDiff, Nat.reduceAdd, reduceIte, Nat.reduceMul, ptrTo, sliceTo, mapTo, List.getElem?_cons_zero, List.getElem?_cons_succ, Option.map_some, List.append_nil, List.nil_append, List.all_cons, List.all_nil, List.length_cons, List.length_nil, eq_self], by simp only [SS, Nat.reduceBEq, Nat.reduceEqDiff, Nat.reduceAdd, reduceIte, Nat.reduceMul, ptrTo, sliceTo, mapTo, List.getElem?_cons_zero, List.getElem?_cons_succ, Option.map_some, List.append_nil, List.nil_append, List.all_cons, List.all_nil, List.length_cons, List.length_nil, eq_self]⟩ (by omega) ?_
  · show SlO 101 4 h1 lv1 (kl L []).length (cs (kl L [])) bs1
    rw [kl_nil]; exact o1
  · rcases b1 b hb with h | h
    · cases h
    · omega
  rintro _ tm h2 ⟨i, lv, gv, bl, bg, hil, rfl, ol, og, hbl, hbg, s2, t1, t6, t7, t41⟩ Q1 hN1 hE
  have hkl := kl_len L (pr L d q i).2
  obtain ⟨_, h3, e3, rfl, rfl⟩ := rsum_ok (n := m) (by omega) (slo_itsR ol) (by omega)
  have hsum : sumTo (kl L (pr L d q i).2) (kl L (pr L d q i).2).length = (pr L d q i).1 := by
    rw [kl_sum, gpr_sum (fun k hk => gp_lt hP hk) (fun i k h => gp_inj hP h) i hil]
  rw [hsum] at e3
  by_cases hq : q < (pr L d q i).1
  · obtain ⟨r4, h4, e4, hold, s4⟩ := oldest_at (n := m) (by omega) (slo_itsR ol) (by omega)
    have s24 := s2.trans s4 (fun _ _ h => h) (fun _ _ h => h)
    rcases old_step hP hS hil hq hold with ⟨rfl, hend⟩ | ⟨i', p, hi1, hi2, hpr, hmo, rfl, hkx⟩
    · have c0 : (-1 : Int) < 0 := by decide
      simp only [F22, SS, Nat.reduceBEq, Nat.reduceEqDiff, Nat.reduceAdd, reduceIte, Nat.reduceMul, ptrTo, sliceTo, mapTo, List.getElem?_cons_zero, List.getElem?_cons_succ, Option.map_some, List.append_nil, List.nil_append, List.all_cons, List.all_nil, List.length_cons, List.length_nil, eq_self, t1, t6, t7, t41, e3, hq, e4, c0]
      refine hE _ _ _ (by simp) ?_
      simp only [SS, Nat.reduceBEq, Nat.reduceEqDiff, Nat.reduceAdd, reduceIte, Nat.reduceMul, ptrTo, sliceTo, mapTo, List.getElem?_cons_zero, List.getElem?_cons_succ, Option.map_some, List.append_nil, List.nil_append, List.all_cons, List.all_nil, List.length_cons, List.length_nil, eq_self]
      refine hQ _ _ _ _ (.inr rfl) (by simp only [SS, Nat.reduceBEq, Nat.reduceEqDiff, Nat.reduceAdd, reduceIte, Nat.reduceMul, ptrTo, sliceTo, mapTo, List.getElem?_cons_zero, List.getElem?_cons_succ, Option.map_some, List.append_nil, List.nil_append, List.all_cons, List.all_nil, List.length_cons, List.length_nil, eq_self, t41]) (by simp only [SS, Nat.reduceBEq, Nat.reduceEqDiff, Nat.reduceAdd, reduceIte, Nat.reduceMul, ptrTo, sliceTo, mapTo, List.getElem?_cons_zero, List.getElem?_cons_succ, Option.map_some, List.append_nil, List.nil_append, List.all_cons, List.all_nil, List.length_cons, List.length_nil, eq_self]; rfl) ?_
      exact ⟨.slice none 0 0 none, false, [], [], rfl, s24, SlO.nil, (fun _ h => by cases h), .inr ⟨rfl, rfl, by rw [hend]; exact hq⟩⟩
    · have ol4 := ol.sm s4 (fun _ _ h => h)
      have og4 := og.sm s4 (fun _ _ h => h)
      obtain ⟨hpl, hit⟩ := kl_iti hkx
      have c0 : ¬ (p : Int) < 0 := by omega
      obtain ⟨_, a6, c6, g6, rfl, _⟩ := id ol4.els
      have hg4 : g6 = some 4 ∧ (kl L (pr L d q i).2).length ≤ c6 := by
        rcases ol4 with ⟨e, hl0, _⟩ | ⟨b, c', _, _, e, _, _, hle', _⟩
        · omega
        · cases e; exact ⟨rfl, hle'⟩
      obtain ⟨rfl, hc6⟩ := hg4
      obtain ⟨b, o, rfl, _, i2, _⟩ := (slo_itsR ol4).at hpl
      rw [← iti_at hpl, hit] at i2
      have x2 := x_ia_47 (k := .i64) (b := b) (o := o) (c := c6) (g := some 4) hpl
      -- gone = append(gone, left[i].ID)
      obtain ⟨h5, e5, r5, n5, g5⟩ := Rw.alloc h4 (id := h4.next) (n := 1) (vs := [.int .u32 (iti L (d i')).id]) (z := []) (ro := false) (Nat.le_refl _) rfl
      have s5 : Sm NoB h4 h5 := ⟨by omega, fun c hc _ => g5 c (by omega)⟩
      have hs5 : srcOf 1 (fun n => n) (.slice (some (h4.next, 0)) 1 1 none) h5 = some ([.int .u32 (iti L (d i')).id], 1) := srcOf_row r5 (Nat.le_refl _)
      have hpl2 := (pr_le L d q i).2.2
      obtain ⟨gv', h6, bg', e6, og6, n6, g6, b6, _⟩ := app_any (t := 43) u_43 s_27 b_27 z_27 rfl (og4.sm s5 (fun _ _ h => h)) hs5 rfl rfl (room_le (by omega) (by omega)) (Nat.le_refl h5.next)
      have s6 : Sm (fun q => q ∈ bg) h5 h6 := ⟨n6, fun c hc hb => g6 c hb (by omega)⟩
      have ol6 := (ol4.sm s5 (fun _ _ h => h)).sm s6 (fun b hb => (hbl b hb).2)
      have k24 := s24.1
      -- next = append(next, left[:i]...)
      have xs1 := x_sl_47_010 (a := some (b, o)) (n := (kl L (pr L d q i).2).length) (c := c6) (hi := p) (g := some 4) (k := .i64) rfl (by omega)
      have src1 := els_pre ol6.els (k := p) (c' := c6 - 0) (g' := some 4) (by omega)
      rw [cs_take] at src1
      have ltk : ((kl L (pr L d q i).2).take p).length = p := by rw [List.length_take]; omega
      obtain ⟨nv, h7, bn, e7, on7, n7, g7, b7, _⟩ := app_any (t := 47) u_47 s_101 b_101 z_101 rfl (SlO.nil (h := h6)) src1 (by rw [cs_len, ltk]) (cs_one _) (room_le (by omega) (by omega)) (Nat.le_refl h6.next)
      rw [Nat.zero_add, List.nil_append] at on7
      have s7 : Sm NoB h6 h7 := ⟨n7, fun c hc _ => g7 c (by simp) (by omega)⟩
      have hbn : ∀ b, b ∈ bn → h6.next ≤ b := fun b hb => by
        rcases b7 b hb with h | h
        · cases h
        · omega
      have ol7 := ol6.sm s7 (fun _ _ h => h)
      -- left = append(next, left[i+1:]...)
      have xs2 := x_sl_47_100 (a := some (b, o)) (n := (kl L (pr L d q i).2).length) (c := c6) (lo := p + 1) (g := some 4) (k := .i64) rfl (by omega)
      have src2 := els_post ol7.els (k := p + 1) (c' := c6 - (p + 1)) (g' := some 4) (by omega)
      rw [cs_drop _ _ (by omega)] at src2
      have ldr : ((kl L (pr L d q i).2).drop (p + 1)).length = (kl L (pr L d q i).2).length - (p + 1) := List.length_drop
      obtain ⟨lv', h8, bl', e8, ol8, n8, g8, b8, _⟩ := app_any (t := 47) u_47 s_101 b_101 z_101 rfl on7 src2 (by rw [cs_len, ldr]) (cs_one _) (room_le (by omega) (by omega)) (Nat.le_refl h7.next)
      have s8 : Sm (fun q => q ∈ bn) h7 h8 := ⟨n8, fun c hc hb => g8 c hb (by omega)⟩
      have k46 := s6.1
      have hbg6 : ∀ b, b ∈ bg' → h.next ≤ b ∧ b < h6.next := fun b hb => ⟨by
        rcases b6 b hb with h | h
        · exact hbg b h
        · omega, og6.lt b hb⟩
      have og8 := (og6.sm s7 (fun _ _ h => h)).sm s8 (fun b hb h => by have := hbn b h; have := hbg6 b hb; omega)
      have hS' : pr L d q (i' + 1) = ((pr L d q i).1 - sz (iti L (d i')).size, (pr L d q i).2 ++ [d i']) := by
        rw [gpr_step hmo (by rw [hpr]; exact hq), hpr]
      have hkc : kl L (pr L d q (i' + 1)).2 = (kl L (pr L d q i).2).take p ++ (kl L (pr L d q i).2).drop (p + 1) := by rw [hS']; exact kl_cut hkx
      simp only [Option.map_some, Nat.zero_mul, Nat.add_zero, Nat.sub_zero] at xs1 xs2 e7 e8
      simp only [F22, SS, Nat.reduceBEq, Nat.reduceEqDiff, Nat.reduceAdd, reduceIte, Nat.reduceMul, ptrTo, sliceTo, mapTo, List.getElem?_cons_zero, List.getElem?_cons_succ, Option.map_some, List.append_nil, List.nil_append, List.all_cons, List.all_nil, List.length_cons, List.length_nil, eq_self, t1, t6, t7, t41, e3, hq, e4, c0, x2, x_fa_101_1, i2, x_bs_43_1, e5, e6, xs1, e7, wAdd1 (show p ≤ 1000000 by omega), xs2, e8]
      refine hN1 _ _ (L.length - (i' + 1)) (by omega) ⟨i' + 1, lv', gv', bl', bg', hi2, rfl, ?_, ?_, fun b hb => ?_, fun b hb => (hbg6 b hb).1, ?_, by simp only [SS, Nat.reduceBEq, Nat.reduceEqDiff, Nat.reduceAdd, reduceIte, Nat.reduceMul, ptrTo, sliceTo, mapTo, List.getElem?_cons_zero, List.getElem?_cons_succ, Option.map_some, List.append_nil, List.nil_append, List.all_cons, List.all_nil, List.length_cons, List.length_nil, eq_self, t1], by simp only [SS, Nat.reduceBEq, Nat.reduceEqDiff, Nat.reduceAdd, reduceIte, Nat.reduceMul, ptrTo, sliceTo, mapTo, List.getElem?_cons_zero, List.getElem?_cons_succ, Option.map_some, List.append_nil, List.nil_append, List.all_cons, List.all_nil, List.length_cons, List.length_nil, eq_self], by simp only [SS, Nat.reduceBEq, Nat.reduceEqDiff, Nat.reduceAdd, reduceIte, Nat.reduceMul, ptrTo, sliceTo, mapTo, List.getElem?_cons_zero, List.getElem?_cons_succ, Option.map_some, List.append_nil, List.nil_append, List.all_cons, List.all_nil, List.length_cons, List.length_nil, eq_self], by simp only [SS, Nat.reduceBEq, Nat.reduceEqDiff, Nat.reduceAdd, reduceIte, Nat.reduceMul, ptrTo, sliceTo, mapTo, List.getElem?_cons_zero, List.getElem?_cons_succ, Option.map_some, List.append_nil, List.nil_append, List.all_cons, List.all_nil, List.length_cons, List.length_nil, eq_self, t41]⟩
      · rw [hkc, List.length_append, ltk, ldr]
        show SlO 101 4 h8 lv' _ (List.flatMap It.c (_ ++ _)) bl'
        rw [List.flatMap_append]; exact ol8
      · rw [hS']
        show SlO 27 1 h8 gv' (_ ++ [d i']).length (List.map _ (_ ++ [d i'])) bg'
        rw [List.map_append, List.length_append]; exact og8
      · have hb' : h6.next ≤ b := by
          rcases b8 b hb with h | h
          · exact hbn b h
          · have := s7.1; omega
        exact ⟨by have := s5.1; omega, fun hg => by have := hbg6 b hg; omega⟩
      · refine ⟨by have := s7.1; have := s5.1; omega, fun c hc _ => ?_⟩
        rw [s8.2 c (by have := s7.1; have := s5.1; omega) (fun h => by have := hbn c h; have := s5.1; omega), s7.2 c (by have := s5.1; omega) (fun h => h), s6.2 c (by have := s5.1; omega) (fun h => by have := hbg c h; omega), s5.2 c (by omega) (fun h => h), s24.2 c hc (fun h => h)]
  · simp only [F22, SS, Nat.reduceBEq, Nat.reduceEqDiff, Nat.reduceAdd, reduceIte, Nat.reduceMul, ptrTo, sliceTo, mapTo, List.getElem?_cons_zero, List.getElem?_cons_succ, Option.map_some, List.append_nil, List.nil_append, List.all_cons, List.all_nil, List.length_cons, List.length_nil, eq_self, t1, t6, t7, t41, e3, hq]
    refine hE _ _ _ (by simp) ?_
    simp only [F22, SS, Nat.reduceBEq, Nat.reduceEqDiff, Nat.reduceAdd, reduceIte, Nat.reduceMul, ptrTo, sliceTo, mapTo, List.getElem?_cons_zero, List.getElem?_cons_succ, Option.map_some, List.append_nil, List.nil_append, List.all_cons, List.all_nil, List.length_cons, List.length_nil, eq_self, t7, t41]
    refine hQ _ _ _ _ (.inr rfl) (by simp only [SS, Nat.reduceBEq, Nat.reduceEqDiff, Nat.reduceAdd, reduceIte, Nat.reduceMul, ptrTo, sliceTo, mapTo, List.getElem?_cons_zero, List.getElem?_cons_succ, Option.map_some, List.append_nil, List.nil_append, List.all_cons, List.all_nil, List.length_cons, List.length_nil, eq_self, t41]) (by simp only [SS, Nat.reduceBEq, Nat.reduceEqDiff, Nat.reduceAdd, reduceIte, Nat.reduceMul, ptrTo, sliceTo, mapTo, List.getElem?_cons_zero, List.getElem?_cons_succ, Option.map_some, List.append_nil, List.nil_append, List.all_cons, List.all_nil, List.length_cons, List.length_nil, eq_self]; rfl) ?_
    have hst := pr_stop (L := L) (d := d) (q := q) (i := i) (by omega) (L.length - i)
    rw [show i + (L.length - i) = L.length by omega] at hst
    exact ⟨gv, true, bg, _, rfl, s2, og, hbg, .inl ⟨rfl, by rw [hst], by rw [hst]; omega⟩⟩
end Go.Proofs.Ytlfednnfkejcjaa

namespace Go.Proofs.Ytlfednnfkejcjaa
open Go.Am Go.Qs
set_option maxRecDepth 10000
theorem take_iti {L : List It} {i : Nat} (h : i < L.length) : L.take (i + 1) = L.take i ++ [iti L i] := by
  rw [iti_at h, List.take_add_one, List.getElem?_eq_getElem h]; rfl
theorem their_ok {n : Nat} (hn : 1 ≤ n) {h : Heap} {v : AV} {L : List It} (hi : Its h v L) (hl : L.length ≤ 1000) :
    WC (Q n (.fn 23) [v] h) fun r h' => ∃ bs, SlO 101 4 h' r L.length (cs L) bs ∧ Sm NoB h h' ∧ ∀ b, b ∈ bs → h.next ≤ b := by
  obtain ⟨a, c, g, rfl⟩ := hi.sl
  have hlb : ∀ q, blkOf (.slice a L.length c g) q → q < h.next := fun q hq => hi.lt hq
  obtain ⟨m, rfl⟩ : ∃ m, n = m + 1 := ⟨n - 1, by omega⟩
  refine call_fn _ f23A rfl (by simp [fn23]) fun QQ hQ => ?_
  simp only [fn23] at hQ
  simp only [fn23, fill_cons, fill_nil, Nat.zero_add, Nat.reduceAdd]
  simp only [F23, SS, Nat.reduceBEq, Nat.reduceEqDiff, Nat.reduceAdd, reduceIte, Nat.reduceMul, ptrTo, sliceTo, mapTo, List.getElem?_cons_zero, List.getElem?_cons_succ, Option.map_some, List.append_nil, List.nil_append, List.all_cons, List.all_nil, List.length_cons, List.length_nil, eq_self]
  refine run_loop (c := c23_9) (I := fun m' tm' h' => ∃ i r bs, i ≤ L.length ∧ m' = L.length - i ∧ Its h' (.slice a L.length c g) L ∧ SlO 101 4 h' r i (cs (L.take i)) bs ∧ Sm NoB h h' ∧ (∀ b, b ∈ bs → h.next ≤ b) ∧ tm'.gt 0 = some (.slice a L.length c g) ∧ tm'.gt 3 = some r ∧ tm'.gt 4 = some (I i) ∧ tm'.gt 19 = none) (n := L.length)
    ⟨0, _, [], by omega, rfl, hi, SlO.nil, Sm.refl _ _, (fun _ h => by cases h), by simp only [SS, Nat.reduceBEq, Nat.reduceEqDiff, Nat.reduceAdd, reduceIte, Nat.reduceMul, ptrTo, sliceTo, mapTo, List.getElem?_cons_zero, List.getElem?_cons_succ, Option.map_some, List.append_nil, List.nil_append, List.all_cons, List.all_nil, List.length_cons, List.length_nil, eq_self], by simp only [SS, Nat.reduceBEq, Nat.reduceEqDiff, Nat.reduceAdd, reduceIte, Nat.reduceMul, ptrTo, sliceTo, mapTo, List.getElem?_cons_zero, List.getElem?_cons_succ, Option.map_some, List.append_nil, List.nil_append, List.all_cons, List.all_nil, List.length_cons, List.length_nil, eq_self], by simp only [SS, Nat.reduceBEq, Nat.reduceEqDiff, Nat.reduceAdd, reduceIte, Nat.reduceMul, ptrTo, sliceTo, mapTo, List.getElem?_cons_zero, List.getElem?_cons_succ, Option.map_some, List.append_nil, List.nil_append, List.all_cons, List.all_nil, List.length_cons, List.length_nil, eq_self]; rfl, by simp only [SS, Nat.reduceBEq, Nat.reduceEqDiff, Nat.reduceAdd, reduceIte, Nat.reduceMul, ptrTo, sliceTo, mapTo, List.getElem?_cons_zero, List.getElem?_cons_succ, Option.map_some, List.append_nil, List.nil_append, List.all_cons, List.all_nil, List.length_cons, List.length_nil, eq_self]⟩ (by omega) ?_
  rintro _ tm h2 ⟨i, r, bs, hil, rfl, hi2, ho2, s02, hbs, t0, t3, t4, t19⟩ Q1 hN1 hE
  by_cases hlt : i < L.length
  · obtain ⟨b, o, rfl, _, _, _, _, i4⟩ := hi2.at hlt
    rw [← iti_at hlt] at i4
    have x2 := x_ia_41 (k := .i64) (b := b) (o := o) (c := c) (g := g) hlt
    obtain ⟨h3, e3, r3, n3, g3⟩ := Rw.alloc h2 (id := h2.next) (n := 4) (vs := (iti L i).c) (z := []) (ro := false) (Nat.le_refl _) rfl
    have s3 : Sm NoB h2 h3 := ⟨by omega, fun c hc _ => g3 c (by omega)⟩
    have hs6 : srcOf 4 (fun n => n) (.slice (some (h2.next, 0)) 1 1 none) h3 = some ((iti L i).c, 1) := srcOf_row r3 (Nat.le_refl _)
    obtain ⟨v', h4, bs', e4, o4, n4, g4, b4, _⟩ := app_own (t := 47) u_47 s_101 b_101 z_101 rfl (ho2.sm s3 (fun _ _ h => h)) hs6 (by omega) rfl rfl (room_le (by omega) (by omega)) (Nat.le_refl h3.next)
    have ebs : buildSliceN P 47 1 [0] [.agg (iti L i).c] = some (.cells (fillC (iti L i).c .leaf 0) [] 4 false, sliceTo 1) := x_bs_47_1 _ _ _ _
    have s4 : Sm (fun q => q ∈ bs) h3 h4 := ⟨n4, fun c hc hb => g4 c hb (by omega)⟩
    have k1 := s02.1
    simp only [F23, SS, Nat.reduceBEq, Nat.reduceEqDiff, Nat.reduceAdd, reduceIte, Nat.reduceMul, ptrTo, sliceTo, mapTo, List.getElem?_cons_zero, List.getElem?_cons_succ, Option.map_some, List.append_nil, List.nil_append, List.all_cons, List.all_nil, List.length_cons, List.length_nil, eq_self, t0, t3, t4, t19, x_len_41, Int.ofNat_lt, hlt, x2, i4, ebs, e3, e4, wAdd1 (show i ≤ 1000000 by omega)]
    refine hN1 _ _ (L.length - (i + 1)) (by omega) ⟨i + 1, v', bs', hlt, rfl, (hi2.sm s3 (fun _ _ h => h)).sm s4 (fun q hq hb => by have := hlb q hq; have := hbs q hb; omega), ?_, ?_, fun q hq => ?_, by simp only [SS, Nat.reduceBEq, Nat.reduceEqDiff, Nat.reduceAdd, reduceIte, Nat.reduceMul, ptrTo, sliceTo, mapTo, List.getElem?_cons_zero, List.getElem?_cons_succ, Option.map_some, List.append_nil, List.nil_append, List.all_cons, List.all_nil, List.length_cons, List.length_nil, eq_self, t0], by simp only [SS, Nat.reduceBEq, Nat.reduceEqDiff, Nat.reduceAdd, reduceIte, Nat.reduceMul, ptrTo, sliceTo, mapTo, List.getElem?_cons_zero, List.getElem?_cons_succ, Option.map_some, List.append_nil, List.nil_append, List.all_cons, List.all_nil, List.length_cons, List.length_nil, eq_self], by simp only [SS, Nat.reduceBEq, Nat.reduceEqDiff, Nat.reduceAdd, reduceIte, Nat.reduceMul, ptrTo, sliceTo, mapTo, List.getElem?_cons_zero, List.getElem?_cons_succ, Option.map_some, List.append_nil, List.nil_append, List.all_cons, List.all_nil, List.length_cons, List.length_nil, eq_self], by simp only [SS, Nat.reduceBEq, Nat.reduceEqDiff, Nat.reduceAdd, reduceIte, Nat.reduceMul, ptrTo, sliceTo, mapTo, List.getElem?_cons_zero, List.getElem?_cons_succ, Option.map_some, List.append_nil, List.nil_append, List.all_cons, List.all_nil, List.length_cons, List.length_nil, eq_self, t19]⟩
    · rw [take_iti hlt, cs_app]; exact o4
    · refine ⟨by omega, fun c hc _ => ?_⟩
      rw [g4 c (fun hb => by have := hbs c hb; omega) (by omega), g3 c (by omega), s02.2 c hc (fun h => h)]
    · rcases b4 q hq with h | h
      · exact hbs q h
      · omega
  · obtain rfl : i = L.length := by omega
    simp only [F23, SS, Nat.reduceBEq, Nat.reduceEqDiff, Nat.reduceAdd, reduceIte, Nat.reduceMul, ptrTo, sliceTo, mapTo, List.getElem?_cons_zero, List.getElem?_cons_succ, Option.map_some, List.append_nil, List.nil_append, List.all_cons, List.all_nil, List.length_cons, List.length_nil, eq_self, t0, t3, t4, t19, x_len_41, Int.ofNat_lt, hlt]
    refine hE _ _ _ (by simp) ?_
    simp only [F23, SS, Nat.reduceBEq, Nat.reduceEqDiff, Nat.reduceAdd, reduceIte, Nat.reduceMul, ptrTo, sliceTo, mapTo, List.getElem?_cons_zero, List.getElem?_cons_succ, Option.map_some, List.append_nil, List.nil_append, List.all_cons, List.all_nil, List.length_cons, List.length_nil, eq_self, t3, t19]
    refine hQ _ _ _ _ (.inr rfl) (by simp only [SS, Nat.reduceBEq, Nat.reduceEqDiff, Nat.reduceAdd, reduceIte, Nat.reduceMul, ptrTo, sliceTo, mapTo, List.getElem?_cons_zero, List.getElem?_cons_succ, Option.map_some, List.append_nil, List.nil_append, List.all_cons, List.all_nil, List.length_cons, List.length_nil, eq_self, t19]) (by simp only [SS, Nat.reduceBEq, Nat.reduceEqDiff, Nat.reduceAdd, reduceIte, Nat.reduceMul, ptrTo, sliceTo, mapTo, List.getElem?_cons_zero, List.getElem?_cons_succ, Option.map_some, List.append_nil, List.nil_append, List.all_cons, List.all_nil, List.length_cons, List.length_nil, eq_self]; rfl) ?_
    rw [List.take_length] at ho2
    exact ⟨bs, ho2, s02, hbs⟩
theorem same_ok {n : Nat} (hn : 1 ≤ n) {h : Heap} {v w : AV} {G : List Int} (hv : Els h v G.length 1 (G.map u)) (hw : Els h w G.length 1 (G.map u)) (hl : G.length ≤ 1000) :
    WC (Q n (.fn 24) [v, w] h) fun r h' => r = .bool true ∧ Sm NoB h h' := by
  obtain ⟨_, a, c, g, rfl, _⟩ := id hv
  obtain ⟨_, a2, c2, g2, rfl, _⟩ := id hw
  obtain ⟨m, rfl⟩ : ∃ m, n = m + 1 := ⟨n - 1, by omega⟩
  refine call_fn _ f24A rfl (by simp [fn24]) fun QQ hQ => ?_
  simp only [fn24] at hQ
  simp only [fn24, fill_cons, fill_nil, Nat.zero_add, Nat.reduceAdd]
  have cne : ¬ (G.length : Int) ≠ (G.length : Int) := fun h => h rfl
  simp only [F24, SS, Nat.reduceBEq, Nat.reduceEqDiff, Nat.reduceAdd, reduceIte, Nat.reduceMul, ptrTo, sliceTo, mapTo, List.getElem?_cons_zero, List.getElem?_cons_succ, Option.map_some, List.append_nil, List.nil_append, List.all_cons, List.all_nil, List.length_cons, List.length_nil, eq_self, x_len_43, ne_eq, not_true_eq_false]
  refine run_loop (c := c24_15) (I := fun m' tm' h' => ∃ i, i ≤ G.length ∧ m' = G.length - i ∧ Els h' (.slice a G.length c g) G.length 1 (G.map u) ∧ Els h' (.slice a2 G.length c2 g2) G.length 1 (G.map u) ∧ Sm NoB h h' ∧ tm'.gt 0 = some (.slice a G.length c g) ∧ tm'.gt 1 = some (.slice a2 G.length c2 g2) ∧ tm'.gt 5 = some (I i) ∧ tm'.gt 26 = none) (n := G.length)
    ⟨0, by omega, rfl, hv, hw, Sm.refl _ _, by simp only [SS, Nat.reduceBEq, Nat.reduceEqDiff, Nat.reduceAdd, reduceIte, Nat.reduceMul, ptrTo, sliceTo, mapTo, List.getElem?_cons_zero, List.getElem?_cons_succ, Option.map_some, List.append_nil, List.nil_append, List.all_cons, List.all_nil, List.length_cons, List.length_nil, eq_self], by simp only [SS, Nat.reduceBEq, Nat.reduceEqDiff, Nat.reduceAdd, reduceIte, Nat.reduceMul, ptrTo, sliceTo, mapTo, List.getElem?_cons_zero, List.getElem?_cons_succ, Option.map_some, List.append_nil, List.nil_append, List.all_cons, List.all_nil, List.length_cons, List.length_nil, eq_self], by simp only [SS, Nat.reduceBEq, Nat.reduceEqDiff, Nat.reduceAdd, reduceIte, Nat.reduceMul, ptrTo, sliceTo, mapTo, List.getElem?_cons_zero, List.getElem?_cons_succ, Option.map_some, List.append_nil, List.nil_append, List.all_cons, List.all_nil, List.length_cons, List.length_nil, eq_self]; rfl, by simp only [SS, Nat.reduceBEq, Nat.reduceEqDiff, Nat.reduceAdd, reduceIte, Nat.reduceMul, ptrTo, sliceTo, mapTo, List.getElem?_cons_zero, List.getElem?_cons_succ, Option.map_some, List.append_nil, List.nil_append, List.all_cons, List.all_nil, List.length_cons, List.length_nil, eq_self]⟩ (by omega) ?_
  rintro _ tm h2 ⟨i, hil, rfl, hv, hw, s2, t0, t1, t5, t26⟩ Q1 hN1 hE
  by_cases hlt : i < G.length
  · obtain ⟨hb, eb, sb, _, _⟩ := Sm.bump h2 9
    have hvb := els_sm hv sb (fun _ _ h => h)
    have hwb := els_sm hw sb (fun _ _ h => h)
    obtain ⟨b, o, rfl, cell⟩ := hvb.cell (by omega)
    obtain ⟨b2, o2, rfl, cell2⟩ := hwb.cell (by omega)
    have l1 := cell i (by omega)
    have l2 := cell2 i (by omega)
    rw [List.getElem?_map, List.getElem?_eq_getElem hlt, Option.map_some] at l1 l2
    have x1 := x_ia_43 (k := .i64) (b := b) (o := o) (c := c) (g := g) hlt
    have x2 := x_ia_43 (k := .i64) (b := b2) (o := o2) (c := c2) (g := g2) hlt
    simp only [F24, SS, Nat.reduceBEq, Nat.reduceEqDiff, Nat.reduceAdd, reduceIte, Nat.reduceMul, ptrTo, sliceTo, mapTo, List.getElem?_cons_zero, List.getElem?_cons_succ, Option.map_some, List.append_nil, List.nil_append, List.all_cons, List.all_nil, List.length_cons, List.length_nil, eq_self, t0, t1, t5, t26, x_len_43, Int.ofNat_lt, hlt, eb, x1, x2, l1, l2, ne_eq, not_true_eq_false, wAdd1 (show i ≤ 1000000 by omega)]
    exact hN1 _ _ (G.length - (i + 1)) (by omega) ⟨i + 1, hlt, rfl, hvb, hwb, s2.trans sb (fun _ _ h => h) (fun _ _ h => h), by simp only [SS, Nat.reduceBEq, Nat.reduceEqDiff, Nat.reduceAdd, reduceIte, Nat.reduceMul, ptrTo, sliceTo, mapTo, List.getElem?_cons_zero, List.getElem?_cons_succ, Option.map_some, List.append_nil, List.nil_append, List.all_cons, List.all_nil, List.length_cons, List.length_nil, eq_self, t0], by simp only [SS, Nat.reduceBEq, Nat.reduceEqDiff, Nat.reduceAdd, reduceIte, Nat.reduceMul, ptrTo, sliceTo, mapTo, List.getElem?_cons_zero, List.getElem?_cons_succ, Option.map_some, List.append_nil, List.nil_append, List.all_cons, List.all_nil, List.length_cons, List.length_nil, eq_self, t1], by simp only [SS, Nat.reduceBEq, Nat.reduceEqDiff, Nat.reduceAdd, reduceIte, Nat.reduceMul, ptrTo, sliceTo, mapTo, List.getElem?_cons_zero, List.getElem?_cons_succ, Option.map_some, List.append_nil, List.nil_append, List.all_cons, List.all_nil, List.length_cons, List.length_nil, eq_self], by simp only [SS, Nat.reduceBEq, Nat.reduceEqDiff, Nat.reduceAdd, reduceIte, Nat.reduceMul, ptrTo, sliceTo, mapTo, List.getElem?_cons_zero, List.getElem?_cons_succ, Option.map_some, List.append_nil, List.nil_append, List.all_cons, List.all_nil, List.length_cons, List.length_nil, eq_self, t26]⟩
  · simp only [F24, SS, Nat.reduceBEq, Nat.reduceEqDiff, Nat.reduceAdd, reduceIte, Nat.reduceMul, ptrTo, sliceTo, mapTo, List.getElem?_cons_zero, List.getElem?_cons_succ, Option.map_some, List.append_nil, List.nil_append, List.all_cons, List.all_nil, List.length_cons, List.length_nil, eq_self, t0, t1, t5, t26, x_len_43, Int.ofNat_lt, hlt]
    refine hE _ _ _ (by simp) ?_
    simp only [F24, SS, Nat.reduceBEq, Nat.reduceEqDiff, Nat.reduceAdd, reduceIte, Nat.reduceMul, ptrTo, sliceTo, mapTo, List.getElem?_cons_zero, List.getElem?_cons_succ, Option.map_some, List.append_nil, List.nil_append, List.all_cons, List.all_nil, List.length_cons, List.length_nil, eq_self, t26]
    exact hQ _ _ _ _ (.inr rfl) (by simp only [SS, Nat.reduceBEq, Nat.reduceEqDiff, Nat.reduceAdd, reduceIte, Nat.reduceMul, ptrTo, sliceTo, mapTo, List.getElem?_cons_zero, List.getElem?_cons_succ, Option.map_some, List.append_nil, List.nil_append, List.all_cons, List.all_nil, List.length_cons, List.length_nil, eq_self, t26]) (by simp only [SS, Nat.reduceBEq, Nat.reduceEqDiff, Nat.reduceAdd, reduceIte, Nat.reduceMul, ptrTo, sliceTo, mapTo, List.getElem?_cons_zero, List.getElem?_cons_succ, Option.map_some, List.append_nil, List.nil_append, List.all_cons, List.all_nil, List.length_cons, List.length_nil, eq_self]; rfl) ⟨rfl, s2⟩
end Go.Proofs.Ytlfednnfkejcjaa

namespace Go.Proofs.Ytlfednnfkejcjaa
open Go.Am Go.Qs
set_option maxRecDepth 10000
theorem neq_it (x : It) : bin2 P .neq 53 (.agg x.c) (.agg x.c) = some (.bool false) := by
  obtain ⟨p, i, t, s⟩ := x
  show bin2 P .neq 53 (.agg [.str p, .int .u32 i, .int .u32 t, .int .i64 s]) (.agg [.str p, .int .u32 i, .int .u32 t, .int .i64 s]) = _
  have key : ∀ (p : List Nat) (i t s : Int), strEq p p = true → eqI i i = true → eqI t t = true → eqI s s = true → bin2 P .neq 53 (.agg [.str p, .int .u32 i, .int .u32 t, .int .i64 s]) (.agg [.str p, .int .u32 i, .int .u32 t, .int .i64 s]) = some (.bool false) := by
    intro p i t s h1 h2 h3 h4
    have e : bin2 P .neq 53 (.agg [.str p, .int .u32 i, .int .u32 t, .int .i64 s]) (.agg [.str p, .int .u32 i, .int .u32 t, .int .i64 s]) =
      (Option.rec (motive := fun _ => Option AV) none (fun b => yesB (notB b)) (match some (strEq p p) with | some true => (match some (eqI i i) with | some true => (match some (eqI t t) with | some true => (match some (eqI s s) with | some true => some true | r => r) | r => r) | r => r) | r => r) : Option AV) := by kernel_rfl
    rw [e, h1, h2, h3, h4]; rfl
  exact key p i t s (by rw [strEq_eq]; simp) (by rw [eqI_eq]; simp) (by rw [eqI_eq]; simp) (by rw [eqI_eq]; simp)
theorem prunes_ok {n : Nat} (hn : 80 ≤ n) {h : Heap} {v : AV} {L : List It} {q : Int} (hi : Its h v L) :
    WC (Q n (.fn 4) [v, .int .i64 q] h) fun r h' => r = .bool true := by
  have hi0 := hi
  obtain ⟨a, c, g, rfl⟩ := hi.sl
  obtain ⟨m, rfl⟩ : ∃ m, n = m + 1 := ⟨n - 1, by omega⟩
  refine call_fn _ f4A rfl (by simp [fn4]) fun QQ hQ => ?_
  simp only [fn4] at hQ
  simp only [fn4, fill_cons, fill_nil, Nat.zero_add, Nat.reduceAdd]
  obtain ⟨_, hh, ef, rfl, b, rfl, hb⟩ := few_ok (n := m) (by omega) hi
  cases b with
  | false =>
    simp only [F4, SS, Nat.reduceBEq, Nat.reduceEqDiff, Nat.reduceAdd, reduceIte, Nat.reduceMul, ptrTo, sliceTo, mapTo, List.getElem?_cons_zero, List.getElem?_cons_succ, Option.map_some, List.append_nil, List.nil_append, List.all_cons, List.all_nil, List.length_cons, List.length_nil, eq_self, ef, works_q (show 1 ≤ m by omega)]
    exact hQ _ _ _ _ (.inr rfl) (by simp only [SS, Nat.reduceBEq, Nat.reduceEqDiff, Nat.reduceAdd, reduceIte, Nat.reduceMul, ptrTo, sliceTo, mapTo, List.getElem?_cons_zero, List.getElem?_cons_succ, Option.map_some, List.append_nil, List.nil_append, List.all_cons, List.all_nil, List.length_cons, List.length_nil, eq_self]) (by simp only [SS, Nat.reduceBEq, Nat.reduceEqDiff, Nat.reduceAdd, reduceIte, Nat.reduceMul, ptrTo, sliceTo, mapTo, List.getElem?_cons_zero, List.getElem?_cons_succ, Option.map_some, List.append_nil, List.nil_append, List.all_cons, List.all_nil, List.length_cons, List.length_nil, eq_self]; rfl) rfl
  | true =>
  have hl := hb rfl
  have hsrc : srcOf 4 (fun n => n) (.slice a L.length c g) hh = some (cs L, L.length) := hi.src
  obtain ⟨ov, h1, bs1, e1, o1, n1, g1, b1, _⟩ := app_any (t := 41) u_41 s_53 b_53 z_53 rfl (SlO.nil (h := hh)) hsrc (cs_len L) (cs_one L) (room_le (by omega) (by omega)) (Nat.le_refl hh.next)
  rw [Nat.zero_add, List.nil_append] at o1
  have s1 : Sm NoB hh h1 := ⟨n1, fun c hc _ => g1 c (by simp) (by omega)⟩
  obtain ⟨_, h2, e2, d, gv, ok, bs2, G, rfl, hP, hS, s2, o2, k2, hc⟩ := prune_ok (n := m) (by omega) q (slo_its o1) (by omega)
  have hi2 := (hi.sm s1 (fun _ _ h => h)).sm s2 (fun _ _ h => h)
  obtain ⟨tv, h3, e3, bs3, o3, s3, k3⟩ := their_ok (n := m) (by omega) hi2 (by omega)
  obtain ⟨_, h4, e4, gv', ok', bs4, G', rfl, s4, o4, k4, hc'⟩ := rprune_ok (n := m) (by omega) q (slo_itsR o3) (by omega) hP hS
  have hGG : G' = G ∧ ok' = ok := by
    rcases hc with ⟨rfl, rfl, h⟩ | ⟨rfl, rfl, h⟩ <;> rcases hc' with ⟨rfl, rfl, h'⟩ | ⟨rfl, rfl, h'⟩
    · exact ⟨rfl, rfl⟩
    · omega
    · omega
    · exact ⟨rfl, rfl⟩
  obtain ⟨rfl, rfl⟩ := hGG
  have hGl : G'.length ≤ 1000 := by
    rcases hc with ⟨_, rfl, _⟩ | ⟨_, rfl, _⟩
    · have := (pr_le L d q L.length).2.2; omega
    · exact Nat.zero_le _
  have o24 := (o2.sm s3 (fun _ _ h => h)).sm s4 (fun _ _ h => h)
  have el2 := o24.els
  have el4 := o4.els
  rw [u_ids] at el2 el4
  have ea := same_ok (n := m) (by omega) (v := gv) (w := gv') (G := G'.map fun k => (iti L k).id) (by rw [List.length_map]; exact el2) (by rw [List.length_map]; exact el4) (by rw [List.length_map]; exact hGl)
  obtain ⟨_, h5, e5, rfl, s5⟩ := ea
  have o15 := (((o1.sm s2 (fun _ _ h => h)).sm s3 (fun _ _ h => h)).sm s4 (fun _ _ h => h)).sm s5 (fun _ _ h => h)
  have hi5 := (((hi2.sm s3 (fun _ _ h => h)).sm s4 (fun _ _ h => h)).sm s5 (fun _ _ h => h))
  obtain ⟨_, h6, e6, rfl, s6⟩ := sum_ok (n := m) (by omega) (slo_its o15) (by omega)
  obtain ⟨tv7, h7, e7, bs7, o7, s7, k7⟩ := their_ok (n := m) (by omega) (hi5.sm s6 (fun _ _ h => h)) (by omega)
  obtain ⟨_, _, e8, rfl, rfl⟩ := rsum_ok (n := m) (by omega) (slo_itsR o7) (by omega)
  have cb : (!(ok' == ok')) = false := by simp
  have cn : (!decide (sumTo L L.length = sumTo L L.length)) = false := by simp
  obtain ⟨_, a1, c1, g1', rfl, _⟩ := id o1.els
  simp only [F4, SS, Nat.reduceBEq, Nat.reduceEqDiff, Nat.reduceAdd, reduceIte, Nat.reduceMul, ptrTo, sliceTo, mapTo, List.getElem?_cons_zero, List.getElem?_cons_succ, Option.map_some, List.append_nil, List.nil_append, List.all_cons, List.all_nil, List.length_cons, List.length_nil, eq_self, ef, e1, e2, e3, e4, e5, x_ne_4, cb, e6, e7, e8, ne_eq, not_true_eq_false]
  have p1 := (o15.sm s6 (fun _ _ h => h)).sm s7 (fun _ _ h => h)
  have pi := (hi5.sm s6 (fun _ _ h => h)).sm s7 (fun _ _ h => h)
  refine run_loop (c := c4_31) (I := fun m' tm' h' => ∃ i, i ≤ L.length ∧ m' = L.length - i ∧ SlO 53 4 h' (.slice a1 L.length c1 g1') L.length (cs L) bs1 ∧ Its h' (.slice a L.length c g) L ∧ tm'.gt 0 = some (.slice a L.length c g) ∧ tm'.gt 5 = some (.slice a1 L.length c1 g1') ∧ tm'.gt 10 = some (I i) ∧ tm'.gt 64 = none) (n := L.length)
    ⟨0, by omega, rfl, p1, pi, by simp only [SS, Nat.reduceBEq, Nat.reduceEqDiff, Nat.reduceAdd, reduceIte, Nat.reduceMul, ptrTo, sliceTo, mapTo, List.getElem?_cons_zero, List.getElem?_cons_succ, Option.map_some, List.append_nil, List.nil_append, List.all_cons, List.all_nil, List.length_cons, List.length_nil, eq_self], by simp only [SS, Nat.reduceBEq, Nat.reduceEqDiff, Nat.reduceAdd, reduceIte, Nat.reduceMul, ptrTo, sliceTo, mapTo, List.getElem?_cons_zero, List.getElem?_cons_succ, Option.map_some, List.append_nil, List.nil_append, List.all_cons, List.all_nil, List.length_cons, List.length_nil, eq_self], by simp only [SS, Nat.reduceBEq, Nat.reduceEqDiff, Nat.reduceAdd, reduceIte, Nat.reduceMul, ptrTo, sliceTo, mapTo, List.getElem?_cons_zero, List.getElem?_cons_succ, Option.map_some, List.append_nil, List.nil_append, List.all_cons, List.all_nil, List.length_cons, List.length_nil, eq_self]; rfl, by simp only [SS, Nat.reduceBEq, Nat.reduceEqDiff, Nat.reduceAdd, reduceIte, Nat.reduceMul, ptrTo, sliceTo, mapTo, List.getElem?_cons_zero, List.getElem?_cons_succ, Option.map_some, List.append_nil, List.nil_append, List.all_cons, List.all_nil, List.length_cons, List.length_nil, eq_self]⟩ (by omega) ?_
  rintro _ tm h8 ⟨i, hil, rfl, p1, pi, t0, t5, t10, t64⟩ Q1 hN1 hE
  by_cases hlt : i < L.length
  · obtain ⟨hb, eb, sb, _, _⟩ := Sm.bump h8 9
    have p1b := p1.sm sb (fun _ _ h => h)
    have pib := pi.sm sb (fun _ _ h => h)
    obtain ⟨b, o, rfl, _, _, _, _, i4⟩ := pib.at hlt
    obtain ⟨b2, o2, rfl, _, _, _, _, j4⟩ := (slo_its p1b).at hlt
    rw [← iti_at hlt] at i4 j4
    have x1 := x_ia_41 (k := .i64) (b := b) (o := o) (c := c) (g := g) hlt
    have x2 := x_ia_41 (k := .i64) (b := b2) (o := o2) (c := c1) (g := g1') hlt
    simp only [F4, SS, Nat.reduceBEq, Nat.reduceEqDiff, Nat.reduceAdd, reduceIte, Nat.reduceMul, ptrTo, sliceTo, mapTo, List.getElem?_cons_zero, List.getElem?_cons_succ, Option.map_some, List.append_nil, List.nil_append, List.all_cons, List.all_nil, List.length_cons, List.length_nil, eq_self, t0, t5, t10, t64, x_len_41, Int.ofNat_lt, hlt, eb, x1, x2, i4, j4, neq_it, wAdd1 (show i ≤ 1000000 by omega)]
    exact hN1 _ _ (L.length - (i + 1)) (by omega) ⟨i + 1, hlt, rfl, p1b, pib, by simp only [SS, Nat.reduceBEq, Nat.reduceEqDiff, Nat.reduceAdd, reduceIte, Nat.reduceMul, ptrTo, sliceTo, mapTo, List.getElem?_cons_zero, List.getElem?_cons_succ, Option.map_some, List.append_nil, List.nil_append, List.all_cons, List.all_nil, List.length_cons, List.length_nil, eq_self, t0], by simp only [SS, Nat.reduceBEq, Nat.reduceEqDiff, Nat.reduceAdd, reduceIte, Nat.reduceMul, ptrTo, sliceTo, mapTo, List.getElem?_cons_zero, List.getElem?_cons_succ, Option.map_some, List.append_nil, List.nil_append, List.all_cons, List.all_nil, List.length_cons, List.length_nil, eq_self, t5], by simp only [SS, Nat.reduceBEq, Nat.reduceEqDiff, Nat.reduceAdd, reduceIte, Nat.reduceMul, ptrTo, sliceTo, mapTo, List.getElem?_cons_zero, List.getElem?_cons_succ, Option.map_some, List.append_nil, List.nil_append, List.all_cons, List.all_nil, List.length_cons, List.length_nil, eq_self], by simp only [SS, Nat.reduceBEq, Nat.reduceEqDiff, Nat.reduceAdd, reduceIte, Nat.reduceMul, ptrTo, sliceTo, mapTo, List.getElem?_cons_zero, List.getElem?_cons_succ, Option.map_some, List.append_nil, List.nil_append, List.all_cons, List.all_nil, List.length_cons, List.length_nil, eq_self, t64]⟩
  · simp only [F4, SS, Nat.reduceBEq, Nat.reduceEqDiff, Nat.reduceAdd, reduceIte, Nat.reduceMul, ptrTo, sliceTo, mapTo, List.getElem?_cons_zero, List.getElem?_cons_succ, Option.map_some, List.append_nil, List.nil_append, List.all_cons, List.all_nil, List.length_cons, List.length_nil, eq_self, t0, t5, t10, t64, x_len_41, Int.ofNat_lt, hlt]
    refine hE _ _ _ (by simp) ?_
    simp only [F4, SS, Nat.reduceBEq, Nat.reduceEqDiff, Nat.reduceAdd, reduceIte, Nat.reduceMul, ptrTo, sliceTo, mapTo, List.getElem?_cons_zero, List.getElem?_cons_succ, Option.map_some, List.append_nil, List.nil_append, List.all_cons, List.all_nil, List.length_cons, List.length_nil, eq_self, t64, works_q (show 1 ≤ m by omega)]
    exact hQ _ _ _ _ (.inr rfl) (by simp only [SS, Nat.reduceBEq, Nat.reduceEqDiff, Nat.reduceAdd, reduceIte, Nat.reduceMul, ptrTo, sliceTo, mapTo, List.getElem?_cons_zero, List.getElem?_cons_succ, Option.map_some, List.append_nil, List.nil_append, List.all_cons, List.all_nil, List.length_cons, List.length_nil, eq_self, t64]) (by simp only [SS, Nat.reduceBEq, Nat.reduceEqDiff, Nat.reduceAdd, reduceIte, Nat.reduceMul, ptrTo, sliceTo, mapTo, List.getElem?_cons_zero, List.getElem?_cons_succ, Option.map_some, List.append_nil, List.nil_append, List.all_cons, List.all_nil, List.length_cons, List.length_nil, eq_self]; rfl) rfl
end Go.Proofs.Ytlfednnfkejcjaa

namespace Go.Proofs.Ytlfednnfkejcjaa
open Go.ChangeShapes Go.WideShapes Go.Am Go.Deep
set_option maxRecDepth 10000
noncomputable def fs53 : Array Field := match Try.prog.underlying 53 with
  | some (.struct fs) => fs
  | _ => #[]
theorem un53 : Try.prog.underlying 53 = some (.struct fs53) := by kernel_rfl
theorem one53 : oneCellFields Try.prog fs53 = true := by kernel_rfl
theorem size53 : fs53.size = 4 := by kernel_rfl
theorem ce53 : Try.prog.cellsOf 53 = 4 := by kernel_rfl
theorem ty53_0 : (fs53[0]?).map (·.type) = some 9 := by kernel_rfl
theorem ty53_1 : (fs53[1]?).map (·.type) = some 27 := by kernel_rfl
theorem ty53_2 : (fs53[2]?).map (·.type) = some 27 := by kernel_rfl
theorem ty53_3 : (fs53[3]?).map (·.type) = some 3 := by kernel_rfl
theorem un27 : Try.prog.underlying 27 = some (.int .u32) := by kernel_rfl
theorem un3 : Try.prog.underlying 3 = some (.int .i64) := by kernel_rfl
theorem exists_list {α : Type} {Pr : Nat → α → Prop} : ∀ n, (∀ i, i < n → ∃ x, Pr i x) → ∃ l : List α, l.length = n ∧ ∀ i, i < n → ∃ x, l[i]? = some x ∧ Pr i x
  | 0, _ => ⟨[], rfl, fun i h => by omega⟩
  | n + 1, h => by
    obtain ⟨l, hl, hp⟩ := exists_list n fun i hi => h i (by omega)
    obtain ⟨x, hx⟩ := h n (by omega)
    refine ⟨l ++ [x], by simp [hl], fun i hi => ?_⟩
    by_cases e : i < n
    · obtain ⟨y, hy, hp'⟩ := hp i e
      exact ⟨y, by rw [List.getElem?_append_left (by omega)]; exact hy, hp'⟩
    · obtain rfl : i = n := by omega
      refine ⟨x, ?_, hx⟩
      rw [List.getElem?_append_right (by omega), hl]; simp
def bts (s : ByteArray) : List Nat := s.data.toList.map (·.toNat)
def ItAt (W : World) (a : Addr) (i : Nat) (x : It) : Prop := ∃ s, x.p = bts s ∧ W.cell? (a.add (i * 4)) = some (.string s) ∧ W.cell? (a.add (i * 4 + 1)) = some (.int .u32 x.id) ∧ W.cell? (a.add (i * 4 + 2)) = some (.int .u32 x.tick) ∧ 0 ≤ x.tick ∧ W.cell? (a.add (i * 4 + 3)) = some (.int .i64 x.size)
section
variable {H : Type} {enc : TypeId × Value → H}
theorem item_in {W : World} {base n : Nat} {sp : Nat → Bool} {held : Bool} {a : Addr} {i : Nat} {cs' : List Value} {x : DataW H × List MemPlace} (hc : W.cells? base (a.add (i * 4)) 4 = some cs') (ht : DataW.trod enc Try.prog W base sp held n 53 cs' = some x) : ∃ x, ItAt W a i x := by
  obtain ⟨ys, n', _, _, hlen, hyl, hf⟩ := DataW.trod_struct un53 ht
  obtain ⟨_, hcl, hat⟩ := World.cells?_some hc
  rw [size53] at hyl
  have get : ∀ j t, j < 4 → (fs53[j]?).map (·.type) = some t → ∃ v y, W.cell? (a.add (i * 4 + j)) = some v ∧ DataW.trod enc Try.prog W base sp held n' t [v] = some y := by
    intro j t hj htj
    cases hfj : fs53[j]? with
    | none => rw [hfj] at htj; cases htj
    | some f =>
      rw [hfj] at htj
      have htj : f.type = t := Option.some.inj htj
      obtain ⟨ho, hk⟩ := hone_of one53 j f hfj
      have h1 := hf j f hfj
      rw [ho, hk] at h1
      have hone' : (cs'.drop j).take 1 = [cs'[j]'(by omega)] := by
        rw [List.drop_eq_getElem_cons (by omega)]; rfl
      rw [hone', List.getElem?_eq_getElem (by omega), htj] at h1
      refine ⟨cs'[j]'(by omega), _, ?_, h1⟩
      rw [← add_add, hat j hj, List.getElem?_eq_getElem (by omega)]
  obtain ⟨v0, y0, c0, t0⟩ := get 0 9 (by omega) ty53_0
  obtain ⟨v1, y1, c1, t1⟩ := get 1 27 (by omega) ty53_1
  obtain ⟨v2, y2, c2, t2⟩ := get 2 27 (by omega) ty53_2
  obtain ⟨v3, y3, c3, t3⟩ := get 3 3 (by omega) ty53_3
  obtain ⟨s, e0, _, _⟩ := DataW.trod_string u_9 t0
  obtain ⟨n1, e1, _, _⟩ := DataW.trod_int un27 t1
  obtain ⟨n2, e2, _, w2⟩ := DataW.trod_int un27 t2
  obtain ⟨n3, e3, _, _⟩ := DataW.trod_int un3 t3
  cases e0; cases e1; cases e2; cases e3
  refine ⟨⟨bts s, n1, n2, n3⟩, s, rfl, c0, c1, c2, ?_, c3⟩
  simp only [Lit.wf, Bool.and_eq_true, decide_eq_true_eq] at w2
  exact w2.1
/-- a slice of items that came in -/
theorem items_in {W : World} {base : Nat} {v : Value} {d : DataW H} {p : List MemPlace} {r : Reach} {b0 : Nat} (hok : Value.okWide Try.prog W r b0 41 v)
    (h : DataW.Trod enc Try.prog W base (fun _ => true) true 41 v d p) (i : Nat) :
    ∃ (it : ArgIt) (lv : AV) (L : List It), (∀ l1 l2 : List ArgIt, l1.length = i → VR (argP (l1 ++ it :: l2)) lv v ∧ Its (argH (l1 ++ it :: l2)) lv L) ∧ (∀ ρ, ArgOk W ρ it) ∧ Ticks L := by
  obtain ⟨a0, len, cap, rfl⟩ := okWide_slice u_41 hok
  obtain ⟨n, hn⟩ := h
  have hn : DataW.trod enc Try.prog W base (fun _ => true) true n 41 [.slice a0 len cap] = some (d, p) := hn
  have hat : ∀ (l1 l2 : List ArgIt) (it : ArgIt), l1.length = i → (l1 ++ it :: l2)[i]? = some it := fun l1 l2 it hl => by subst hl; simp
  rcases open_slice u_41 hn with ⟨e1, _⟩ | ⟨a, len', cap', m, n', D, Pl, e1, _, hle, _, hm, _, hi⟩
  · cases e1
    exact ⟨⟨none, ⟨0, 0, 0⟩⟩, .slice none 0 0 none, [], fun l1 l2 _ => ⟨⟨rfl, rfl, rfl, rfl⟩, rfl, none, 0, none, rfl, fun _ => rfl, (fun _ _ e => by cases e)⟩, (fun _ _ e => by cases e), (fun _ h => absurd h (Nat.not_lt_zero _))⟩
  · cases e1
    have hm : m = cap := hm
    subst hm
    by_cases h0 : m = 0
    · subst h0
      obtain rfl : len = 0 := by omega
      refine ⟨⟨none, ⟨0, 0, 0⟩⟩, .slice (some (i, 0)) 0 0 none, [], fun l1 l2 hl => ⟨⟨⟨0, 0, 0⟩, a, 0, ?_, rfl, Nat.le_refl _, Nat.le_refl _, fun _ => rfl, (fun _ e => by cases e), fun h => absurd rfl h⟩, rfl, some (i, 0), 0, none, rfl, (fun e => by cases e), fun b o e => ?_⟩, (fun _ _ e => by cases e), (fun _ h => absurd h (Nat.not_lt_zero _))⟩
      · unfold argP; rw [hat l1 l2 _ hl]; rfl
      · cases e; exact ⟨args_lt (hat l1 l2 _ hl), fun h => absurd h (Nat.lt_irrefl 0)⟩
    · rw [ce53] at hi
      obtain ⟨L, hL, hLi⟩ := exists_list (Pr := ItAt W a) len fun j hj => by
        obtain ⟨cs', hc, ht⟩ := hi j (by omega)
        exact item_in hc ht
      obtain ⟨x0, s0, _, h00, _⟩ := (fun ⟨cs', hc, ht⟩ => item_in hc ht : _ → ∃ x, ItAt W a 0 x) (hi 0 (by omega))
      obtain ⟨blk, off, spot⟩ := a
      have hadd : ∀ j, (⟨blk, off, spot⟩ : Addr).add j = if j = 0 then ⟨blk, off, spot⟩ else ⟨blk, off + j, none⟩ := fun j => rfl
      rw [Nat.zero_mul, hadd, if_pos rfl] at h00
      have hex : ∃ c e fz, W.heap[blk]? = some (.cells c e fz) ∧ spot = none := by
        unfold World.cell? at h00
        cases hh : W.heap[blk]? with
        | none => rw [hh] at h00; cases h00
        | some ob =>
          rw [hh] at h00
          cases ob with
          | cells c e fz =>
            cases spot with
            | none => exact ⟨c, e, fz, rfl, rfl⟩
            | some k => cases h00
          | _ => cases h00
      obtain ⟨c, e', fz, hblk, rfl⟩ := hex
      have hcell : ∀ j w, W.cell? ((⟨blk, off, none⟩ : Addr).add j) = some w → c[off + j]? = some w := fun j w hw => by
        rw [hadd] at hw
        split at hw
        · rename_i e0; subst e0; rw [cell_of_heap hblk] at hw; exact hw
        · rw [cell_of_heap hblk] at hw; exact hw
      -- the last cell of all
      obtain ⟨xl, sl, _, _, _, _, _, hl3⟩ := (fun ⟨cs', hc, ht⟩ => item_in hc ht : _ → ∃ x, ItAt W ⟨blk, off, none⟩ (m - 1) x) (hi (m - 1) (by omega))
      have hsz : off + m * 4 ≤ c.size := by
        have := (Array.getElem?_eq_some_iff.1 (hcell _ _ hl3)).1
        omega
      have hLv : ∀ j (hj : j < L.length), ItAt W ⟨blk, off, none⟩ j L[j] := fun j hj => by
        obtain ⟨x, hx, hp⟩ := hLi j (by omega)
        rw [List.getElem?_eq_getElem hj] at hx
        rw [Option.some.inj hx]; exact hp
      refine ⟨⟨some (cs L), ⟨blk, off, c.size⟩⟩, .slice (some (i, 0)) len m none, L, fun l1 l2 hl => ⟨⟨⟨blk, off, c.size⟩, ⟨blk, off, none⟩, m, ?_, rfl, hle, Nat.le_refl _, fun _ => rfl, (fun _ e => by cases e), fun _ => rfl⟩, ?_⟩, ?_, ?_⟩
      · unfold argP; rw [hat l1 l2 _ hl]; rfl
      · refine ⟨cs_len L, some (i, 0), m, none, by rw [hL], (fun e => by cases e), fun b o e => ?_⟩
        cases e
        refine ⟨args_lt (hat l1 l2 _ hl), fun _ => ?_⟩
        rw [(args_Rw (hat l1 l2 _ hl)).ld (by rw [cs_len]; omega), List.drop_zero, List.take_of_length_le (by rw [cs_len]; omega)]
      · intro ρ xs hcs
        cases hcs
        refine ⟨c, e', fz, hblk, rfl, by rw [cs_len, hL]; exact Nat.le_trans (Nat.add_le_add_left (Nat.mul_le_mul_right 4 hle) _) hsz, fun j w hw => ?_⟩
        have hjl : j < L.length * 4 := by have := (List.getElem?_eq_some_iff.1 hw).1; rw [cs_len] at this; exact this
        have hq : j / 4 < L.length := by omega
        have hj4 : j = j / 4 * 4 + j % 4 := by omega
        obtain ⟨s, q1, q2, q3, q4, _, q5⟩ := hLv (j / 4) hq
        rw [hj4, cs_get L (j / 4) hq (j % 4) (Nat.mod_lt _ (by omega))] at hw
        have h4 : j % 4 = 0 ∨ j % 4 = 1 ∨ j % 4 = 2 ∨ j % 4 = 3 := by omega
        rcases h4 with h4 | h4 | h4 | h4
        · rw [h4] at hw; cases hw
          have h5 := hcell _ _ q2
          rw [show j / 4 * 4 = j by omega] at h5
          exact ⟨rfl, _, h5, s, rfl, q1.symm⟩
        · rw [h4] at hw; cases hw
          have h5 := hcell _ _ q3
          rw [show j / 4 * 4 + 1 = j by omega] at h5
          exact ⟨rfl, _, h5, rfl⟩
        · rw [h4] at hw; cases hw
          have h5 := hcell _ _ q4
          rw [show j / 4 * 4 + 2 = j by omega] at h5
          exact ⟨rfl, _, h5, rfl⟩
        · rw [h4] at hw; cases hw
          have h5 := hcell _ _ q5
          rw [show j / 4 * 4 + 3 = j by omega] at h5
          exact ⟨rfl, _, h5, rfl⟩
      · intro j hj
        rw [iti_at hj]
        obtain ⟨s, _, _, _, _, q5, _⟩ := hLv j hj
        exact q5
end
end Go.Proofs.Ytlfednnfkejcjaa


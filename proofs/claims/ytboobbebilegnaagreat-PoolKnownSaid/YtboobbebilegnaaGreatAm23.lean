/-
  AM, 23: which operations wait for which.
-/
import Derived.Test.YtboobbebilegnaaGreatAm22
import Derived.Orders
namespace Go.Am

def befStep (acc : Array Nat) (o : Oper) : Array Nat := acc.push (o.after.foldl (fun s e => if Region.binds .any e then s ||| 2 ^ e.on ||| acc.getD e.on 0 else s) 0)
theorem before_eq (ops : Array Oper) : Region.before ops = ops.toList.foldl befStep #[] := by
  unfold Region.before
  rw [← Array.foldl_toList]; rfl

theorem befs_size : ∀ (l : List Oper) (acc : Array Nat), (l.foldl befStep acc).size = acc.size + l.length
  | [], acc => rfl
  | o :: l, acc => by rw [List.foldl_cons, befs_size l]; simp [befStep]; omega
theorem befs_get : ∀ (l : List Oper) (acc : Array Nat) (i : Nat), i < acc.size → (l.foldl befStep acc).getD i 0 = acc.getD i 0
  | [], acc, i, _ => rfl
  | o :: l, acc, i, h => by
    rw [List.foldl_cons, befs_get l _ i (by simp [befStep]; omega)]
    simp only [befStep, Array.getD_eq_getD_getElem?, Array.getElem?_push]
    rw [if_neg (by omega)]

theorem fold_bit {acc : Array Nat} {j : Nat} : ∀ (l : List Edge) (s : Nat), (l.foldl (fun s e => if Region.binds .any e then s ||| 2 ^ e.on ||| acc.getD e.on 0 else s) s).testBit j = true →
    s.testBit j = true ∨ ∃ e ∈ l, Region.binds .any e = true ∧ (j = e.on ∨ (acc.getD e.on 0).testBit j = true)
  | [], s, h => .inl h
  | e :: l, s, h => by
    rw [List.foldl_cons] at h
    rcases fold_bit l _ h with h1 | ⟨e', h1, h2⟩
    · by_cases hb : Region.binds .any e = true
      · rw [if_pos hb] at h1
        simp only [Nat.testBit_or, Bool.or_eq_true, Nat.testBit_two_pow, decide_eq_true_eq] at h1
        rcases h1 with (h1 | h1) | h1
        · exact .inl h1
        · exact .inr ⟨e, List.mem_cons_self .., hb, .inl h1.symm⟩
        · exact .inr ⟨e, List.mem_cons_self .., hb, .inr h1⟩
      · rw [if_neg hb] at h1; exact .inl h1
    · exact .inr ⟨e', List.mem_cons_of_mem _ h1, h2⟩

/-- what an operation waits for: what it names, and what that waits for -/
theorem before_spec {ops : Array Oper} {i j : Nat} (hlt : ∀ o, ops[i]? = some o → ∀ e ∈ o.after, Region.binds .any e = true → e.on < i) (h : bef (Region.before ops) i j = true) :
    ∃ o, ops[i]? = some o ∧ ∃ e ∈ o.after, Region.binds .any e = true ∧ (j = e.on ∨ bef (Region.before ops) e.on j = true) := by
  unfold bef at h ⊢
  rw [before_eq] at h ⊢
  have hi : i < ops.toList.length := by
    rcases Nat.lt_or_ge i ops.toList.length with h1 | h1
    · exact h1
    · rw [Array.getD_eq_getD_getElem?, Array.getElem?_eq_none (by rw [befs_size]; simpa using h1)] at h
      simp at h
  have hsplit : ops.toList = ops.toList.take i ++ (ops.toList[i] :: ops.toList.drop (i + 1)) := by rw [← List.drop_eq_getElem_cons hi]; simp
  have ho : ops[i]? = some ops.toList[i] := by rw [← Array.getElem?_toList]; exact List.getElem?_eq_getElem hi
  refine ⟨_, ho, ?_⟩
  have hacc : ((ops.toList.take i).foldl befStep #[]).size = i := by
    have : i < ops.size := by simpa using hi
    rw [befs_size]; simp; omega
  have hval : (ops.toList.foldl befStep #[]).getD i 0 = (ops.toList[i].after.foldl (fun s e => if Region.binds .any e then s ||| 2 ^ e.on ||| ((ops.toList.take i).foldl befStep #[]).getD e.on 0 else s) 0) := by
    conv => lhs; rw [hsplit]
    rw [List.foldl_append, List.foldl_cons, befs_get _ _ _ (by simp [befStep, hacc])]
    simp only [befStep, Array.getD_eq_getD_getElem?, Array.getElem?_push]
    rw [if_pos hacc.symm]; rfl
  rw [hval, ← Array.foldl_toList] at h
  rcases fold_bit _ _ h with h1 | ⟨e, h1, h2, h3⟩
  · simp at h1
  · have h1 := Array.mem_toList_iff.1 h1
    refine ⟨e, h1, h2, h3.imp id fun h3 => ?_⟩
    have hon := hlt _ ho e h1 h2
    rw [← h3]
    conv => lhs; rw [hsplit]
    rw [List.foldl_append, befs_get _ _ _ (by rw [hacc]; exact hon)]

/-! ### what has been asked of a region -/
structure GraphOk (ops : Array Oper) : Prop where
  back : ∀ i o, ops[i]? = some o → ∀ e ∈ o.after, Region.binds .any e = true → e.on < i
  guard : ∀ i o j want, ops[i]? = some o → o.guard = some (j, want) → bef (Region.before ops) i j = true
  first : ∀ i o j d, ops[i]? = some o → j < i → (ops[j]?).bind (·.dst) = some d → d ∈ namesOf ops o → bef (Region.before ops) i j = true
  names : ∀ i j o d, ops[i]? = some o → j < ops.size → i ≠ j → (ops[j]?).bind (·.dst) = some d → d ∈ namesOf ops o → bef (Region.before ops) i j = true ∨ bef (Region.before ops) j i = true

theorem graph_ok {ops : Array Oper} (h1 : namesOk ops (Region.before ops) = true) (h2 : edgesOk ops (Region.before ops) = true) : GraphOk ops := by
  have he : ∀ i o, ops[i]? = some o → (∀ e ∈ o.after, Region.binds .any e = true → e.on < i) ∧ (∀ j want, o.guard = some (j, want) → bef (Region.before ops) i j = true) ∧
      ∀ j, j < i → ∀ d, (ops[j]?).bind (·.dst) = some d → d ∈ namesOf ops o → bef (Region.before ops) i j = true := by
    intro i o ho
    unfold edgesOk at h2
    rw [List.all_eq_true] at h2
    have hm : (o, i) ∈ ops.toList.zipIdx := by
      rw [List.mem_zipIdx_iff_getElem?, Array.getElem?_toList]; exact ho
    have := h2 _ hm
    simp only [Bool.and_eq_true] at this
    obtain ⟨⟨g1, g2⟩, g3⟩ := this
    refine ⟨fun e hm hb => ?_, fun j want hg => ?_, fun j hj d hd hn => ?_⟩
    · rw [Array.all_eq_true'] at g1
      have := g1 e hm
      simpa [hb] using this
    · rw [hg] at g2; exact g2
    · rw [List.all_eq_true] at g3
      have := g3 j (List.mem_range.2 hj)
      rw [hd] at this
      simpa [hn] using this
  refine ⟨fun i o ho => (he i o ho).1, fun i o j want ho hg => (he i o ho).2.1 j want hg, fun i o j d ho hj hd hn => (he i o ho).2.2 j hj d hd hn, fun i j o d ho hj hne hd hn => ?_⟩
  unfold namesOk at h1
  rw [List.all_eq_true] at h1
  have hi : i < ops.size := (Array.getElem?_eq_some_iff.1 ho).1
  have := h1 i (List.mem_range.2 hi)
  rw [List.all_eq_true] at this
  have := this j (List.mem_range.2 hj)
  obtain ⟨oj, hoj⟩ : ∃ oj, ops[j]? = some oj := ⟨_, Array.getElem?_eq_getElem hj⟩
  rw [ho, hoj] at this
  rw [hoj] at hd
  have hd : oj.dst = some d := hd
  simp only [hd] at this
  simp only [Bool.or_eq_true, beq_iff_eq, Bool.not_eq_true', List.contains_eq_mem, decide_eq_false_iff_not] at this
  rcases this with ((h | h) | h) | h
  · exact absurd h hne
  · exact .inl h
  · exact .inr h
  · exact absurd hn h

/-- who waits comes later -/
theorem bef_lt {ops : Array Oper} (hg : GraphOk ops) : ∀ (i j : Nat), bef (Region.before ops) i j = true → j < i := by
  intro i
  induction i using Nat.strongRecOn with
  | _ i ih =>
    intro j h
    obtain ⟨o, ho, e, he, hb, h1⟩ := before_spec (fun o ho => hg.back i o ho) h
    have := hg.back i o ho e he hb
    rcases h1 with rfl | h1
    · exact this
    · exact Nat.lt_trans (ih _ this j h1) this

/-- the last writer before an operation -/
theorem writer_some {ops : Array Oper} {t : Nat} : ∀ {i j : Nat}, writer ops t i = some j → j < i ∧ (ops[j]?).bind (·.dst) = some t ∧ ∀ k, j < k → k < i → (ops[k]?).bind (·.dst) ≠ some t
  | 0, j, h => by cases h
  | i + 1, j, h => by
    simp only [writer] at h
    split at h
    · rename_i hd
      cases h
      exact ⟨by omega, hd, fun k h1 h2 => by omega⟩
    · rename_i hd
      obtain ⟨h1, h2, h3⟩ := writer_some h
      refine ⟨by omega, h2, fun k hk1 hk2 => ?_⟩
      by_cases e : k = i
      · subst e; exact hd
      · exact h3 k hk1 (by omega)
theorem writer_none {ops : Array Oper} {t : Nat} : ∀ {i : Nat}, writer ops t i = none → ∀ k, k < i → (ops[k]?).bind (·.dst) ≠ some t
  | 0, _, k, hk => absurd hk (Nat.not_lt_zero _)
  | i + 1, h, k, hk => by
    simp only [writer] at h
    split at h
    · cases h
    · rename_i hd
      by_cases e : k = i
      · subst e; exact hd
      · exact writer_none h k (by omega)
end Go.Am

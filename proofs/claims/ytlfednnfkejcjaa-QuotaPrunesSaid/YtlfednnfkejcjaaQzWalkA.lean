/-
  Sorting, in plain words: rows as functions, their rearrangements, merging. No program is named here.
-/
import Derived.Test.YtlfednnfkejcjaaQzRules
import Derived.Deep.Fields
import Derived.Deep.Slices
import Derived.ChangeArms
set_option linter.unusedVariables false
set_option linter.unusedSimpArgs false
set_option linter.constructorNameAsVariable false

namespace Go.Qs

/-- d' is d, with the places from a to e rearranged -/
def Perm (a e : Nat) (d d' : Nat → Nat) : Prop :=
  ∃ s t : Nat → Nat, (∀ k, t (s k) = k) ∧ (∀ k, s (t k) = k) ∧ (∀ k, k < a ∨ e ≤ k → s k = k) ∧ ∀ k, d' k = d (s k)

section
variable {a e a' e' : Nat} {d d' d'' : Nat → Nat}
theorem Perm.refl (a e : Nat) (d : Nat → Nat) : Perm a e d d := ⟨id, id, fun _ => rfl, fun _ => rfl, fun _ _ => rfl, fun _ => rfl⟩
theorem Perm.trans (h : Perm a e d d') (h' : Perm a e d' d'') : Perm a e d d'' := by
  obtain ⟨s, t, h1, h2, h3, h4⟩ := h
  obtain ⟨s', t', g1, g2, g3, g4⟩ := h'
  refine ⟨fun k => s (s' k), fun k => t' (t k), fun k => by simp [h1, g1], fun k => by simp [h2, g2], fun k hk => ?_, fun k => by rw [g4, h4]⟩
  show s (s' k) = k
  rw [g3 k hk, h3 k hk]
theorem Perm.mono (h : Perm a e d d') (ha : a' ≤ a) (he : e ≤ e') : Perm a' e' d d' := by
  obtain ⟨s, t, h1, h2, h3, h4⟩ := h
  exact ⟨s, t, h1, h2, fun k hk => h3 k (by omega), h4⟩
theorem Perm.out (h : Perm a e d d') {k : Nat} (hk : k < a ∨ e ≤ k) : d' k = d k := by
  obtain ⟨s, t, _, _, h3, h4⟩ := h
  rw [h4, h3 k hk]
theorem Perm.at (h : Perm a e d d') {k : Nat} (hk : a ≤ k) (hk' : k < e) : ∃ j, a ≤ j ∧ j < e ∧ d' k = d j := by
  obtain ⟨s, t, h1, _, h3, h4⟩ := h
  by_cases hs : s k < a ∨ e ≤ s k
  · have := h3 _ hs
    have h5 := congrArg t this
    rw [h1, h1] at h5
    omega
  · exact ⟨s k, by omega, by omega, h4 k⟩
theorem Perm.lt (h : Perm a e d d') {n : Nat} (he : e ≤ n) (hd : ∀ k, k < n → d k < n) : ∀ k, k < n → d' k < n := by
  intro k hk
  by_cases hk' : k < a ∨ e ≤ k
  · rw [h.out hk']; exact hd k hk
  · obtain ⟨j, _, h2, h3⟩ := h.at (k := k) (by omega) (by omega)
    rw [h3]; exact hd j (by omega)

/-- the element at i is put at j, those from j on go one up -/
def ins (d : Nat → Nat) (i j : Nat) : Nat → Nat := fun k => if k = j then d i else if j < k ∧ k ≤ i then d (k - 1) else d k
theorem ins_self {i : Nat} : ins d i i = d := by
  funext k; unfold ins
  by_cases h : k = i
  · rw [if_pos h, h]
  · rw [if_neg h, if_neg (by omega)]
theorem ins_perm {i j : Nat} (h : j ≤ i) (ha : a ≤ j) (he : i < e) : Perm a e d (ins d i j) := by
  refine ⟨fun k => if k = j then i else if j < k ∧ k ≤ i then k - 1 else k, fun k => if k = i then j else if j ≤ k ∧ k < i then k + 1 else k, fun k => ?_, fun k => ?_, fun k hk => ?_, fun k => ?_⟩
  · dsimp only; repeat' split
    all_goals omega
  · dsimp only; repeat' split
    all_goals omega
  · dsimp only; repeat' split
    all_goals omega
  · unfold ins; dsimp only
    split
    · rfl
    · split <;> rfl
def upd (d : Nat → Nat) (i x : Nat) : Nat → Nat := fun k => if k = i then x else d k
theorem ins_step {i j : Nat} (h : j + 1 ≤ i) : upd (upd (ins d i (j + 1)) (j + 1) (ins d i (j + 1) j)) j (ins d i (j + 1) (j + 1)) = ins d i j := by
  funext k; unfold upd ins
  repeat' split
  all_goals first | rfl | omega | (congr 1; omega)
/-- the element at a is put at j, those up to j go one down -/
def sni (d : Nat → Nat) (a j : Nat) : Nat → Nat := fun k => if k = j then d a else if a ≤ k ∧ k < j then d (k + 1) else d k
theorem sni_self : sni d a a = d := by
  funext k; unfold sni
  by_cases h : k = a
  · rw [if_pos h, h]
  · rw [if_neg h, if_neg (by omega)]
theorem sni_perm {i j : Nat} (h : i ≤ j) (ha : a ≤ i) (he : j < e) : Perm a e d (sni d i j) := by
  refine ⟨fun k => if k = j then i else if i ≤ k ∧ k < j then k + 1 else k, fun k => if k = i then j else if i < k ∧ k ≤ j then k - 1 else k, fun k => ?_, fun k => ?_, fun k hk => ?_, fun k => ?_⟩
  · dsimp only; repeat' split
    all_goals omega
  · dsimp only; repeat' split
    all_goals omega
  · dsimp only; repeat' split
    all_goals omega
  · unfold sni; dsimp only
    split
    · rfl
    · split <;> rfl
theorem sni_step {j : Nat} (h : a ≤ j) : upd (upd (sni d a j) j (sni d a j (j + 1))) (j + 1) (sni d a j j) = sni d a (j + 1) := by
  funext k; unfold upd sni
  repeat' split
  all_goals first | rfl | omega | (congr 1; omega)
/-- two runs of places, one of p, from x and one from y, change places: k of p are done -/
def swp (d : Nat → Nat) (x y k : Nat) : Nat → Nat := fun q => if x ≤ q ∧ q < x + k then d (q - x + y) else if y ≤ q ∧ q < y + k then d (q - y + x) else d q
theorem swp_zero {x y : Nat} : swp d x y 0 = d := by
  funext q; unfold swp; rw [if_neg (by omega), if_neg (by omega)]
theorem swp_step {x y k : Nat} (h : x + k < y) : upd (upd (swp d x y k) (x + k) (swp d x y k (y + k))) (y + k) (swp d x y k (x + k)) = swp d x y (k + 1) := by
  funext q; unfold upd swp
  repeat' split
  all_goals first | rfl | omega | (congr 1; omega)
/-- the runs from a to m, and from m to e, change places -/
def rot (d : Nat → Nat) (a m e : Nat) : Nat → Nat := fun q => if a ≤ q ∧ q < a + (e - m) then d (q - a + m) else if a + (e - m) ≤ q ∧ q < e then d (q - (e - m)) else d q
theorem rot_perm {m : Nat} (ha : a ≤ m) (he : m ≤ e) : Perm a e d (rot d a m e) := by
  refine ⟨fun q => if a ≤ q ∧ q < a + (e - m) then q - a + m else if a + (e - m) ≤ q ∧ q < e then q - (e - m) else q, fun q => if a ≤ q ∧ q < m then q + (e - m) else if m ≤ q ∧ q < e then q - m + a else q, fun k => ?_, fun k => ?_, fun k hk => ?_, fun k => ?_⟩
  · dsimp only; repeat' split
    all_goals omega
  · dsimp only; repeat' split
    all_goals omega
  · dsimp only; repeat' split
    all_goals omega
  · unfold rot; dsimp only
    split
    · rfl
    · split <;> rfl
theorem rot_same {m i : Nat} (h : i ≤ m) : swp d (m - i) m i = rot d (m - i) m (m + i) := by
  funext q; unfold swp rot
  repeat' split
  all_goals first | rfl | omega | (congr 1; omega)
theorem rot_gt {m i j : Nat} (h : i ≤ m) (hj : j < i) : rot (swp d (m - i) m j) (m - (i - j)) m (m + j) = rot d (m - i) m (m + j) := by
  funext q; unfold swp rot
  dsimp only
  repeat' split
  all_goals first | rfl | omega | (congr 1; omega)
theorem rot_lt {m i j : Nat} (h : i ≤ m) (hj : i < j) : rot (swp d (m - i) (m + j - i) i) (m - i) m (m + (j - i)) = rot d (m - i) m (m + j) := by
  funext q; unfold swp rot
  dsimp only
  repeat' split
  all_goals first | rfl | omega | (congr 1; omega)
end
end Go.Qs

/-
  Sorting, in plain words: an order, rows that are sorted, merging. No program is named here.
-/
namespace Go.Qs

structure Wk (lt : Nat → Nat → Prop) : Prop where
  irr : ∀ x, ¬ lt x x
  tr : ∀ x y z, lt x y → lt y z → lt x z
  neg : ∀ x y z, ¬ lt x y → ¬ lt y z → ¬ lt x z
/-- .. and what is alike stands by its number -/
def R (lt : Nat → Nat → Prop) (x y : Nat) : Prop := lt x y ∨ (¬ lt y x ∧ x < y)
section
variable {lt : Nat → Nat → Prop} (hw : Wk lt)
include hw
theorem R.trans {x y z : Nat} (h : R lt x y) (h' : R lt y z) : R lt x z := by
  rcases h with h | ⟨h, h2⟩
  · rcases h' with g | ⟨g, g2⟩
    · exact .inl (hw.tr _ _ _ h g)
    · by_cases e : lt x z
      · exact .inl e
      · exact absurd h (hw.neg _ _ _ e g)
  · rcases h' with g | ⟨g, g2⟩
    · by_cases e : lt x z
      · exact .inl e
      · exact absurd g (hw.neg _ _ _ h e)
    · exact .inr ⟨hw.neg _ _ _ g h, by omega⟩
theorem R.asymm {x y : Nat} (h : R lt x y) : ¬ R lt y x := by
  rintro h'
  rcases h with h | ⟨h, h2⟩
  · rcases h' with g | ⟨g, g2⟩
    · exact hw.irr _ (hw.tr _ _ _ h g)
    · exact g h
  · rcases h' with g | ⟨g, g2⟩
    · exact h g
    · omega
end
variable {lt : Nat → Nat → Prop}
theorem R.total {x y : Nat} (h : x ≠ y) : R lt x y ∨ R lt y x := by
  unfold R
  by_cases a : lt x y
  · exact .inl (.inl a)
  · by_cases b : lt y x
    · exact .inr (.inl b)
    · by_cases c : x < y
      · exact .inl (.inr ⟨b, c⟩)
      · exact .inr (.inr ⟨a, by omega⟩)
theorem R.not {x y : Nat} (h : ¬ lt y x) (hx : x < y) : R lt x y := .inr ⟨h, hx⟩

def Sorted (lt : Nat → Nat → Prop) (a e : Nat) (d : Nat → Nat) : Prop := ∀ i j, a ≤ i → i < j → j < e → R lt (d i) (d j)
def Cross (a m e : Nat) (d : Nat → Nat) : Prop := ∀ i j, a ≤ i → i < m → m ≤ j → j < e → d i < d j

variable {a m e : Nat} {d : Nat → Nat} (hw : Wk lt)
include hw
theorem ins_sorted {i j : Nat} (hs : Sorted lt a i d) (hj : a ≤ j) (hji : j ≤ i) (h1 : j = a ∨ R lt (d (j - 1)) (d i)) (h2 : j = i ∨ R lt (d i) (d j)) : Sorted lt a (i + 1) (ins d i j) := by
  intro p q hp hpq hq
  unfold ins
  by_cases e1 : p = j
  · rw [if_pos e1, if_neg (by omega), if_pos (by omega)]
    rcases h2 with h2 | h2
    · omega
    · by_cases e2 : q - 1 = j
      · rw [e2]; exact h2
      · exact h2.trans hw (hs _ _ (by omega) (by omega) (by omega))
  · rw [if_neg e1]
    by_cases e2 : q = j
    · rw [if_pos e2, if_neg (by omega)]
      rcases h1 with h1 | h1
      · omega
      · by_cases e3 : p = j - 1
        · rw [e3]; exact h1
        · exact R.trans hw (hs _ _ (by omega) (by omega) (by omega)) h1
    · rw [if_neg e2]
      split
      · rw [if_pos (by omega)]; exact hs _ _ (by omega) (by omega) (by omega)
      · split
        · by_cases e4 : p = q - 1
          · omega
          · exact hs _ _ (by omega) (by omega) (by omega)
        · exact hs _ _ (by omega) (by omega) (by omega)
theorem sni_sorted {i : Nat} (hs : Sorted lt (a + 1) e d) (hi : a + 1 ≤ i) (hie : i ≤ e) (h1 : i = a + 1 ∨ R lt (d (i - 1)) (d a)) (h2 : i = e ∨ R lt (d a) (d i)) : Sorted lt a e (sni d a (i - 1)) := by
  intro p q hp hpq hq
  unfold sni
  by_cases e1 : p = i - 1
  · rw [if_pos e1, if_neg (by omega), if_neg (by omega)]
    rcases h2 with h2 | h2
    · omega
    · by_cases e2 : q = i
      · rw [e2]; exact h2
      · exact h2.trans hw (hs _ _ (by omega) (by omega) (by omega))
  · rw [if_neg e1]
    by_cases e2 : q = i - 1
    · rw [if_pos e2, if_pos (by omega)]
      rcases h1 with h1 | h1
      · omega
      · by_cases e3 : p + 1 = i - 1
        · rw [e3]; exact h1
        · exact R.trans hw (hs _ _ (by omega) (by omega) (by omega)) h1
    · rw [if_neg e2]
      split
      · split
        · exact hs _ _ (by omega) (by omega) (by omega)
        · exact hs _ _ (by omega) (by omega) (by omega)
      · rw [if_neg (by omega)]; exact hs _ _ (by omega) (by omega) (by omega)
omit hw in
theorem rot_nil {s t : Nat} (h : s = m ∨ t = m) (hs : s ≤ m) (ht : m ≤ t) : rot d s m t = d := by
  funext q; unfold rot
  repeat' split
  all_goals first | rfl | omega | (congr 1; omega)
/-- THE CUT of a merge: two lesser merges are left, all in the first less than all in the second -/
theorem cut_ok {s t c : Nat} (hsu : Sorted lt a m d) (hsv : Sorted lt m e d) (hc : Cross a m e d) (h1 : a ≤ s) (h2 : s ≤ m) (h3 : m ≤ t) (h4 : t ≤ e) (h5 : s + t = c + m)
    (hA : s = a ∨ t = e ∨ R lt (d (s - 1)) (d t)) (hB : s = m ∨ t = m ∨ R lt (d (t - 1)) (d s)) :
    Sorted lt a s (rot d s m t) ∧ Sorted lt s c (rot d s m t) ∧ Cross a s c (rot d s m t) ∧ Sorted lt c t (rot d s m t) ∧ Sorted lt t e (rot d s m t) ∧ Cross c t e (rot d s m t) ∧ ∀ p q, a ≤ p → p < c → c ≤ q → q < e → R lt (rot d s m t p) (rot d s m t q) := by
  have v0 : ∀ q, q < s → rot d s m t q = d q := fun q hq => by unfold rot; rw [if_neg (by omega), if_neg (by omega)]
  have v1 : ∀ q, s ≤ q → q < c → rot d s m t q = d (q - s + m) := fun q h h' => by unfold rot; rw [if_pos (by omega)]
  have v2 : ∀ q, c ≤ q → q < t → rot d s m t q = d (q - (t - m)) := fun q h h' => by unfold rot; rw [if_neg (by omega), if_pos (by omega)]
  have v3 : ∀ q, t ≤ q → rot d s m t q = d q := fun q hq => by unfold rot; rw [if_neg (by omega), if_neg (by omega)]
  refine ⟨fun p q x y z => ?_, fun p q x y z => ?_, fun p q x y z w => ?_, fun p q x y z => ?_, fun p q x y z => ?_, fun p q x y z w => ?_, fun p q x y z w => ?_⟩
  · rw [v0 _ (by omega), v0 _ (by omega)]; exact hsu _ _ x y (by omega)
  · rw [v1 _ (by omega) (by omega), v1 _ (by omega) (by omega)]; exact hsv _ _ (by omega) (by omega) (by omega)
  · rw [v0 _ (by omega), v1 _ (by omega) (by omega)]; exact hc _ _ (by omega) (by omega) (by omega) (by omega)
  · rw [v2 _ (by omega) (by omega), v2 _ (by omega) (by omega)]; exact hsu _ _ (by omega) (by omega) (by omega)
  · rw [v3 _ (by omega), v3 _ (by omega)]; exact hsv _ _ (by omega) (by omega) (by omega)
  · rw [v2 _ (by omega) (by omega), v3 _ (by omega)]; exact hc _ _ (by omega) (by omega) (by omega) (by omega)
  · by_cases p1 : p < s
    · rw [v0 p p1]
      by_cases q1 : q < t
      · rw [v2 q z q1]; exact hsu _ _ (by omega) (by omega) (by omega)
      · rw [v3 q (by omega)]
        have h6 : R lt (d (s - 1)) (d t) := by rcases hA with h | h | h; · omega
                                               · omega
                                               · exact h
        have h7 : R lt (d p) (d t) := by
          by_cases e1 : p = s - 1
          · rw [e1]; exact h6
          · exact R.trans hw (hsu _ _ (by omega) (by omega) (by omega)) h6
        by_cases e2 : q = t
        · rw [e2]; exact h7
        · exact h7.trans hw (hsv _ _ (by omega) (by omega) (by omega))
    · rw [v1 p (by omega) y]
      by_cases q1 : q < t
      · rw [v2 q z q1]
        have h6 : R lt (d (t - 1)) (d s) := by rcases hB with h | h | h; · omega
                                               · omega
                                               · exact h
        have h7 : R lt (d (p - s + m)) (d s) := by
          by_cases e1 : p - s + m = t - 1
          · rw [e1]; exact h6
          · exact R.trans hw (hsv _ _ (by omega) (by omega) (by omega)) h6
        by_cases e2 : q - (t - m) = s
        · rw [e2]; exact h7
        · exact h7.trans hw (hsu _ _ (by omega) (by omega) (by omega))
      · rw [v3 q (by omega)]; exact hsv _ _ (by omega) (by omega) (by omega)
omit hw in
theorem join_sorted {c : Nat} {d' d1 d2 : Nat → Nat} (h3 : ∀ p q, a ≤ p → p < c → c ≤ q → q < e → R lt (d' p) (d' q)) (hac : a ≤ c) (hce : c ≤ e) (p1 : Perm a c d' d1) (s1 : Sorted lt a c d1) (p2 : Perm c e d1 d2) (s2 : Sorted lt c e d2) : Sorted lt a e d2 := by
  intro p q x y z
  by_cases q1 : q < c
  · rw [p2.out (.inl (by omega)), p2.out (.inl q1)]; exact s1 _ _ x y q1
  · by_cases p1' : p < c
    · rw [p2.out (.inl p1')]
      obtain ⟨i, i1, i2, i3⟩ := p1.at x p1'
      obtain ⟨j, j1, j2, j3⟩ := p2.at (k := q) (by omega) z
      rw [i3, j3, p1.out (.inr (by omega))]
      exact h3 _ _ i1 i2 j1 j2
    · exact s2 _ _ (by omega) y z
end Go.Qs

namespace Go.Proofs.Ytlfednnfkejcjaa
open Go.Am
/-- the common rules -/
theorem SS : type_of% (And.intro @ret_seq <| And.intro @ret_seq_ret <| And.intro @ret_seq_exit <| And.intro @ret_blk <| And.intro @ret_blk_ret <| And.intro @ret_blk_exit <| And.intro @ret_nil <| And.intro @gt_same <| And.intro @gt_other <| And.intro @gt_leaf <| And.intro @l1_one <| And.intro @l2_two <| And.intro @l3_three <| And.intro @g_loc0 <| And.intro @g_locS <| And.intro @g_tmp <| And.intro @g_cst <| And.intro @b_lss <| And.intro @b_leq <| And.intro @b_gtr <| And.intro @b_geq <| And.intro @b_add <| And.intro @b_sub <| And.intro @b_mul <| And.intro @b_eql <| And.intro @b_neq <| And.intro @b_eqlS <| And.intro @b_neqS <| And.intro @u_not <| And.intro @w_true <| And.intro @w_false <| And.intro @eBool_bool <| And.intro @resA_nil <| And.intro @resA_tmp <| And.intro @resA_cell <| And.intro @okP_true <| And.intro @okP_false <| And.intro @tupled_nil <| And.intro @tupled_one <| And.intro @tupled_more <| And.intro @t_nth <| And.intro @m_load <| And.intro @m_loadN <| And.intro @m_store <| And.intro @n_ptr <| And.intro @Bool.not_true <| And.intro @Bool.not_false <| And.intro @decide_true <| And.intro @decide_false <| And.intro @mx_int <| And.intro @mn_int <| And.intro @Nat.add_zero <| And.intro @Nat.zero_add <| And.intro @app'_eq <| And.intro @o_bool <| And.intro @o_int <| And.intro @o_str <| And.intro @o_ptr <| And.intro @o_slice <| And.intro @o_map <| And.intro @Bool.and_self <| And.intro @box_agg <| And.intro @st_agg <| And.intro @Nat.mul_one <| And.intro @Nat.zero_mul <| @Nat.sub_zero) := And.intro @ret_seq <| And.intro @ret_seq_ret <| And.intro @ret_seq_exit <| And.intro @ret_blk <| And.intro @ret_blk_ret <| And.intro @ret_blk_exit <| And.intro @ret_nil <| And.intro @gt_same <| And.intro @gt_other <| And.intro @gt_leaf <| And.intro @l1_one <| And.intro @l2_two <| And.intro @l3_three <| And.intro @g_loc0 <| And.intro @g_locS <| And.intro @g_tmp <| And.intro @g_cst <| And.intro @b_lss <| And.intro @b_leq <| And.intro @b_gtr <| And.intro @b_geq <| And.intro @b_add <| And.intro @b_sub <| And.intro @b_mul <| And.intro @b_eql <| And.intro @b_neq <| And.intro @b_eqlS <| And.intro @b_neqS <| And.intro @u_not <| And.intro @w_true <| And.intro @w_false <| And.intro @eBool_bool <| And.intro @resA_nil <| And.intro @resA_tmp <| And.intro @resA_cell <| And.intro @okP_true <| And.intro @okP_false <| And.intro @tupled_nil <| And.intro @tupled_one <| And.intro @tupled_more <| And.intro @t_nth <| And.intro @m_load <| And.intro @m_loadN <| And.intro @m_store <| And.intro @n_ptr <| And.intro @Bool.not_true <| And.intro @Bool.not_false <| And.intro @decide_true <| And.intro @decide_false <| And.intro @mx_int <| And.intro @mn_int <| And.intro @Nat.add_zero <| And.intro @Nat.zero_add <| And.intro @app'_eq <| And.intro @o_bool <| And.intro @o_int <| And.intro @o_str <| And.intro @o_ptr <| And.intro @o_slice <| And.intro @o_map <| And.intro @Bool.and_self <| And.intro @box_agg <| And.intro @st_agg <| And.intro @Nat.mul_one <| And.intro @Nat.zero_mul <| @Nat.sub_zero
/-- the rules of function 4 -/
theorem F4 : type_of% (And.intro r4_1 <| And.intro r4_4 <| And.intro r4_7 <| And.intro r4_8 <| And.intro r4_6 <| And.intro r4_9 <| And.intro r4_5 <| And.intro r4_3 <| And.intro r4_11 <| And.intro r4_13 <| And.intro r4_15 <| And.intro r4_17 <| And.intro r4_20 <| And.intro r4_23 <| And.intro r4_24 <| And.intro r4_22 <| And.intro r4_25 <| And.intro r4_21 <| And.intro r4_19 <| And.intro r4_28 <| And.intro r4_33 <| And.intro r4_35 <| And.intro r4_36 <| And.intro r4_34 <| And.intro r4_32 <| And.intro r4_40 <| And.intro r4_43 <| And.intro r4_44 <| And.intro r4_42 <| And.intro r4_45 <| And.intro r4_41 <| And.intro r4_39 <| And.intro r4_38 <| And.intro r4_46 <| And.intro r4_37 <| And.intro r4_31 <| And.intro r4_29 <| And.intro r4_27 <| And.intro r4_48 <| And.intro r4_49 <| And.intro r4_47 <| And.intro r4_26 <| And.intro r4_18 <| And.intro r4_16 <| And.intro r4_14 <| And.intro r4_12 <| And.intro r4_10 <| And.intro r4_2 <| r4_0) := And.intro r4_1 <| And.intro r4_4 <| And.intro r4_7 <| And.intro r4_8 <| And.intro r4_6 <| And.intro r4_9 <| And.intro r4_5 <| And.intro r4_3 <| And.intro r4_11 <| And.intro r4_13 <| And.intro r4_15 <| And.intro r4_17 <| And.intro r4_20 <| And.intro r4_23 <| And.intro r4_24 <| And.intro r4_22 <| And.intro r4_25 <| And.intro r4_21 <| And.intro r4_19 <| And.intro r4_28 <| And.intro r4_33 <| And.intro r4_35 <| And.intro r4_36 <| And.intro r4_34 <| And.intro r4_32 <| And.intro r4_40 <| And.intro r4_43 <| And.intro r4_44 <| And.intro r4_42 <| And.intro r4_45 <| And.intro r4_41 <| And.intro r4_39 <| And.intro r4_38 <| And.intro r4_46 <| And.intro r4_37 <| And.intro r4_31 <| And.intro r4_29 <| And.intro r4_27 <| And.intro r4_48 <| And.intro r4_49 <| And.intro r4_47 <| And.intro r4_26 <| And.intro r4_18 <| And.intro r4_16 <| And.intro r4_14 <| And.intro r4_12 <| And.intro r4_10 <| And.intro r4_2 <| r4_0
/-- the rules of function 19 -/
theorem F19 : type_of% (And.intro r19_1 <| And.intro r19_4 <| And.intro r19_9 <| And.intro r19_11 <| And.intro r19_12 <| And.intro r19_10 <| And.intro r19_8 <| And.intro r19_16 <| And.intro r19_19 <| And.intro r19_20 <| And.intro r19_18 <| And.intro r19_21 <| And.intro r19_17 <| And.intro r19_15 <| And.intro r19_14 <| And.intro r19_22 <| And.intro r19_13 <| And.intro r19_7 <| And.intro r19_5 <| And.intro r19_3 <| And.intro r19_24 <| And.intro r19_25 <| And.intro r19_23 <| And.intro r19_2 <| r19_0) := And.intro r19_1 <| And.intro r19_4 <| And.intro r19_9 <| And.intro r19_11 <| And.intro r19_12 <| And.intro r19_10 <| And.intro r19_8 <| And.intro r19_16 <| And.intro r19_19 <| And.intro r19_20 <| And.intro r19_18 <| And.intro r19_21 <| And.intro r19_17 <| And.intro r19_15 <| And.intro r19_14 <| And.intro r19_22 <| And.intro r19_13 <| And.intro r19_7 <| And.intro r19_5 <| And.intro r19_3 <| And.intro r19_24 <| And.intro r19_25 <| And.intro r19_23 <| And.intro r19_2 <| r19_0
/-- the rules of function 21 -/
theorem F21 : type_of% (And.intro r21_1 <| And.intro r21_3 <| And.intro r21_6 <| And.intro r21_9 <| And.intro r21_13 <| And.intro r21_15 <| And.intro r21_16 <| And.intro r21_14 <| And.intro r21_12 <| And.intro r21_18 <| And.intro r21_19 <| And.intro r21_17 <| And.intro r21_11 <| And.intro r21_10 <| And.intro r21_7 <| And.intro r21_5 <| And.intro r21_22 <| And.intro r21_25 <| And.intro r21_26 <| And.intro r21_24 <| And.intro r21_27 <| And.intro r21_23 <| And.intro r21_21 <| And.intro r21_29 <| And.intro r21_30 <| And.intro r21_28 <| And.intro r21_4 <| And.intro r21_2 <| r21_0) := And.intro r21_1 <| And.intro r21_3 <| And.intro r21_6 <| And.intro r21_9 <| And.intro r21_13 <| And.intro r21_15 <| And.intro r21_16 <| And.intro r21_14 <| And.intro r21_12 <| And.intro r21_18 <| And.intro r21_19 <| And.intro r21_17 <| And.intro r21_11 <| And.intro r21_10 <| And.intro r21_7 <| And.intro r21_5 <| And.intro r21_22 <| And.intro r21_25 <| And.intro r21_26 <| And.intro r21_24 <| And.intro r21_27 <| And.intro r21_23 <| And.intro r21_21 <| And.intro r21_29 <| And.intro r21_30 <| And.intro r21_28 <| And.intro r21_4 <| And.intro r21_2 <| r21_0
/-- the rules of function 22 -/
theorem F22 : type_of% (And.intro r22_1 <| And.intro r22_3 <| And.intro r22_5 <| And.intro r22_7 <| And.intro r22_13 <| And.intro r22_15 <| And.intro r22_16 <| And.intro r22_14 <| And.intro r22_12 <| And.intro r22_19 <| And.intro r22_22 <| And.intro r22_25 <| And.intro r22_26 <| And.intro r22_24 <| And.intro r22_27 <| And.intro r22_23 <| And.intro r22_21 <| And.intro r22_29 <| And.intro r22_31 <| And.intro r22_33 <| And.intro r22_34 <| And.intro r22_32 <| And.intro r22_30 <| And.intro r22_28 <| And.intro r22_20 <| And.intro r22_18 <| And.intro r22_17 <| And.intro r22_11 <| And.intro r22_9 <| And.intro r22_36 <| And.intro r22_37 <| And.intro r22_35 <| And.intro r22_8 <| And.intro r22_6 <| And.intro r22_4 <| And.intro r22_2 <| r22_0) := And.intro r22_1 <| And.intro r22_3 <| And.intro r22_5 <| And.intro r22_7 <| And.intro r22_13 <| And.intro r22_15 <| And.intro r22_16 <| And.intro r22_14 <| And.intro r22_12 <| And.intro r22_19 <| And.intro r22_22 <| And.intro r22_25 <| And.intro r22_26 <| And.intro r22_24 <| And.intro r22_27 <| And.intro r22_23 <| And.intro r22_21 <| And.intro r22_29 <| And.intro r22_31 <| And.intro r22_33 <| And.intro r22_34 <| And.intro r22_32 <| And.intro r22_30 <| And.intro r22_28 <| And.intro r22_20 <| And.intro r22_18 <| And.intro r22_17 <| And.intro r22_11 <| And.intro r22_9 <| And.intro r22_36 <| And.intro r22_37 <| And.intro r22_35 <| And.intro r22_8 <| And.intro r22_6 <| And.intro r22_4 <| And.intro r22_2 <| r22_0
/-- the rules of function 23 -/
theorem F23 : type_of% (And.intro r23_1 <| And.intro r23_3 <| And.intro r23_6 <| And.intro r23_11 <| And.intro r23_13 <| And.intro r23_14 <| And.intro r23_12 <| And.intro r23_10 <| And.intro r23_17 <| And.intro r23_16 <| And.intro r23_18 <| And.intro r23_15 <| And.intro r23_9 <| And.intro r23_7 <| And.intro r23_5 <| And.intro r23_20 <| And.intro r23_21 <| And.intro r23_19 <| And.intro r23_4 <| And.intro r23_2 <| r23_0) := And.intro r23_1 <| And.intro r23_3 <| And.intro r23_6 <| And.intro r23_11 <| And.intro r23_13 <| And.intro r23_14 <| And.intro r23_12 <| And.intro r23_10 <| And.intro r23_17 <| And.intro r23_16 <| And.intro r23_18 <| And.intro r23_15 <| And.intro r23_9 <| And.intro r23_7 <| And.intro r23_5 <| And.intro r23_20 <| And.intro r23_21 <| And.intro r23_19 <| And.intro r23_4 <| And.intro r23_2 <| r23_0
/-- the rules of function 24 -/
theorem F24 : type_of% (And.intro r24_1 <| And.intro r24_4 <| And.intro r24_7 <| And.intro r24_8 <| And.intro r24_6 <| And.intro r24_9 <| And.intro r24_5 <| And.intro r24_3 <| And.intro r24_12 <| And.intro r24_17 <| And.intro r24_19 <| And.intro r24_20 <| And.intro r24_18 <| And.intro r24_16 <| And.intro r24_24 <| And.intro r24_27 <| And.intro r24_28 <| And.intro r24_26 <| And.intro r24_29 <| And.intro r24_25 <| And.intro r24_23 <| And.intro r24_22 <| And.intro r24_30 <| And.intro r24_21 <| And.intro r24_15 <| And.intro r24_13 <| And.intro r24_11 <| And.intro r24_32 <| And.intro r24_33 <| And.intro r24_31 <| And.intro r24_10 <| And.intro r24_2 <| r24_0) := And.intro r24_1 <| And.intro r24_4 <| And.intro r24_7 <| And.intro r24_8 <| And.intro r24_6 <| And.intro r24_9 <| And.intro r24_5 <| And.intro r24_3 <| And.intro r24_12 <| And.intro r24_17 <| And.intro r24_19 <| And.intro r24_20 <| And.intro r24_18 <| And.intro r24_16 <| And.intro r24_24 <| And.intro r24_27 <| And.intro r24_28 <| And.intro r24_26 <| And.intro r24_29 <| And.intro r24_25 <| And.intro r24_23 <| And.intro r24_22 <| And.intro r24_30 <| And.intro r24_21 <| And.intro r24_15 <| And.intro r24_13 <| And.intro r24_11 <| And.intro r24_32 <| And.intro r24_33 <| And.intro r24_31 <| And.intro r24_10 <| And.intro r24_2 <| r24_0
/-- the rules of function 25 -/
theorem F25 : type_of% (And.intro r25_1 <| And.intro r25_4 <| And.intro r25_8 <| And.intro r25_11 <| And.intro r25_12 <| And.intro r25_10 <| And.intro r25_16 <| And.intro r25_17 <| And.intro r25_15 <| And.intro r25_14 <| And.intro r25_18 <| And.intro r25_13 <| And.intro r25_9 <| And.intro r25_7 <| And.intro r25_5 <| And.intro r25_3 <| And.intro r25_20 <| And.intro r25_21 <| And.intro r25_19 <| And.intro r25_2 <| r25_0) := And.intro r25_1 <| And.intro r25_4 <| And.intro r25_8 <| And.intro r25_11 <| And.intro r25_12 <| And.intro r25_10 <| And.intro r25_16 <| And.intro r25_17 <| And.intro r25_15 <| And.intro r25_14 <| And.intro r25_18 <| And.intro r25_13 <| And.intro r25_9 <| And.intro r25_7 <| And.intro r25_5 <| And.intro r25_3 <| And.intro r25_20 <| And.intro r25_21 <| And.intro r25_19 <| And.intro r25_2 <| r25_0
/-- the rules of function 26 -/
theorem F26 : type_of% (And.intro r26_1 <| And.intro r26_3 <| And.intro r26_6 <| And.intro r26_11 <| And.intro r26_13 <| And.intro r26_14 <| And.intro r26_12 <| And.intro r26_10 <| And.intro r26_17 <| And.intro r26_16 <| And.intro r26_18 <| And.intro r26_15 <| And.intro r26_9 <| And.intro r26_7 <| And.intro r26_5 <| And.intro r26_20 <| And.intro r26_21 <| And.intro r26_19 <| And.intro r26_4 <| And.intro r26_2 <| r26_0) := And.intro r26_1 <| And.intro r26_3 <| And.intro r26_6 <| And.intro r26_11 <| And.intro r26_13 <| And.intro r26_14 <| And.intro r26_12 <| And.intro r26_10 <| And.intro r26_17 <| And.intro r26_16 <| And.intro r26_18 <| And.intro r26_15 <| And.intro r26_9 <| And.intro r26_7 <| And.intro r26_5 <| And.intro r26_20 <| And.intro r26_21 <| And.intro r26_19 <| And.intro r26_4 <| And.intro r26_2 <| r26_0
/-- the rules of function 59 -/
theorem F59 : type_of% (And.intro r59_1 <| And.intro r59_3 <| And.intro r59_4 <| And.intro r59_2 <| r59_0) := And.intro r59_1 <| And.intro r59_3 <| And.intro r59_4 <| And.intro r59_2 <| r59_0
/-- the rules of function 60 -/
theorem F60 : type_of% (And.intro r60_1 <| And.intro r60_3 <| And.intro r60_4 <| And.intro r60_2 <| r60_0) := And.intro r60_1 <| And.intro r60_3 <| And.intro r60_4 <| And.intro r60_2 <| r60_0
/-- the rules of function 61 -/
theorem F61 : type_of% (And.intro r61_1 <| And.intro r61_3 <| And.intro r61_6 <| And.intro r61_11 <| And.intro r61_13 <| And.intro r61_14 <| And.intro r61_12 <| And.intro r61_10 <| And.intro r61_18 <| And.intro r61_20 <| And.intro r61_21 <| And.intro r61_19 <| And.intro r61_17 <| And.intro r61_16 <| And.intro r61_22 <| And.intro r61_15 <| And.intro r61_9 <| And.intro r61_7 <| And.intro r61_5 <| And.intro r61_24 <| And.intro r61_25 <| And.intro r61_23 <| And.intro r61_4 <| And.intro r61_2 <| r61_0) := And.intro r61_1 <| And.intro r61_3 <| And.intro r61_6 <| And.intro r61_11 <| And.intro r61_13 <| And.intro r61_14 <| And.intro r61_12 <| And.intro r61_10 <| And.intro r61_18 <| And.intro r61_20 <| And.intro r61_21 <| And.intro r61_19 <| And.intro r61_17 <| And.intro r61_16 <| And.intro r61_22 <| And.intro r61_15 <| And.intro r61_9 <| And.intro r61_7 <| And.intro r61_5 <| And.intro r61_24 <| And.intro r61_25 <| And.intro r61_23 <| And.intro r61_4 <| And.intro r61_2 <| r61_0
/-- the rules of function 62 -/
theorem F62 : type_of% (And.intro r62_1 <| And.intro r62_4 <| And.intro r62_7 <| And.intro r62_8 <| And.intro r62_6 <| And.intro r62_9 <| And.intro r62_5 <| And.intro r62_3 <| And.intro r62_12 <| And.intro r62_15 <| And.intro r62_16 <| And.intro r62_14 <| And.intro r62_17 <| And.intro r62_13 <| And.intro r62_11 <| And.intro r62_19 <| And.intro r62_20 <| And.intro r62_18 <| And.intro r62_10 <| And.intro r62_2 <| r62_0) := And.intro r62_1 <| And.intro r62_4 <| And.intro r62_7 <| And.intro r62_8 <| And.intro r62_6 <| And.intro r62_9 <| And.intro r62_5 <| And.intro r62_3 <| And.intro r62_12 <| And.intro r62_15 <| And.intro r62_16 <| And.intro r62_14 <| And.intro r62_17 <| And.intro r62_13 <| And.intro r62_11 <| And.intro r62_19 <| And.intro r62_20 <| And.intro r62_18 <| And.intro r62_10 <| And.intro r62_2 <| r62_0
/-- the rules of function 83 -/
theorem F83 : type_of% (And.intro r83_1 <| And.intro r83_3 <| And.intro r83_6 <| And.intro r83_10 <| And.intro r83_13 <| And.intro r83_14 <| And.intro r83_12 <| And.intro r83_18 <| And.intro r83_19 <| And.intro r83_17 <| And.intro r83_16 <| And.intro r83_20 <| And.intro r83_15 <| And.intro r83_11 <| And.intro r83_9 <| And.intro r83_7 <| And.intro r83_5 <| And.intro r83_22 <| And.intro r83_26 <| And.intro r83_29 <| And.intro r83_30 <| And.intro r83_28 <| And.intro r83_34 <| And.intro r83_36 <| And.intro r83_38 <| And.intro r83_39 <| And.intro r83_37 <| And.intro r83_35 <| And.intro r83_33 <| And.intro r83_32 <| And.intro r83_40 <| And.intro r83_31 <| And.intro r83_27 <| And.intro r83_25 <| And.intro r83_23 <| And.intro r83_21 <| And.intro r83_4 <| And.intro r83_2 <| r83_0) := And.intro r83_1 <| And.intro r83_3 <| And.intro r83_6 <| And.intro r83_10 <| And.intro r83_13 <| And.intro r83_14 <| And.intro r83_12 <| And.intro r83_18 <| And.intro r83_19 <| And.intro r83_17 <| And.intro r83_16 <| And.intro r83_20 <| And.intro r83_15 <| And.intro r83_11 <| And.intro r83_9 <| And.intro r83_7 <| And.intro r83_5 <| And.intro r83_22 <| And.intro r83_26 <| And.intro r83_29 <| And.intro r83_30 <| And.intro r83_28 <| And.intro r83_34 <| And.intro r83_36 <| And.intro r83_38 <| And.intro r83_39 <| And.intro r83_37 <| And.intro r83_35 <| And.intro r83_33 <| And.intro r83_32 <| And.intro r83_40 <| And.intro r83_31 <| And.intro r83_27 <| And.intro r83_25 <| And.intro r83_23 <| And.intro r83_21 <| And.intro r83_4 <| And.intro r83_2 <| r83_0
/-- the rules of function 84 -/
theorem F84 : type_of% (And.intro r84_1 <| And.intro r84_3 <| And.intro r84_6 <| And.intro r84_10 <| And.intro r84_13 <| And.intro r84_14 <| And.intro r84_12 <| And.intro r84_18 <| And.intro r84_19 <| And.intro r84_17 <| And.intro r84_16 <| And.intro r84_20 <| And.intro r84_15 <| And.intro r84_11 <| And.intro r84_9 <| And.intro r84_7 <| And.intro r84_5 <| And.intro r84_22 <| And.intro r84_24 <| And.intro r84_25 <| And.intro r84_23 <| And.intro r84_21 <| And.intro r84_4 <| And.intro r84_2 <| r84_0) := And.intro r84_1 <| And.intro r84_3 <| And.intro r84_6 <| And.intro r84_10 <| And.intro r84_13 <| And.intro r84_14 <| And.intro r84_12 <| And.intro r84_18 <| And.intro r84_19 <| And.intro r84_17 <| And.intro r84_16 <| And.intro r84_20 <| And.intro r84_15 <| And.intro r84_11 <| And.intro r84_9 <| And.intro r84_7 <| And.intro r84_5 <| And.intro r84_22 <| And.intro r84_24 <| And.intro r84_25 <| And.intro r84_23 <| And.intro r84_21 <| And.intro r84_4 <| And.intro r84_2 <| r84_0
/-- the rules of function 85 -/
theorem F85 : type_of% (And.intro r85_1 <| And.intro r85_4 <| And.intro r85_9 <| And.intro r85_11 <| And.intro r85_12 <| And.intro r85_10 <| And.intro r85_8 <| And.intro r85_16 <| And.intro r85_19 <| And.intro r85_20 <| And.intro r85_18 <| And.intro r85_21 <| And.intro r85_17 <| And.intro r85_15 <| And.intro r85_14 <| And.intro r85_22 <| And.intro r85_13 <| And.intro r85_7 <| And.intro r85_5 <| And.intro r85_3 <| And.intro r85_24 <| And.intro r85_25 <| And.intro r85_23 <| And.intro r85_2 <| r85_0) := And.intro r85_1 <| And.intro r85_4 <| And.intro r85_9 <| And.intro r85_11 <| And.intro r85_12 <| And.intro r85_10 <| And.intro r85_8 <| And.intro r85_16 <| And.intro r85_19 <| And.intro r85_20 <| And.intro r85_18 <| And.intro r85_21 <| And.intro r85_17 <| And.intro r85_15 <| And.intro r85_14 <| And.intro r85_22 <| And.intro r85_13 <| And.intro r85_7 <| And.intro r85_5 <| And.intro r85_3 <| And.intro r85_24 <| And.intro r85_25 <| And.intro r85_23 <| And.intro r85_2 <| r85_0
/-- the rules of function 86 -/
theorem F86 : type_of% (And.intro r86_1 <| And.intro r86_4 <| And.intro r86_7 <| And.intro r86_8 <| And.intro r86_6 <| And.intro r86_9 <| And.intro r86_5 <| And.intro r86_3 <| And.intro r86_12 <| And.intro r86_15 <| And.intro r86_16 <| And.intro r86_14 <| And.intro r86_17 <| And.intro r86_13 <| And.intro r86_11 <| And.intro r86_19 <| And.intro r86_20 <| And.intro r86_18 <| And.intro r86_10 <| And.intro r86_2 <| r86_0) := And.intro r86_1 <| And.intro r86_4 <| And.intro r86_7 <| And.intro r86_8 <| And.intro r86_6 <| And.intro r86_9 <| And.intro r86_5 <| And.intro r86_3 <| And.intro r86_12 <| And.intro r86_15 <| And.intro r86_16 <| And.intro r86_14 <| And.intro r86_17 <| And.intro r86_13 <| And.intro r86_11 <| And.intro r86_19 <| And.intro r86_20 <| And.intro r86_18 <| And.intro r86_10 <| And.intro r86_2 <| r86_0
/-- the rules of function 97 -/
theorem F97 : type_of% (r97_0) := r97_0
/-- the rules of function 98 -/
theorem F98 : type_of% (And.intro r98_1 <| And.intro r98_3 <| And.intro r98_4 <| And.intro r98_2 <| r98_0) := And.intro r98_1 <| And.intro r98_3 <| And.intro r98_4 <| And.intro r98_2 <| r98_0
/-- the rules of function 99 -/
theorem F99 : type_of% (And.intro r99_1 <| And.intro r99_3 <| And.intro r99_6 <| And.intro r99_10 <| And.intro r99_13 <| And.intro r99_14 <| And.intro r99_12 <| And.intro r99_18 <| And.intro r99_20 <| And.intro r99_23 <| And.intro r99_24 <| And.intro r99_22 <| And.intro r99_25 <| And.intro r99_21 <| And.intro r99_19 <| And.intro r99_17 <| And.intro r99_16 <| And.intro r99_26 <| And.intro r99_15 <| And.intro r99_11 <| And.intro r99_9 <| And.intro r99_7 <| And.intro r99_5 <| And.intro r99_28 <| And.intro r99_29 <| And.intro r99_27 <| And.intro r99_4 <| And.intro r99_2 <| r99_0) := And.intro r99_1 <| And.intro r99_3 <| And.intro r99_6 <| And.intro r99_10 <| And.intro r99_13 <| And.intro r99_14 <| And.intro r99_12 <| And.intro r99_18 <| And.intro r99_20 <| And.intro r99_23 <| And.intro r99_24 <| And.intro r99_22 <| And.intro r99_25 <| And.intro r99_21 <| And.intro r99_19 <| And.intro r99_17 <| And.intro r99_16 <| And.intro r99_26 <| And.intro r99_15 <| And.intro r99_11 <| And.intro r99_9 <| And.intro r99_7 <| And.intro r99_5 <| And.intro r99_28 <| And.intro r99_29 <| And.intro r99_27 <| And.intro r99_4 <| And.intro r99_2 <| r99_0
/-- the rules of function 100 -/
theorem F100 : type_of% (And.intro r100_1 <| And.intro r100_3 <| And.intro r100_5 <| And.intro r100_8 <| And.intro r100_12 <| And.intro r100_15 <| And.intro r100_16 <| And.intro r100_14 <| And.intro r100_17 <| And.intro r100_13 <| And.intro r100_11 <| And.intro r100_19 <| And.intro r100_20 <| And.intro r100_18 <| And.intro r100_10 <| And.intro r100_21 <| And.intro r100_9 <| And.intro r100_7 <| And.intro r100_24 <| And.intro r100_27 <| And.intro r100_28 <| And.intro r100_26 <| And.intro r100_29 <| And.intro r100_25 <| And.intro r100_23 <| And.intro r100_32 <| And.intro r100_35 <| And.intro r100_36 <| And.intro r100_34 <| And.intro r100_37 <| And.intro r100_33 <| And.intro r100_31 <| And.intro r100_40 <| And.intro r100_43 <| And.intro r100_44 <| And.intro r100_42 <| And.intro r100_45 <| And.intro r100_41 <| And.intro r100_39 <| And.intro r100_47 <| And.intro r100_48 <| And.intro r100_46 <| And.intro r100_38 <| And.intro r100_30 <| And.intro r100_22 <| And.intro r100_6 <| And.intro r100_4 <| And.intro r100_2 <| r100_0) := And.intro r100_1 <| And.intro r100_3 <| And.intro r100_5 <| And.intro r100_8 <| And.intro r100_12 <| And.intro r100_15 <| And.intro r100_16 <| And.intro r100_14 <| And.intro r100_17 <| And.intro r100_13 <| And.intro r100_11 <| And.intro r100_19 <| And.intro r100_20 <| And.intro r100_18 <| And.intro r100_10 <| And.intro r100_21 <| And.intro r100_9 <| And.intro r100_7 <| And.intro r100_24 <| And.intro r100_27 <| And.intro r100_28 <| And.intro r100_26 <| And.intro r100_29 <| And.intro r100_25 <| And.intro r100_23 <| And.intro r100_32 <| And.intro r100_35 <| And.intro r100_36 <| And.intro r100_34 <| And.intro r100_37 <| And.intro r100_33 <| And.intro r100_31 <| And.intro r100_40 <| And.intro r100_43 <| And.intro r100_44 <| And.intro r100_42 <| And.intro r100_45 <| And.intro r100_41 <| And.intro r100_39 <| And.intro r100_47 <| And.intro r100_48 <| And.intro r100_46 <| And.intro r100_38 <| And.intro r100_30 <| And.intro r100_22 <| And.intro r100_6 <| And.intro r100_4 <| And.intro r100_2 <| r100_0
/-- the rules of function 106 -/
theorem F106 : type_of% (And.intro r106_1 <| And.intro r106_3 <| And.intro r106_9 <| And.intro r106_11 <| And.intro r106_12 <| And.intro r106_10 <| And.intro r106_8 <| And.intro r106_15 <| And.intro r106_17 <| And.intro r106_18 <| And.intro r106_16 <| And.intro r106_14 <| And.intro r106_13 <| And.intro r106_7 <| And.intro r106_5 <| And.intro r106_20 <| And.intro r106_25 <| And.intro r106_27 <| And.intro r106_28 <| And.intro r106_26 <| And.intro r106_24 <| And.intro r106_31 <| And.intro r106_37 <| And.intro r106_39 <| And.intro r106_40 <| And.intro r106_38 <| And.intro r106_36 <| And.intro r106_43 <| And.intro r106_45 <| And.intro r106_46 <| And.intro r106_44 <| And.intro r106_42 <| And.intro r106_41 <| And.intro r106_35 <| And.intro r106_33 <| And.intro r106_49 <| And.intro r106_51 <| And.intro r106_53 <| And.intro r106_54 <| And.intro r106_52 <| And.intro r106_50 <| And.intro r106_48 <| And.intro r106_55 <| And.intro r106_47 <| And.intro r106_32 <| And.intro r106_30 <| And.intro r106_29 <| And.intro r106_23 <| And.intro r106_19 <| And.intro r106_4 <| And.intro r106_2 <| r106_0) := And.intro r106_1 <| And.intro r106_3 <| And.intro r106_9 <| And.intro r106_11 <| And.intro r106_12 <| And.intro r106_10 <| And.intro r106_8 <| And.intro r106_15 <| And.intro r106_17 <| And.intro r106_18 <| And.intro r106_16 <| And.intro r106_14 <| And.intro r106_13 <| And.intro r106_7 <| And.intro r106_5 <| And.intro r106_20 <| And.intro r106_25 <| And.intro r106_27 <| And.intro r106_28 <| And.intro r106_26 <| And.intro r106_24 <| And.intro r106_31 <| And.intro r106_37 <| And.intro r106_39 <| And.intro r106_40 <| And.intro r106_38 <| And.intro r106_36 <| And.intro r106_43 <| And.intro r106_45 <| And.intro r106_46 <| And.intro r106_44 <| And.intro r106_42 <| And.intro r106_41 <| And.intro r106_35 <| And.intro r106_33 <| And.intro r106_49 <| And.intro r106_51 <| And.intro r106_53 <| And.intro r106_54 <| And.intro r106_52 <| And.intro r106_50 <| And.intro r106_48 <| And.intro r106_55 <| And.intro r106_47 <| And.intro r106_32 <| And.intro r106_30 <| And.intro r106_29 <| And.intro r106_23 <| And.intro r106_19 <| And.intro r106_4 <| And.intro r106_2 <| r106_0
/-- the rules of function 107 -/
theorem F107 : type_of% (And.intro r107_1 <| And.intro r107_3 <| And.intro r107_4 <| And.intro r107_2 <| r107_0) := And.intro r107_1 <| And.intro r107_3 <| And.intro r107_4 <| And.intro r107_2 <| r107_0
/-- the rules of function 111 -/
theorem F111 : type_of% (And.intro r111_1 <| And.intro r111_6 <| And.intro r111_8 <| And.intro r111_9 <| And.intro r111_7 <| And.intro r111_5 <| And.intro r111_13 <| And.intro r111_18 <| And.intro r111_20 <| And.intro r111_21 <| And.intro r111_19 <| And.intro r111_17 <| And.intro r111_24 <| And.intro r111_23 <| And.intro r111_25 <| And.intro r111_22 <| And.intro r111_16 <| And.intro r111_14 <| And.intro r111_12 <| And.intro r111_11 <| And.intro r111_26 <| And.intro r111_10 <| And.intro r111_4 <| And.intro r111_2 <| r111_0) := And.intro r111_1 <| And.intro r111_6 <| And.intro r111_8 <| And.intro r111_9 <| And.intro r111_7 <| And.intro r111_5 <| And.intro r111_13 <| And.intro r111_18 <| And.intro r111_20 <| And.intro r111_21 <| And.intro r111_19 <| And.intro r111_17 <| And.intro r111_24 <| And.intro r111_23 <| And.intro r111_25 <| And.intro r111_22 <| And.intro r111_16 <| And.intro r111_14 <| And.intro r111_12 <| And.intro r111_11 <| And.intro r111_26 <| And.intro r111_10 <| And.intro r111_4 <| And.intro r111_2 <| r111_0
/-- the rules of function 112 -/
theorem F112 : type_of% (And.intro r112_2 <| And.intro r112_5 <| And.intro r112_7 <| And.intro r112_13 <| And.intro r112_15 <| And.intro r112_16 <| And.intro r112_14 <| And.intro r112_12 <| And.intro r112_19 <| And.intro r112_21 <| And.intro r112_23 <| And.intro r112_24 <| And.intro r112_22 <| And.intro r112_20 <| And.intro r112_18 <| And.intro r112_17 <| And.intro r112_11 <| And.intro r112_9 <| And.intro r112_27 <| And.intro r112_32 <| And.intro r112_34 <| And.intro r112_35 <| And.intro r112_33 <| And.intro r112_31 <| And.intro r112_38 <| And.intro r112_37 <| And.intro r112_39 <| And.intro r112_36 <| And.intro r112_30 <| And.intro r112_28 <| And.intro r112_26 <| And.intro r112_40 <| And.intro r112_25 <| And.intro r112_8 <| And.intro r112_6 <| And.intro r112_4 <| And.intro r112_41 <| And.intro r112_3 <| And.intro r112_1 <| And.intro r112_44 <| And.intro r112_47 <| And.intro r112_49 <| And.intro r112_55 <| And.intro r112_57 <| And.intro r112_58 <| And.intro r112_56 <| And.intro r112_54 <| And.intro r112_61 <| And.intro r112_63 <| And.intro r112_65 <| And.intro r112_66 <| And.intro r112_64 <| And.intro r112_62 <| And.intro r112_60 <| And.intro r112_59 <| And.intro r112_53 <| And.intro r112_51 <| And.intro r112_69 <| And.intro r112_74 <| And.intro r112_76 <| And.intro r112_77 <| And.intro r112_75 <| And.intro r112_73 <| And.intro r112_80 <| And.intro r112_79 <| And.intro r112_81 <| And.intro r112_78 <| And.intro r112_72 <| And.intro r112_70 <| And.intro r112_68 <| And.intro r112_82 <| And.intro r112_67 <| And.intro r112_50 <| And.intro r112_48 <| And.intro r112_46 <| And.intro r112_83 <| And.intro r112_45 <| And.intro r112_43 <| And.intro r112_85 <| And.intro r112_87 <| And.intro r112_89 <| And.intro r112_92 <| And.intro r112_95 <| And.intro r112_96 <| And.intro r112_94 <| And.intro r112_98 <| And.intro r112_99 <| And.intro r112_97 <| And.intro r112_93 <| And.intro r112_91 <| And.intro r112_101 <| And.intro r112_107 <| And.intro r112_109 <| And.intro r112_110 <| And.intro r112_108 <| And.intro r112_106 <| And.intro r112_113 <| And.intro r112_115 <| And.intro r112_117 <| And.intro r112_118 <| And.intro r112_116 <| And.intro r112_114 <| And.intro r112_112 <| And.intro r112_111 <| And.intro r112_105 <| And.intro r112_103 <| And.intro r112_120 <| And.intro r112_123 <| And.intro r112_125 <| And.intro r112_126 <| And.intro r112_124 <| And.intro r112_122 <| And.intro r112_129 <| And.intro r112_131 <| And.intro r112_132 <| And.intro r112_130 <| And.intro r112_128 <| And.intro r112_134 <| And.intro r112_136 <| And.intro r112_137 <| And.intro r112_135 <| And.intro r112_121 <| And.intro r112_119 <| And.intro r112_102 <| And.intro r112_90 <| And.intro r112_88 <| And.intro r112_86 <| And.intro r112_84 <| And.intro r112_42 <| r112_0) := And.intro r112_2 <| And.intro r112_5 <| And.intro r112_7 <| And.intro r112_13 <| And.intro r112_15 <| And.intro r112_16 <| And.intro r112_14 <| And.intro r112_12 <| And.intro r112_19 <| And.intro r112_21 <| And.intro r112_23 <| And.intro r112_24 <| And.intro r112_22 <| And.intro r112_20 <| And.intro r112_18 <| And.intro r112_17 <| And.intro r112_11 <| And.intro r112_9 <| And.intro r112_27 <| And.intro r112_32 <| And.intro r112_34 <| And.intro r112_35 <| And.intro r112_33 <| And.intro r112_31 <| And.intro r112_38 <| And.intro r112_37 <| And.intro r112_39 <| And.intro r112_36 <| And.intro r112_30 <| And.intro r112_28 <| And.intro r112_26 <| And.intro r112_40 <| And.intro r112_25 <| And.intro r112_8 <| And.intro r112_6 <| And.intro r112_4 <| And.intro r112_41 <| And.intro r112_3 <| And.intro r112_1 <| And.intro r112_44 <| And.intro r112_47 <| And.intro r112_49 <| And.intro r112_55 <| And.intro r112_57 <| And.intro r112_58 <| And.intro r112_56 <| And.intro r112_54 <| And.intro r112_61 <| And.intro r112_63 <| And.intro r112_65 <| And.intro r112_66 <| And.intro r112_64 <| And.intro r112_62 <| And.intro r112_60 <| And.intro r112_59 <| And.intro r112_53 <| And.intro r112_51 <| And.intro r112_69 <| And.intro r112_74 <| And.intro r112_76 <| And.intro r112_77 <| And.intro r112_75 <| And.intro r112_73 <| And.intro r112_80 <| And.intro r112_79 <| And.intro r112_81 <| And.intro r112_78 <| And.intro r112_72 <| And.intro r112_70 <| And.intro r112_68 <| And.intro r112_82 <| And.intro r112_67 <| And.intro r112_50 <| And.intro r112_48 <| And.intro r112_46 <| And.intro r112_83 <| And.intro r112_45 <| And.intro r112_43 <| And.intro r112_85 <| And.intro r112_87 <| And.intro r112_89 <| And.intro r112_92 <| And.intro r112_95 <| And.intro r112_96 <| And.intro r112_94 <| And.intro r112_98 <| And.intro r112_99 <| And.intro r112_97 <| And.intro r112_93 <| And.intro r112_91 <| And.intro r112_101 <| And.intro r112_107 <| And.intro r112_109 <| And.intro r112_110 <| And.intro r112_108 <| And.intro r112_106 <| And.intro r112_113 <| And.intro r112_115 <| And.intro r112_117 <| And.intro r112_118 <| And.intro r112_116 <| And.intro r112_114 <| And.intro r112_112 <| And.intro r112_111 <| And.intro r112_105 <| And.intro r112_103 <| And.intro r112_120 <| And.intro r112_123 <| And.intro r112_125 <| And.intro r112_126 <| And.intro r112_124 <| And.intro r112_122 <| And.intro r112_129 <| And.intro r112_131 <| And.intro r112_132 <| And.intro r112_130 <| And.intro r112_128 <| And.intro r112_134 <| And.intro r112_136 <| And.intro r112_137 <| And.intro r112_135 <| And.intro r112_121 <| And.intro r112_119 <| And.intro r112_102 <| And.intro r112_90 <| And.intro r112_88 <| And.intro r112_86 <| And.intro r112_84 <| And.intro r112_42 <| r112_0
/-- the rules of function 124 -/
theorem F124 : type_of% (And.intro r124_1 <| And.intro r124_3 <| And.intro r124_9 <| And.intro r124_11 <| And.intro r124_12 <| And.intro r124_10 <| And.intro r124_8 <| And.intro r124_15 <| And.intro r124_18 <| And.intro r124_19 <| And.intro r124_17 <| And.intro r124_21 <| And.intro r124_22 <| And.intro r124_20 <| And.intro r124_16 <| And.intro r124_14 <| And.intro r124_13 <| And.intro r124_7 <| And.intro r124_5 <| And.intro r124_23 <| And.intro r124_4 <| And.intro r124_2 <| r124_0) := And.intro r124_1 <| And.intro r124_3 <| And.intro r124_9 <| And.intro r124_11 <| And.intro r124_12 <| And.intro r124_10 <| And.intro r124_8 <| And.intro r124_15 <| And.intro r124_18 <| And.intro r124_19 <| And.intro r124_17 <| And.intro r124_21 <| And.intro r124_22 <| And.intro r124_20 <| And.intro r124_16 <| And.intro r124_14 <| And.intro r124_13 <| And.intro r124_7 <| And.intro r124_5 <| And.intro r124_23 <| And.intro r124_4 <| And.intro r124_2 <| r124_0
/-- the rules of function 130 -/
theorem F130 : type_of% (And.intro r130_1 <| And.intro r130_6 <| And.intro r130_8 <| And.intro r130_9 <| And.intro r130_7 <| And.intro r130_5 <| And.intro r130_12 <| And.intro r130_11 <| And.intro r130_13 <| And.intro r130_10 <| And.intro r130_4 <| And.intro r130_2 <| r130_0) := And.intro r130_1 <| And.intro r130_6 <| And.intro r130_8 <| And.intro r130_9 <| And.intro r130_7 <| And.intro r130_5 <| And.intro r130_12 <| And.intro r130_11 <| And.intro r130_13 <| And.intro r130_10 <| And.intro r130_4 <| And.intro r130_2 <| r130_0
end Go.Proofs.Ytlfednnfkejcjaa

namespace Go.Proofs.Ytlfednnfkejcjaa
open Go.Am Go.Qs
set_option maxRecDepth 10000
noncomputable abbrev prQ : Prims := pureP 20 [] (.bool true)
noncomputable abbrev Q (n : Nat) : CallFn := callN P (keepF P) prQ 100000 n
abbrev I (n : Nat) : AV := .int .i64 (n : Int)

theorem wAdd {x y : Nat} (h : x + y ≤ 1000000) : IntKind.i64.wrap ((x : Int) + (y : Int)) = ((x + y : Nat) : Int) := by rw [wrap_i64 (by omega) (by omega)]; simp
theorem wAdd1 {x : Nat} (h : x ≤ 1000000) : IntKind.i64.wrap ((x : Int) + 1) = ((x + 1 : Nat) : Int) := by rw [wrap_i64 (by omega) (by omega)]; simp
theorem wSub {x y : Nat} (h : y ≤ x) (h' : x ≤ 1000000) : IntKind.i64.wrap ((x : Int) - (y : Int)) = ((x - y : Nat) : Int) := by rw [wrap_i64 (by omega) (by omega)]; omega
theorem wSub1 {x : Nat} (h : 1 ≤ x) (h' : x ≤ 1000000) : IntKind.i64.wrap ((x : Int) - 1) = ((x - 1 : Nat) : Int) := by rw [wrap_i64 (by omega) (by omega)]; omega

/-- the cells of a row of numbers -/
def dl (d : Nat → Nat) (n : Nat) : List AV := (List.range n).map fun i => I (d i)
theorem dl_len (d : Nat → Nat) (n : Nat) : (dl d n).length = n := by simp [dl]
theorem dl_get {d : Nat → Nat} {n i : Nat} (h : i < n) : (dl d n)[i]? = some (I (d i)) := by simp [dl, h]
theorem dl_set {d : Nat → Nat} {n i x : Nat} (h : i < n) : (dl d n).set i (I x) = dl (upd d i x) n := by
  apply List.ext_getElem?
  intro j
  rw [List.getElem?_set, dl_len]
  by_cases hj : j < n
  · rw [dl_get hj, dl_get hj]
    unfold upd
    by_cases e : i = j
    · rw [if_pos e, if_pos (by omega), if_pos e.symm]
    · rw [if_neg e, if_neg (fun h => e h.symm)]
  · rw [if_neg (by omega)]
    rw [List.getElem?_eq_none (by rw [dl_len]; omega), List.getElem?_eq_none (by rw [dl_len]; omega)]
theorem dl_one (d : Nat → Nat) (n : Nat) : (dl d n).all AV.one = true := by
  rw [List.all_eq_true]; intro x hx; obtain ⟨i, _, rfl⟩ := List.mem_map.1 hx; rfl

/-- what a sort works on: the block, what lies behind the row, the comparator -/
structure Cx where
  b : Nat
  cap : Nat
  rest : List AV
  z : List AV
  cm : AV
  J : Heap → Prop
  lt : Nat → Nat → Prop
  N : Nat
  n0 : Nat
structure Cx.Ok (X : Cx) : Prop where
  st : ∀ h h', X.J h → Sm (· = X.b) h h' → X.J h'
  cmp : ∀ n, X.n0 ≤ n → ∀ h i j, X.J h → i < X.N → j < X.N → ∃ r h', applyV (Q n) [I i, I j] h X.cm = some (.int .i64 r, h') ∧ (r < 0 ↔ X.lt i j) ∧ Sm NoB h h'
  wk : Wk X.lt
  sm : X.N ≤ 1000
abbrev Cx.sv (X : Cx) : AV := .slice (some (X.b, 0)) X.N X.cap (some 1)
structure Cx.At (X : Cx) (h : Heap) (d : Nat → Nat) : Prop where
  rw : Rw h X.b (dl d X.N ++ X.rest) X.z false
  lt : X.b < h.next
  j : X.J h
  v : ∀ k, k < X.N → d k < X.N
section
variable {X : Cx} {h h' : Heap} {d : Nat → Nat}
theorem Cx.At.ld (hA : X.At h d) {i : Nat} (hi : i < X.N) : h.ld1 X.b i = some (I (d i)) := by
  rw [hA.rw.ld1, List.getElem?_append_left (by rw [dl_len]; exact hi), dl_get hi]
theorem Cx.At.sm (hX : X.Ok) (hA : X.At h d) (hs : Sm NoB h h') : X.At h' d :=
  ⟨hA.rw.sm hs hA.lt (fun h => h), Nat.lt_of_lt_of_le hA.lt hs.1, hX.st _ _ hA.j hs.no, hA.v⟩
theorem Cx.At.st1 (hX : X.Ok) (hA : X.At h d) {i x : Nat} (hi : i < X.N) (hx : x < X.N) : ∃ h1, h.st1 X.b i (I x) = some h1 ∧ X.At h1 (upd d i x) ∧ Sm (· = X.b) h h1 := by
  obtain ⟨a1, a2, a3, a4⟩ := hA.rw.st1 (o := i) (v := I x) (by rw [List.length_append, dl_len]; omega) rfl
  have hs : Sm (· = X.b) h (h.wr X.b i [I x]) := ⟨by rw [a3]; exact Nat.le_refl _, fun c _ hc => a4 c hc⟩
  refine ⟨_, a1, ⟨?_, by rw [a3]; exact hA.lt, hX.st _ _ hA.j hs, fun k hk => ?_⟩, hs⟩
  · rw [← dl_set hi, ← List.set_append_left _ _ (by rw [dl_len]; exact hi)]; exact a2
  · unfold upd; split
    · exact hx
    · exact hA.v k hk
/-- two change places -/
theorem Cx.At.swap (hX : X.Ok) (hA : X.At h d) {i j : Nat} (hi : i < X.N) (hj : j < X.N) :
    ∃ h1 h2, h.st1 X.b i (I (d j)) = some h1 ∧ h1.st1 X.b j (I (d i)) = some h2 ∧ X.At h2 (upd (upd d i (d j)) j (d i)) ∧ Sm (· = X.b) h h2 := by
  obtain ⟨h1, a1, a2, a3⟩ := hA.st1 hX hi (hA.v j hj)
  obtain ⟨h2, b1, b2, b3⟩ := a2.st1 hX hj (hA.v i hi)
  exact ⟨h1, h2, a1, b1, b2, a3.trans b3 (fun _ _ h => h) (fun _ _ h => h)⟩
end

theorem swap_ok {n : Nat} (hn : 1 ≤ n) {h : Heap} {X : Cx} (hX : X.Ok) {d : Nat → Nat} (hA : X.At h d) {x y p : Nat} (h1 : x + p ≤ y) (h2 : y + p ≤ X.N) :
    WC (Q n (.fn 130) [X.sv, I x, I y, I p, X.cm] h) fun r h' => X.At h' (swp d x y p) ∧ Sm (· = X.b) h h' := by
  have hN := hX.sm
  obtain ⟨m, rfl⟩ : ∃ m, n = m + 1 := ⟨n - 1, by omega⟩
  refine call_fn _ f130A rfl (by simp [fn130]) fun QQ hQ => ?_
  simp only [fn130] at hQ
  simp only [fn130, fill_cons, fill_nil, Nat.zero_add, Nat.reduceAdd]
  simp only [F130, SS, Nat.reduceBEq, Nat.reduceEqDiff, Nat.reduceAdd, reduceIte, Nat.reduceMul, ptrTo, sliceTo, mapTo, List.getElem?_cons_zero, List.getElem?_cons_succ, Option.map_some, List.append_nil, List.nil_append, List.all_cons, List.all_nil, List.length_cons, List.length_nil, eq_self]
  refine run_loop (c := c130_4) (I := fun m tm' h' => ∃ i, i ≤ p ∧ m = p - i ∧ X.At h' (swp d x y i) ∧ Sm (· = X.b) h h' ∧ tm'.gt 0 = some X.sv ∧ tm'.gt 1 = some (I x) ∧ tm'.gt 2 = some (I y) ∧ tm'.gt 3 = some (I p) ∧ tm'.gt 10 = some (I i) ∧ tm'.gt 38 = none) (n := p)
    ⟨0, by simp [gt_same, gt_other, gt_leaf, swp_zero, hA, Sm.refl]⟩ (by omega) ?_
  rintro _ tm h' ⟨i, hi, rfl, hA', hS, t0, t1, t2, t3, t10, t38⟩ Q1 hN1 hE
  by_cases hlt : i < p
  · obtain ⟨hb, eb, sb, _, _⟩ := Sm.bump h' 24
    have hAb := hA'.sm hX sb
    obtain ⟨h3, h4, e3, e4, a4, s4⟩ := hAb.swap hX (i := x + i) (j := y + i) (by omega) (by omega)
    rw [swp_step (by omega)] at a4
    have l1 := hAb.ld (i := y + i) (by omega)
    have l2 := hAb.ld (i := x + i) (by omega)
    simp only [F130, t0, t1, t2, t3, t10, t38, SS, Nat.reduceBEq, Nat.reduceEqDiff, Nat.reduceAdd, reduceIte, Nat.reduceMul, ptrTo, sliceTo, mapTo, List.getElem?_cons_zero, List.getElem?_cons_succ, Option.map_some, List.append_nil, List.nil_append, List.all_cons, List.all_nil, List.length_cons, List.length_nil, eq_self, Int.ofNat_lt, hlt, eb, wAdd (show x + i ≤ 1000000 by omega), wAdd (show y + i ≤ 1000000 by omega), wAdd1 (show i ≤ 1000000 by omega), x_ia_142 (show x + i < X.N by omega), x_ia_142 (show y + i < X.N by omega), l1, l2, e3, e4]
    refine hN1 _ _ (p - (i + 1)) (by omega) ⟨i + 1, hlt, rfl, a4, (hS.trans (sb.no (F := (· = X.b))) (fun _ _ h => h) (fun _ _ h => h)).trans s4 (fun _ _ h => h) (fun _ _ h => h), ?_⟩
    simp only [SS, Nat.reduceBEq, Nat.reduceEqDiff, Nat.reduceAdd, reduceIte, Nat.reduceMul, ptrTo, sliceTo, mapTo, List.getElem?_cons_zero, List.getElem?_cons_succ, Option.map_some, List.append_nil, List.nil_append, List.all_cons, List.all_nil, List.length_cons, List.length_nil, eq_self, t0, t1, t2, t3, t10, t38, and_self]
  · obtain rfl : i = p := by omega
    simp only [F130, t0, t1, t2, t3, t10, t38, SS, Nat.reduceBEq, Nat.reduceEqDiff, Nat.reduceAdd, reduceIte, Nat.reduceMul, ptrTo, sliceTo, mapTo, List.getElem?_cons_zero, List.getElem?_cons_succ, Option.map_some, List.append_nil, List.nil_append, List.all_cons, List.all_nil, List.length_cons, List.length_nil, eq_self, Int.ofNat_lt, hlt]
    refine hE _ _ _ (by simp) ?_
    simp only [SS, Nat.reduceBEq, Nat.reduceEqDiff, Nat.reduceAdd, reduceIte, Nat.reduceMul, ptrTo, sliceTo, mapTo, List.getElem?_cons_zero, List.getElem?_cons_succ, Option.map_some, List.append_nil, List.nil_append, List.all_cons, List.all_nil, List.length_cons, List.length_nil, eq_self]
    exact hQ _ _ _ _ (.inl rfl) (by simp only [SS, Nat.reduceBEq, Nat.reduceEqDiff, Nat.reduceAdd, reduceIte, Nat.reduceMul, ptrTo, sliceTo, mapTo, List.getElem?_cons_zero, List.getElem?_cons_succ, Option.map_some, List.append_nil, List.nil_append, List.all_cons, List.all_nil, List.length_cons, List.length_nil, eq_self, t38]) (by simp only [SS, Nat.reduceBEq, Nat.reduceEqDiff, Nat.reduceAdd, reduceIte, Nat.reduceMul, ptrTo, sliceTo, mapTo, List.getElem?_cons_zero, List.getElem?_cons_succ, Option.map_some, List.append_nil, List.nil_append, List.all_cons, List.all_nil, List.length_cons, List.length_nil, eq_self]; rfl) ⟨hA', hS⟩
end Go.Proofs.Ytlfednnfkejcjaa

namespace Go.Proofs.Ytlfednnfkejcjaa
open Go.Am Go.Qs
set_option maxRecDepth 10000
theorem ins_at {d : Nat → Nat} {i j : Nat} : ins d i j j = d i := by unfold ins; rw [if_pos rfl]
theorem ins_lt {d : Nat → Nat} {i j k : Nat} (h : k < j) : ins d i j k = d k := by unfold ins; rw [if_neg (by omega), if_neg (by omega)]
abbrev SmB (X : Cx) (h h' : Heap) : Prop := Sm (· = X.b) h h'
theorem SmB.tr {X : Cx} {h h' h'' : Heap} (a : SmB X h h') (b : SmB X h' h'') : SmB X h h'' := a.trans b (fun _ _ h => h) (fun _ _ h => h)
theorem SmB.no {X : Cx} {h h' : Heap} (a : Sm NoB h h') : SmB X h h' := a.no
/-- the comparator, asked of two places -/
theorem Cx.At.ask {X : Cx} {h : Heap} {d : Nat → Nat} (hX : X.Ok) (hA : X.At h d) {n i j : Nat} (hn : X.n0 ≤ n) (hi : i < X.N) (hj : j < X.N) :
    ∃ r h', applyV (Q n) [I (d i), I (d j)] h X.cm = some (.int .i64 r, h') ∧ (r < 0 ↔ X.lt (d i) (d j)) ∧ X.At h' d ∧ Sm NoB h h' := by
  obtain ⟨r, h', e, hr, hs⟩ := hX.cmp n hn h (d i) (d j) hA.j (hA.v i hi) (hA.v j hj)
  exact ⟨r, h', e, hr, hA.sm hX hs, hs⟩
theorem insertion_ok {n : Nat} {X : Cx} (hX : X.Ok) (hn : X.n0 + 1 ≤ n) {h : Heap} {d : Nat → Nat} (hA : X.At h d) {a e : Nat} (hae : a ≤ e) (he : e ≤ X.N) (hup : ∀ i j, a ≤ i → i < j → j < e → d i < d j) :
    WC (Q n (.fn 111) [X.sv, I a, I e, X.cm] h) fun r h' => ∃ d', X.At h' d' ∧ SmB X h h' ∧ Perm a e d d' ∧ Sorted X.lt a e d' := by
  have hN := hX.sm
  obtain ⟨m, rfl⟩ : ∃ m, n = m + 1 := ⟨n - 1, by omega⟩
  refine call_fn _ f111A rfl (by simp [fn111]) fun QQ hQ => ?_
  simp only [fn111] at hQ
  simp only [fn111, fill_cons, fill_nil, Nat.zero_add, Nat.reduceAdd]
  simp only [F111, SS, Nat.reduceBEq, Nat.reduceEqDiff, Nat.reduceAdd, reduceIte, Nat.reduceMul, ptrTo, sliceTo, mapTo, List.getElem?_cons_zero, List.getElem?_cons_succ, Option.map_some, List.append_nil, List.nil_append, List.all_cons, List.all_nil, List.length_cons, List.length_nil, eq_self, wAdd1 (show a ≤ 1000000 by omega)]
  refine run_loop (c := c111_4) (I := fun m' tm' h' => ∃ i cur, a + 1 ≤ i ∧ (i ≤ e ∨ i = a + 1) ∧ m' = e - i ∧ X.At h' cur ∧ SmB X h h' ∧ Perm a i d cur ∧ Sorted X.lt a i cur ∧ tm'.gt 0 = some X.sv ∧ tm'.gt 1 = some (I a) ∧ tm'.gt 2 = some (I e) ∧ tm'.gt 3 = some X.cm ∧ tm'.gt 8 = some (I i) ∧ tm'.gt 53 = none) (n := e - (a + 1))
    ⟨a + 1, d, by omega, .inr rfl, rfl, hA, Sm.refl _ _, Perm.refl _ _ _, (fun i j h1 h2 h3 => by omega), by simp [gt_same, gt_other, gt_leaf]⟩ (by omega) ?_
  rintro _ tm h' ⟨i, cur, hi, hie, rfl, hA', hS, hP, hs, t0, t1, t2, t3, t8, t53⟩ Q1 hN1 hE
  by_cases hlt : i < e
  · simp only [F111, t0, t1, t2, t3, t8, t53, SS, Nat.reduceBEq, Nat.reduceEqDiff, Nat.reduceAdd, reduceIte, Nat.reduceMul, ptrTo, sliceTo, mapTo, List.getElem?_cons_zero, List.getElem?_cons_succ, Option.map_some, List.append_nil, List.nil_append, List.all_cons, List.all_nil, List.length_cons, List.length_nil, eq_self, Int.ofNat_lt, hlt]
    refine run_loop (c := c111_16) (I := fun m' tm' h2 => ∃ j, a ≤ j ∧ j ≤ i ∧ m' = j ∧ X.At h2 (ins cur i j) ∧ SmB X h h2 ∧ (j = i ∨ R X.lt (cur i) (cur j)) ∧ tm'.gt 0 = some X.sv ∧ tm'.gt 1 = some (I a) ∧ tm'.gt 2 = some (I e) ∧ tm'.gt 3 = some X.cm ∧ tm'.gt 8 = some (I i) ∧ tm'.gt 9 = some (I j) ∧ tm'.gt 53 = none) (n := i)
      ⟨i, by omega, by omega, rfl, by rw [ins_self]; exact hA', hS, .inl rfl, by simp only [SS, Nat.reduceBEq, Nat.reduceEqDiff, Nat.reduceAdd, reduceIte, Nat.reduceMul, ptrTo, sliceTo, mapTo, List.getElem?_cons_zero, List.getElem?_cons_succ, Option.map_some, List.append_nil, List.nil_append, List.all_cons, List.all_nil, List.length_cons, List.length_nil, eq_self, t0, t1, t2, t3, t8, t53, and_self]⟩ (by omega) ?_
    rintro j tm h2 ⟨_, hj, hji, rfl, hA2, hS2, hR, t0, t1, t2, t3, t8, t9, t53⟩ Q2 hN2 hE2
    have out : ∀ h3, X.At h3 (ins cur i j) → SmB X h h3 → (j = a ∨ R X.lt (cur (j - 1)) (cur i)) → ∃ d', X.At h3 d' ∧ SmB X h h3 ∧ Perm a (i + 1) d d' ∧ Sorted X.lt a (i + 1) d' := fun h3 g1 g2 g3 =>
      ⟨_, g1, g2, (hP.mono (Nat.le_refl _) (by omega)).trans (ins_perm hji hj (by omega)), ins_sorted hX.wk hs hj hji g3 hR⟩
    have e1 := wAdd1 (show i ≤ 1000000 by omega)
    by_cases hja : a < j
    · obtain ⟨j, rfl⟩ : ∃ j', j = j' + 1 := ⟨j - 1, by omega⟩
      obtain ⟨hb, eb, sb, _, _⟩ := Sm.bump h2 17
      have hAb := hA2.sm hX sb
      have l1 := hAb.ld (i := j + 1) (by omega)
      have l2 := hAb.ld (i := j) (by omega)
      have ej : IntKind.i64.wrap (((j + 1 : Nat) : Int) - 1) = (j : Int) := by rw [wrap_i64 (by omega) (by omega)]; omega
      obtain ⟨r, h3, e3, hr, hA3, s3⟩ := hAb.ask hX (n := m) (i := j + 1) (j := j) (by omega) (by omega) (by omega)
      have hS3 : SmB X h h3 := (hS2.tr (SmB.no sb)).tr (SmB.no s3)
      have x1 := x_ia_142 (k := .i64) (b := X.b) (o := 0) (n := X.N) (c := X.cap) (g := some 1) (show j + 1 < X.N by omega)
      have x2 := x_ia_142 (k := .i64) (b := X.b) (o := 0) (n := X.N) (c := X.cap) (g := some 1) (show j < X.N by omega)
      by_cases hr0 : r < 0
      · obtain ⟨hc, ec, sc, _, _⟩ := Sm.bump h3 18
        have hAc := hA3.sm hX sc
        obtain ⟨h4, h5, e4, e5, a5, s5⟩ := hAc.swap hX (i := j + 1) (j := j) (by omega) (by omega)
        rw [ins_step (by omega)] at a5
        have l3 := hAc.ld (i := j + 1) (by omega)
        have l4 := hAc.ld (i := j) (by omega)
        rw [ins_at, ins_lt (by omega)] at hr
        simp only [F111, t0, t1, t2, t3, t8, t9, t53, SS, Nat.reduceBEq, Nat.reduceEqDiff, Nat.reduceAdd, reduceIte, Nat.reduceMul, ptrTo, sliceTo, mapTo, List.getElem?_cons_zero, List.getElem?_cons_succ, Option.map_some, List.append_nil, List.nil_append, List.all_cons, List.all_nil, List.length_cons, List.length_nil, eq_self, Int.ofNat_lt, hja, eb, ej, x1, x2, l1, l2, e3, hr0, ec, l3, l4, e4, e5]
        refine hN2 _ _ j (by omega) ⟨j, by omega, by omega, rfl, a5, (hS3.tr (SmB.no sc)).tr s5, .inr (.inl (hr.1 hr0)), ?_⟩
        simp only [SS, Nat.reduceBEq, Nat.reduceEqDiff, Nat.reduceAdd, reduceIte, Nat.reduceMul, ptrTo, sliceTo, mapTo, List.getElem?_cons_zero, List.getElem?_cons_succ, Option.map_some, List.append_nil, List.nil_append, List.all_cons, List.all_nil, List.length_cons, List.length_nil, eq_self, t0, t1, t2, t3, t8, t9, t53, and_self]
      · have hR' : R X.lt (cur j) (cur i) := by
          rw [ins_at, ins_lt (by omega)] at hr
          refine R.not (fun h => hr0 (hr.2 h)) ?_
          obtain ⟨q, q1, q2, q3⟩ := hP.at (k := j) (by omega) (by omega)
          rw [q3, hP.out (.inr (Nat.le_refl i))]
          exact hup q i q1 q2 hlt
        obtain ⟨d', g1, g2, g3, g4⟩ := out h3 hA3 hS3 (.inr hR')
        simp only [F111, t0, t1, t2, t3, t8, t9, t53, SS, Nat.reduceBEq, Nat.reduceEqDiff, Nat.reduceAdd, reduceIte, Nat.reduceMul, ptrTo, sliceTo, mapTo, List.getElem?_cons_zero, List.getElem?_cons_succ, Option.map_some, List.append_nil, List.nil_append, List.all_cons, List.all_nil, List.length_cons, List.length_nil, eq_self, Int.ofNat_lt, hja, eb, ej, x1, x2, l1, l2, e3, hr0]
        refine hE2 _ _ _ (by simp) ?_
        simp only [F111, t0, t1, t2, t3, t8, t9, t53, SS, Nat.reduceBEq, Nat.reduceEqDiff, Nat.reduceAdd, reduceIte, Nat.reduceMul, ptrTo, sliceTo, mapTo, List.getElem?_cons_zero, List.getElem?_cons_succ, Option.map_some, List.append_nil, List.nil_append, List.all_cons, List.all_nil, List.length_cons, List.length_nil, eq_self, e1]
        refine hN1 _ _ (e - (i + 1)) (by omega) ⟨i + 1, d', by omega, .inl (by omega), rfl, g1, g2, g3, g4, ?_⟩
        simp only [SS, Nat.reduceBEq, Nat.reduceEqDiff, Nat.reduceAdd, reduceIte, Nat.reduceMul, ptrTo, sliceTo, mapTo, List.getElem?_cons_zero, List.getElem?_cons_succ, Option.map_some, List.append_nil, List.nil_append, List.all_cons, List.all_nil, List.length_cons, List.length_nil, eq_self, t0, t1, t2, t3, t8, t9, t53, and_self]
    · obtain ⟨hb, eb, sb, _, _⟩ := Sm.bump h2 17
      have hAb := hA2.sm hX sb
      obtain ⟨d', g1, g2, g3, g4⟩ := out hb hAb (hS2.tr (SmB.no sb)) (.inl (by omega))
      simp only [F111, t0, t1, t2, t3, t8, t9, t53, SS, Nat.reduceBEq, Nat.reduceEqDiff, Nat.reduceAdd, reduceIte, Nat.reduceMul, ptrTo, sliceTo, mapTo, List.getElem?_cons_zero, List.getElem?_cons_succ, Option.map_some, List.append_nil, List.nil_append, List.all_cons, List.all_nil, List.length_cons, List.length_nil, eq_self, Int.ofNat_lt, hja, eb]
      refine hE2 _ _ _ (by simp) ?_
      simp only [F111, t0, t1, t2, t3, t8, t9, t53, SS, Nat.reduceBEq, Nat.reduceEqDiff, Nat.reduceAdd, reduceIte, Nat.reduceMul, ptrTo, sliceTo, mapTo, List.getElem?_cons_zero, List.getElem?_cons_succ, Option.map_some, List.append_nil, List.nil_append, List.all_cons, List.all_nil, List.length_cons, List.length_nil, eq_self, e1]
      refine hN1 _ _ (e - (i + 1)) (by omega) ⟨i + 1, d', by omega, .inl (by omega), rfl, g1, g2, g3, g4, ?_⟩
      simp only [SS, Nat.reduceBEq, Nat.reduceEqDiff, Nat.reduceAdd, reduceIte, Nat.reduceMul, ptrTo, sliceTo, mapTo, List.getElem?_cons_zero, List.getElem?_cons_succ, Option.map_some, List.append_nil, List.nil_append, List.all_cons, List.all_nil, List.length_cons, List.length_nil, eq_self, t0, t1, t2, t3, t8, t9, t53, and_self]
  · simp only [F111, t0, t1, t2, t3, t8, t53, SS, Nat.reduceBEq, Nat.reduceEqDiff, Nat.reduceAdd, reduceIte, Nat.reduceMul, ptrTo, sliceTo, mapTo, List.getElem?_cons_zero, List.getElem?_cons_succ, Option.map_some, List.append_nil, List.nil_append, List.all_cons, List.all_nil, List.length_cons, List.length_nil, eq_self, Int.ofNat_lt, hlt]
    refine hE _ _ _ (by simp) ?_
    simp only [SS, Nat.reduceBEq, Nat.reduceEqDiff, Nat.reduceAdd, reduceIte, Nat.reduceMul, ptrTo, sliceTo, mapTo, List.getElem?_cons_zero, List.getElem?_cons_succ, Option.map_some, List.append_nil, List.nil_append, List.all_cons, List.all_nil, List.length_cons, List.length_nil, eq_self]
    refine hQ _ _ _ _ (.inl rfl) (by simp only [SS, Nat.reduceBEq, Nat.reduceEqDiff, Nat.reduceAdd, reduceIte, Nat.reduceMul, ptrTo, sliceTo, mapTo, List.getElem?_cons_zero, List.getElem?_cons_succ, Option.map_some, List.append_nil, List.nil_append, List.all_cons, List.all_nil, List.length_cons, List.length_nil, eq_self, t53]) (by simp only [SS, Nat.reduceBEq, Nat.reduceEqDiff, Nat.reduceAdd, reduceIte, Nat.reduceMul, ptrTo, sliceTo, mapTo, List.getElem?_cons_zero, List.getElem?_cons_succ, Option.map_some, List.append_nil, List.nil_append, List.all_cons, List.all_nil, List.length_cons, List.length_nil, eq_self]; rfl) ⟨cur, hA', hS, ?_, ?_⟩
    · by_cases e1 : i = e
      · rw [← e1]; exact hP
      · have : i = a + 1 := by omega
        have hea : e = a := by omega
        obtain ⟨s, t, p1, p2, p3, p4⟩ := hP
        refine ⟨s, t, p1, p2, fun k hk => ?_, p4⟩
        by_cases hk' : k < a ∨ i ≤ k
        · exact p3 k hk'
        · have hka : k = a := by omega
          subst hka
          by_cases hs : s k < k ∨ i ≤ s k
          · have := p3 _ hs
            have h5 := congrArg t this
            rw [p1, p1] at h5
            omega
          · omega
    · intro p q x y z
      exact hs p q x y (by omega)
end Go.Proofs.Ytlfednnfkejcjaa

namespace Go.Proofs.Ytlfednnfkejcjaa
open Go.Am Go.Qs
set_option maxRecDepth 10000
theorem rotate_ok {n : Nat} (hn : 2 ≤ n) {X : Cx} (hX : X.Ok) {h : Heap} {d : Nat → Nat} (hA : X.At h d) {a c e : Nat} (hac : a < c) (hce : c < e) (he : e ≤ X.N) :
    WC (Q n (.fn 124) [X.sv, I a, I c, I e, X.cm] h) fun r h' => X.At h' (rot d a c e) ∧ SmB X h h' := by
  have hN := hX.sm
  obtain ⟨m, rfl⟩ : ∃ m, n = m + 1 := ⟨n - 1, by omega⟩
  refine call_fn _ f124A rfl (by simp [fn124]) fun QQ hQ => ?_
  simp only [fn124] at hQ
  simp only [fn124, fill_cons, fill_nil, Nat.zero_add, Nat.reduceAdd]
  simp only [F124, SS, Nat.reduceBEq, Nat.reduceEqDiff, Nat.reduceAdd, reduceIte, Nat.reduceMul, ptrTo, sliceTo, mapTo, List.getElem?_cons_zero, List.getElem?_cons_succ, Option.map_some, List.append_nil, List.nil_append, List.all_cons, List.all_nil, List.length_cons, List.length_nil, eq_self, wSub (show a ≤ c by omega) (show c ≤ 1000000 by omega), wSub (show c ≤ e by omega) (show e ≤ 1000000 by omega)]
  refine run_loop (c := c124_7) (I := fun m' tm' h' => ∃ i j cur, 0 < i ∧ i ≤ c ∧ 0 < j ∧ c + j ≤ X.N ∧ m' = i + j ∧ X.At h' cur ∧ SmB X h h' ∧ rot cur (c - i) c (c + j) = rot d a c e ∧ tm'.gt 0 = some X.sv ∧ tm'.gt 1 = some (I a) ∧ tm'.gt 2 = some (I c) ∧ tm'.gt 3 = some (I e) ∧ tm'.gt 4 = some X.cm ∧ tm'.gt 10 = some (I i) ∧ tm'.gt 11 = some (I j) ∧ tm'.gt 58 = none) (n := (c - a) + (e - c))
    ⟨c - a, e - c, d, by omega, by omega, by omega, by omega, rfl, hA, Sm.refl _ _, by rw [show c - (c - a) = a by omega, show c + (e - c) = e by omega], by simp [gt_same, gt_other, gt_leaf]⟩ (by omega) ?_
  rintro _ tm h' ⟨i, j, cur, hi, hic, hj, hjN, rfl, hA', hS, hR, t0, t1, t2, t3, t4, t10, t11, t58⟩ Q1 hN1 hE
  have e1 := wSub (show i ≤ c by omega) (show c ≤ 1000000 by omega)
  by_cases hij : i = j
  · subst hij
    obtain ⟨r, h3, e3, g1, g2⟩ := swap_ok (n := m) (by omega) hX hA' (x := c - i) (y := c) (p := i) (by omega) (by omega)
    simp only [F124, t0, t1, t2, t3, t4, t10, t11, t58, SS, Nat.reduceBEq, Nat.reduceEqDiff, Nat.reduceAdd, reduceIte, Nat.reduceMul, ptrTo, sliceTo, mapTo, List.getElem?_cons_zero, List.getElem?_cons_succ, Option.map_some, List.append_nil, List.nil_append, List.all_cons, List.all_nil, List.length_cons, List.length_nil, eq_self]
    refine hE _ _ _ (by simp) ?_
    simp only [F124, t0, t1, t2, t3, t4, t10, t11, t58, SS, Nat.reduceBEq, Nat.reduceEqDiff, Nat.reduceAdd, reduceIte, Nat.reduceMul, ptrTo, sliceTo, mapTo, List.getElem?_cons_zero, List.getElem?_cons_succ, Option.map_some, List.append_nil, List.nil_append, List.all_cons, List.all_nil, List.length_cons, List.length_nil, eq_self, e1, e3]
    rw [rot_same hic, hR] at g1
    exact hQ _ _ _ _ (.inl rfl) (by simp only [SS, Nat.reduceBEq, Nat.reduceEqDiff, Nat.reduceAdd, reduceIte, Nat.reduceMul, ptrTo, sliceTo, mapTo, List.getElem?_cons_zero, List.getElem?_cons_succ, Option.map_some, List.append_nil, List.nil_append, List.all_cons, List.all_nil, List.length_cons, List.length_nil, eq_self, t58]) (by simp only [SS, Nat.reduceBEq, Nat.reduceEqDiff, Nat.reduceAdd, reduceIte, Nat.reduceMul, ptrTo, sliceTo, mapTo, List.getElem?_cons_zero, List.getElem?_cons_succ, Option.map_some, List.append_nil, List.nil_append, List.all_cons, List.all_nil, List.length_cons, List.length_nil, eq_self]; rfl) ⟨g1, hS.tr g2⟩
  · have hij' : ¬ ((i : Int) = (j : Int)) := by omega
    by_cases hgt : j < i
    · obtain ⟨r, h3, e3, g1, g2⟩ := swap_ok (n := m) (by omega) hX hA' (x := c - i) (y := c) (p := j) (by omega) (by omega)
      simp only [F124, t0, t1, t2, t3, t4, t10, t11, t58, SS, Nat.reduceBEq, Nat.reduceEqDiff, Nat.reduceAdd, reduceIte, Nat.reduceMul, ptrTo, sliceTo, mapTo, List.getElem?_cons_zero, List.getElem?_cons_succ, Option.map_some, List.append_nil, List.nil_append, List.all_cons, List.all_nil, List.length_cons, List.length_nil, eq_self, Int.ofNat_lt, hij', hgt, e1, e3, wSub (show j ≤ i by omega) (show i ≤ 1000000 by omega)]
      refine hN1 _ _ (i - j + j) (by omega) ⟨i - j, j, _, by omega, by omega, hj, hjN, rfl, g1, hS.tr g2, by rw [rot_gt hic hgt, hR], ?_⟩
      simp only [SS, Nat.reduceBEq, Nat.reduceEqDiff, Nat.reduceAdd, reduceIte, Nat.reduceMul, ptrTo, sliceTo, mapTo, List.getElem?_cons_zero, List.getElem?_cons_succ, Option.map_some, List.append_nil, List.nil_append, List.all_cons, List.all_nil, List.length_cons, List.length_nil, eq_self, t0, t1, t2, t3, t4, t10, t11, t58, and_self]
    · obtain ⟨r, h3, e3, g1, g2⟩ := swap_ok (n := m) (by omega) hX hA' (x := c - i) (y := c + j - i) (p := i) (by omega) (by omega)
      simp only [F124, t0, t1, t2, t3, t4, t10, t11, t58, SS, Nat.reduceBEq, Nat.reduceEqDiff, Nat.reduceAdd, reduceIte, Nat.reduceMul, ptrTo, sliceTo, mapTo, List.getElem?_cons_zero, List.getElem?_cons_succ, Option.map_some, List.append_nil, List.nil_append, List.all_cons, List.all_nil, List.length_cons, List.length_nil, eq_self, Int.ofNat_lt, hij', hgt, e1, wAdd (show c + j ≤ 1000000 by omega), wSub (show i ≤ c + j by omega) (show c + j ≤ 1000000 by omega), e3, wSub (show i ≤ j by omega) (show j ≤ 1000000 by omega)]
      refine hN1 _ _ (i + (j - i)) (by omega) ⟨i, j - i, _, hi, hic, by omega, by omega, rfl, g1, hS.tr g2, by rw [rot_lt hic (by omega), hR], ?_⟩
      simp only [SS, Nat.reduceBEq, Nat.reduceEqDiff, Nat.reduceAdd, reduceIte, Nat.reduceMul, ptrTo, sliceTo, mapTo, List.getElem?_cons_zero, List.getElem?_cons_succ, Option.map_some, List.append_nil, List.nil_append, List.all_cons, List.all_nil, List.length_cons, List.length_nil, eq_self, t0, t1, t2, t3, t4, t10, t11, t58, and_self]
end Go.Proofs.Ytlfednnfkejcjaa

namespace Go.Proofs.Ytlfednnfkejcjaa
open Go.Am Go.Qs
set_option maxRecDepth 10000
theorem wU {x : Nat} (h : x ≤ 1000000) : IntKind.u64.wrap (x : Int) = (x : Int) := by
  simp [IntKind.wrap, IntKind.signed, IntKind.bits]
  omega
theorem wI {x : Nat} (h : x ≤ 1000000) : IntKind.i64.wrap (x : Int) = (x : Int) := wrap_i64 (by omega) (by omega)
theorem b_half {t : TypeId} {x : Nat} : bin2 P .shr t (.int .u64 (x : Int)) (.int .u64 1) = some (.int .u64 ((x / 2 : Nat) : Int)) := by
  show shrS .u64 (x : Int) 1 = _
  unfold shrS
  rw [if_neg (by omega)]
  have : (x : Int).fdiv (2 ^ min (1 : Int).toNat IntKind.u64.bits) = ((x / 2 : Nat) : Int) := by
    show (x : Int).fdiv (2 : Nat) = _
    rw [Int.fdiv_eq_ediv_of_nonneg _ (by omega)]; omega
  rw [this]

section
variable {X : Cx} (hX : X.Ok) {h : Heap} {d : Nat → Nat} (hA : X.At h d) {a c e : Nat} (he : e ≤ X.N) (hs2 : Sorted X.lt c e d) (hs1 : Sorted X.lt a c d) (hcr : Cross a c e d)
include hX hA he hcr
/-- one before the others -/
theorem sym1_ok {n : Nat} (hn : X.n0 + 1 ≤ n) (hac : c = a + 1) (hce : c < e) (hs2 : Sorted X.lt c e d) :
    WC (Q n (.fn 112) [X.sv, I a, I c, I e, X.cm] h) fun r h' => ∃ d', X.At h' d' ∧ SmB X h h' ∧ Perm a e d d' ∧ Sorted X.lt a e d' := by
  have hN := hX.sm
  obtain ⟨m, rfl⟩ : ∃ m, n = m + 1 := ⟨n - 1, by omega⟩
  refine call_fn _ f112A rfl (by simp [fn112]) fun QQ hQ => ?_
  simp only [fn112] at hQ
  simp only [fn112, fill_cons, fill_nil, Nat.zero_add, Nat.reduceAdd]
  have e0 : IntKind.i64.wrap ((c : Int) - (a : Int)) = 1 := by rw [wrap_i64 (by omega) (by omega)]; omega
  simp only [F112, r112_133, r112_127, r112_100, SS, Nat.reduceBEq, Nat.reduceEqDiff, Nat.reduceAdd, reduceIte, Nat.reduceMul, ptrTo, sliceTo, mapTo, List.getElem?_cons_zero, List.getElem?_cons_succ, Option.map_some, List.append_nil, List.nil_append, List.all_cons, List.all_nil, List.length_cons, List.length_nil, eq_self, e0]
  refine run_loop (c := c112_11) (I := fun m' tm' h' => ∃ i j, c ≤ i ∧ i ≤ j ∧ j ≤ e ∧ m' = j - i ∧ X.At h' d ∧ SmB X h h' ∧ (i = c ∨ X.lt (d (i - 1)) (d a)) ∧ (j = e ∨ ¬ X.lt (d j) (d a)) ∧ tm'.gt 0 = some X.sv ∧ tm'.gt 1 = some (I a) ∧ tm'.gt 2 = some (I c) ∧ tm'.gt 3 = some (I e) ∧ tm'.gt 4 = some X.cm ∧ tm'.gt 10 = some (I i) ∧ tm'.gt 11 = some (I j) ∧ tm'.gt 220 = none) (n := e - c)
    ⟨c, e, by omega, by omega, by omega, rfl, hA, Sm.refl _ _, .inl rfl, .inl rfl, by simp [gt_same, gt_other, gt_leaf]⟩ (by omega) ?_
  rintro _ tm h1 ⟨i, j, hi, hij, hj, rfl, hA1, hS1, hI, hJ, t0, t1, t2, t3, t4, t10, t11, t220⟩ Q1 hN1 hE
  by_cases hlt : i < j
  · obtain ⟨hb, eb, sb, _, _⟩ := Sm.bump h1 11
    have hAb := hA1.sm hX sb
    generalize hg : (i + j) / 2 = g
    have l1 := hAb.ld (i := g) (by omega)
    have l2 := hAb.ld (i := a) (by omega)
    obtain ⟨r, h3, e3, hr, hA3, s3⟩ := hAb.ask hX (n := m) (i := g) (j := a) (by omega) (by omega) (by omega)
    have hS3 : SmB X h h3 := (hS1.tr (SmB.no sb)).tr (SmB.no s3)
    have x1 := x_ia_142 (k := .i64) (b := X.b) (o := 0) (n := X.N) (c := X.cap) (g := some 1) (show g < X.N by omega)
    have x2 := x_ia_142 (k := .i64) (b := X.b) (o := 0) (n := X.N) (c := X.cap) (g := some 1) (show a < X.N by omega)
    by_cases hr0 : r < 0
    · simp only [F112, r112_133, r112_127, r112_100, t0, t1, t2, t3, t4, t10, t11, t220, SS, Nat.reduceBEq, Nat.reduceEqDiff, Nat.reduceAdd, reduceIte, Nat.reduceMul, ptrTo, sliceTo, mapTo, List.getElem?_cons_zero, List.getElem?_cons_succ, Option.map_some, List.append_nil, List.nil_append, List.all_cons, List.all_nil, List.length_cons, List.length_nil, eq_self, Int.ofNat_lt, hlt, wAdd (show i + j ≤ 1000000 by omega), x_cv_3_119, x_cv_119_3, wU (show i + j ≤ 1000000 by omega), b_half, hg, wI (show g ≤ 1000000 by omega), eb, x1, x2, l1, l2, e3, hr0, wAdd1 (show g ≤ 1000000 by omega)]
      refine hN1 _ _ (j - (g + 1)) (by omega) ⟨g + 1, j, by omega, by omega, by omega, rfl, hA3, hS3, .inr (hr.1 hr0), hJ, ?_⟩
      simp only [SS, Nat.reduceBEq, Nat.reduceEqDiff, Nat.reduceAdd, reduceIte, Nat.reduceMul, ptrTo, sliceTo, mapTo, List.getElem?_cons_zero, List.getElem?_cons_succ, Option.map_some, List.append_nil, List.nil_append, List.all_cons, List.all_nil, List.length_cons, List.length_nil, eq_self, t0, t1, t2, t3, t4, t10, t11, t220, and_self]
    · simp only [F112, r112_133, r112_127, r112_100, t0, t1, t2, t3, t4, t10, t11, t220, SS, Nat.reduceBEq, Nat.reduceEqDiff, Nat.reduceAdd, reduceIte, Nat.reduceMul, ptrTo, sliceTo, mapTo, List.getElem?_cons_zero, List.getElem?_cons_succ, Option.map_some, List.append_nil, List.nil_append, List.all_cons, List.all_nil, List.length_cons, List.length_nil, eq_self, Int.ofNat_lt, hlt, wAdd (show i + j ≤ 1000000 by omega), x_cv_3_119, x_cv_119_3, wU (show i + j ≤ 1000000 by omega), b_half, hg, wI (show g ≤ 1000000 by omega), eb, x1, x2, l1, l2, e3, hr0, wAdd1 (show g ≤ 1000000 by omega)]
      refine hN1 _ _ (g - i) (by omega) ⟨i, g, by omega, by omega, by omega, rfl, hA3, hS3, hI, .inr (fun h => hr0 (hr.2 h)), ?_⟩
      simp only [SS, Nat.reduceBEq, Nat.reduceEqDiff, Nat.reduceAdd, reduceIte, Nat.reduceMul, ptrTo, sliceTo, mapTo, List.getElem?_cons_zero, List.getElem?_cons_succ, Option.map_some, List.append_nil, List.nil_append, List.all_cons, List.all_nil, List.length_cons, List.length_nil, eq_self, t0, t1, t2, t3, t4, t10, t11, t220, and_self]
  · obtain rfl : i = j := by omega
    simp only [F112, r112_133, r112_127, r112_100, t0, t1, t2, t3, t4, t10, t11, t220, SS, Nat.reduceBEq, Nat.reduceEqDiff, Nat.reduceAdd, reduceIte, Nat.reduceMul, ptrTo, sliceTo, mapTo, List.getElem?_cons_zero, List.getElem?_cons_succ, Option.map_some, List.append_nil, List.nil_append, List.all_cons, List.all_nil, List.length_cons, List.length_nil, eq_self, Int.ofNat_lt, hlt]
    refine hE _ _ _ (by simp) ?_
    simp only [F112, r112_133, r112_127, r112_100, t0, t1, t2, t3, t4, t10, t11, t220, SS, Nat.reduceBEq, Nat.reduceEqDiff, Nat.reduceAdd, reduceIte, Nat.reduceMul, ptrTo, sliceTo, mapTo, List.getElem?_cons_zero, List.getElem?_cons_succ, Option.map_some, List.append_nil, List.nil_append, List.all_cons, List.all_nil, List.length_cons, List.length_nil, eq_self]
    refine run_loop (c := c112_30) (I := fun m' tm' h' => ∃ k, a ≤ k ∧ k ≤ i - 1 ∧ m' = i - 1 - k ∧ X.At h' (sni d a k) ∧ SmB X h h' ∧ tm'.gt 0 = some X.sv ∧ tm'.gt 10 = some (I i) ∧ tm'.gt 13 = some (I k) ∧ tm'.gt 220 = none) (n := i - 1 - a)
      ⟨a, by omega, by omega, rfl, by rw [sni_self]; exact hA1, hS1, by simp only [SS, Nat.reduceBEq, Nat.reduceEqDiff, Nat.reduceAdd, reduceIte, Nat.reduceMul, ptrTo, sliceTo, mapTo, List.getElem?_cons_zero, List.getElem?_cons_succ, Option.map_some, List.append_nil, List.nil_append, List.all_cons, List.all_nil, List.length_cons, List.length_nil, eq_self, t0, t1, t10, t220, and_self]⟩ (by omega) ?_
    rintro _ tm h2 ⟨k, hk, hki, rfl, hA2, hS2, t0, t10, t13, t220⟩ Q2 hN2 hE2
    have e4 := wSub1 (show 1 ≤ i by omega) (show i ≤ 1000000 by omega)
    by_cases hlt : k < i - 1
    · obtain ⟨hb, eb, sb, _, _⟩ := Sm.bump h2 18
      have hAb := hA2.sm hX sb
      obtain ⟨h4, h5, e5, e6, a5, s5⟩ := hAb.swap hX (i := k) (j := k + 1) (by omega) (by omega)
      rw [sni_step hk] at a5
      have l1 := hAb.ld (i := k + 1) (by omega)
      have l2 := hAb.ld (i := k) (by omega)
      have x1 := x_ia_142 (k := .i64) (b := X.b) (o := 0) (n := X.N) (c := X.cap) (g := some 1) (show k + 1 < X.N by omega)
      have x2 := x_ia_142 (k := .i64) (b := X.b) (o := 0) (n := X.N) (c := X.cap) (g := some 1) (show k < X.N by omega)
      simp only [F112, r112_133, r112_127, r112_100, t0, t10, t13, t220, SS, Nat.reduceBEq, Nat.reduceEqDiff, Nat.reduceAdd, reduceIte, Nat.reduceMul, ptrTo, sliceTo, mapTo, List.getElem?_cons_zero, List.getElem?_cons_succ, Option.map_some, List.append_nil, List.nil_append, List.all_cons, List.all_nil, List.length_cons, List.length_nil, eq_self, Int.ofNat_lt, e4, hlt, eb, wAdd1 (show k ≤ 1000000 by omega), x1, x2, l1, l2, e5, e6]
      refine hN2 _ _ (i - 1 - (k + 1)) (by omega) ⟨k + 1, by omega, by omega, rfl, a5, (hS2.tr (SmB.no sb)).tr s5, ?_⟩
      simp only [SS, Nat.reduceBEq, Nat.reduceEqDiff, Nat.reduceAdd, reduceIte, Nat.reduceMul, ptrTo, sliceTo, mapTo, List.getElem?_cons_zero, List.getElem?_cons_succ, Option.map_some, List.append_nil, List.nil_append, List.all_cons, List.all_nil, List.length_cons, List.length_nil, eq_self, t0, t10, t13, t220, and_self]
    · obtain rfl : k = i - 1 := by omega
      simp only [F112, r112_133, r112_127, r112_100, t0, t10, t13, t220, SS, Nat.reduceBEq, Nat.reduceEqDiff, Nat.reduceAdd, reduceIte, Nat.reduceMul, ptrTo, sliceTo, mapTo, List.getElem?_cons_zero, List.getElem?_cons_succ, Option.map_some, List.append_nil, List.nil_append, List.all_cons, List.all_nil, List.length_cons, List.length_nil, eq_self, Int.ofNat_lt, e4, hlt]
      refine hE2 _ _ _ (by simp) ?_
      simp only [F112, r112_133, r112_127, r112_100, SS, Nat.reduceBEq, Nat.reduceEqDiff, Nat.reduceAdd, reduceIte, Nat.reduceMul, ptrTo, sliceTo, mapTo, List.getElem?_cons_zero, List.getElem?_cons_succ, Option.map_some, List.append_nil, List.nil_append, List.all_cons, List.all_nil, List.length_cons, List.length_nil, eq_self]
      refine hQ _ _ _ _ (.inr rfl) (by simp only [SS, Nat.reduceBEq, Nat.reduceEqDiff, Nat.reduceAdd, reduceIte, Nat.reduceMul, ptrTo, sliceTo, mapTo, List.getElem?_cons_zero, List.getElem?_cons_succ, Option.map_some, List.append_nil, List.nil_append, List.all_cons, List.all_nil, List.length_cons, List.length_nil, eq_self, t220]) (by simp only [SS, Nat.reduceBEq, Nat.reduceEqDiff, Nat.reduceAdd, reduceIte, Nat.reduceMul, ptrTo, sliceTo, mapTo, List.getElem?_cons_zero, List.getElem?_cons_succ, Option.map_some, List.append_nil, List.nil_append, List.all_cons, List.all_nil, List.length_cons, List.length_nil, eq_self]; rfl) ⟨_, hA2, hS2, sni_perm hk (Nat.le_refl _) (by omega), sni_sorted hX.wk (by rw [← hac]; exact hs2) (by omega) hj ?_ ?_⟩
      · rcases hI with h | h
        · exact .inl (by omega)
        · exact .inr (.inl h)
      · rcases hJ with h | h
        · exact .inl h
        · by_cases h5 : i = e
          · exact .inl h5
          · exact .inr (R.not h (hcr a i (Nat.le_refl _) (by omega) (by omega) (by omega)))
/-- one behind the others -/
theorem sym2_ok {n : Nat} (hn : X.n0 + 1 ≤ n) (hac : a + 1 < c) (hce : e = c + 1) (hs1 : Sorted X.lt a c d) :
    WC (Q n (.fn 112) [X.sv, I a, I c, I e, X.cm] h) fun r h' => ∃ d', X.At h' d' ∧ SmB X h h' ∧ Perm a e d d' ∧ Sorted X.lt a e d' := by
  have hN := hX.sm
  obtain ⟨m, rfl⟩ : ∃ m, n = m + 1 := ⟨n - 1, by omega⟩
  refine call_fn _ f112A rfl (by simp [fn112]) fun QQ hQ => ?_
  simp only [fn112] at hQ
  simp only [fn112, fill_cons, fill_nil, Nat.zero_add, Nat.reduceAdd]
  have e0 := wSub (show a ≤ c by omega) (show c ≤ 1000000 by omega)
  have e0' : ¬ (((c - a : Nat) : Int) = 1) := by omega
  have e1 : IntKind.i64.wrap ((e : Int) - (c : Int)) = 1 := by rw [wrap_i64 (by omega) (by omega)]; omega
  simp only [F112, r112_133, r112_127, r112_100, SS, Nat.reduceBEq, Nat.reduceEqDiff, Nat.reduceAdd, reduceIte, Nat.reduceMul, ptrTo, sliceTo, mapTo, List.getElem?_cons_zero, List.getElem?_cons_succ, Option.map_some, List.append_nil, List.nil_append, List.all_cons, List.all_nil, List.length_cons, List.length_nil, eq_self, e0, e0', e1]
  refine run_loop (c := c112_53) (I := fun m' tm' h' => ∃ i j, a ≤ i ∧ i ≤ j ∧ j ≤ c ∧ m' = j - i ∧ X.At h' d ∧ SmB X h h' ∧ (i = a ∨ ¬ X.lt (d c) (d (i - 1))) ∧ (j = c ∨ X.lt (d c) (d j)) ∧ tm'.gt 0 = some X.sv ∧ tm'.gt 1 = some (I a) ∧ tm'.gt 2 = some (I c) ∧ tm'.gt 3 = some (I e) ∧ tm'.gt 4 = some X.cm ∧ tm'.gt 14 = some (I i) ∧ tm'.gt 15 = some (I j) ∧ tm'.gt 220 = none) (n := c - a)
    ⟨a, c, by omega, by omega, by omega, rfl, hA, Sm.refl _ _, .inl rfl, .inl rfl, by simp [gt_same, gt_other, gt_leaf]⟩ (by omega) ?_
  rintro _ tm h1 ⟨i, j, hi, hij, hj, rfl, hA1, hS1, hI, hJ, t0, t1, t2, t3, t4, t14, t15, t220⟩ Q1 hN1 hE
  by_cases hlt : i < j
  · obtain ⟨hb, eb, sb, _, _⟩ := Sm.bump h1 12
    have hAb := hA1.sm hX sb
    generalize hg : (i + j) / 2 = g
    have l1 := hAb.ld (i := c) (by omega)
    have l2 := hAb.ld (i := g) (by omega)
    obtain ⟨r, h3, e3, hr, hA3, s3⟩ := hAb.ask hX (n := m) (i := c) (j := g) (by omega) (by omega) (by omega)
    have hS3 : SmB X h h3 := (hS1.tr (SmB.no sb)).tr (SmB.no s3)
    have x1 := x_ia_142 (k := .i64) (b := X.b) (o := 0) (n := X.N) (c := X.cap) (g := some 1) (show g < X.N by omega)
    have x2 := x_ia_142 (k := .i64) (b := X.b) (o := 0) (n := X.N) (c := X.cap) (g := some 1) (show c < X.N by omega)
    by_cases hr0 : r < 0
    · simp only [F112, r112_133, r112_127, r112_100, t0, t1, t2, t3, t4, t14, t15, t220, SS, Nat.reduceBEq, Nat.reduceEqDiff, Nat.reduceAdd, reduceIte, Nat.reduceMul, ptrTo, sliceTo, mapTo, List.getElem?_cons_zero, List.getElem?_cons_succ, Option.map_some, List.append_nil, List.nil_append, List.all_cons, List.all_nil, List.length_cons, List.length_nil, eq_self, Int.ofNat_lt, hlt, wAdd (show i + j ≤ 1000000 by omega), x_cv_3_119, x_cv_119_3, wU (show i + j ≤ 1000000 by omega), b_half, hg, wI (show g ≤ 1000000 by omega), eb, x1, x2, l1, l2, e3, hr0, wAdd1 (show g ≤ 1000000 by omega)]
      refine hN1 _ _ (g - i) (by omega) ⟨i, g, by omega, by omega, by omega, rfl, hA3, hS3, hI, .inr (hr.1 hr0), ?_⟩
      simp only [SS, Nat.reduceBEq, Nat.reduceEqDiff, Nat.reduceAdd, reduceIte, Nat.reduceMul, ptrTo, sliceTo, mapTo, List.getElem?_cons_zero, List.getElem?_cons_succ, Option.map_some, List.append_nil, List.nil_append, List.all_cons, List.all_nil, List.length_cons, List.length_nil, eq_self, t0, t1, t2, t3, t4, t14, t15, t220, and_self]
    · simp only [F112, r112_133, r112_127, r112_100, t0, t1, t2, t3, t4, t14, t15, t220, SS, Nat.reduceBEq, Nat.reduceEqDiff, Nat.reduceAdd, reduceIte, Nat.reduceMul, ptrTo, sliceTo, mapTo, List.getElem?_cons_zero, List.getElem?_cons_succ, Option.map_some, List.append_nil, List.nil_append, List.all_cons, List.all_nil, List.length_cons, List.length_nil, eq_self, Int.ofNat_lt, hlt, wAdd (show i + j ≤ 1000000 by omega), x_cv_3_119, x_cv_119_3, wU (show i + j ≤ 1000000 by omega), b_half, hg, wI (show g ≤ 1000000 by omega), eb, x1, x2, l1, l2, e3, hr0, wAdd1 (show g ≤ 1000000 by omega)]
      refine hN1 _ _ (j - (g + 1)) (by omega) ⟨g + 1, j, by omega, by omega, by omega, rfl, hA3, hS3, .inr (fun h => hr0 (hr.2 h)), hJ, ?_⟩
      simp only [SS, Nat.reduceBEq, Nat.reduceEqDiff, Nat.reduceAdd, reduceIte, Nat.reduceMul, ptrTo, sliceTo, mapTo, List.getElem?_cons_zero, List.getElem?_cons_succ, Option.map_some, List.append_nil, List.nil_append, List.all_cons, List.all_nil, List.length_cons, List.length_nil, eq_self, t0, t1, t2, t3, t4, t14, t15, t220, and_self]
  · obtain rfl : i = j := by omega
    simp only [F112, r112_133, r112_127, r112_100, t0, t1, t2, t3, t4, t14, t15, t220, SS, Nat.reduceBEq, Nat.reduceEqDiff, Nat.reduceAdd, reduceIte, Nat.reduceMul, ptrTo, sliceTo, mapTo, List.getElem?_cons_zero, List.getElem?_cons_succ, Option.map_some, List.append_nil, List.nil_append, List.all_cons, List.all_nil, List.length_cons, List.length_nil, eq_self, Int.ofNat_lt, hlt]
    refine hE _ _ _ (by simp) ?_
    simp only [F112, r112_133, r112_127, r112_100, t0, t1, t2, t3, t4, t14, t15, t220, SS, Nat.reduceBEq, Nat.reduceEqDiff, Nat.reduceAdd, reduceIte, Nat.reduceMul, ptrTo, sliceTo, mapTo, List.getElem?_cons_zero, List.getElem?_cons_succ, Option.map_some, List.append_nil, List.nil_append, List.all_cons, List.all_nil, List.length_cons, List.length_nil, eq_self]
    refine run_loop (c := c112_72) (I := fun m' tm' h' => ∃ k, i ≤ k ∧ k ≤ c ∧ m' = k - i ∧ X.At h' (ins d c k) ∧ SmB X h h' ∧ tm'.gt 0 = some X.sv ∧ tm'.gt 14 = some (I i) ∧ tm'.gt 17 = some (I k) ∧ tm'.gt 220 = none) (n := c - i)
      ⟨c, by omega, by omega, rfl, by rw [ins_self]; exact hA1, hS1, by simp only [SS, Nat.reduceBEq, Nat.reduceEqDiff, Nat.reduceAdd, reduceIte, Nat.reduceMul, ptrTo, sliceTo, mapTo, List.getElem?_cons_zero, List.getElem?_cons_succ, Option.map_some, List.append_nil, List.nil_append, List.all_cons, List.all_nil, List.length_cons, List.length_nil, eq_self, t0, t2, t14, t220, and_self]⟩ (by omega) ?_
    rintro _ tm h2 ⟨k, hk, hki, rfl, hA2, hS2, t0, t14, t17, t220⟩ Q2 hN2 hE2
    by_cases hlt : i < k
    · obtain ⟨k, rfl⟩ : ∃ k', k = k' + 1 := ⟨k - 1, by omega⟩
      obtain ⟨hb, eb, sb, _, _⟩ := Sm.bump h2 18
      have hAb := hA2.sm hX sb
      obtain ⟨h4, h5, e5, e6, a5, s5⟩ := hAb.swap hX (i := k + 1) (j := k) (by omega) (by omega)
      rw [ins_step (by omega)] at a5
      have l1 := hAb.ld (i := k + 1) (by omega)
      have l2 := hAb.ld (i := k) (by omega)
      have ek : IntKind.i64.wrap (((k + 1 : Nat) : Int) - 1) = (k : Int) := by rw [wrap_i64 (by omega) (by omega)]; omega
      have x1 := x_ia_142 (k := .i64) (b := X.b) (o := 0) (n := X.N) (c := X.cap) (g := some 1) (show k + 1 < X.N by omega)
      have x2 := x_ia_142 (k := .i64) (b := X.b) (o := 0) (n := X.N) (c := X.cap) (g := some 1) (show k < X.N by omega)
      simp only [F112, r112_133, r112_127, r112_100, t0, t14, t17, t220, SS, Nat.reduceBEq, Nat.reduceEqDiff, Nat.reduceAdd, reduceIte, Nat.reduceMul, ptrTo, sliceTo, mapTo, List.getElem?_cons_zero, List.getElem?_cons_succ, Option.map_some, List.append_nil, List.nil_append, List.all_cons, List.all_nil, List.length_cons, List.length_nil, eq_self, Int.ofNat_lt, hlt, eb, ek, x1, x2, l1, l2, e5, e6]
      refine hN2 _ _ (k - i) (by omega) ⟨k, by omega, by omega, rfl, a5, (hS2.tr (SmB.no sb)).tr s5, ?_⟩
      simp only [SS, Nat.reduceBEq, Nat.reduceEqDiff, Nat.reduceAdd, reduceIte, Nat.reduceMul, ptrTo, sliceTo, mapTo, List.getElem?_cons_zero, List.getElem?_cons_succ, Option.map_some, List.append_nil, List.nil_append, List.all_cons, List.all_nil, List.length_cons, List.length_nil, eq_self, t0, t14, t17, t220, and_self]
    · obtain rfl : i = k := by omega
      simp only [F112, r112_133, r112_127, r112_100, t0, t14, t17, t220, SS, Nat.reduceBEq, Nat.reduceEqDiff, Nat.reduceAdd, reduceIte, Nat.reduceMul, ptrTo, sliceTo, mapTo, List.getElem?_cons_zero, List.getElem?_cons_succ, Option.map_some, List.append_nil, List.nil_append, List.all_cons, List.all_nil, List.length_cons, List.length_nil, eq_self, Int.ofNat_lt, hlt]
      refine hE2 _ _ _ (by simp) ?_
      simp only [F112, r112_133, r112_127, r112_100, SS, Nat.reduceBEq, Nat.reduceEqDiff, Nat.reduceAdd, reduceIte, Nat.reduceMul, ptrTo, sliceTo, mapTo, List.getElem?_cons_zero, List.getElem?_cons_succ, Option.map_some, List.append_nil, List.nil_append, List.all_cons, List.all_nil, List.length_cons, List.length_nil, eq_self]
      refine hQ _ _ _ _ (.inr rfl) (by simp only [SS, Nat.reduceBEq, Nat.reduceEqDiff, Nat.reduceAdd, reduceIte, Nat.reduceMul, ptrTo, sliceTo, mapTo, List.getElem?_cons_zero, List.getElem?_cons_succ, Option.map_some, List.append_nil, List.nil_append, List.all_cons, List.all_nil, List.length_cons, List.length_nil, eq_self, t220]) (by simp only [SS, Nat.reduceBEq, Nat.reduceEqDiff, Nat.reduceAdd, reduceIte, Nat.reduceMul, ptrTo, sliceTo, mapTo, List.getElem?_cons_zero, List.getElem?_cons_succ, Option.map_some, List.append_nil, List.nil_append, List.all_cons, List.all_nil, List.length_cons, List.length_nil, eq_self]; rfl) ⟨_, hA2, hS2, ins_perm hki hi (by omega), ?_⟩
      rw [hce]
      refine ins_sorted hX.wk hs1 hi hki ?_ ?_
      · rcases hI with h | h
        · exact .inl h
        · by_cases h5 : i = a
          · exact .inl h5
          · exact .inr (R.not h (hcr (i - 1) c (by omega) (by omega) (Nat.le_refl _) (by omega)))
      · rcases hJ with h | h
        · exact .inl h
        · exact .inr (.inl h)
end
end Go.Proofs.Ytlfednnfkejcjaa

namespace Go.Proofs.Ytlfednnfkejcjaa
open Go.Am Go.Qs
set_option maxRecDepth 10000
theorem Sorted.cg {lt : Nat → Nat → Prop} {a e : Nat} {d d' : Nat → Nat} (h : Sorted lt a e d) (hd : ∀ k, a ≤ k → k < e → d' k = d k) : Sorted lt a e d' := by
  intro i j x y z
  rw [hd i x (by omega), hd j (by omega) z]; exact h i j x y z
theorem Cross.cg {a c e : Nat} {d d' : Nat → Nat} (h : Cross a c e d) (hd : ∀ k, a ≤ k → k < e → d' k = d k) : Cross a c e d' := by
  intro i j x y z w
  rw [hd i x (by omega), hd j (by omega) w]; exact h i j x y z w
theorem sym_ok {X : Cx} (hX : X.Ok) : ∀ (w n : Nat), X.n0 + 3 + w ≤ n → ∀ (h : Heap) (d : Nat → Nat) (a c e : Nat), X.At h d → e ≤ X.N → a < c → c < e → e - a ≤ w → Sorted X.lt a c d → Sorted X.lt c e d → Cross a c e d →
    WC (Q n (.fn 112) [X.sv, I a, I c, I e, X.cm] h) fun r h' => ∃ d', X.At h' d' ∧ SmB X h h' ∧ Perm a e d d' ∧ Sorted X.lt a e d' := by
  intro w
  induction w with
  | zero => intro n hn h d a c e hA he hac hce hw; omega
  | succ w ih =>
  intro n hn h d a c e hA he hac hce hw hs1 hs2 hcr
  have hN := hX.sm
  by_cases c1 : c = a + 1
  · exact sym1_ok hX hA he hcr (by omega) c1 hce hs2
  by_cases c2 : e = c + 1
  · exact sym2_ok hX hA he hcr (by omega) (by omega) c2 hs1
  obtain ⟨m, rfl⟩ : ∃ m, n = m + 1 := ⟨n - 1, by omega⟩
  refine call_fn _ f112A rfl (by simp [fn112]) fun QQ hQ => ?_
  simp only [fn112] at hQ
  simp only [fn112, fill_cons, fill_nil, Nat.zero_add, Nat.reduceAdd]
  have e0 := wSub (show a ≤ c by omega) (show c ≤ 1000000 by omega)
  have e0' : ¬ (((c - a : Nat) : Int) = 1) := by omega
  have e1 := wSub (show c ≤ e by omega) (show e ≤ 1000000 by omega)
  have e1' : ¬ (((e - c : Nat) : Int) = 1) := by omega
  generalize hM : (a + e) / 2 = M
  -- behind the two lesser merges' first
  have kC : ∀ tm h2 d2 (s t : Nat), tm.gt 0 = some X.sv → tm.gt 3 = some (I e) → tm.gt 4 = some X.cm → tm.gt 18 = some (I M) → tm.gt 24 = some (I t) → tm.gt 220 = none → X.At h2 d2 → SmB X h h2 → a ≤ M → M ≤ t → t ≤ e → M < e → a < M →
      (∀ p q, a ≤ p → p < M → M ≤ q → q < e → R X.lt (d2 p) (d2 q)) → Perm a e d d2 → Sorted X.lt a M d2 → Sorted X.lt M t d2 → Sorted X.lt t e d2 → Cross M t e d2 →
      run (Q m) 100000 220 112 none c112_133 [] tm h2 QQ := by
    intro tm h2 d2 s t t0 t3 t4 t18 t24 t220 hA2 hS2 b1 b2 b3 b4 b5 hall hP sA sB sC sD
    by_cases c3 : M < t
    · by_cases c4 : t < e
      · obtain ⟨r, h3, e3, d3, g1, g2, g3, g4⟩ := ih m (by omega) h2 d2 M t e hA2 he c3 c4 (by omega) sB sC sD
        simp only [F112, r112_133, r112_127, r112_100, t0, t3, t4, t18, t24, t220, SS, Nat.reduceBEq, Nat.reduceEqDiff, Nat.reduceAdd, reduceIte, Nat.reduceMul, ptrTo, sliceTo, mapTo, List.getElem?_cons_zero, List.getElem?_cons_succ, Option.map_some, List.append_nil, List.nil_append, List.all_cons, List.all_nil, List.length_cons, List.length_nil, eq_self, Int.ofNat_lt, c3, c4, e3]
        exact hQ _ _ _ _ (.inl rfl) (by simp only [SS, Nat.reduceBEq, Nat.reduceEqDiff, Nat.reduceAdd, reduceIte, Nat.reduceMul, ptrTo, sliceTo, mapTo, List.getElem?_cons_zero, List.getElem?_cons_succ, Option.map_some, List.append_nil, List.nil_append, List.all_cons, List.all_nil, List.length_cons, List.length_nil, eq_self, t220]) (by simp only [SS, Nat.reduceBEq, Nat.reduceEqDiff, Nat.reduceAdd, reduceIte, Nat.reduceMul, ptrTo, sliceTo, mapTo, List.getElem?_cons_zero, List.getElem?_cons_succ, Option.map_some, List.append_nil, List.nil_append, List.all_cons, List.all_nil, List.length_cons, List.length_nil, eq_self]; rfl) ⟨d3, g1, hS2.tr g2, hP.trans (g3.mono b1 (Nat.le_refl _)), join_sorted hall b1 (by omega) (Perm.refl _ _ _) sA g3 g4⟩
      · simp only [F112, r112_133, r112_127, r112_100, t0, t3, t4, t18, t24, t220, SS, Nat.reduceBEq, Nat.reduceEqDiff, Nat.reduceAdd, reduceIte, Nat.reduceMul, ptrTo, sliceTo, mapTo, List.getElem?_cons_zero, List.getElem?_cons_succ, Option.map_some, List.append_nil, List.nil_append, List.all_cons, List.all_nil, List.length_cons, List.length_nil, eq_self, Int.ofNat_lt, c3, c4]
        have : t = e := by omega
        subst this
        exact hQ _ _ _ _ (.inl rfl) (by simp only [SS, Nat.reduceBEq, Nat.reduceEqDiff, Nat.reduceAdd, reduceIte, Nat.reduceMul, ptrTo, sliceTo, mapTo, List.getElem?_cons_zero, List.getElem?_cons_succ, Option.map_some, List.append_nil, List.nil_append, List.all_cons, List.all_nil, List.length_cons, List.length_nil, eq_self, t220]) (by simp only [SS, Nat.reduceBEq, Nat.reduceEqDiff, Nat.reduceAdd, reduceIte, Nat.reduceMul, ptrTo, sliceTo, mapTo, List.getElem?_cons_zero, List.getElem?_cons_succ, Option.map_some, List.append_nil, List.nil_append, List.all_cons, List.all_nil, List.length_cons, List.length_nil, eq_self]; rfl) ⟨d2, hA2, hS2, hP, join_sorted hall b1 (by omega) (Perm.refl _ _ _) sA (Perm.refl _ _ _) sB⟩
    · simp only [F112, r112_133, r112_127, r112_100, t0, t3, t4, t18, t24, t220, SS, Nat.reduceBEq, Nat.reduceEqDiff, Nat.reduceAdd, reduceIte, Nat.reduceMul, ptrTo, sliceTo, mapTo, List.getElem?_cons_zero, List.getElem?_cons_succ, Option.map_some, List.append_nil, List.nil_append, List.all_cons, List.all_nil, List.length_cons, List.length_nil, eq_self, Int.ofNat_lt, c3]
      have : t = M := by omega
      subst this
      exact hQ _ _ _ _ (.inl rfl) (by simp only [SS, Nat.reduceBEq, Nat.reduceEqDiff, Nat.reduceAdd, reduceIte, Nat.reduceMul, ptrTo, sliceTo, mapTo, List.getElem?_cons_zero, List.getElem?_cons_succ, Option.map_some, List.append_nil, List.nil_append, List.all_cons, List.all_nil, List.length_cons, List.length_nil, eq_self, t220]) (by simp only [SS, Nat.reduceBEq, Nat.reduceEqDiff, Nat.reduceAdd, reduceIte, Nat.reduceMul, ptrTo, sliceTo, mapTo, List.getElem?_cons_zero, List.getElem?_cons_succ, Option.map_some, List.append_nil, List.nil_append, List.all_cons, List.all_nil, List.length_cons, List.length_nil, eq_self]; rfl) ⟨d2, hA2, hS2, hP, join_sorted hall b1 (by omega) (Perm.refl _ _ _) sA (Perm.refl _ _ _) sC⟩
  -- behind the rotation
  have kB : ∀ tm h2 s t, tm.gt 0 = some X.sv → tm.gt 1 = some (I a) → tm.gt 3 = some (I e) → tm.gt 4 = some X.cm → tm.gt 18 = some (I M) → tm.gt 20 = some (I s) → tm.gt 24 = some (I t) → tm.gt 220 = none → X.At h2 (rot d s c t) → SmB X h h2 → a ≤ s → s ≤ c → c ≤ t → t ≤ e → s + t = M + c →
      (s = a ∨ t = e ∨ R X.lt (d (s - 1)) (d t)) → (s = c ∨ t = c ∨ R X.lt (d (t - 1)) (d s)) →
      run (Q m) 100000 220 112 none c112_127 [] tm h2 QQ := by
    intro tm h2 s t t0 t1 t3 t4 t18 t20 t24 t220 hA2 hS2 b1 b2 b3 b4 b5 b6 b7
    obtain ⟨o1, o2, o3, o4, o5, o6, o7⟩ := cut_ok hX.wk hs1 hs2 hcr b1 b2 b3 b4 b5 b6 b7
    have hP : Perm a e d (rot d s c t) := (rot_perm b2 b3).mono b1 b4
    by_cases c3 : a < s
    · by_cases c4 : s < M
      · obtain ⟨r, h3, e3, d3, g1, g2, g3, g4⟩ := ih m (by omega) h2 _ a s M hA2 (by omega) c3 c4 (by omega) o1 o2 o3
        simp only [F112, r112_127, r112_100, t0, t1, t3, t4, t18, t20, t24, t220, SS, Nat.reduceBEq, Nat.reduceEqDiff, Nat.reduceAdd, reduceIte, Nat.reduceMul, ptrTo, sliceTo, mapTo, List.getElem?_cons_zero, List.getElem?_cons_succ, Option.map_some, List.append_nil, List.nil_append, List.all_cons, List.all_nil, List.length_cons, List.length_nil, eq_self, Int.ofNat_lt, c3, c4, e3]
        have hout : ∀ k, M ≤ k → d3 k = rot d s c t k := fun k hk => g3.out (.inr hk)
        exact kC _ h3 d3 s t (by simp only [SS, Nat.reduceBEq, Nat.reduceEqDiff, Nat.reduceAdd, reduceIte, Nat.reduceMul, ptrTo, sliceTo, mapTo, List.getElem?_cons_zero, List.getElem?_cons_succ, Option.map_some, List.append_nil, List.nil_append, List.all_cons, List.all_nil, List.length_cons, List.length_nil, eq_self, t0]) (by simp only [SS, Nat.reduceBEq, Nat.reduceEqDiff, Nat.reduceAdd, reduceIte, Nat.reduceMul, ptrTo, sliceTo, mapTo, List.getElem?_cons_zero, List.getElem?_cons_succ, Option.map_some, List.append_nil, List.nil_append, List.all_cons, List.all_nil, List.length_cons, List.length_nil, eq_self, t3]) (by simp only [SS, Nat.reduceBEq, Nat.reduceEqDiff, Nat.reduceAdd, reduceIte, Nat.reduceMul, ptrTo, sliceTo, mapTo, List.getElem?_cons_zero, List.getElem?_cons_succ, Option.map_some, List.append_nil, List.nil_append, List.all_cons, List.all_nil, List.length_cons, List.length_nil, eq_self, t4]) (by simp only [SS, Nat.reduceBEq, Nat.reduceEqDiff, Nat.reduceAdd, reduceIte, Nat.reduceMul, ptrTo, sliceTo, mapTo, List.getElem?_cons_zero, List.getElem?_cons_succ, Option.map_some, List.append_nil, List.nil_append, List.all_cons, List.all_nil, List.length_cons, List.length_nil, eq_self, t18]) (by simp only [SS, Nat.reduceBEq, Nat.reduceEqDiff, Nat.reduceAdd, reduceIte, Nat.reduceMul, ptrTo, sliceTo, mapTo, List.getElem?_cons_zero, List.getElem?_cons_succ, Option.map_some, List.append_nil, List.nil_append, List.all_cons, List.all_nil, List.length_cons, List.length_nil, eq_self, t24]) (by simp only [SS, Nat.reduceBEq, Nat.reduceEqDiff, Nat.reduceAdd, reduceIte, Nat.reduceMul, ptrTo, sliceTo, mapTo, List.getElem?_cons_zero, List.getElem?_cons_succ, Option.map_some, List.append_nil, List.nil_append, List.all_cons, List.all_nil, List.length_cons, List.length_nil, eq_self, t220]) g1 (hS2.tr g2) (by omega) (by omega) b4 (by omega) (by omega)
          (fun p q x y z w => by obtain ⟨p', p1, p2, p3⟩ := g3.at x y; rw [p3, hout q z]; exact o7 p' q p1 p2 z w) (hP.trans (g3.mono (Nat.le_refl _) (by omega))) g4 (Sorted.cg o4 fun k x _ => hout k x) (Sorted.cg o5 fun k x _ => hout k (by omega)) (Cross.cg o6 fun k x _ => hout k x)
      · simp only [F112, r112_127, r112_100, t0, t1, t3, t4, t18, t20, t24, t220, SS, Nat.reduceBEq, Nat.reduceEqDiff, Nat.reduceAdd, reduceIte, Nat.reduceMul, ptrTo, sliceTo, mapTo, List.getElem?_cons_zero, List.getElem?_cons_succ, Option.map_some, List.append_nil, List.nil_append, List.all_cons, List.all_nil, List.length_cons, List.length_nil, eq_self, Int.ofNat_lt, c3, c4]
        have : s = M := by omega
        exact kC _ h2 _ s t (by simp only [SS, Nat.reduceBEq, Nat.reduceEqDiff, Nat.reduceAdd, reduceIte, Nat.reduceMul, ptrTo, sliceTo, mapTo, List.getElem?_cons_zero, List.getElem?_cons_succ, Option.map_some, List.append_nil, List.nil_append, List.all_cons, List.all_nil, List.length_cons, List.length_nil, eq_self, t0]) (by simp only [SS, Nat.reduceBEq, Nat.reduceEqDiff, Nat.reduceAdd, reduceIte, Nat.reduceMul, ptrTo, sliceTo, mapTo, List.getElem?_cons_zero, List.getElem?_cons_succ, Option.map_some, List.append_nil, List.nil_append, List.all_cons, List.all_nil, List.length_cons, List.length_nil, eq_self, t3]) (by simp only [SS, Nat.reduceBEq, Nat.reduceEqDiff, Nat.reduceAdd, reduceIte, Nat.reduceMul, ptrTo, sliceTo, mapTo, List.getElem?_cons_zero, List.getElem?_cons_succ, Option.map_some, List.append_nil, List.nil_append, List.all_cons, List.all_nil, List.length_cons, List.length_nil, eq_self, t4]) (by simp only [SS, Nat.reduceBEq, Nat.reduceEqDiff, Nat.reduceAdd, reduceIte, Nat.reduceMul, ptrTo, sliceTo, mapTo, List.getElem?_cons_zero, List.getElem?_cons_succ, Option.map_some, List.append_nil, List.nil_append, List.all_cons, List.all_nil, List.length_cons, List.length_nil, eq_self, t18]) (by simp only [SS, Nat.reduceBEq, Nat.reduceEqDiff, Nat.reduceAdd, reduceIte, Nat.reduceMul, ptrTo, sliceTo, mapTo, List.getElem?_cons_zero, List.getElem?_cons_succ, Option.map_some, List.append_nil, List.nil_append, List.all_cons, List.all_nil, List.length_cons, List.length_nil, eq_self, t24]) (by simp only [SS, Nat.reduceBEq, Nat.reduceEqDiff, Nat.reduceAdd, reduceIte, Nat.reduceMul, ptrTo, sliceTo, mapTo, List.getElem?_cons_zero, List.getElem?_cons_succ, Option.map_some, List.append_nil, List.nil_append, List.all_cons, List.all_nil, List.length_cons, List.length_nil, eq_self, t220]) hA2 hS2 (by omega) (by omega) b4 (by omega) (by omega) o7 hP (by rw [← this]; exact o1) o4 o5 o6
    · simp only [F112, r112_127, r112_100, t0, t1, t3, t4, t18, t20, t24, t220, SS, Nat.reduceBEq, Nat.reduceEqDiff, Nat.reduceAdd, reduceIte, Nat.reduceMul, ptrTo, sliceTo, mapTo, List.getElem?_cons_zero, List.getElem?_cons_succ, Option.map_some, List.append_nil, List.nil_append, List.all_cons, List.all_nil, List.length_cons, List.length_nil, eq_self, Int.ofNat_lt, c3]
      have : s = a := by omega
      exact kC _ h2 _ s t (by simp only [SS, Nat.reduceBEq, Nat.reduceEqDiff, Nat.reduceAdd, reduceIte, Nat.reduceMul, ptrTo, sliceTo, mapTo, List.getElem?_cons_zero, List.getElem?_cons_succ, Option.map_some, List.append_nil, List.nil_append, List.all_cons, List.all_nil, List.length_cons, List.length_nil, eq_self, t0]) (by simp only [SS, Nat.reduceBEq, Nat.reduceEqDiff, Nat.reduceAdd, reduceIte, Nat.reduceMul, ptrTo, sliceTo, mapTo, List.getElem?_cons_zero, List.getElem?_cons_succ, Option.map_some, List.append_nil, List.nil_append, List.all_cons, List.all_nil, List.length_cons, List.length_nil, eq_self, t3]) (by simp only [SS, Nat.reduceBEq, Nat.reduceEqDiff, Nat.reduceAdd, reduceIte, Nat.reduceMul, ptrTo, sliceTo, mapTo, List.getElem?_cons_zero, List.getElem?_cons_succ, Option.map_some, List.append_nil, List.nil_append, List.all_cons, List.all_nil, List.length_cons, List.length_nil, eq_self, t4]) (by simp only [SS, Nat.reduceBEq, Nat.reduceEqDiff, Nat.reduceAdd, reduceIte, Nat.reduceMul, ptrTo, sliceTo, mapTo, List.getElem?_cons_zero, List.getElem?_cons_succ, Option.map_some, List.append_nil, List.nil_append, List.all_cons, List.all_nil, List.length_cons, List.length_nil, eq_self, t18]) (by simp only [SS, Nat.reduceBEq, Nat.reduceEqDiff, Nat.reduceAdd, reduceIte, Nat.reduceMul, ptrTo, sliceTo, mapTo, List.getElem?_cons_zero, List.getElem?_cons_succ, Option.map_some, List.append_nil, List.nil_append, List.all_cons, List.all_nil, List.length_cons, List.length_nil, eq_self, t24]) (by simp only [SS, Nat.reduceBEq, Nat.reduceEqDiff, Nat.reduceAdd, reduceIte, Nat.reduceMul, ptrTo, sliceTo, mapTo, List.getElem?_cons_zero, List.getElem?_cons_succ, Option.map_some, List.append_nil, List.nil_append, List.all_cons, List.all_nil, List.length_cons, List.length_nil, eq_self, t220]) hA2 hS2 (by omega) (by omega) b4 (by omega) (by omega) o7 hP (by rw [← this]; exact o2) o4 o5 o6
  -- the search
  have kA : ∀ lo hi tm, tm.gt 0 = some X.sv → tm.gt 1 = some (I a) → tm.gt 2 = some (I c) → tm.gt 3 = some (I e) → tm.gt 4 = some X.cm → tm.gt 18 = some (I M) → tm.gt 19 = some (I (M + c)) → tm.gt 20 = some (I lo) → tm.gt 21 = some (I hi) → tm.gt 220 = none → a ≤ lo → lo ≤ hi → hi ≤ c → hi ≤ M → M + c ≤ lo + e → (lo = a ∨ lo + e = M + c) → (hi = c ∨ hi = M) →
      run (Q m) 100000 220 112 none c112_100 [] tm h QQ := by
    intro lo hi tm t0 t1 t2 t3 t4 t18 t19 t20 t21 t220 b1 b2 b3 b4 b5 b6 b7
    simp only [F112, r112_133, r112_127, r112_100, t0, t1, t2, t3, t4, t18, t19, t20, t21, t220, SS, Nat.reduceBEq, Nat.reduceEqDiff, Nat.reduceAdd, reduceIte, Nat.reduceMul, ptrTo, sliceTo, mapTo, List.getElem?_cons_zero, List.getElem?_cons_succ, Option.map_some, List.append_nil, List.nil_append, List.all_cons, List.all_nil, List.length_cons, List.length_nil, eq_self, wSub1 (show 1 ≤ M + c by omega) (show M + c ≤ 1000000 by omega)]
    refine run_loop (c := c112_105) (I := fun m' tm' h' => ∃ s r, lo ≤ s ∧ s ≤ r ∧ r ≤ hi ∧ m' = r - s ∧ X.At h' d ∧ SmB X h h' ∧ (s = lo ∨ ¬ X.lt (d (M + c - 1 - (s - 1))) (d (s - 1))) ∧ (r = hi ∨ X.lt (d (M + c - 1 - r)) (d r)) ∧ tm'.gt 0 = some X.sv ∧ tm'.gt 1 = some (I a) ∧ tm'.gt 2 = some (I c) ∧ tm'.gt 3 = some (I e) ∧ tm'.gt 4 = some X.cm ∧ tm'.gt 18 = some (I M) ∧ tm'.gt 19 = some (I (M + c)) ∧ tm'.gt 20 = some (I s) ∧ tm'.gt 21 = some (I r) ∧ tm'.gt 22 = some (I (M + c - 1)) ∧ tm'.gt 220 = none) (n := hi - lo)
      ⟨lo, hi, Nat.le_refl _, b2, Nat.le_refl _, rfl, hA, Sm.refl _ _, .inl rfl, .inl rfl, by simp only [SS, Nat.reduceBEq, Nat.reduceEqDiff, Nat.reduceAdd, reduceIte, Nat.reduceMul, ptrTo, sliceTo, mapTo, List.getElem?_cons_zero, List.getElem?_cons_succ, Option.map_some, List.append_nil, List.nil_append, List.all_cons, List.all_nil, List.length_cons, List.length_nil, eq_self, t0, t1, t2, t3, t4, t18, t19, t20, t21, t220, and_self]⟩ (by omega) ?_
    rintro _ tm h1 ⟨s, r, g1, g2, g3, rfl, hA1, hS1, hL, hR, t0, t1, t2, t3, t4, t18, t19, t20, t21, t22, t220⟩ Q1 hN1 hE
    by_cases hlt : s < r
    · obtain ⟨hb, eb, sb, _, _⟩ := Sm.bump h1 14
      have hAb := hA1.sm hX sb
      generalize hg : (s + r) / 2 = g
      have l1 := hAb.ld (i := M + c - 1 - g) (by omega)
      have l2 := hAb.ld (i := g) (by omega)
      obtain ⟨v, h3, e3, hr, hA3, s3⟩ := hAb.ask hX (n := m) (i := M + c - 1 - g) (j := g) (by omega) (by omega) (by omega)
      have hS3 : SmB X h h3 := (hS1.tr (SmB.no sb)).tr (SmB.no s3)
      have x1 := x_ia_142 (k := .i64) (b := X.b) (o := 0) (n := X.N) (c := X.cap) (g := some 1) (show M + c - 1 - g < X.N by omega)
      have x2 := x_ia_142 (k := .i64) (b := X.b) (o := 0) (n := X.N) (c := X.cap) (g := some 1) (show g < X.N by omega)
      by_cases hr0 : v < 0
      · simp only [F112, r112_133, r112_127, r112_100, t0, t1, t2, t3, t4, t18, t19, t20, t21, t22, t220, SS, Nat.reduceBEq, Nat.reduceEqDiff, Nat.reduceAdd, reduceIte, Nat.reduceMul, ptrTo, sliceTo, mapTo, List.getElem?_cons_zero, List.getElem?_cons_succ, Option.map_some, List.append_nil, List.nil_append, List.all_cons, List.all_nil, List.length_cons, List.length_nil, eq_self, Int.ofNat_lt, hlt, wAdd (show s + r ≤ 1000000 by omega), x_cv_3_119, x_cv_119_3, wU (show s + r ≤ 1000000 by omega), b_half, hg, wI (show g ≤ 1000000 by omega), wSub (show g ≤ M + c - 1 by omega) (show M + c - 1 ≤ 1000000 by omega), eb, x1, x2, l1, l2, e3, hr0, wAdd1 (show g ≤ 1000000 by omega)]
        refine hN1 _ _ (g - s) (by omega) ⟨s, g, by omega, by omega, by omega, rfl, hA3, hS3, hL, .inr (hr.1 hr0), ?_⟩
        simp only [SS, Nat.reduceBEq, Nat.reduceEqDiff, Nat.reduceAdd, reduceIte, Nat.reduceMul, ptrTo, sliceTo, mapTo, List.getElem?_cons_zero, List.getElem?_cons_succ, Option.map_some, List.append_nil, List.nil_append, List.all_cons, List.all_nil, List.length_cons, List.length_nil, eq_self, t0, t1, t2, t3, t4, t18, t19, t20, t21, t22, t220, and_self]
      · simp only [F112, r112_133, r112_127, r112_100, t0, t1, t2, t3, t4, t18, t19, t20, t21, t22, t220, SS, Nat.reduceBEq, Nat.reduceEqDiff, Nat.reduceAdd, reduceIte, Nat.reduceMul, ptrTo, sliceTo, mapTo, List.getElem?_cons_zero, List.getElem?_cons_succ, Option.map_some, List.append_nil, List.nil_append, List.all_cons, List.all_nil, List.length_cons, List.length_nil, eq_self, Int.ofNat_lt, hlt, wAdd (show s + r ≤ 1000000 by omega), x_cv_3_119, x_cv_119_3, wU (show s + r ≤ 1000000 by omega), b_half, hg, wI (show g ≤ 1000000 by omega), wSub (show g ≤ M + c - 1 by omega) (show M + c - 1 ≤ 1000000 by omega), eb, x1, x2, l1, l2, e3, hr0, wAdd1 (show g ≤ 1000000 by omega)]
        refine hN1 _ _ (r - (g + 1)) (by omega) ⟨g + 1, r, by omega, by omega, by omega, rfl, hA3, hS3, .inr (fun h => hr0 (hr.2 h)), hR, ?_⟩
        simp only [SS, Nat.reduceBEq, Nat.reduceEqDiff, Nat.reduceAdd, reduceIte, Nat.reduceMul, ptrTo, sliceTo, mapTo, List.getElem?_cons_zero, List.getElem?_cons_succ, Option.map_some, List.append_nil, List.nil_append, List.all_cons, List.all_nil, List.length_cons, List.length_nil, eq_self, t0, t1, t2, t3, t4, t18, t19, t20, t21, t22, t220, and_self]
    · obtain rfl : s = r := by omega
      simp only [F112, r112_133, r112_127, r112_100, t0, t1, t2, t3, t4, t18, t19, t20, t21, t22, t220, SS, Nat.reduceBEq, Nat.reduceEqDiff, Nat.reduceAdd, reduceIte, Nat.reduceMul, ptrTo, sliceTo, mapTo, List.getElem?_cons_zero, List.getElem?_cons_succ, Option.map_some, List.append_nil, List.nil_append, List.all_cons, List.all_nil, List.length_cons, List.length_nil, eq_self, Int.ofNat_lt, hlt]
      refine hE _ _ _ (by simp) ?_
      have hb6 : s = a ∨ M + c - s = e ∨ R X.lt (d (s - 1)) (d (M + c - s)) := by
        by_cases q1 : s = a
        · exact .inl q1
        by_cases q2 : M + c - s = e
        · exact .inr (.inl q2)
        rcases hL with q | q
        · rcases b6 with b6 | b6
          · omega
          · omega
        · rw [show M + c - 1 - (s - 1) = M + c - s by omega] at q
          exact .inr (.inr (R.not q (hcr _ _ (by omega) (by omega) (by omega) (by omega))))
      have hb7 : s = c ∨ M + c - s = c ∨ R X.lt (d (M + c - s - 1)) (d s) := by
        rcases hR with q | q
        · rcases b7 with b7 | b7
          · exact .inl (by omega)
          · exact .inr (.inl (by omega))
        · rw [show M + c - 1 - s = M + c - s - 1 by omega] at q
          exact .inr (.inr (.inl q))
      have es := wSub (show s ≤ M + c by omega) (show M + c ≤ 1000000 by omega)
      by_cases c5 : s < c
      · by_cases c6 : c < M + c - s
        · obtain ⟨r, h3, e3, k1, k2⟩ := rotate_ok (n := m) (by omega) hX hA1 (a := s) (c := c) (e := M + c - s) c5 c6 (by omega)
          simp only [F112, r112_133, r112_100, t0, t1, t2, t3, t4, t18, t19, t20, t21, t22, t220, SS, Nat.reduceBEq, Nat.reduceEqDiff, Nat.reduceAdd, reduceIte, Nat.reduceMul, ptrTo, sliceTo, mapTo, List.getElem?_cons_zero, List.getElem?_cons_succ, Option.map_some, List.append_nil, List.nil_append, List.all_cons, List.all_nil, List.length_cons, List.length_nil, eq_self, Int.ofNat_lt, es, c5, c6, e3]
          exact kB _ h3 s (M + c - s) (by simp only [SS, Nat.reduceBEq, Nat.reduceEqDiff, Nat.reduceAdd, reduceIte, Nat.reduceMul, ptrTo, sliceTo, mapTo, List.getElem?_cons_zero, List.getElem?_cons_succ, Option.map_some, List.append_nil, List.nil_append, List.all_cons, List.all_nil, List.length_cons, List.length_nil, eq_self, t0]) (by simp only [SS, Nat.reduceBEq, Nat.reduceEqDiff, Nat.reduceAdd, reduceIte, Nat.reduceMul, ptrTo, sliceTo, mapTo, List.getElem?_cons_zero, List.getElem?_cons_succ, Option.map_some, List.append_nil, List.nil_append, List.all_cons, List.all_nil, List.length_cons, List.length_nil, eq_self, t1]) (by simp only [SS, Nat.reduceBEq, Nat.reduceEqDiff, Nat.reduceAdd, reduceIte, Nat.reduceMul, ptrTo, sliceTo, mapTo, List.getElem?_cons_zero, List.getElem?_cons_succ, Option.map_some, List.append_nil, List.nil_append, List.all_cons, List.all_nil, List.length_cons, List.length_nil, eq_self, t3]) (by simp only [SS, Nat.reduceBEq, Nat.reduceEqDiff, Nat.reduceAdd, reduceIte, Nat.reduceMul, ptrTo, sliceTo, mapTo, List.getElem?_cons_zero, List.getElem?_cons_succ, Option.map_some, List.append_nil, List.nil_append, List.all_cons, List.all_nil, List.length_cons, List.length_nil, eq_self, t4]) (by simp only [SS, Nat.reduceBEq, Nat.reduceEqDiff, Nat.reduceAdd, reduceIte, Nat.reduceMul, ptrTo, sliceTo, mapTo, List.getElem?_cons_zero, List.getElem?_cons_succ, Option.map_some, List.append_nil, List.nil_append, List.all_cons, List.all_nil, List.length_cons, List.length_nil, eq_self, t18]) (by simp only [SS, Nat.reduceBEq, Nat.reduceEqDiff, Nat.reduceAdd, reduceIte, Nat.reduceMul, ptrTo, sliceTo, mapTo, List.getElem?_cons_zero, List.getElem?_cons_succ, Option.map_some, List.append_nil, List.nil_append, List.all_cons, List.all_nil, List.length_cons, List.length_nil, eq_self, t20]) (by simp only [SS, Nat.reduceBEq, Nat.reduceEqDiff, Nat.reduceAdd, reduceIte, Nat.reduceMul, ptrTo, sliceTo, mapTo, List.getElem?_cons_zero, List.getElem?_cons_succ, Option.map_some, List.append_nil, List.nil_append, List.all_cons, List.all_nil, List.length_cons, List.length_nil, eq_self]) (by simp only [SS, Nat.reduceBEq, Nat.reduceEqDiff, Nat.reduceAdd, reduceIte, Nat.reduceMul, ptrTo, sliceTo, mapTo, List.getElem?_cons_zero, List.getElem?_cons_succ, Option.map_some, List.append_nil, List.nil_append, List.all_cons, List.all_nil, List.length_cons, List.length_nil, eq_self, t220]) k1 (hS1.tr k2) (by omega) (by omega) (by omega) (by omega) (by omega) hb6 hb7
        · simp only [F112, r112_133, r112_100, t0, t1, t2, t3, t4, t18, t19, t20, t21, t22, t220, SS, Nat.reduceBEq, Nat.reduceEqDiff, Nat.reduceAdd, reduceIte, Nat.reduceMul, ptrTo, sliceTo, mapTo, List.getElem?_cons_zero, List.getElem?_cons_succ, Option.map_some, List.append_nil, List.nil_append, List.all_cons, List.all_nil, List.length_cons, List.length_nil, eq_self, Int.ofNat_lt, es, c5, c6]
          exact kB _ h1 s (M + c - s) (by simp only [SS, Nat.reduceBEq, Nat.reduceEqDiff, Nat.reduceAdd, reduceIte, Nat.reduceMul, ptrTo, sliceTo, mapTo, List.getElem?_cons_zero, List.getElem?_cons_succ, Option.map_some, List.append_nil, List.nil_append, List.all_cons, List.all_nil, List.length_cons, List.length_nil, eq_self, t0]) (by simp only [SS, Nat.reduceBEq, Nat.reduceEqDiff, Nat.reduceAdd, reduceIte, Nat.reduceMul, ptrTo, sliceTo, mapTo, List.getElem?_cons_zero, List.getElem?_cons_succ, Option.map_some, List.append_nil, List.nil_append, List.all_cons, List.all_nil, List.length_cons, List.length_nil, eq_self, t1]) (by simp only [SS, Nat.reduceBEq, Nat.reduceEqDiff, Nat.reduceAdd, reduceIte, Nat.reduceMul, ptrTo, sliceTo, mapTo, List.getElem?_cons_zero, List.getElem?_cons_succ, Option.map_some, List.append_nil, List.nil_append, List.all_cons, List.all_nil, List.length_cons, List.length_nil, eq_self, t3]) (by simp only [SS, Nat.reduceBEq, Nat.reduceEqDiff, Nat.reduceAdd, reduceIte, Nat.reduceMul, ptrTo, sliceTo, mapTo, List.getElem?_cons_zero, List.getElem?_cons_succ, Option.map_some, List.append_nil, List.nil_append, List.all_cons, List.all_nil, List.length_cons, List.length_nil, eq_self, t4]) (by simp only [SS, Nat.reduceBEq, Nat.reduceEqDiff, Nat.reduceAdd, reduceIte, Nat.reduceMul, ptrTo, sliceTo, mapTo, List.getElem?_cons_zero, List.getElem?_cons_succ, Option.map_some, List.append_nil, List.nil_append, List.all_cons, List.all_nil, List.length_cons, List.length_nil, eq_self, t18]) (by simp only [SS, Nat.reduceBEq, Nat.reduceEqDiff, Nat.reduceAdd, reduceIte, Nat.reduceMul, ptrTo, sliceTo, mapTo, List.getElem?_cons_zero, List.getElem?_cons_succ, Option.map_some, List.append_nil, List.nil_append, List.all_cons, List.all_nil, List.length_cons, List.length_nil, eq_self, t20]) (by simp only [SS, Nat.reduceBEq, Nat.reduceEqDiff, Nat.reduceAdd, reduceIte, Nat.reduceMul, ptrTo, sliceTo, mapTo, List.getElem?_cons_zero, List.getElem?_cons_succ, Option.map_some, List.append_nil, List.nil_append, List.all_cons, List.all_nil, List.length_cons, List.length_nil, eq_self]) (by simp only [SS, Nat.reduceBEq, Nat.reduceEqDiff, Nat.reduceAdd, reduceIte, Nat.reduceMul, ptrTo, sliceTo, mapTo, List.getElem?_cons_zero, List.getElem?_cons_succ, Option.map_some, List.append_nil, List.nil_append, List.all_cons, List.all_nil, List.length_cons, List.length_nil, eq_self, t220]) (by rw [rot_nil (.inr (by omega)) (by omega) (by omega)]; exact hA1) hS1 (by omega) (by omega) (by omega) (by omega) (by omega) hb6 hb7
      · simp only [F112, r112_133, r112_100, t0, t1, t2, t3, t4, t18, t19, t20, t21, t22, t220, SS, Nat.reduceBEq, Nat.reduceEqDiff, Nat.reduceAdd, reduceIte, Nat.reduceMul, ptrTo, sliceTo, mapTo, List.getElem?_cons_zero, List.getElem?_cons_succ, Option.map_some, List.append_nil, List.nil_append, List.all_cons, List.all_nil, List.length_cons, List.length_nil, eq_self, Int.ofNat_lt, es, c5]
        exact kB _ h1 s (M + c - s) (by simp only [SS, Nat.reduceBEq, Nat.reduceEqDiff, Nat.reduceAdd, reduceIte, Nat.reduceMul, ptrTo, sliceTo, mapTo, List.getElem?_cons_zero, List.getElem?_cons_succ, Option.map_some, List.append_nil, List.nil_append, List.all_cons, List.all_nil, List.length_cons, List.length_nil, eq_self, t0]) (by simp only [SS, Nat.reduceBEq, Nat.reduceEqDiff, Nat.reduceAdd, reduceIte, Nat.reduceMul, ptrTo, sliceTo, mapTo, List.getElem?_cons_zero, List.getElem?_cons_succ, Option.map_some, List.append_nil, List.nil_append, List.all_cons, List.all_nil, List.length_cons, List.length_nil, eq_self, t1]) (by simp only [SS, Nat.reduceBEq, Nat.reduceEqDiff, Nat.reduceAdd, reduceIte, Nat.reduceMul, ptrTo, sliceTo, mapTo, List.getElem?_cons_zero, List.getElem?_cons_succ, Option.map_some, List.append_nil, List.nil_append, List.all_cons, List.all_nil, List.length_cons, List.length_nil, eq_self, t3]) (by simp only [SS, Nat.reduceBEq, Nat.reduceEqDiff, Nat.reduceAdd, reduceIte, Nat.reduceMul, ptrTo, sliceTo, mapTo, List.getElem?_cons_zero, List.getElem?_cons_succ, Option.map_some, List.append_nil, List.nil_append, List.all_cons, List.all_nil, List.length_cons, List.length_nil, eq_self, t4]) (by simp only [SS, Nat.reduceBEq, Nat.reduceEqDiff, Nat.reduceAdd, reduceIte, Nat.reduceMul, ptrTo, sliceTo, mapTo, List.getElem?_cons_zero, List.getElem?_cons_succ, Option.map_some, List.append_nil, List.nil_append, List.all_cons, List.all_nil, List.length_cons, List.length_nil, eq_self, t18]) (by simp only [SS, Nat.reduceBEq, Nat.reduceEqDiff, Nat.reduceAdd, reduceIte, Nat.reduceMul, ptrTo, sliceTo, mapTo, List.getElem?_cons_zero, List.getElem?_cons_succ, Option.map_some, List.append_nil, List.nil_append, List.all_cons, List.all_nil, List.length_cons, List.length_nil, eq_self, t20]) (by simp only [SS, Nat.reduceBEq, Nat.reduceEqDiff, Nat.reduceAdd, reduceIte, Nat.reduceMul, ptrTo, sliceTo, mapTo, List.getElem?_cons_zero, List.getElem?_cons_succ, Option.map_some, List.append_nil, List.nil_append, List.all_cons, List.all_nil, List.length_cons, List.length_nil, eq_self]) (by simp only [SS, Nat.reduceBEq, Nat.reduceEqDiff, Nat.reduceAdd, reduceIte, Nat.reduceMul, ptrTo, sliceTo, mapTo, List.getElem?_cons_zero, List.getElem?_cons_succ, Option.map_some, List.append_nil, List.nil_append, List.all_cons, List.all_nil, List.length_cons, List.length_nil, eq_self, t220]) (by rw [rot_nil (.inl (by omega)) (by omega) (by omega)]; exact hA1) hS1 (by omega) (by omega) (by omega) (by omega) (by omega) hb6 hb7
  by_cases c7 : M < c
  · simp only [F112, r112_133, r112_127, SS, Nat.reduceBEq, Nat.reduceEqDiff, Nat.reduceAdd, reduceIte, Nat.reduceMul, ptrTo, sliceTo, mapTo, List.getElem?_cons_zero, List.getElem?_cons_succ, Option.map_some, List.append_nil, List.nil_append, List.all_cons, List.all_nil, List.length_cons, List.length_nil, eq_self, e0, e0', e1, e1', wAdd (show a + e ≤ 1000000 by omega), x_cv_3_119, x_cv_119_3, wU (show a + e ≤ 1000000 by omega), b_half, hM, wI (show M ≤ 1000000 by omega), wAdd (show M + c ≤ 1000000 by omega), Int.ofNat_lt, c7, wSub (show e ≤ M + c by omega) (show M + c ≤ 1000000 by omega)]
    exact kA (M + c - e) M _ (by simp only [SS, Nat.reduceBEq, Nat.reduceEqDiff, Nat.reduceAdd, reduceIte, Nat.reduceMul, ptrTo, sliceTo, mapTo, List.getElem?_cons_zero, List.getElem?_cons_succ, Option.map_some, List.append_nil, List.nil_append, List.all_cons, List.all_nil, List.length_cons, List.length_nil, eq_self]) (by simp only [SS, Nat.reduceBEq, Nat.reduceEqDiff, Nat.reduceAdd, reduceIte, Nat.reduceMul, ptrTo, sliceTo, mapTo, List.getElem?_cons_zero, List.getElem?_cons_succ, Option.map_some, List.append_nil, List.nil_append, List.all_cons, List.all_nil, List.length_cons, List.length_nil, eq_self]) (by simp only [SS, Nat.reduceBEq, Nat.reduceEqDiff, Nat.reduceAdd, reduceIte, Nat.reduceMul, ptrTo, sliceTo, mapTo, List.getElem?_cons_zero, List.getElem?_cons_succ, Option.map_some, List.append_nil, List.nil_append, List.all_cons, List.all_nil, List.length_cons, List.length_nil, eq_self]) (by simp only [SS, Nat.reduceBEq, Nat.reduceEqDiff, Nat.reduceAdd, reduceIte, Nat.reduceMul, ptrTo, sliceTo, mapTo, List.getElem?_cons_zero, List.getElem?_cons_succ, Option.map_some, List.append_nil, List.nil_append, List.all_cons, List.all_nil, List.length_cons, List.length_nil, eq_self]) (by simp only [SS, Nat.reduceBEq, Nat.reduceEqDiff, Nat.reduceAdd, reduceIte, Nat.reduceMul, ptrTo, sliceTo, mapTo, List.getElem?_cons_zero, List.getElem?_cons_succ, Option.map_some, List.append_nil, List.nil_append, List.all_cons, List.all_nil, List.length_cons, List.length_nil, eq_self]) (by simp only [SS, Nat.reduceBEq, Nat.reduceEqDiff, Nat.reduceAdd, reduceIte, Nat.reduceMul, ptrTo, sliceTo, mapTo, List.getElem?_cons_zero, List.getElem?_cons_succ, Option.map_some, List.append_nil, List.nil_append, List.all_cons, List.all_nil, List.length_cons, List.length_nil, eq_self]) (by simp only [SS, Nat.reduceBEq, Nat.reduceEqDiff, Nat.reduceAdd, reduceIte, Nat.reduceMul, ptrTo, sliceTo, mapTo, List.getElem?_cons_zero, List.getElem?_cons_succ, Option.map_some, List.append_nil, List.nil_append, List.all_cons, List.all_nil, List.length_cons, List.length_nil, eq_self]) (by simp only [SS, Nat.reduceBEq, Nat.reduceEqDiff, Nat.reduceAdd, reduceIte, Nat.reduceMul, ptrTo, sliceTo, mapTo, List.getElem?_cons_zero, List.getElem?_cons_succ, Option.map_some, List.append_nil, List.nil_append, List.all_cons, List.all_nil, List.length_cons, List.length_nil, eq_self]) (by simp only [SS, Nat.reduceBEq, Nat.reduceEqDiff, Nat.reduceAdd, reduceIte, Nat.reduceMul, ptrTo, sliceTo, mapTo, List.getElem?_cons_zero, List.getElem?_cons_succ, Option.map_some, List.append_nil, List.nil_append, List.all_cons, List.all_nil, List.length_cons, List.length_nil, eq_self]) (by simp only [SS, Nat.reduceBEq, Nat.reduceEqDiff, Nat.reduceAdd, reduceIte, Nat.reduceMul, ptrTo, sliceTo, mapTo, List.getElem?_cons_zero, List.getElem?_cons_succ, Option.map_some, List.append_nil, List.nil_append, List.all_cons, List.all_nil, List.length_cons, List.length_nil, eq_self]) (by omega) (by omega) (by omega) (by omega) (by omega) (.inr (by omega)) (.inr rfl)
  · simp only [F112, r112_133, r112_127, SS, Nat.reduceBEq, Nat.reduceEqDiff, Nat.reduceAdd, reduceIte, Nat.reduceMul, ptrTo, sliceTo, mapTo, List.getElem?_cons_zero, List.getElem?_cons_succ, Option.map_some, List.append_nil, List.nil_append, List.all_cons, List.all_nil, List.length_cons, List.length_nil, eq_self, e0, e0', e1, e1', wAdd (show a + e ≤ 1000000 by omega), x_cv_3_119, x_cv_119_3, wU (show a + e ≤ 1000000 by omega), b_half, hM, wI (show M ≤ 1000000 by omega), wAdd (show M + c ≤ 1000000 by omega), Int.ofNat_lt, c7]
    exact kA a c _ (by simp only [SS, Nat.reduceBEq, Nat.reduceEqDiff, Nat.reduceAdd, reduceIte, Nat.reduceMul, ptrTo, sliceTo, mapTo, List.getElem?_cons_zero, List.getElem?_cons_succ, Option.map_some, List.append_nil, List.nil_append, List.all_cons, List.all_nil, List.length_cons, List.length_nil, eq_self]) (by simp only [SS, Nat.reduceBEq, Nat.reduceEqDiff, Nat.reduceAdd, reduceIte, Nat.reduceMul, ptrTo, sliceTo, mapTo, List.getElem?_cons_zero, List.getElem?_cons_succ, Option.map_some, List.append_nil, List.nil_append, List.all_cons, List.all_nil, List.length_cons, List.length_nil, eq_self]) (by simp only [SS, Nat.reduceBEq, Nat.reduceEqDiff, Nat.reduceAdd, reduceIte, Nat.reduceMul, ptrTo, sliceTo, mapTo, List.getElem?_cons_zero, List.getElem?_cons_succ, Option.map_some, List.append_nil, List.nil_append, List.all_cons, List.all_nil, List.length_cons, List.length_nil, eq_self]) (by simp only [SS, Nat.reduceBEq, Nat.reduceEqDiff, Nat.reduceAdd, reduceIte, Nat.reduceMul, ptrTo, sliceTo, mapTo, List.getElem?_cons_zero, List.getElem?_cons_succ, Option.map_some, List.append_nil, List.nil_append, List.all_cons, List.all_nil, List.length_cons, List.length_nil, eq_self]) (by simp only [SS, Nat.reduceBEq, Nat.reduceEqDiff, Nat.reduceAdd, reduceIte, Nat.reduceMul, ptrTo, sliceTo, mapTo, List.getElem?_cons_zero, List.getElem?_cons_succ, Option.map_some, List.append_nil, List.nil_append, List.all_cons, List.all_nil, List.length_cons, List.length_nil, eq_self]) (by simp only [SS, Nat.reduceBEq, Nat.reduceEqDiff, Nat.reduceAdd, reduceIte, Nat.reduceMul, ptrTo, sliceTo, mapTo, List.getElem?_cons_zero, List.getElem?_cons_succ, Option.map_some, List.append_nil, List.nil_append, List.all_cons, List.all_nil, List.length_cons, List.length_nil, eq_self]) (by simp only [SS, Nat.reduceBEq, Nat.reduceEqDiff, Nat.reduceAdd, reduceIte, Nat.reduceMul, ptrTo, sliceTo, mapTo, List.getElem?_cons_zero, List.getElem?_cons_succ, Option.map_some, List.append_nil, List.nil_append, List.all_cons, List.all_nil, List.length_cons, List.length_nil, eq_self]) (by simp only [SS, Nat.reduceBEq, Nat.reduceEqDiff, Nat.reduceAdd, reduceIte, Nat.reduceMul, ptrTo, sliceTo, mapTo, List.getElem?_cons_zero, List.getElem?_cons_succ, Option.map_some, List.append_nil, List.nil_append, List.all_cons, List.all_nil, List.length_cons, List.length_nil, eq_self]) (by simp only [SS, Nat.reduceBEq, Nat.reduceEqDiff, Nat.reduceAdd, reduceIte, Nat.reduceMul, ptrTo, sliceTo, mapTo, List.getElem?_cons_zero, List.getElem?_cons_succ, Option.map_some, List.append_nil, List.nil_append, List.all_cons, List.all_nil, List.length_cons, List.length_nil, eq_self]) (by simp only [SS, Nat.reduceBEq, Nat.reduceEqDiff, Nat.reduceAdd, reduceIte, Nat.reduceMul, ptrTo, sliceTo, mapTo, List.getElem?_cons_zero, List.getElem?_cons_succ, Option.map_some, List.append_nil, List.nil_append, List.all_cons, List.all_nil, List.length_cons, List.length_nil, eq_self]) (by omega) (by omega) (by omega) (by omega) (by omega) (.inl rfl) (.inl rfl)
end Go.Proofs.Ytlfednnfkejcjaa

namespace Go.Proofs.Ytlfednnfkejcjaa
open Go.Am Go.Qs
set_option maxRecDepth 10000
theorem stable_ok {n : Nat} {X : Cx} (hX : X.Ok) (hn : X.n0 + 50 ≤ n) {h : Heap} (hA : X.At h id) (h40 : X.N < 40) :
    WC (Q n (.fn 106) [X.sv, I X.N, X.cm] h) fun r h' => ∃ d', X.At h' d' ∧ SmB X h h' ∧ Perm 0 X.N id d' ∧ Sorted X.lt 0 X.N d' := by
  obtain ⟨m, rfl⟩ : ∃ m, n = m + 1 := ⟨n - 1, by omega⟩
  refine call_fn _ f106A rfl (by simp [fn106]) fun QQ hQ => ?_
  simp only [fn106] at hQ
  simp only [fn106, fill_cons, fill_nil, Nat.zero_add, Nat.reduceAdd]
  simp only [F106, r106_21, SS, Nat.reduceBEq, Nat.reduceEqDiff, Nat.reduceAdd, reduceIte, Nat.reduceMul, ptrTo, sliceTo, mapTo, List.getElem?_cons_zero, List.getElem?_cons_succ, Option.map_some, List.append_nil, List.nil_append, List.all_cons, List.all_nil, List.length_cons, List.length_nil, eq_self]
  refine run_loop (c := c106_7) (I := fun m' tm' h1 => tm'.gt 0 = some X.sv ∧ tm'.gt 1 = some (I X.N) ∧ tm'.gt 2 = some X.cm ∧ tm'.gt 6 = some (.int .i64 20) ∧ tm'.gt 63 = none ∧ ((m' = 1 ∧ tm'.gt 7 = some (.int .i64 0) ∧ tm'.gt 8 = some (.int .i64 20) ∧ h1 = h) ∨ (m' = 0 ∧ 20 ≤ X.N ∧ tm'.gt 7 = some (.int .i64 20) ∧ tm'.gt 8 = some (.int .i64 40) ∧ ∃ d1, X.At h1 d1 ∧ SmB X h h1 ∧ Perm 0 20 id d1 ∧ Sorted X.lt 0 20 d1))) (n := 1)
    ⟨by simp only [SS, Nat.reduceBEq, Nat.reduceEqDiff, Nat.reduceAdd, reduceIte, Nat.reduceMul, ptrTo, sliceTo, mapTo, List.getElem?_cons_zero, List.getElem?_cons_succ, Option.map_some, List.append_nil, List.nil_append, List.all_cons, List.all_nil, List.length_cons, List.length_nil, eq_self], by simp only [SS, Nat.reduceBEq, Nat.reduceEqDiff, Nat.reduceAdd, reduceIte, Nat.reduceMul, ptrTo, sliceTo, mapTo, List.getElem?_cons_zero, List.getElem?_cons_succ, Option.map_some, List.append_nil, List.nil_append, List.all_cons, List.all_nil, List.length_cons, List.length_nil, eq_self], by simp only [SS, Nat.reduceBEq, Nat.reduceEqDiff, Nat.reduceAdd, reduceIte, Nat.reduceMul, ptrTo, sliceTo, mapTo, List.getElem?_cons_zero, List.getElem?_cons_succ, Option.map_some, List.append_nil, List.nil_append, List.all_cons, List.all_nil, List.length_cons, List.length_nil, eq_self], by simp only [SS, Nat.reduceBEq, Nat.reduceEqDiff, Nat.reduceAdd, reduceIte, Nat.reduceMul, ptrTo, sliceTo, mapTo, List.getElem?_cons_zero, List.getElem?_cons_succ, Option.map_some, List.append_nil, List.nil_append, List.all_cons, List.all_nil, List.length_cons, List.length_nil, eq_self], by simp only [SS, Nat.reduceBEq, Nat.reduceEqDiff, Nat.reduceAdd, reduceIte, Nat.reduceMul, ptrTo, sliceTo, mapTo, List.getElem?_cons_zero, List.getElem?_cons_succ, Option.map_some, List.append_nil, List.nil_append, List.all_cons, List.all_nil, List.length_cons, List.length_nil, eq_self], .inl ⟨rfl, by simp only [SS, Nat.reduceBEq, Nat.reduceEqDiff, Nat.reduceAdd, reduceIte, Nat.reduceMul, ptrTo, sliceTo, mapTo, List.getElem?_cons_zero, List.getElem?_cons_succ, Option.map_some, List.append_nil, List.nil_append, List.all_cons, List.all_nil, List.length_cons, List.length_nil, eq_self], by simp only [SS, Nat.reduceBEq, Nat.reduceEqDiff, Nat.reduceAdd, reduceIte, Nat.reduceMul, ptrTo, sliceTo, mapTo, List.getElem?_cons_zero, List.getElem?_cons_succ, Option.map_some, List.append_nil, List.nil_append, List.all_cons, List.all_nil, List.length_cons, List.length_nil, eq_self], rfl⟩⟩ (by omega) ?_
  rintro _ tm h1 ⟨t0, t1, t2, t6, t63, hS⟩ Q1 hN1 hE
  -- the end, once all blocks are sorted
  have fin : ∀ tm h2 d2, tm.gt 0 = some X.sv → tm.gt 1 = some (I X.N) → tm.gt 2 = some X.cm → tm.gt 6 = some (.int .i64 20) → tm.gt 63 = none → X.At h2 d2 → SmB X h h2 → (X.N ≤ 20 → Perm 0 X.N id d2 ∧ Sorted X.lt 0 X.N d2) →
      (20 < X.N → ∃ d1, Perm 0 20 id d1 ∧ Perm 20 X.N d1 d2 ∧ Sorted X.lt 0 20 d2 ∧ Sorted X.lt 20 X.N d2) → run (Q m) 100000 63 106 none c106_21 [] tm h2 QQ := by
    intro tm h2 d2 t0 t1 t2 t6 t63 hA2 hS2 hle hgt
    simp only [F106, r106_21, t0, t1, t2, t6, t63, SS, Nat.reduceBEq, Nat.reduceEqDiff, Nat.reduceAdd, reduceIte, Nat.reduceMul, ptrTo, sliceTo, mapTo, List.getElem?_cons_zero, List.getElem?_cons_succ, Option.map_some, List.append_nil, List.nil_append, List.all_cons, List.all_nil, List.length_cons, List.length_nil, eq_self]
    refine run_loop (c := c106_23) (I := fun m' tm' h3 => tm'.gt 0 = some X.sv ∧ tm'.gt 1 = some (I X.N) ∧ tm'.gt 2 = some X.cm ∧ tm'.gt 63 = none ∧ ((m' = 1 ∧ tm'.gt 6 = some (.int .i64 20) ∧ h3 = h2) ∨ (m' = 0 ∧ tm'.gt 6 = some (.int .i64 40) ∧ ∃ d3, X.At h3 d3 ∧ SmB X h h3 ∧ Perm 0 X.N id d3 ∧ Sorted X.lt 0 X.N d3))) (n := 1)
      ⟨by simp only [SS, Nat.reduceBEq, Nat.reduceEqDiff, Nat.reduceAdd, reduceIte, Nat.reduceMul, ptrTo, sliceTo, mapTo, List.getElem?_cons_zero, List.getElem?_cons_succ, Option.map_some, List.append_nil, List.nil_append, List.all_cons, List.all_nil, List.length_cons, List.length_nil, eq_self, t0], by simp only [SS, Nat.reduceBEq, Nat.reduceEqDiff, Nat.reduceAdd, reduceIte, Nat.reduceMul, ptrTo, sliceTo, mapTo, List.getElem?_cons_zero, List.getElem?_cons_succ, Option.map_some, List.append_nil, List.nil_append, List.all_cons, List.all_nil, List.length_cons, List.length_nil, eq_self, t1], by simp only [SS, Nat.reduceBEq, Nat.reduceEqDiff, Nat.reduceAdd, reduceIte, Nat.reduceMul, ptrTo, sliceTo, mapTo, List.getElem?_cons_zero, List.getElem?_cons_succ, Option.map_some, List.append_nil, List.nil_append, List.all_cons, List.all_nil, List.length_cons, List.length_nil, eq_self, t2], by simp only [SS, Nat.reduceBEq, Nat.reduceEqDiff, Nat.reduceAdd, reduceIte, Nat.reduceMul, ptrTo, sliceTo, mapTo, List.getElem?_cons_zero, List.getElem?_cons_succ, Option.map_some, List.append_nil, List.nil_append, List.all_cons, List.all_nil, List.length_cons, List.length_nil, eq_self, t63], .inl ⟨rfl, by simp only [SS, Nat.reduceBEq, Nat.reduceEqDiff, Nat.reduceAdd, reduceIte, Nat.reduceMul, ptrTo, sliceTo, mapTo, List.getElem?_cons_zero, List.getElem?_cons_succ, Option.map_some, List.append_nil, List.nil_append, List.all_cons, List.all_nil, List.length_cons, List.length_nil, eq_self, t6], rfl⟩⟩ (by omega) ?_
    rintro _ tm h3 ⟨t0, t1, t2, t63, hS⟩ Q2 hN2 hE2
    rcases hS with ⟨rfl, t6, rfl⟩ | ⟨rfl, t6, d3, g1, g2, g3, g4⟩
    · by_cases c1 : 20 < X.N
      · have c1' : (20 : Int) < (X.N : Int) := by omega
        obtain ⟨d1, p1, p2, s1, s2⟩ := hgt c1
        have w1 : IntKind.i64.wrap (2 * 20) = 40 := by decide
        have w2 : IntKind.i64.wrap (0 + 20) = 20 := by decide
        have w3 : IntKind.i64.wrap (20 * 2) = 40 := by decide
        have c2 : ¬ ((40 : Int) ≤ (X.N : Int)) := by omega
        have hcr : Cross 0 20 X.N d2 := by
          intro i j x y z w
          rw [p2.out (.inl y)]
          obtain ⟨i', a1, a2, a3⟩ := p1.at x y
          obtain ⟨j', b1, b2, b3⟩ := p2.at z w
          rw [a3, b3, p1.out (.inr b1)]
          show i' < j'
          omega
        obtain ⟨r, h4, e4, d4, g1, g2, g3, g4⟩ := sym_ok hX (X.N - 0) m (by omega) h3 d2 0 20 X.N hA2 (Nat.le_refl _) (by omega) c1 (Nat.le_refl _) s1 s2 hcr
        have e4' : Q m (.fn 112) [X.sv, .int .i64 0, .int .i64 20, I X.N, X.cm] h3 = some (r, h4) := e4
        simp only [F106, r106_21, t0, t1, t2, t6, t63, SS, Nat.reduceBEq, Nat.reduceEqDiff, Nat.reduceAdd, reduceIte, Nat.reduceMul, ptrTo, sliceTo, mapTo, List.getElem?_cons_zero, List.getElem?_cons_succ, Option.map_some, List.append_nil, List.nil_append, List.all_cons, List.all_nil, List.length_cons, List.length_nil, eq_self, c1', w1]
        refine run_loop (c := c106_35) (I := fun m' tm' h3' => h3' = h3 ∧ tm'.gt 0 = some X.sv ∧ tm'.gt 1 = some (I X.N) ∧ tm'.gt 2 = some X.cm ∧ tm'.gt 6 = some (.int .i64 20) ∧ tm'.gt 7 = some (.int .i64 0) ∧ tm'.gt 8 = some (.int .i64 40) ∧ tm'.gt 63 = none) (n := 0)
          ⟨rfl, by simp only [SS, Nat.reduceBEq, Nat.reduceEqDiff, Nat.reduceAdd, reduceIte, Nat.reduceMul, ptrTo, sliceTo, mapTo, List.getElem?_cons_zero, List.getElem?_cons_succ, Option.map_some, List.append_nil, List.nil_append, List.all_cons, List.all_nil, List.length_cons, List.length_nil, eq_self, t0], by simp only [SS, Nat.reduceBEq, Nat.reduceEqDiff, Nat.reduceAdd, reduceIte, Nat.reduceMul, ptrTo, sliceTo, mapTo, List.getElem?_cons_zero, List.getElem?_cons_succ, Option.map_some, List.append_nil, List.nil_append, List.all_cons, List.all_nil, List.length_cons, List.length_nil, eq_self, t1], by simp only [SS, Nat.reduceBEq, Nat.reduceEqDiff, Nat.reduceAdd, reduceIte, Nat.reduceMul, ptrTo, sliceTo, mapTo, List.getElem?_cons_zero, List.getElem?_cons_succ, Option.map_some, List.append_nil, List.nil_append, List.all_cons, List.all_nil, List.length_cons, List.length_nil, eq_self, t2], by simp only [SS, Nat.reduceBEq, Nat.reduceEqDiff, Nat.reduceAdd, reduceIte, Nat.reduceMul, ptrTo, sliceTo, mapTo, List.getElem?_cons_zero, List.getElem?_cons_succ, Option.map_some, List.append_nil, List.nil_append, List.all_cons, List.all_nil, List.length_cons, List.length_nil, eq_self, t6], by simp only [SS, Nat.reduceBEq, Nat.reduceEqDiff, Nat.reduceAdd, reduceIte, Nat.reduceMul, ptrTo, sliceTo, mapTo, List.getElem?_cons_zero, List.getElem?_cons_succ, Option.map_some, List.append_nil, List.nil_append, List.all_cons, List.all_nil, List.length_cons, List.length_nil, eq_self], by simp only [SS, Nat.reduceBEq, Nat.reduceEqDiff, Nat.reduceAdd, reduceIte, Nat.reduceMul, ptrTo, sliceTo, mapTo, List.getElem?_cons_zero, List.getElem?_cons_succ, Option.map_some, List.append_nil, List.nil_append, List.all_cons, List.all_nil, List.length_cons, List.length_nil, eq_self], by simp only [SS, Nat.reduceBEq, Nat.reduceEqDiff, Nat.reduceAdd, reduceIte, Nat.reduceMul, ptrTo, sliceTo, mapTo, List.getElem?_cons_zero, List.getElem?_cons_succ, Option.map_some, List.append_nil, List.nil_append, List.all_cons, List.all_nil, List.length_cons, List.length_nil, eq_self, t63]⟩ (by omega) ?_
        rintro _ tm _ ⟨rfl, t0, t1, t2, t6, t7, t8, t63⟩ Q3 hN3 hE3
        simp only [F106, r106_21, t0, t1, t2, t6, t7, t8, t63, SS, Nat.reduceBEq, Nat.reduceEqDiff, Nat.reduceAdd, reduceIte, Nat.reduceMul, ptrTo, sliceTo, mapTo, List.getElem?_cons_zero, List.getElem?_cons_succ, Option.map_some, List.append_nil, List.nil_append, List.all_cons, List.all_nil, List.length_cons, List.length_nil, eq_self, c2]
        refine hE3 _ _ _ (by simp) ?_
        simp only [F106, r106_21, t0, t1, t2, t6, t7, t8, t63, SS, Nat.reduceBEq, Nat.reduceEqDiff, Nat.reduceAdd, reduceIte, Nat.reduceMul, ptrTo, sliceTo, mapTo, List.getElem?_cons_zero, List.getElem?_cons_succ, Option.map_some, List.append_nil, List.nil_append, List.all_cons, List.all_nil, List.length_cons, List.length_nil, eq_self, w2, c1', e4', w3]
        refine hN2 _ _ 0 (by omega) ⟨by simp only [SS, Nat.reduceBEq, Nat.reduceEqDiff, Nat.reduceAdd, reduceIte, Nat.reduceMul, ptrTo, sliceTo, mapTo, List.getElem?_cons_zero, List.getElem?_cons_succ, Option.map_some, List.append_nil, List.nil_append, List.all_cons, List.all_nil, List.length_cons, List.length_nil, eq_self, t0], by simp only [SS, Nat.reduceBEq, Nat.reduceEqDiff, Nat.reduceAdd, reduceIte, Nat.reduceMul, ptrTo, sliceTo, mapTo, List.getElem?_cons_zero, List.getElem?_cons_succ, Option.map_some, List.append_nil, List.nil_append, List.all_cons, List.all_nil, List.length_cons, List.length_nil, eq_self, t1], by simp only [SS, Nat.reduceBEq, Nat.reduceEqDiff, Nat.reduceAdd, reduceIte, Nat.reduceMul, ptrTo, sliceTo, mapTo, List.getElem?_cons_zero, List.getElem?_cons_succ, Option.map_some, List.append_nil, List.nil_append, List.all_cons, List.all_nil, List.length_cons, List.length_nil, eq_self, t2], by simp only [SS, Nat.reduceBEq, Nat.reduceEqDiff, Nat.reduceAdd, reduceIte, Nat.reduceMul, ptrTo, sliceTo, mapTo, List.getElem?_cons_zero, List.getElem?_cons_succ, Option.map_some, List.append_nil, List.nil_append, List.all_cons, List.all_nil, List.length_cons, List.length_nil, eq_self, t63], .inr ⟨rfl, by simp only [SS, Nat.reduceBEq, Nat.reduceEqDiff, Nat.reduceAdd, reduceIte, Nat.reduceMul, ptrTo, sliceTo, mapTo, List.getElem?_cons_zero, List.getElem?_cons_succ, Option.map_some, List.append_nil, List.nil_append, List.all_cons, List.all_nil, List.length_cons, List.length_nil, eq_self], d4, g1, hS2.tr g2, ?_, g4⟩⟩
        exact ((p1.mono (Nat.le_refl _) (by omega)).trans (p2.mono (by omega) (Nat.le_refl _))).trans g3
      · have c1' : ¬ ((20 : Int) < (X.N : Int)) := by omega
        simp only [F106, r106_21, t0, t1, t2, t6, t63, SS, Nat.reduceBEq, Nat.reduceEqDiff, Nat.reduceAdd, reduceIte, Nat.reduceMul, ptrTo, sliceTo, mapTo, List.getElem?_cons_zero, List.getElem?_cons_succ, Option.map_some, List.append_nil, List.nil_append, List.all_cons, List.all_nil, List.length_cons, List.length_nil, eq_self, c1']
        refine hE2 _ _ _ (by simp) ?_
        simp only [SS, Nat.reduceBEq, Nat.reduceEqDiff, Nat.reduceAdd, reduceIte, Nat.reduceMul, ptrTo, sliceTo, mapTo, List.getElem?_cons_zero, List.getElem?_cons_succ, Option.map_some, List.append_nil, List.nil_append, List.all_cons, List.all_nil, List.length_cons, List.length_nil, eq_self]
        exact hQ _ _ _ _ (.inl rfl) (by simp only [SS, Nat.reduceBEq, Nat.reduceEqDiff, Nat.reduceAdd, reduceIte, Nat.reduceMul, ptrTo, sliceTo, mapTo, List.getElem?_cons_zero, List.getElem?_cons_succ, Option.map_some, List.append_nil, List.nil_append, List.all_cons, List.all_nil, List.length_cons, List.length_nil, eq_self, t63]) (by simp only [SS, Nat.reduceBEq, Nat.reduceEqDiff, Nat.reduceAdd, reduceIte, Nat.reduceMul, ptrTo, sliceTo, mapTo, List.getElem?_cons_zero, List.getElem?_cons_succ, Option.map_some, List.append_nil, List.nil_append, List.all_cons, List.all_nil, List.length_cons, List.length_nil, eq_self]; rfl) ⟨d2, hA2, hS2, hle (by omega)⟩
    · have c1' : ¬ ((40 : Int) < (X.N : Int)) := by omega
      simp only [F106, r106_21, t0, t1, t2, t6, t63, SS, Nat.reduceBEq, Nat.reduceEqDiff, Nat.reduceAdd, reduceIte, Nat.reduceMul, ptrTo, sliceTo, mapTo, List.getElem?_cons_zero, List.getElem?_cons_succ, Option.map_some, List.append_nil, List.nil_append, List.all_cons, List.all_nil, List.length_cons, List.length_nil, eq_self, c1']
      refine hE2 _ _ _ (by simp) ?_
      simp only [SS, Nat.reduceBEq, Nat.reduceEqDiff, Nat.reduceAdd, reduceIte, Nat.reduceMul, ptrTo, sliceTo, mapTo, List.getElem?_cons_zero, List.getElem?_cons_succ, Option.map_some, List.append_nil, List.nil_append, List.all_cons, List.all_nil, List.length_cons, List.length_nil, eq_self]
      exact hQ _ _ _ _ (.inl rfl) (by simp only [SS, Nat.reduceBEq, Nat.reduceEqDiff, Nat.reduceAdd, reduceIte, Nat.reduceMul, ptrTo, sliceTo, mapTo, List.getElem?_cons_zero, List.getElem?_cons_succ, Option.map_some, List.append_nil, List.nil_append, List.all_cons, List.all_nil, List.length_cons, List.length_nil, eq_self, t63]) (by simp only [SS, Nat.reduceBEq, Nat.reduceEqDiff, Nat.reduceAdd, reduceIte, Nat.reduceMul, ptrTo, sliceTo, mapTo, List.getElem?_cons_zero, List.getElem?_cons_succ, Option.map_some, List.append_nil, List.nil_append, List.all_cons, List.all_nil, List.length_cons, List.length_nil, eq_self]; rfl) ⟨d3, g1, g2, g3, g4⟩
  rcases hS with ⟨rfl, t7, t8, rfl⟩ | ⟨rfl, h20, t7, t8, d1, g1, g2, g3, g4⟩
  · by_cases c1 : 20 ≤ X.N
    · have c1' : (20 : Int) ≤ (X.N : Int) := by omega
      obtain ⟨r, h2, e2, d1, g1, g2, g3, g4⟩ := insertion_ok hX (n := m) (by omega) hA (a := 0) (e := 20) (by omega) c1 (fun i j _ h _ => h)
      have e2' : Q m (.fn 111) [X.sv, .int .i64 0, .int .i64 20, X.cm] h1 = some (r, h2) := e2
      have w1 : IntKind.i64.wrap (20 + 20) = 40 := by decide
      simp only [F106, r106_21, t0, t1, t2, t6, t7, t8, t63, SS, Nat.reduceBEq, Nat.reduceEqDiff, Nat.reduceAdd, reduceIte, Nat.reduceMul, ptrTo, sliceTo, mapTo, List.getElem?_cons_zero, List.getElem?_cons_succ, Option.map_some, List.append_nil, List.nil_append, List.all_cons, List.all_nil, List.length_cons, List.length_nil, eq_self, c1', e2', w1]
      exact hN1 _ _ 0 (by omega) ⟨by simp only [SS, Nat.reduceBEq, Nat.reduceEqDiff, Nat.reduceAdd, reduceIte, Nat.reduceMul, ptrTo, sliceTo, mapTo, List.getElem?_cons_zero, List.getElem?_cons_succ, Option.map_some, List.append_nil, List.nil_append, List.all_cons, List.all_nil, List.length_cons, List.length_nil, eq_self, t0], by simp only [SS, Nat.reduceBEq, Nat.reduceEqDiff, Nat.reduceAdd, reduceIte, Nat.reduceMul, ptrTo, sliceTo, mapTo, List.getElem?_cons_zero, List.getElem?_cons_succ, Option.map_some, List.append_nil, List.nil_append, List.all_cons, List.all_nil, List.length_cons, List.length_nil, eq_self, t1], by simp only [SS, Nat.reduceBEq, Nat.reduceEqDiff, Nat.reduceAdd, reduceIte, Nat.reduceMul, ptrTo, sliceTo, mapTo, List.getElem?_cons_zero, List.getElem?_cons_succ, Option.map_some, List.append_nil, List.nil_append, List.all_cons, List.all_nil, List.length_cons, List.length_nil, eq_self, t2], by simp only [SS, Nat.reduceBEq, Nat.reduceEqDiff, Nat.reduceAdd, reduceIte, Nat.reduceMul, ptrTo, sliceTo, mapTo, List.getElem?_cons_zero, List.getElem?_cons_succ, Option.map_some, List.append_nil, List.nil_append, List.all_cons, List.all_nil, List.length_cons, List.length_nil, eq_self, t6], by simp only [SS, Nat.reduceBEq, Nat.reduceEqDiff, Nat.reduceAdd, reduceIte, Nat.reduceMul, ptrTo, sliceTo, mapTo, List.getElem?_cons_zero, List.getElem?_cons_succ, Option.map_some, List.append_nil, List.nil_append, List.all_cons, List.all_nil, List.length_cons, List.length_nil, eq_self, t63], .inr ⟨rfl, c1, by simp only [SS, Nat.reduceBEq, Nat.reduceEqDiff, Nat.reduceAdd, reduceIte, Nat.reduceMul, ptrTo, sliceTo, mapTo, List.getElem?_cons_zero, List.getElem?_cons_succ, Option.map_some, List.append_nil, List.nil_append, List.all_cons, List.all_nil, List.length_cons, List.length_nil, eq_self], by simp only [SS, Nat.reduceBEq, Nat.reduceEqDiff, Nat.reduceAdd, reduceIte, Nat.reduceMul, ptrTo, sliceTo, mapTo, List.getElem?_cons_zero, List.getElem?_cons_succ, Option.map_some, List.append_nil, List.nil_append, List.all_cons, List.all_nil, List.length_cons, List.length_nil, eq_self], d1, g1, g2, g3, g4⟩⟩
    · have c1' : ¬ ((20 : Int) ≤ (X.N : Int)) := by omega
      obtain ⟨r, h2, e2, d1, g1, g2, g3, g4⟩ := insertion_ok hX (n := m) (by omega) hA (a := 0) (e := X.N) (by omega) (Nat.le_refl _) (fun i j _ h _ => h)
      have e2' : Q m (.fn 111) [X.sv, .int .i64 0, I X.N, X.cm] h1 = some (r, h2) := e2
      simp only [F106, r106_21, t0, t1, t2, t6, t7, t8, t63, SS, Nat.reduceBEq, Nat.reduceEqDiff, Nat.reduceAdd, reduceIte, Nat.reduceMul, ptrTo, sliceTo, mapTo, List.getElem?_cons_zero, List.getElem?_cons_succ, Option.map_some, List.append_nil, List.nil_append, List.all_cons, List.all_nil, List.length_cons, List.length_nil, eq_self, c1']
      refine hE _ _ _ (by simp) ?_
      simp only [F106, t0, t1, t2, t6, t7, t8, t63, SS, Nat.reduceBEq, Nat.reduceEqDiff, Nat.reduceAdd, reduceIte, Nat.reduceMul, ptrTo, sliceTo, mapTo, List.getElem?_cons_zero, List.getElem?_cons_succ, Option.map_some, List.append_nil, List.nil_append, List.all_cons, List.all_nil, List.length_cons, List.length_nil, eq_self, e2']
      exact fin _ h2 d1 (by simp only [SS, Nat.reduceBEq, Nat.reduceEqDiff, Nat.reduceAdd, reduceIte, Nat.reduceMul, ptrTo, sliceTo, mapTo, List.getElem?_cons_zero, List.getElem?_cons_succ, Option.map_some, List.append_nil, List.nil_append, List.all_cons, List.all_nil, List.length_cons, List.length_nil, eq_self, t0]) (by simp only [SS, Nat.reduceBEq, Nat.reduceEqDiff, Nat.reduceAdd, reduceIte, Nat.reduceMul, ptrTo, sliceTo, mapTo, List.getElem?_cons_zero, List.getElem?_cons_succ, Option.map_some, List.append_nil, List.nil_append, List.all_cons, List.all_nil, List.length_cons, List.length_nil, eq_self, t1]) (by simp only [SS, Nat.reduceBEq, Nat.reduceEqDiff, Nat.reduceAdd, reduceIte, Nat.reduceMul, ptrTo, sliceTo, mapTo, List.getElem?_cons_zero, List.getElem?_cons_succ, Option.map_some, List.append_nil, List.nil_append, List.all_cons, List.all_nil, List.length_cons, List.length_nil, eq_self, t2]) (by simp only [SS, Nat.reduceBEq, Nat.reduceEqDiff, Nat.reduceAdd, reduceIte, Nat.reduceMul, ptrTo, sliceTo, mapTo, List.getElem?_cons_zero, List.getElem?_cons_succ, Option.map_some, List.append_nil, List.nil_append, List.all_cons, List.all_nil, List.length_cons, List.length_nil, eq_self, t6]) (by simp only [SS, Nat.reduceBEq, Nat.reduceEqDiff, Nat.reduceAdd, reduceIte, Nat.reduceMul, ptrTo, sliceTo, mapTo, List.getElem?_cons_zero, List.getElem?_cons_succ, Option.map_some, List.append_nil, List.nil_append, List.all_cons, List.all_nil, List.length_cons, List.length_nil, eq_self, t63]) g1 g2 (fun _ => ⟨g3, g4⟩) (fun h => by omega)
  · have c1' : ¬ ((40 : Int) ≤ (X.N : Int)) := by omega
    obtain ⟨r, h2, e2, d2, k1, k2, k3, k4⟩ := insertion_ok hX (n := m) (by omega) g1 (a := 20) (e := X.N) h20 (Nat.le_refl _) (fun i j hi h _ => by rw [g3.out (.inr hi), g3.out (.inr (by omega))]; exact h)
    have e2' : Q m (.fn 111) [X.sv, .int .i64 20, I X.N, X.cm] h1 = some (r, h2) := e2
    simp only [F106, r106_21, t0, t1, t2, t6, t7, t8, t63, SS, Nat.reduceBEq, Nat.reduceEqDiff, Nat.reduceAdd, reduceIte, Nat.reduceMul, ptrTo, sliceTo, mapTo, List.getElem?_cons_zero, List.getElem?_cons_succ, Option.map_some, List.append_nil, List.nil_append, List.all_cons, List.all_nil, List.length_cons, List.length_nil, eq_self, c1']
    refine hE _ _ _ (by simp) ?_
    simp only [F106, t0, t1, t2, t6, t7, t8, t63, SS, Nat.reduceBEq, Nat.reduceEqDiff, Nat.reduceAdd, reduceIte, Nat.reduceMul, ptrTo, sliceTo, mapTo, List.getElem?_cons_zero, List.getElem?_cons_succ, Option.map_some, List.append_nil, List.nil_append, List.all_cons, List.all_nil, List.length_cons, List.length_nil, eq_self, e2']
    have s1 : Sorted X.lt 0 20 d2 := Sorted.cg g4 fun k _ hk => k3.out (.inl hk)
    refine fin _ h2 d2 (by simp only [SS, Nat.reduceBEq, Nat.reduceEqDiff, Nat.reduceAdd, reduceIte, Nat.reduceMul, ptrTo, sliceTo, mapTo, List.getElem?_cons_zero, List.getElem?_cons_succ, Option.map_some, List.append_nil, List.nil_append, List.all_cons, List.all_nil, List.length_cons, List.length_nil, eq_self, t0]) (by simp only [SS, Nat.reduceBEq, Nat.reduceEqDiff, Nat.reduceAdd, reduceIte, Nat.reduceMul, ptrTo, sliceTo, mapTo, List.getElem?_cons_zero, List.getElem?_cons_succ, Option.map_some, List.append_nil, List.nil_append, List.all_cons, List.all_nil, List.length_cons, List.length_nil, eq_self, t1]) (by simp only [SS, Nat.reduceBEq, Nat.reduceEqDiff, Nat.reduceAdd, reduceIte, Nat.reduceMul, ptrTo, sliceTo, mapTo, List.getElem?_cons_zero, List.getElem?_cons_succ, Option.map_some, List.append_nil, List.nil_append, List.all_cons, List.all_nil, List.length_cons, List.length_nil, eq_self, t2]) (by simp only [SS, Nat.reduceBEq, Nat.reduceEqDiff, Nat.reduceAdd, reduceIte, Nat.reduceMul, ptrTo, sliceTo, mapTo, List.getElem?_cons_zero, List.getElem?_cons_succ, Option.map_some, List.append_nil, List.nil_append, List.all_cons, List.all_nil, List.length_cons, List.length_nil, eq_self, t6]) (by simp only [SS, Nat.reduceBEq, Nat.reduceEqDiff, Nat.reduceAdd, reduceIte, Nat.reduceMul, ptrTo, sliceTo, mapTo, List.getElem?_cons_zero, List.getElem?_cons_succ, Option.map_some, List.append_nil, List.nil_append, List.all_cons, List.all_nil, List.length_cons, List.length_nil, eq_self, t63]) k1 (g2.tr k2) (fun h => ?_) (fun _ => ⟨d1, g3, k3, s1, k4⟩)
    have : X.N = 20 := by omega
    rw [this] at k3 ⊢
    exact ⟨g3.trans (k3.mono (by omega) (Nat.le_refl _)), s1⟩
theorem sort_ok {n : Nat} {X : Cx} (hX : X.Ok) (hn : X.n0 + 51 ≤ n) {h : Heap} (hA : X.At h id) (h40 : X.N < 40) :
    WC (Q n (.fn 97) [X.sv, X.cm] h) fun r h' => ∃ d', X.At h' d' ∧ SmB X h h' ∧ Perm 0 X.N id d' ∧ Sorted X.lt 0 X.N d' := by
  obtain ⟨m, rfl⟩ : ∃ m, n = m + 1 := ⟨n - 1, by omega⟩
  refine call_fn _ f97A rfl (by simp [fn97]) fun QQ hQ => ?_
  simp only [fn97] at hQ
  simp only [fn97, fill_cons, fill_nil, Nat.zero_add, Nat.reduceAdd]
  obtain ⟨r, h1, e1, hp⟩ := stable_ok hX (n := m) (by omega) hA h40
  simp only [F97, x_len_142, SS, Nat.reduceBEq, Nat.reduceEqDiff, Nat.reduceAdd, reduceIte, Nat.reduceMul, ptrTo, sliceTo, mapTo, List.getElem?_cons_zero, List.getElem?_cons_succ, Option.map_some, List.append_nil, List.nil_append, List.all_cons, List.all_nil, List.length_cons, List.length_nil, eq_self, e1]
  exact hQ _ _ _ _ (.inl rfl) (by simp only [SS, Nat.reduceBEq, Nat.reduceEqDiff, Nat.reduceAdd, reduceIte, Nat.reduceMul, ptrTo, sliceTo, mapTo, List.getElem?_cons_zero, List.getElem?_cons_succ, Option.map_some, List.append_nil, List.nil_append, List.all_cons, List.all_nil, List.length_cons, List.length_nil, eq_self]) (by simp only [SS, Nat.reduceBEq, Nat.reduceEqDiff, Nat.reduceAdd, reduceIte, Nat.reduceMul, ptrTo, sliceTo, mapTo, List.getElem?_cons_zero, List.getElem?_cons_succ, Option.map_some, List.append_nil, List.nil_append, List.all_cons, List.all_nil, List.length_cons, List.length_nil, eq_self]; rfl) hp
end Go.Proofs.Ytlfednnfkejcjaa


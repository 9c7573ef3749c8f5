/-
  AM, 3: plain laws of trees and lists; what a value stands for.
-/
import Derived.Test.YtboobbebilegnaaGreatAm2
namespace Go.Am

/-! ### Trees -/
section
variable {α : Type}
theorem Tr.gt_leaf (n : Nat) : (Tr.leaf : Tr α).gt n = none := rfl
theorem Tr.gt_zero (l : Tr α) (v : Option α) (r : Tr α) : (Tr.node l v r).gt 0 = v := rfl
theorem bool_rec_beq {β : Type} (a b : Nat) (x y : β) : (Bool.rec (motive := fun _ => β) x y (Nat.beq a b) : β) = if a = b then y else x := by
  by_cases h : a = b
  · subst h; simp
  · have : Nat.beq a b = false := by cases hb : Nat.beq a b <;> simp_all
    rw [this, if_neg h]
theorem Tr.gt_succ (l : Tr α) (v : Option α) (r : Tr α) (m : Nat) : (Tr.node l v r).gt (m + 1) = if m % 2 = 0 then l.gt (m / 2) else r.gt (m / 2) := by
  show (Bool.rec (motive := fun _ => Option α) (r.gt (m / 2)) (l.gt (m / 2)) (Nat.beq (m % 2) 0) : Option α) = _
  rw [bool_rec_beq]
theorem Tr.pt_zero (x : Option α) (n : Nat) : Tr.pt x 0 n = .node .leaf x .leaf := rfl
theorem Tr.pt_at0 (x : Option α) (f : Nat) : Tr.pt x f 0 = .node .leaf x .leaf := by cases f <;> rfl
theorem Tr.pt_succ (x : Option α) (f m : Nat) : Tr.pt x (f + 1) (m + 1) = if m % 2 = 0 then .node (Tr.pt x f (m / 2)) none .leaf else .node .leaf none (Tr.pt x f (m / 2)) := by
  show (Bool.rec (motive := fun _ => Tr α) _ _ (Nat.beq (m % 2) 0) : Tr α) = _
  rw [bool_rec_beq]; rfl
theorem Tr.gt_pt (x : Option α) : ∀ (f n m : Nat), n ≤ f → (Tr.pt x f n).gt m = if m = n then x else none := by
  intro f
  induction f with
  | zero =>
    intro n m h
    obtain rfl : n = 0 := by omega
    rw [Tr.pt_zero]
    cases m with
    | zero => simp [Tr.gt_zero]
    | succ m => rw [Tr.gt_succ]; simp [Tr.gt_leaf]
  | succ f ih =>
    intro n m h
    cases n with
    | zero =>
      rw [Tr.pt_at0]
      cases m with
      | zero => simp [Tr.gt_zero]
      | succ m => rw [Tr.gt_succ]; simp [Tr.gt_leaf]
    | succ n =>
      rw [Tr.pt_succ]
      by_cases hn : n % 2 = 0
      · rw [if_pos hn]
        cases m with
        | zero => simp [Tr.gt_zero]
        | succ m =>
          rw [Tr.gt_succ]
          by_cases hm : m % 2 = 0
          · rw [if_pos hm, ih _ _ (by omega)]
            by_cases he : m = n
            · subst he; simp
            · have : ¬ m / 2 = n / 2 := by omega
              simp [he, this]
          · rw [if_neg hm]
            have : ¬ m = n := by intro e; subst e; exact hm hn
            simp [Tr.gt_leaf, this]
      · rw [if_neg hn]
        cases m with
        | zero => simp [Tr.gt_zero]
        | succ m =>
          rw [Tr.gt_succ]
          by_cases hm : m % 2 = 0
          · rw [if_pos hm]
            have : ¬ m = n := by intro e; subst e; exact hn hm
            simp [Tr.gt_leaf, this]
          · rw [if_neg hm, ih _ _ (by omega)]
            by_cases he : m = n
            · subst he; simp
            · have : ¬ m / 2 = n / 2 := by omega
              simp [he, this]
theorem Tr.up_leaf (x : Option α) (n : Nat) : (Tr.leaf : Tr α).up x n = Tr.pt x n n := rfl
theorem Tr.up_zero (l : Tr α) (v : Option α) (r : Tr α) (x : Option α) : (Tr.node l v r).up x 0 = .node l x r := rfl
theorem Tr.up_succ (l : Tr α) (v : Option α) (r : Tr α) (x : Option α) (m : Nat) :
    (Tr.node l v r).up x (m + 1) = if m % 2 = 0 then .node (l.up x (m / 2)) v r else .node l v (r.up x (m / 2)) := by
  show (Bool.rec (motive := fun _ => Tr α) _ _ (Nat.beq (m % 2) 0) : Tr α) = _
  rw [bool_rec_beq]; rfl
theorem Tr.gt_up (x : Option α) : ∀ (t : Tr α) (n m : Nat), (t.up x n).gt m = if m = n then x else t.gt m := by
  intro t
  induction t with
  | leaf => intro n m; rw [Tr.up_leaf, Tr.gt_pt _ _ _ _ (Nat.le_refl _), Tr.gt_leaf]
  | node l v r ihl ihr =>
    intro n m
    cases n with
    | zero =>
      rw [Tr.up_zero]
      cases m with
      | zero => simp [Tr.gt_zero]
      | succ m => simp [Tr.gt_succ]
    | succ n =>
      rw [Tr.up_succ]
      by_cases hn : n % 2 = 0
      · rw [if_pos hn]
        cases m with
        | zero => simp [Tr.gt_zero]
        | succ m =>
          simp only [Tr.gt_succ]
          by_cases hm : m % 2 = 0
          · rw [if_pos hm, if_pos hm, ihl]
            by_cases he : m = n
            · subst he; simp
            · have : ¬ m / 2 = n / 2 := by omega
              simp [he, this]
          · rw [if_neg hm, if_neg hm]
            have : ¬ m = n := by intro e; subst e; exact hm hn
            simp [this]
      · rw [if_neg hn]
        cases m with
        | zero => simp [Tr.gt_zero]
        | succ m =>
          simp only [Tr.gt_succ]
          by_cases hm : m % 2 = 0
          · rw [if_pos hm, if_pos hm]
            have : ¬ m = n := by intro e; subst e; exact hn hm
            simp [this]
          · rw [if_neg hm, if_neg hm, ihr]
            by_cases he : m = n
            · subst he; simp
            · have : ¬ m / 2 = n / 2 := by omega
              simp [he, this]
end

/-! ### Lists -/
section
variable {α : Type}
@[simp] theorem len'_eq (l : List α) : len' l = l.length := by
  induction l with
  | nil => rfl
  | cons x l ih => show Nat.succ (len' l) = _; rw [ih]; rfl
@[simp] theorem app'_eq (a b : List α) : app' a b = a ++ b := by
  induction a with
  | nil => rfl
  | cons x l ih => show x :: app' l b = _; rw [ih]; rfl
@[simp] theorem tl'_eq (l : List α) : tl' l = l.tail := by cases l <;> rfl
@[simp] theorem take'_eq (n : Nat) (l : List α) : take' n l = l.take n := by
  induction n generalizing l with
  | zero => show ([] : List α) = _; simp
  | succ n ih =>
    cases l with
    | nil => rfl
    | cons x l => show x :: take' n l = _; rw [ih]; rfl
@[simp] theorem drop'_eq (n : Nat) (l : List α) : drop' n l = l.drop n := by
  induction n generalizing l with
  | zero => show l = _; simp
  | succ n ih =>
    show drop' n (tl' l) = _
    rw [ih]
    cases l <;> simp
@[simp] theorem rep'_eq (n : Nat) (z : List α) : rep' n z = (List.replicate n z).flatten := by
  induction n with
  | zero => rfl
  | succ n ih => show app' z (rep' n z) = _; rw [ih]; simp [List.replicate_succ]
end
@[simp] theorem nth_eq (l : List AV) (n : Nat) : nth l n = l[n]? := by
  induction l generalizing n with
  | nil => rfl
  | cons x l ih =>
    cases n with
    | zero => rfl
    | succ n => show nth l n = _; rw [ih]; simp
@[simp] theorem and'_eq (a b : Bool) : and' a b = (a && b) := by cases a <;> rfl
@[simp] theorem notB_eq (a : Bool) : notB a = !a := by cases a <;> rfl
@[simp] theorem orB_eq (a b : Bool) : orB a b = (a || b) := by cases a <;> rfl
@[simp] theorem eqB_eq (a b : Bool) : eqB a b = (a == b) := by cases a <;> cases b <;> rfl
theorem iff'_some {β : Type} {c : Bool} {r : Option β} {v : β} : iff' c r = some v ↔ c = true ∧ r = some v := by cases c <;> simp [iff']
theorem ob_some {α β : Type} {x : Option α} {f : α → Option β} {r : β} : ob x f = some r ↔ ∃ v, x = some v ∧ f v = some r := by cases x <;> simp [ob]
theorem allOne_eq (vs : List AV) : allOne vs = vs.all AV.one := by
  induction vs with
  | nil => rfl
  | cons v vs ih => show (Bool.rec (motive := fun _ => Bool) false (allOne vs) v.one : Bool) = _; cases h : v.one <;> simp [h, ih]

theorem loadC_zero (t : Tr AV) (z : List AV) (i : Nat) : loadC t z 0 i = some [] := rfl
theorem loadC_succ (t : Tr AV) (z : List AV) (n i : Nat) : loadC t z (n + 1) i = ob (cellAt t z i) fun v => ob (loadC t z n (i + 1)) fun vs => some (v :: vs) := rfl
theorem loadC_some {t : Tr AV} {z : List AV} : ∀ {n i : Nat} {vs : List AV}, loadC t z n i = some vs → vs.length = n ∧ ∀ j, j < n → cellAt t z (i + j) = vs[j]? := by
  intro n
  induction n with
  | zero => intro i vs h; rw [loadC_zero] at h; cases h; exact ⟨rfl, fun j hj => absurd hj (Nat.not_lt_zero _)⟩
  | succ n ih =>
    intro i vs h
    rw [loadC_succ] at h
    obtain ⟨v, hv, h⟩ := ob_some.1 h
    obtain ⟨us, hu, h⟩ := ob_some.1 h
    cases h
    obtain ⟨h1, h2⟩ := ih hu
    refine ⟨by simp [h1], fun j hj => ?_⟩
    cases j with
    | zero => simpa using hv
    | succ j =>
      have := h2 j (by omega)
      rw [show i + (j + 1) = i + 1 + j by omega, this]; simp
theorem gt_fillC : ∀ (vs : List AV) (t : Tr AV) (i j : Nat), (fillC vs t i).gt j = if i ≤ j ∧ j < i + vs.length then vs[j - i]? else t.gt j := by
  intro vs
  induction vs with
  | nil => intro t i j; show t.gt j = _; rw [if_neg (by simp only [List.length_nil]; omega)]
  | cons v vs ih =>
    intro t i j
    show (fillC vs (t.up (some v) i) (i + 1)).gt j = _
    rw [ih, Tr.gt_up]
    by_cases h1 : i + 1 ≤ j ∧ j < i + 1 + vs.length
    · rw [if_pos h1, if_pos (by simp only [List.length_cons]; omega)]
      obtain ⟨d, rfl⟩ : ∃ d, j = i + 1 + d := ⟨j - (i + 1), by omega⟩
      rw [show i + 1 + d - (i + 1) = d by omega, show i + 1 + d - i = d + 1 by omega]; simp
    · rw [if_neg h1]
      by_cases h2 : j = i
      · subst h2; simp
      · rw [if_neg h2, if_neg (by simp only [List.length_cons]; omega)]

/-! ### Where a block lies: its number, the first of its cells, how many cells that one has -/
structure Pl where
  blk : Nat
  off : Nat
  size : Nat
abbrev Pls := Nat → Option Pl
def Pls.le (ρ σ : Pls) : Prop := ∀ b p, ρ b = some p → σ b = some p
theorem Pls.le_refl (ρ : Pls) : ρ.le ρ := fun _ _ h => h
theorem Pls.le_trans {ρ σ τ : Pls} (h : ρ.le σ) (h' : σ.le τ) : ρ.le τ := fun b p hb => h' b p (h b p hb)

def FnR (ρ : Pls) : Fn → Fn → Prop
  | .func f, g => g = .func f
  | .yield l, g => ∃ p, ρ l = some p ∧ p.off = 0 ∧ g = .yield p.blk
  | _, _ => False

mutual
/-- What a value stands for. -/
def VR (ρ : Pls) : AV → Value → Prop
  | .bool b, v => v = .bool b
  | .int k n, v => v = .int k n
  | .str s, v => ∃ b : ByteArray, v = .string b ∧ b.data.toList.map (·.toNat) = s
  | .ptr none, v => v = .pointer none
  | .ptr (some (b, o)), v => ∃ p, ρ b = some p ∧ v = .pointer (some ⟨p.blk, p.off + o, none⟩)
  | .slice none n c g, v => n = 0 ∧ c = 0 ∧ g = none ∧ v = .slice none 0 0
  | .slice (some (b, o)) n c g, v => ∃ p a c', ρ b = some p ∧ v = .slice (some a) n c' ∧ n ≤ c' ∧ c ≤ c' ∧ (g = none → c' = c) ∧
      (∀ es, g = some es → p.off + o + c' * es ≤ p.size) ∧ (c' ≠ 0 → a = ⟨p.blk, p.off + o, none⟩)
  | .map none, v => v = .map none
  | .map (some b), v => ∃ p, ρ b = some p ∧ p.off = 0 ∧ v = .map (some p.blk)
  | .func fn a b, v => ∃ fn' a' b', v = .func fn' a' b' ∧ FnR ρ fn fn' ∧ VRs ρ a a'.toList ∧ VRs ρ b b'.toList
  | .nilFunc, v => v = .nilFunc
  | .iface t x, v => ∃ y, v = .iface t y ∧ VR ρ x y
  | .nilIface, v => v = .nilIface
  | .agg cs, v => ∃ cs', v = .agg cs' ∧ VRs ρ cs cs'.toList
  | .tuple cs, v => ∃ cs', v = .tuple cs' ∧ VRs ρ cs cs'.toList
def VRs (ρ : Pls) : List AV → List Value → Prop
  | [], l => l = []
  | x :: xs, l => ∃ v vs, l = v :: vs ∧ VR ρ x v ∧ VRs ρ xs vs
end

theorem FnR.mono {ρ σ : Pls} (h : ρ.le σ) {f g : Fn} (hf : FnR ρ f g) : FnR σ f g := by
  cases f <;> simp only [FnR] at hf ⊢
  · exact hf
  · obtain ⟨p, hp, h0, e⟩ := hf; exact ⟨p, h _ _ hp, h0, e⟩
mutual
theorem VR.mono {ρ σ : Pls} (h : ρ.le σ) : ∀ (x : AV) (v : Value), VR ρ x v → VR σ x v
  | .bool _, _, hv => hv
  | .int _ _, _, hv => hv
  | .str _, _, hv => hv
  | .ptr none, _, hv => hv
  | .ptr (some (_, _)), _, hv => by obtain ⟨p, hp, e⟩ := hv; exact ⟨p, h _ _ hp, e⟩
  | .slice none _ _ _, _, hv => hv
  | .slice (some (_, _)) _ _ _, _, hv => by obtain ⟨p, a, c, hp, r⟩ := hv; exact ⟨p, a, c, h _ _ hp, r⟩
  | .map none, _, hv => hv
  | .map (some _), _, hv => by obtain ⟨p, hp, r⟩ := hv; exact ⟨p, h _ _ hp, r⟩
  | .func _ a b, _, hv => by
    obtain ⟨fn', a', b', e, hf, ha, hb⟩ := hv
    exact ⟨fn', a', b', e, hf.mono h, VRs.mono h a _ ha, VRs.mono h b _ hb⟩
  | .nilFunc, _, hv => hv
  | .iface _ x, _, hv => by obtain ⟨y, e, hy⟩ := hv; exact ⟨y, e, VR.mono h x y hy⟩
  | .nilIface, _, hv => hv
  | .agg cs, _, hv => by obtain ⟨cs', e, hc⟩ := hv; exact ⟨cs', e, VRs.mono h cs _ hc⟩
  | .tuple cs, _, hv => by obtain ⟨cs', e, hc⟩ := hv; exact ⟨cs', e, VRs.mono h cs _ hc⟩
theorem VRs.mono {ρ σ : Pls} (h : ρ.le σ) : ∀ (x : List AV) (v : List Value), VRs ρ x v → VRs σ x v
  | [], _, hv => hv
  | x :: xs, _, hv => by obtain ⟨v, vs, e, h1, h2⟩ := hv; exact ⟨v, vs, e, VR.mono h x v h1, VRs.mono h xs vs h2⟩
end

theorem VRs.length {ρ : Pls} : ∀ {xs : List AV} {vs : List Value}, VRs ρ xs vs → xs.length = vs.length
  | [], vs, h => by cases h; rfl
  | x :: xs, vs, h => by obtain ⟨v, us, rfl, _, h2⟩ := h; simp [VRs.length h2]
theorem VRs.get {ρ : Pls} : ∀ {xs : List AV} {vs : List Value}, VRs ρ xs vs → ∀ (i : Nat) x, xs[i]? = some x → ∃ v, vs[i]? = some v ∧ VR ρ x v
  | [], vs, _, i, x, hx => by simp at hx
  | y :: xs, vs, h, i, x, hx => by
    obtain ⟨v, us, rfl, h1, h2⟩ := h
    cases i with
    | zero => simp at hx; subst hx; exact ⟨v, rfl, h1⟩
    | succ i => simp at hx; simpa using VRs.get h2 i x hx
theorem VRs.of_get {ρ : Pls} : ∀ {xs : List AV} {vs : List Value}, xs.length = vs.length → (∀ (i : Nat) x, xs[i]? = some x → ∃ v, vs[i]? = some v ∧ VR ρ x v) → VRs ρ xs vs
  | [], vs, h, _ => by simp at h; exact List.length_eq_zero_iff.1 h.symm
  | x :: xs, vs, h, hg => by
    cases vs with
    | nil => simp at h
    | cons v vs =>
      obtain ⟨v', e, hv⟩ := hg 0 x rfl
      simp at e; subst e
      exact ⟨v, vs, rfl, hv, VRs.of_get (by simpa using h) fun i y hy => by simpa using hg (i + 1) y (by simpa using hy)⟩
theorem VRs.append {ρ : Pls} : ∀ {xs ys : List AV} {vs us : List Value}, VRs ρ xs vs → VRs ρ ys us → VRs ρ (xs ++ ys) (vs ++ us)
  | [], ys, vs, us, h, h' => by cases h; exact h'
  | x :: xs, ys, vs, us, h, h' => by obtain ⟨v, ws, rfl, h1, h2⟩ := h; exact ⟨v, ws ++ us, rfl, h1, VRs.append h2 h'⟩
theorem VRs.take {ρ : Pls} : ∀ {xs : List AV} {vs : List Value} (n : Nat), VRs ρ xs vs → VRs ρ (xs.take n) (vs.take n)
  | xs, vs, 0, _ => by simp [VRs]
  | [], vs, n + 1, h => by cases h; simp [VRs]
  | x :: xs, vs, n + 1, h => by obtain ⟨v, ws, rfl, h1, h2⟩ := h; exact ⟨v, ws.take n, rfl, h1, VRs.take n h2⟩
theorem VRs.drop {ρ : Pls} : ∀ {xs : List AV} {vs : List Value} (n : Nat), VRs ρ xs vs → VRs ρ (xs.drop n) (vs.drop n)
  | xs, vs, 0, h => by simpa using h
  | [], vs, n + 1, h => by cases h; simp [VRs]
  | x :: xs, vs, n + 1, h => by obtain ⟨v, ws, rfl, h1, h2⟩ := h; simpa using VRs.drop n h2

theorem VR.undef (ρ : Pls) : VR ρ undefA undef := ⟨#[], rfl, rfl⟩

/-- The cells of a value. -/
theorem VR.cells {ρ : Pls} {x : AV} {v : Value} (h : VR ρ x v) : VRs ρ x.cells v.cells.toList := by
  cases x with
  | agg cs => obtain ⟨cs', rfl, hc⟩ := h; exact hc
  | bool b => cases h; exact ⟨_, [], rfl, rfl, rfl⟩
  | int k n => cases h; exact ⟨_, [], rfl, rfl, rfl⟩
  | str s => obtain ⟨b, rfl, hb⟩ := h; exact ⟨_, [], rfl, ⟨b, rfl, hb⟩, rfl⟩
  | ptr a =>
    cases a with
    | none => cases h; exact ⟨_, [], rfl, rfl, rfl⟩
    | some p => obtain ⟨b, o⟩ := p; have h' := h; obtain ⟨p, hp, rfl⟩ := h; exact ⟨_, [], rfl, h', rfl⟩
  | slice a n c g =>
    cases a with
    | none => have h' := h; obtain ⟨_, _, _, rfl⟩ := h; exact ⟨_, [], rfl, h', rfl⟩
    | some p => obtain ⟨b, o⟩ := p; have h' := h; obtain ⟨p, a, c', hp, rfl, _⟩ := h; exact ⟨_, [], rfl, h', rfl⟩
  | map r =>
    cases r with
    | none => cases h; exact ⟨_, [], rfl, rfl, rfl⟩
    | some b => have h' := h; obtain ⟨p, hp, h0, rfl⟩ := h; exact ⟨_, [], rfl, h', rfl⟩
  | func fn a b => have h' := h; obtain ⟨fn', a', b', rfl, _⟩ := h; exact ⟨_, [], rfl, h', rfl⟩
  | nilFunc => cases h; exact ⟨_, [], rfl, rfl, rfl⟩
  | iface t x => have h' := h; obtain ⟨y, rfl, _⟩ := h; exact ⟨_, [], rfl, h', rfl⟩
  | nilIface => cases h; exact ⟨_, [], rfl, rfl, rfl⟩
  | tuple vs => have h' := h; obtain ⟨cs, rfl, _⟩ := h; exact ⟨_, [], rfl, h', rfl⟩

/-- A value that lies in one cell stands for one that does. -/
theorem VR.one {ρ : Pls} {x : AV} {v : Value} (h : VR ρ x v) (h1 : x.one = true) : v.oneCell' = true := by
  cases x with
  | agg cs => cases h1
  | tuple vs => cases h1
  | bool b => cases h; rfl
  | int k n => cases h; rfl
  | str s => obtain ⟨b, rfl, hb⟩ := h; rfl
  | ptr a =>
    cases a with
    | none => cases h; rfl
    | some p => obtain ⟨b, o⟩ := p; obtain ⟨p, hp, rfl⟩ := h; rfl
  | slice a n c g =>
    cases a with
    | none => obtain ⟨_, _, _, rfl⟩ := h; rfl
    | some p => obtain ⟨b, o⟩ := p; obtain ⟨p, a, c', hp, rfl, _⟩ := h; rfl
  | map r =>
    cases r with
    | none => cases h; rfl
    | some b => obtain ⟨p, hp, h0, rfl⟩ := h; rfl
  | func fn a b => obtain ⟨fn', a', b', rfl, _⟩ := h; rfl
  | nilFunc => cases h; rfl
  | iface t x => obtain ⟨y, rfl, _⟩ := h; rfl
  | nilIface => cases h; rfl

mutual
theorem VR.const (ρ : Pls) : ∀ (v : Value) (x : AV), ofConst v = some x → VR ρ x v := by
  intro v x h
  match v with
  | .bool b => cases h; rfl
  | .int k n => cases h; rfl
  | .string s => cases h; exact ⟨s, rfl, rfl⟩
  | .pointer none => cases h; rfl
  | .pointer (some _) => cases h
  | .slice none 0 0 => cases h; exact ⟨rfl, rfl, rfl, rfl⟩
  | .slice none 0 (_ + 1) => cases h
  | .slice none (_ + 1) _ => cases h
  | .slice (some _) _ _ => cases h
  | .map none => cases h; rfl
  | .map (some _) => cases h
  | .func (.func f) ⟨[]⟩ ⟨[]⟩ => cases h; exact ⟨_, _, _, rfl, rfl, rfl, rfl⟩
  | .func (.func f) ⟨_ :: _⟩ _ => cases h
  | .func (.func f) ⟨[]⟩ ⟨_ :: _⟩ => cases h
  | .func (.method _) _ _ => cases h
  | .func (.methodOf _ _) _ _ => cases h
  | .func (.via _ _ _ _) _ _ => cases h
  | .func (.yield _) _ _ => cases h
  | .nilFunc => cases h; rfl
  | .nilIface => cases h; rfl
  | .agg ⟨cs⟩ =>
    simp only [ofConst, Option.map_eq_some_iff] at h
    obtain ⟨l, hl, rfl⟩ := h
    exact ⟨_, rfl, VRs.const ρ cs l hl⟩
  | .tuple ⟨cs⟩ =>
    simp only [ofConst, Option.map_eq_some_iff] at h
    obtain ⟨l, hl, rfl⟩ := h
    exact ⟨_, rfl, VRs.const ρ cs l hl⟩
  | .float _ _ => cases h
  | .complex _ _ _ => cases h
  | .chan _ => cases h
  | .iface _ _ => cases h
theorem VRs.const (ρ : Pls) : ∀ (vs : List Value) (xs : List AV), ofConsts vs = some xs → VRs ρ xs vs := by
  intro vs xs h
  match vs with
  | [] => cases h; rfl
  | v :: vs =>
    simp only [ofConsts] at h
    split at h
    · rename_i x ys hx hy
      cases h
      exact ⟨v, vs, rfl, VR.const ρ v x hx, VRs.const ρ vs ys hy⟩
    · cases h
end

end Go.Am

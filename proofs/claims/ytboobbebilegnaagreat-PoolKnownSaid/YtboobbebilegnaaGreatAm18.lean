/-
  AM, 18: a region without a draw, one operation behind the other.
-/
import Derived.Test.YtboobbebilegnaaGreatAm17
namespace Go.Am
section
variable {P : Program} {keep : Keeps} {w : World} {ρ : Pls} {h : Heap}

/-- does a guard want it? -/
theorem wanted_sound {find : Nat → Option Opd} {loc : List AV} {vs tm : Tr AV} {a : Act} (he : EnvOk find loc vs tm ρ a) {ops : Array Oper} {o : Oper} {j d : Nat} {want : Bool} {c : Opd} {v : AV}
    (hg : o.guard = some (j, want)) (hd : (ops[j]?).bind (·.dst) = some d) (hc : find d = some c) (hv : c.get loc vs tm = some v) : Region.wanted o (yielded ops a.tmps) = wanted want v := by
  have h1 := he d c v hc hv
  simp only [Region.wanted, hg]
  have key : ∀ (x : Value), a.tmps.getD d undef = x → (∀ b, x ≠ .bool b) → yielded ops a.tmps j = none := by
    intro x hx hne
    simp only [yielded, hd, Option.bind_some]
    cases hq : a.tmps[d]? with
    | none => rfl
    | some y =>
      have : a.tmps.getD d undef = y := by rw [Array.getD_eq_getD_getElem?, hq]; rfl
      rw [this] at hx
      subst hx
      cases y with
      | bool b => exact absurd rfl (hne b)
      | _ => rfl
  cases v with
  | bool b =>
    have h2 : a.tmps.getD d undef = .bool b := h1
    have h3 : a.tmps[d]? = some (.bool b) := by
      rw [Array.getD_eq_getD_getElem?] at h2
      cases hq : a.tmps[d]? with
      | none => rw [hq] at h2; cases h2
      | some x => rw [hq] at h2; simp at h2; rw [h2]
    have h4 : yielded ops a.tmps j = some b := by simp only [yielded, hd, Option.bind_some, h3]
    rw [h4]
    show (some b == some want) = eqB b want
    rw [eqB_eq]
    cases b <;> cases want <;> rfl
  | int k n => rw [key _ h1 (by intro b e; cases e)]; rfl
  | str s => obtain ⟨b, e, _⟩ := h1; rw [key _ e (by intro b e; cases e)]; rfl
  | ptr o =>
    cases o with
    | none => rw [key _ h1 (by intro b e; cases e)]; rfl
    | some p => obtain ⟨_, _, e⟩ := h1; rw [key _ e (by intro b e; cases e)]; rfl
  | slice o n c g =>
    cases o with
    | none => obtain ⟨_, _, _, e⟩ := h1; rw [key _ e (by intro b e; cases e)]; rfl
    | some p => obtain ⟨_, _, _, _, e, _⟩ := h1; rw [key _ e (by intro b e; cases e)]; rfl
  | map o =>
    cases o with
    | none => rw [key _ h1 (by intro b e; cases e)]; rfl
    | some p => obtain ⟨_, _, _, e⟩ := h1; rw [key _ e (by intro b e; cases e)]; rfl
  | func f x y => obtain ⟨_, _, _, e, _⟩ := h1; rw [key _ e (by intro b e; cases e)]; rfl
  | nilFunc => rw [key _ h1 (by intro b e; cases e)]; rfl
  | iface t x => obtain ⟨_, e, _⟩ := h1; rw [key _ e (by intro b e; cases e)]; rfl
  | nilIface => rw [key _ h1 (by intro b e; cases e)]; rfl
  | agg cs => obtain ⟨_, e, _⟩ := h1; rw [key _ e (by intro b e; cases e)]; rfl
  | tuple cs => obtain ⟨_, e, _⟩ := h1; rw [key _ e (by intro b e; cases e)]; rfl

/-- an operation and its guard -/
theorem compG_cases {find : Nat → Option Opd} {ops : Array Oper} {g : Option (Nat × Bool)} {i : Ins} {loc : List AV} {vs tm : Tr AV} {call : CallFn} {id : Nat} {r : AV × Heap} (he : (compG find ops g i).ev loc vs tm call id h = some r) :
    (g = none ∧ i.ev loc vs tm call id h = some r) ∨
    ∃ j want d c v, g = some (j, want) ∧ (ops[j]?).bind (·.dst) = some d ∧ find d = some c ∧ c.get loc vs tm = some v ∧ ((wanted want v = true ∧ i.ev loc vs tm call id h = some r) ∨ (wanted want v = false ∧ r = (undefA, h))) := by
  cases g with
  | none => exact .inl ⟨rfl, he⟩
  | some jw =>
    obtain ⟨j, want⟩ := jw
    right
    simp only [compG] at he
    cases hd : (ops[j]?).bind (·.dst) with
    | none => rw [hd] at he; cases he
    | some d =>
      rw [hd] at he
      simp only at he
      cases hc : find d with
      | none => rw [hc] at he; cases he
      | some c =>
        rw [hc] at he
        have he : ob (c.get loc vs tm) (fun v => Bool.rec (motive := fun _ => Res) (some (undefA, h)) (i.ev loc vs tm call id h) (wanted want v)) = some r := he
        obtain ⟨v, h1, h2⟩ := ob_some.1 he
        refine ⟨j, want, d, c, v, rfl, hd, hc, h1, ?_⟩
        cases hw : wanted want v with
        | true => rw [hw] at h2; exact .inl ⟨rfl, h2⟩
        | false => rw [hw] at h2; cases h2; exact .inr ⟨rfl, rfl⟩

/-- an operation under its guard -/
theorem gstep_sound {call : CallFn} {find : Nat → Option Opd} {loc : List AV} {vs tm : Tr AV} {a : Act} {ops : Array Oper} {o : Oper} {i id : Nat} {r : AV × Heap} {ro : Option Nat} {rest : List Nat} {Q : Exit → Act → World → Prop}
    (hn : NamesOk P) (hc : CallOk P keep call) (hr : HR P keep ρ h w) (he : EnvOk find loc vs tm ρ a) (hid : h.next ≤ id) (ho : ops[i]? = some o) (hi : (compG find ops o.guard (compOp P find o.op)).ev loc vs tm call id h = some r)
    (hnext : ∀ ρ' v w', VR ρ' r.1 v → Post P keep ρ h w ρ' r.2 w' → wpOpsIn (fen ro) 0 P ops Q rest (a.put o.dst v) w') : wpOpsIn (fen ro) 0 P ops Q (i :: rest) a w := by
  simp only [wpOpsIn, ho]
  rcases compG_cases hi with ⟨hg, h1⟩ | ⟨j, want, d, c, v, hg, hd, hc', hv, h1⟩
  · have hw : Region.wanted o (yielded ops a.tmps) = true := by simp [Region.wanted, hg]
    rw [if_pos hw]
    exact step_sound hn hc hr he hid h1 hnext
  · have hw := wanted_sound he hg hd hc' hv
    rcases h1 with ⟨h2, h3⟩ | ⟨h2, h3⟩
    · rw [h2] at hw
      rw [if_pos hw]
      exact step_sound hn hc hr he hid h3 hnext
    · rw [h2] at hw
      rw [if_neg (by rw [hw]; simp)]
      subst h3
      exact ⟨fun _ _ => trivial, hnext ρ undef w (VR.undef ρ) (Post.refl hr)⟩

/-! ### the temporaries on the way -/
theorem put_getD {a : Act} {d t : Nat} {v : Value} (hd : d < a.tmps.size) : (a.put (some d) v).tmps.getD t undef = if t = d then v else a.tmps.getD t undef := by
  simp only [Act.put, Array.getD_eq_getD_getElem?, Array.getElem?_setIfInBounds]
  by_cases e : d = t
  · subst e; simp [hd]
  · rw [if_neg e, if_neg (fun h => e h.symm)]
theorem put_size (a : Act) (d : Option Tmp) (v : Value) : (a.put d v).tmps.size = a.tmps.size := by cases d <;> simp [Act.put]
theorem put_defers (a : Act) (d : Option Tmp) (v : Value) : (a.put d v).defers = a.defers := by cases d <;> rfl

theorem EnvOk.mono {find : Nat → Option Opd} {loc : List AV} {vs tm : Tr AV} {a : Act} {σ : Pls} (hl : ρ.le σ) (he : EnvOk find loc vs tm ρ a) : EnvOk find loc vs tm σ a :=
  fun t x v h1 h2 => (he t x v h1 h2).mono hl

structure Inv (kp : Nat → Bool) (nt sz : Nat) (tm : Tr AV) (n : Nat) (env : List (Nat × Opd)) (loc : List AV) (ρ : Pls) (a : Act) : Prop where
  ok : EnvOk (findLoc kp env n) loc .leaf tm ρ a
  len : loc.length = n
  locs : ∀ t p, (t, Opd.loc p) ∈ env → p < n
  dsts : ∀ t x, (t, x) ∈ env → t < nt
  size : a.tmps.size = sz
  nt : nt ≤ sz

theorem lookT_mem {t : Nat} {x : Opd} : ∀ {env : List (Nat × Opd)}, lookT t env = some x → (t, x) ∈ env
  | [], h => by cases h
  | y :: env, h => by
    simp only [lookT] at h
    split at h
    · rename_i e
      cases h
      subst e
      exact List.mem_cons_self ..
    · exact List.mem_cons_of_mem _ (lookT_mem h)

theorem relOp_get {loc : List AV} {tm : Tr AV} {r : AV} {n : Nat} {x : Opd} (hx : ∀ p, x = .loc p → p < n) : (relOp (n + 1) x).get (r :: loc) .leaf tm = (relOp n x).get loc .leaf tm := by
  cases x with
  | loc p =>
    have := hx p rfl
    show nth (r :: loc) (n + 1 - 1 - p) = nth loc (n - 1 - p)
    rw [nth_eq, nth_eq, show n + 1 - 1 - p = (n - 1 - p) + 1 by omega]; simp
  | opi j => rfl
  | tmp t => rfl
  | cst v => rfl

theorem okDst_lt {nt : Nat} {d : Nat} (h : okDst nt (some d) = true) : d < nt := Nat.le_of_ble_eq_true h

/-- one more value -/
theorem Inv.next {kp : Nat → Bool} {nt sz n : Nat} {tm : Tr AV} {env : List (Nat × Opd)} {loc : List AV} {a : Act} {σ : Pls} {dst : Option Nat} {r : AV} {v : Value}
    (hi : Inv kp nt sz tm n env loc ρ a) (hl : ρ.le σ) : okDst nt dst = true → VR σ r v → Inv kp nt sz tm (n + 1) ((match dst with | some d => [(d, .loc n)] | none => []) ++ env) (r :: loc) σ (a.put dst v) := by
  intro hd hv
  have hold : ∀ t x u, lookT t env = some x ∨ (lookT t env = none ∧ x = .tmp t ∧ kp t = true) → (relOp (n + 1) x).get (r :: loc) .leaf tm = some u → VR σ u (a.tmps.getD t undef) := by
    intro t x u hx hg
    have hlt : ∀ p, x = .loc p → p < n := by
      intro p e
      rcases hx with h1 | ⟨_, e2, _⟩
      · subst e; exact hi.locs t p (lookT_mem h1)
      · rw [e] at e2; cases e2
    rw [relOp_get hlt] at hg
    refine (hi.ok t (relOp n x) u ?_ hg).mono hl
    unfold findLoc absFind
    rcases hx with h1 | ⟨h1, e2, h3⟩
    · rw [h1]; rfl
    · rw [h1, if_pos h3, e2]; rfl
  have hfind : ∀ (e : List (Nat × Opd)) t y u, findLoc kp e (n + 1) t = some y → y.get (r :: loc) .leaf tm = some u → ∃ x, (lookT t e = some x ∨ (lookT t e = none ∧ x = .tmp t ∧ kp t = true)) ∧ (relOp (n + 1) x).get (r :: loc) .leaf tm = some u := by
    intro e t y u hy hg
    unfold findLoc absFind at hy
    cases hq : lookT t e with
    | some x => rw [hq] at hy; cases hy; exact ⟨x, .inl rfl, hg⟩
    | none =>
      rw [hq] at hy
      simp only at hy
      by_cases hk : kp t = true
      · rw [if_pos hk] at hy; cases hy; exact ⟨.tmp t, .inr ⟨rfl, rfl, hk⟩, hg⟩
      · rw [if_neg hk] at hy; cases hy
  cases dst with
  | none =>
    refine ⟨fun t y u hy hg => ?_, by simp [hi.len], fun t p hm => Nat.lt_succ_of_lt (hi.locs t p hm), hi.dsts, hi.size, hi.nt⟩
    obtain ⟨x, h1, h2⟩ := hfind _ t y u hy hg
    exact hold t x u h1 h2
  | some d =>
    have hdn := okDst_lt hd
    have hds : d < a.tmps.size := by rw [hi.size]; exact Nat.lt_of_lt_of_le hdn hi.nt
    refine ⟨fun t y u hy hg => ?_, by simp [hi.len], fun t p hm => ?_, fun t x hm => ?_, by rw [put_size]; exact hi.size, hi.nt⟩
    · rw [put_getD hds]
      obtain ⟨x, h1, h2⟩ := hfind _ t y u hy hg
      simp only [List.cons_append, List.nil_append, lookT] at h1
      by_cases e : d = t
      · subst e
        rw [if_pos rfl]
        rw [if_pos rfl] at h1
        rcases h1 with h1 | ⟨h1, _⟩
        · cases h1
          have h2 : nth (r :: loc) (n + 1 - 1 - n) = some u := h2
          rw [nth_eq, show n + 1 - 1 - n = 0 by omega] at h2
          cases h2; exact hv
        · cases h1
      · rw [if_neg (fun h => e h.symm)]
        rw [if_neg e] at h1
        exact hold t x u h1 h2
    · rcases List.mem_cons.1 hm with e | hm
      · cases e; omega
      · exact Nat.lt_succ_of_lt (hi.locs t p hm)
    · rcases List.mem_cons.1 hm with e | hm
      · cases e; exact hdn
      · exact hi.dsts t x hm

theorem resolve_rel {kp : Nat → Bool} {env : List (Nat × Opd)} {n : Nat} {x : Operand} {a : Opd} (hx : Am.resolve (absFind kp env) x = some a) : Am.resolve (findLoc kp env n) x = some (relOp n a) := by
  cases x with
  | tmp t => simp only [Am.resolve] at hx ⊢; unfold findLoc; rw [hx]; rfl
  | const v =>
    simp only [Am.resolve, Option.map_eq_some_iff] at hx ⊢
    obtain ⟨u, h1, rfl⟩ := hx
    exact ⟨u, h1, rfl⟩
  | global g => cases hx
  | func f => cases hx; rfl

/-- a move: its value is known by another name -/
theorem Inv.alias {kp : Nat → Bool} {nt sz n d : Nat} {tm : Tr AV} {env : List (Nat × Opd)} {loc : List AV} {a : Act} {x : Operand} {y : Opd}
    (hi : Inv kp nt sz tm n env loc ρ a) (hd : okDst nt (some d) = true) (hx : Am.resolve (absFind kp env) x = some y) : Inv kp nt sz tm n ((d, y) :: env) loc ρ (a.put (some d) (a.eval x)) := by
  have hdn := okDst_lt hd
  have hds : d < a.tmps.size := by rw [hi.size]; exact Nat.lt_of_lt_of_le hdn hi.nt
  refine ⟨fun t z u hz hg => ?_, hi.len, fun t p hm => ?_, fun t z hm => ?_, by rw [put_size]; exact hi.size, hi.nt⟩
  · rw [put_getD hds]
    by_cases e : d = t
    · subst e
      rw [if_pos rfl]
      have : findLoc kp ((d, y) :: env) n d = some (relOp n y) := by simp [findLoc, absFind, lookT]
      rw [this] at hz; cases hz
      exact resolve_sound hi.ok (resolve_rel hx) hg
    · rw [if_neg (fun h => e h.symm)]
      have : findLoc kp ((d, y) :: env) n t = findLoc kp env n t := by simp only [findLoc, absFind, lookT, if_neg e]
      rw [this] at hz
      exact hi.ok t z u hz hg
  · rcases List.mem_cons.1 hm with e | hm
    · cases e
      cases x with
      | tmp s =>
        simp only [Am.resolve, absFind] at hx
        cases hq : lookT s env with
        | some q => rw [hq] at hx; cases hx; exact hi.locs s p (lookT_mem hq)
        | none => rw [hq] at hx; simp only at hx; split at hx <;> cases hx
      | const v => simp only [Am.resolve, Option.map_eq_some_iff] at hx; obtain ⟨_, _, e⟩ := hx; cases e
      | global g => cases hx
      | func f => cases hx
    · exact hi.locs t p hm
  · rcases List.mem_cons.1 hm with e | hm
    · cases e; exact hdn
    · exact hi.dsts t z hm

theorem runIs_cons (g : GIns) (gs : List GIns) (tm : Tr AV) (call : CallFn) (loc : List AV) (h : Heap) : runIs (g :: gs) tm call loc h = ob (g.ev loc .leaf tm call h.next h) fun r => runIs gs tm call (r.1 :: loc) r.2 := rfl

theorem moveOf_some {o : Oper} {x : Operand} {d : Nat} (hm : moveOf o = some (x, d)) : o.guard = none ∧ o.dst = some d ∧ (o.op = .move x ∨ o.op = .assign x) := by
  obtain ⟨dst, op, ty, pos, after, guard⟩ := o
  unfold moveOf at hm
  simp only at hm
  split at hm
  · rename_i h1 h2; cases hm; exact ⟨rfl, rfl, .inl rfl⟩
  · rename_i h1 h2; cases hm; exact ⟨rfl, rfl, .inr rfl⟩
  · cases hm

end
end Go.Am

/-
  AM, 20: what is kept of a region.
-/
import Derived.Test.YtboobbebilegnaaGreatAm19
namespace Go.Am
section
variable {P : Program} {keep : Keeps} {w : World} {ρ : Pls} {h : Heap}

theorem putOuts_cons (o : Nat × Opd) (os : List (Nat × Opd)) (loc : List AV) (tm0 tm : Tr AV) : putOuts (o :: os) loc tm0 tm = ob (o.2.get loc .leaf tm0) fun v => putOuts os loc tm0 (tm.up (some v) o.1) := rfl
theorem putOuts_get : ∀ {outs : List (Nat × Opd)} {loc : List AV} {tm0 tm tm' : Tr AV}, putOuts outs loc tm0 tm = some tm' →
    ∀ t, (∃ x v, (t, x) ∈ outs ∧ x.get loc .leaf tm0 = some v ∧ tm'.gt t = some v) ∨ ((∀ x, (t, x) ∉ outs) ∧ tm'.gt t = tm.gt t)
  | [], loc, tm0, tm, tm', h, t => by cases h; exact .inr ⟨fun x hx => (by cases hx), rfl⟩
  | o :: os, loc, tm0, tm, tm', h, t => by
    rw [putOuts_cons] at h
    obtain ⟨v, h1, h2⟩ := ob_some.1 h
    rcases putOuts_get h2 t with ⟨x, u, g1, g2, g3⟩ | ⟨g1, g2⟩
    · exact .inl ⟨x, u, List.mem_cons_of_mem _ g1, g2, g3⟩
    · rw [Tr.gt_up] at g2
      by_cases e : t = o.1
      · rw [if_pos e] at g2
        exact .inl ⟨o.2, v, by rw [e]; exact List.mem_cons_self .., h1, g2⟩
      · rw [if_neg e] at g2
        refine .inr ⟨fun x hx => ?_, g2⟩
        rcases List.mem_cons.1 hx with e2 | hx
        · exact e (by rw [← e2])
        · exact g1 x hx

theorem outsEnv_mem {kp : Nat → Bool} {n t : Nat} {y : Opd} : ∀ {env : List (Nat × Opd)} {seen : List Nat}, (t, y) ∈ outsEnv kp n env seen → t ∉ seen ∧ ∃ x, lookT t env = some x ∧ y = relOp n x
  | [], seen, h => by cases h
  | x :: env, seen, h => by
    simp only [outsEnv] at h
    split at h
    · rename_i hc
      simp only [Bool.and_eq_true, Bool.not_eq_true', List.contains_eq_mem, decide_eq_false_iff_not] at hc
      rcases List.mem_cons.1 h with e | h
      · cases e
        exact ⟨hc.2, x.2, by simp [lookT], rfl⟩
      · obtain ⟨h1, z, h2, h3⟩ := outsEnv_mem h
        simp only [List.mem_cons, not_or] at h1
        exact ⟨h1.2, z, by simp only [lookT]; rw [if_neg (fun e => h1.1 e.symm)]; exact h2, h3⟩
    · rename_i hc
      obtain ⟨h1, z, h2, h3⟩ := outsEnv_mem h
      by_cases e : x.1 = t
      · -- it is not kept
        refine ⟨h1, ?_⟩
        simp only [Bool.and_eq_true, Bool.not_eq_true', List.contains_eq_mem, decide_eq_false_iff_not, not_and, Decidable.not_not] at hc
        cases hk : kp x.1 with
        | true => exact absurd (e ▸ hc hk) h1
        | false =>
          exfalso
          have : ∀ {env : List (Nat × Opd)} {seen : List Nat} {y : Opd}, (t, y) ∈ outsEnv kp n env seen → kp t = true := by
            intro env
            induction env with
            | nil => intro seen y h; cases h
            | cons z env ih =>
              intro seen y h
              simp only [outsEnv] at h
              split at h
              · rename_i hc
                simp only [Bool.and_eq_true] at hc
                rcases List.mem_cons.1 h with e | h
                · cases e; exact hc.1
                · exact ih h
              · exact ih h
          have := this h
          rw [← e, hk] at this; cases this
      · exact ⟨h1, z, by simp only [lookT]; rw [if_neg e]; exact h2, h3⟩
theorem outsEnv_has {kp : Nat → Bool} {n t : Nat} {x : Opd} (hk : kp t = true) : ∀ {env : List (Nat × Opd)} {seen : List Nat}, lookT t env = some x → t ∉ seen → ∃ y, (t, y) ∈ outsEnv kp n env seen
  | [], seen, h, _ => by cases h
  | z :: env, seen, h, hs => by
    simp only [lookT] at h
    simp only [outsEnv]
    by_cases e : z.1 = t
    · rw [if_pos]
      · exact ⟨_, by rw [e]; exact List.mem_cons_self ..⟩
      · rw [e, hk]; simpa using hs
    · rw [if_neg e] at h
      split
      · obtain ⟨y, h1⟩ := outsEnv_has (n := n) hk (seen := z.1 :: seen) h (by simp only [List.mem_cons, not_or]; exact ⟨fun h => e h.symm, hs⟩)
        exact ⟨y, List.mem_cons_of_mem _ h1⟩
      · exact outsEnv_has hk h hs

theorem getD_some {arr : Array Value} {t : Nat} (h : t < arr.size) : arr[t]? = some (arr.getD t undef) := by
  rw [Array.getD_eq_getD_getElem?, Array.getElem?_eq_getElem h]; rfl

theorem outsEnv_kept {kp : Nat → Bool} {n t : Nat} : ∀ {env : List (Nat × Opd)} {seen : List Nat} {y : Opd}, (t, y) ∈ outsEnv kp n env seen → kp t = true
  | [], seen, y, h => by cases h
  | z :: env, seen, y, h => by
    simp only [outsEnv] at h
    split at h
    · rename_i hc
      simp only [Bool.and_eq_true] at hc
      rcases List.mem_cons.1 h with e | h
      · cases e; exact hc.1
      · exact outsEnv_kept h
    · exact outsEnv_kept h

/-- what is kept stands for what lies in the temporaries -/
theorem outs_TR {kp : Nat → Bool} {nt : Nat} {tm tm' : Tr AV} {n sz : Nat} {env : List (Nat × Opd)} {loc : List AV} {σ : Pls} {a a' : Act} (ht : TR kp nt ρ tm a.tmps) (hsz : sz = a.tmps.size) (hi : Inv kp nt sz tm n env loc σ a') (hout : putOuts (outsEnv kp n env []) loc tm tm = some tm') : TR kp nt σ tm' a'.tmps := by
  refine ⟨by rw [hi.size, hsz]; exact ht.1, fun t v hk hv => ?_⟩
  rcases putOuts_get hout t with ⟨x, u, g1, g2, g3⟩ | ⟨g1, g2⟩
  · rw [g3] at hv; cases hv
    obtain ⟨_, z, h2, rfl⟩ := outsEnv_mem g1
    have hlt : t < a'.tmps.size := by rw [hi.size]; exact Nat.lt_of_lt_of_le (hi.dsts t z (lookT_mem h2)) hi.nt
    refine ⟨_, getD_some hlt, hi.ok t (relOp _ z) v ?_ g2⟩
    simp [findLoc, absFind, h2]
  · rw [g2] at hv
    obtain ⟨cv, h1, _⟩ := ht.2 t v hk hv
    have hlt : t < a'.tmps.size := by rw [hi.size, hsz]; exact (Array.getElem?_eq_some_iff.1 h1).1
    refine ⟨_, getD_some hlt, hi.ok t (.tmp t) v ?_ hv⟩
    cases hq : lookT t env with
    | some z =>
      obtain ⟨y, h3⟩ := outsEnv_has (n := n) hk hq (by simp : t ∉ ([] : List Nat))
      exact absurd h3 (g1 y)
    | none => simp only [findLoc, absFind, hq, if_pos hk]; rfl
theorem outs_same {kp : Nat → Bool} {tm tm' : Tr AV} {n D : Nat} {env : List (Nat × Opd)} {loc : List AV} (hD : kp D = false) (hout : putOuts (outsEnv kp n env []) loc tm tm = some tm') : tm'.gt D = tm.gt D := by
  rcases putOuts_get hout D with ⟨x, u, g1, _, _⟩ | ⟨_, g2⟩
  · rw [outsEnv_kept g1] at hD; cases hD
  · exact g2

theorem inv_start {kp : Nat → Bool} {nt : Nat} {tm : Tr AV} {a : Act} (ht : TR kp nt ρ tm a.tmps) : Inv kp nt a.tmps.size tm 0 [] [] ρ a := by
  refine ⟨fun t x v hx hg => ?_, rfl, fun _ _ hm => (by cases hm), fun _ _ hm => (by cases hm), rfl, ht.1⟩
  simp only [findLoc, absFind, lookT] at hx
  split at hx
  · rename_i hk
    cases hx
    obtain ⟨cv, h1, h2⟩ := ht.2 t v hk hg
    rw [Array.getD_eq_getD_getElem?, h1]; exact h2
  · cases hx

theorem deferLast_some : ∀ {os l : List Oper} {xs : List Operand}, deferLast os = some (l, xs) → ∃ o, os = l ++ [o] ∧ deferOf o = some xs
  | [], l, xs, h => by cases h
  | [o], l, xs, h => by
    simp only [deferLast, Option.map_eq_some_iff] at h
    obtain ⟨ys, h1, h2⟩ := h
    cases h2
    exact ⟨o, rfl, h1⟩
  | o :: p :: os, l, xs, h => by
    simp only [deferLast, Option.map_eq_some_iff] at h
    obtain ⟨⟨l', ys⟩, h1, h2⟩ := h
    cases h2
    obtain ⟨q, h3, h4⟩ := deferLast_some (os := p :: os) h1
    exact ⟨q, by rw [h3]; rfl, h4⟩
theorem deferOf_some {o : Oper} {xs : List Operand} (h : deferOf o = some xs) : ∃ f args ts, o.guard = none ∧ o.op = .defer ⟨.value f, args, ts⟩ ∧ o.dst = none ∧ xs = f :: args.toList := by
  obtain ⟨dst, op, ty, pos, after, guard⟩ := o
  unfold deferOf at h
  split at h
  · rename_i f args ts h1 h2 h3
    cases h
    exact ⟨f, args, ts, h1, h2, h3, rfl⟩
  · cases h

theorem compR_reg {kp : Nat → Bool} {nt : Nat} {ops : Array Oper} {is : List GIns} {outs : List (Nat × Opd)} (h : compR P kp nt ops = .reg is outs) :
    deferLast ops.toList = none ∧ is = (compOps P kp nt ops 0 [] ops.toList).1 ∧ outs = outsEnv kp (compOps P kp nt ops 0 [] ops.toList).2.1 (compOps P kp nt ops 0 [] ops.toList).2.2 [] := by
  unfold compR at h
  split at h
  · dsimp only at h; split at h <;> cases h
  · rename_i hd
    simp only [AC.reg.injEq] at h
    exact ⟨hd, h.1.symm, h.2.symm⟩

/-- A REGION WITHOUT A DRAW. -/
theorem reg_sound {call : CallFn} {kp : Nat → Bool} {nt id : Nat} {tm tm' : Tr AV} {ops : Array Oper} {ro : Option Nat} {Q : Exit → Act → World → Prop} {a : Act} {is : List GIns} {outs : List (Nat × Opd)} {r : List AV × Heap}
    (hn : NamesOk P) (hc : CallOk P keep call) (hr : HR P keep ρ h w) (ht : TR kp nt ρ tm a.tmps) (hcomp : compR P kp nt ops = .reg is outs) (hrun : runIs is tm call [] h = some r) (hout : putOuts outs r.1 tm tm = some tm')
    (hq : ∀ ρ' a' w', TR kp nt ρ' tm' a'.tmps → a'.defers = a.defers → Post P keep ρ h w ρ' r.2 w' → Q .normal a' w') : (Code.region id ops false).wpIn (fen ro) 0 P Q a w := by
  refine wpIn_region ?_
  obtain ⟨_, rfl, rfl⟩ := compR_reg hcomp
  have key := ops_sound (ro := ro) (Q := Q) (ops := ops) hn hc [] [] ops.toList 0 0 [] [] h w ρ a r (by simp) (inv_start ht) hr hrun (fun ρ' a' w' hi hd hp => ?_)
  · rw [List.range_eq_range']
    simpa using key
  · exact hq ρ' a' w' (outs_TR ht rfl hi hout) hd hp

/-- A REGION THAT PUTS A CALL OFF. -/
theorem dfr_sound {call : CallFn} {kp : Nat → Bool} {nt nt' id : Nat} {tm tm' : Tr AV} {ops : Array Oper} {Q : Exit → Act → World → Prop} {a : Act} {is : List GIns} {outs : List (Nat × Opd)} {xs : List Opd} {r : List AV × Heap} {vs : List AV}
    (hn : NamesOk P) (hc : CallOk P keep call) (hr : HR P keep ρ h w) (ht : TR kp nt ρ tm a.tmps) (hcomp : compR P kp nt ops = .dfr is outs nt' xs) (hrun : runIs is tm call [] h = some r) (hout : putOuts outs r.1 tm tm = some tm') (hg : gets xs r.1 .leaf tm = some vs)
    (hq : ∀ ρ' a' w' (i : FuncId) (first cap : Array Value) (args : List Value) (fa ca as : List AV), TR kp nt ρ' tm' a'.tmps → vs = .func (.func i) fa ca :: as → VRs ρ' ca cap.toList → VRs ρ' fa first.toList → VRs ρ' as args →
      a'.defers = { target := .fn (.func i) cap, args := first ++ args.toArray } :: a.defers → Post P keep ρ h w ρ' r.2 w' → Q .normal a' w')
    (hfn : ∀ v as, vs = v :: as → ∃ i fa ca, v = .func (.func i) fa ca) : nt' = nt ∧ (Code.region id ops false).wpIn (fen none) 0 P Q a w := by
  unfold compR at hcomp
  split at hcomp
  case h_2 => cases hcomp
  rename_i l ys hd
  dsimp only at hcomp
  split at hcomp
  case h_2 => cases hcomp
  rename_i zs hz
  simp only [AC.dfr.injEq] at hcomp
  obtain ⟨rfl, rfl, rfl, rfl⟩ := hcomp
  refine ⟨rfl, wpIn_region ?_⟩
  obtain ⟨o, hos, ho⟩ := deferLast_some hd
  obtain ⟨f, args, ts, h1, h2, h3, rfl⟩ := deferOf_some ho
  have hlen : ops.size = l.length + 1 := by rw [← Array.length_toList, hos]; simp
  have key := ops_sound (ro := none) (Q := Q) (ops := ops) hn hc [o] [l.length] l 0 0 [] [] h w ρ a r (by simpa using hos) (inv_start ht) hr hrun (fun ρ' a' w' hi hd hp => ?_)
  · rw [List.range_eq_range', hlen, List.range'_concat]
    simpa using key
  · have hoi : ops[l.length]? = some o := by rw [← Array.getElem?_toList, hos]; simp
    have hw : Region.wanted o (yielded ops a'.tmps) = true := by simp [Region.wanted, h1]
    simp only [wpOpsIn, hoi]
    rw [if_pos hw]
    refine ⟨fun _ _ => trivial, ?_⟩
    have hvs := resolves_sound hi.ok hz hg
    cases vs with
    | nil => cases hvs
    | cons v as =>
      obtain ⟨i, fa, ca, rfl⟩ := hfn v as rfl
      obtain ⟨cv, cvs, e1, v1, v2⟩ := hvs
      simp only [List.map_cons, List.cons.injEq] at e1
      obtain ⟨e1, e2⟩ := e1
      obtain ⟨fn', first, cap, e3, hf, va, vc⟩ := v1
      cases hf
      have hsem : o.semAt (fen none).round a'.eval = pure (.defer { target := .fn (.func i) cap, args := first ++ cvs.toArray }) := by
        show o.semAt none a'.eval = _
        obtain ⟨dst, op, ty, pos, after, guard⟩ := o
        simp only at h2
        subst h2
        have hmap : (args.map a'.eval) = cvs.toArray := by apply Array.toList_inj.1; simpa using e2
        simp only [Oper.semAt, execOp, Go.resolve, e1, e3, Deferred.ofValue, hmap]
        rfl
      rw [hsem, Sem.run_pure]
      simp only [Oper.uponIn, h3, Act.put]
      exact hq ρ' _ w' i first cap cvs fa ca as (show TR _ _ ρ' tm' a'.tmps from outs_TR ht rfl hi hout) rfl vc va v2 (by simp [hd]) hp
end
end Go.Am

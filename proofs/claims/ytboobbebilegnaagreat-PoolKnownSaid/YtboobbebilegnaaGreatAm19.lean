/-
  AM, 19: a region without a draw.
-/
import Derived.Test.YtboobbebilegnaaGreatAm18
namespace Go.Am
section
variable {P : Program} {keep : Keeps} {w : World} {ρ : Pls} {h : Heap}

/-- THE OPERATIONS, ONE BEHIND THE OTHER. -/
theorem ops_sound {call : CallFn} {kp : Nat → Bool} {nt sz : Nat} {tm : Tr AV} {ops : Array Oper} {ro : Option Nat} {Q : Exit → Act → World → Prop} (hn : NamesOk P) (hc : CallOk P keep call) (tl : List Oper) (ks : List Nat) :
    ∀ (rest : List Oper) (i n : Nat) (env : List (Nat × Opd)) (loc : List AV) (h : Heap) (w : World) (ρ : Pls) (a : Act) (r : List AV × Heap),
      ops.toList.drop i = rest ++ tl → Inv kp nt sz tm n env loc ρ a → HR P keep ρ h w → runIs (compOps P kp nt ops n env rest).1 tm call loc h = some r →
      (∀ ρ' a' w', Inv kp nt sz tm (compOps P kp nt ops n env rest).2.1 (compOps P kp nt ops n env rest).2.2 r.1 ρ' a' → a'.defers = a.defers → Post P keep ρ h w ρ' r.2 w' → wpOpsIn (fen ro) 0 P ops Q ks a' w') →
      wpOpsIn (fen ro) 0 P ops Q (List.range' i rest.length ++ ks) a w := by
  intro rest
  induction rest with
  | nil =>
    intro i n env loc h w ρ a r _ hi hr hrun hq
    cases hrun
    exact hq ρ a w hi rfl (Post.refl hr)
  | cons o rest ih =>
    intro i n env loc h w ρ a r hdrop hi hr hrun hq
    have hlt : i < ops.toList.length := by
      rcases Nat.lt_or_ge i ops.toList.length with h1 | h1
      · exact h1
      · rw [List.drop_eq_nil_of_le h1] at hdrop; cases hdrop
    have ho : ops[i]? = some o := by
      have := List.drop_eq_getElem_cons hlt
      rw [hdrop] at this
      simp only [List.cons_append, List.cons.injEq] at this
      rw [← Array.getElem?_toList, List.getElem?_eq_getElem hlt, ← this.1]
    have hdrop' : ops.toList.drop (i + 1) = rest ++ tl := by
      have := List.drop_eq_getElem_cons hlt
      rw [hdrop] at this
      simp only [List.cons_append, List.cons.injEq] at this
      exact this.2.symm
    rw [List.length_cons, List.range'_succ, List.cons_append]
    have slow : ∀ (g : GIns), g = (if okDst nt o.dst then compG (findLoc kp env n) ops o.guard (compOp P (findLoc kp env n) o.op) else ⟨none, .bad⟩) →
        runIs (g :: (compOps P kp nt ops (n + 1) ((match o.dst with | some d => [(d, .loc n)] | none => []) ++ env) rest).1) tm call loc h = some r →
        (∀ ρ' a' w', Inv kp nt sz tm (compOps P kp nt ops (n + 1) ((match o.dst with | some d => [(d, .loc n)] | none => []) ++ env) rest).2.1 (compOps P kp nt ops (n + 1) ((match o.dst with | some d => [(d, .loc n)] | none => []) ++ env) rest).2.2 r.1 ρ' a' → a'.defers = a.defers → Post P keep ρ h w ρ' r.2 w' → wpOpsIn (fen ro) 0 P ops Q ks a' w') →
        wpOpsIn (fen ro) 0 P ops Q (i :: (List.range' (i + 1) rest.length ++ ks)) a w := by
      intro g hg hrun hq
      rw [runIs_cons] at hrun
      obtain ⟨r1, h1, h2⟩ := ob_some.1 hrun
      cases hok : okDst nt o.dst with
      | false => rw [hok] at hg; subst hg; cases h1
      | true =>
        rw [hok, if_pos rfl] at hg
        subst hg
        refine gstep_sound hn hc hr hi.ok (Nat.le_refl _) ho h1 (fun ρ' v w' hv hpost => ?_)
        exact ih (i + 1) (n + 1) _ (r1.1 :: loc) r1.2 w' ρ' (a.put o.dst v) r hdrop' (hi.next hpost.le hok hv) hpost.hr h2
          (fun ρ'' a' w'' hi' hd' hp' => hq ρ'' a' w'' hi' (hd'.trans (put_defers _ _ _)) (hpost.trans hp'))
    unfold compOps at hrun hq
    cases hm : moveOf o with
    | none =>
      simp only [hm, Option.bind_none] at hrun hq
      exact slow _ rfl hrun hq
    | some xd =>
      obtain ⟨x, d⟩ := xd
      simp only [hm, Option.bind_some] at hrun hq
      cases hx : Am.resolve (absFind kp env) x with
      | none => simp only [hx] at hrun hq; exact slow _ rfl hrun hq
      | some y =>
        simp only [hx] at hrun hq
        obtain ⟨hg, hdst, hop⟩ := moveOf_some hm
        cases hok : okDst nt o.dst with
        | false => rw [hok] at hrun; cases hrun
        | true =>
          rw [hok] at hrun hq
          simp only [if_true] at hrun hq
          have hw : Region.wanted o (yielded ops a.tmps) = true := by simp [Region.wanted, hg]
          simp only [wpOpsIn, ho]
          rw [if_pos hw]
          refine ⟨fun _ _ => trivial, ?_⟩
          have hsem : o.semAt (fen ro).round a.eval = pure (.value (a.eval x)) := by
            rw [Oper.semAt_eq _ _ _ (by intro c e; rcases hop with h1 | h1 <;> (rw [h1] at e; cases e))]
            obtain ⟨dst, op, ty, pos, after, guard⟩ := o
            simp only at hop
            rcases hop with rfl | rfl <;> rfl
          rw [hsem, Sem.run_pure, Oper.uponIn_value, hdst]
          rw [hdst] at hok
          exact ih (i + 1) n _ loc h w ρ _ r hdrop' (hi.alias hok hx) hr hrun (fun ρ'' a' w'' hi' hd' hp' => hq ρ'' a' w'' hi' (hd'.trans (put_defers _ _ _)) hp')
end
end Go.Am

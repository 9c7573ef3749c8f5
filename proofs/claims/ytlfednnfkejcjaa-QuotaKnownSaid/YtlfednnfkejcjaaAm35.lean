/-
  AM, 35: calls of functions.
-/
import Derived.Test.YtlfednnfkejcjaaAm34
namespace Go.Am
section
variable {P : Program} {keep : Keeps} {call : CallFn} {lf : Nat} {f : FuncId}

theorem Post.shut {ρ ρ' : Pls} {h h' : Heap} {w w' : World} (hp : Post P keep ρ h w ρ' h' w') {r : Nat} (hr : w.heap.size ≤ r) (ho : ¬ Own ρ' h' r) (o : Obj) : Post P keep ρ h w ρ' h' { w' with heap := w'.heap.setIfInBounds r o } := by
  have hsame : ∀ k, k ≠ r → (w'.heap.setIfInBounds r o)[k]? = w'.heap[k]? := fun k hk => by rw [Array.getElem?_setIfInBounds, if_neg (fun e => hk e.symm)]
  refine ⟨hp.le, hp.hr.frame fun b x p hx hd hpl => hsame _ fun e => ho ⟨b, x, p, hx, hd, hpl, e⟩, ⟨hp.fr.os, hp.fr.output, by simpa using hp.fr.size, fun k hk hn => (hsame k (by omega)).trans (hp.fr.same k hk hn)⟩, hp.own, hp.next, hp.new⟩

theorem leaves_marks {ρ ρ' : Pls} {h h' : Heap} {w : World} {fn : Func} {tmps : Array Value} {R : Ending → World → Prop} : ∀ (ds : List Deferred) (w' : World), Post P keep ρ h w ρ' h' w' → DefOk w.heap.size ρ' h' ds w' →
    (∀ w'', Post P keep ρ h w ρ' h' w'' → ∃ v, (results fn tmps).run P w'' = .ok v w'' ∧ R (.returned v) w'') → LeavesInM (fen none) 0 P fn tmps R ds .returning w'
  | [], w', hp, _, hR => hR w' hp
  | d :: ds, w', hp, hd, hR => by
    obtain ⟨r, h1, h2, h3, h4⟩ := hd.1 d (List.mem_cons_self ..)
    refine ⟨(by intro e; cases e), .inl ⟨r, { w' with heap := w'.heap.setIfInBounds r (.deferred none) }, h1, ?_, leaves_marks ds _ (hp.shut h2 h4 _) ⟨fun e he => ?_, (List.pairwise_cons.1 hd.2).2⟩ hR⟩⟩
    · simp [Instr.takeDeferred, getObj, setObj, Sem.run, h3]
    · obtain ⟨s, g1, g2, g3, g4⟩ := hd.1 e (List.mem_cons_of_mem _ he)
      refine ⟨s, g1, g2, ?_, g4⟩
      show (w'.heap.setIfInBounds r _)[s]? = _
      rw [Array.getElem?_setIfInBounds, if_neg ((List.pairwise_cons.1 hd.2).1 e he r s h1 g1)]
      exact g3

theorem fnA_some {k : FnA} (h : fnA P keep f = some k) : ∃ fn c, P.funcs[f]? = some fn ∧ fn.body = some c ∧ okRes (keep f) fn.results.toList = true ∧ k = ⟨compC P (keep f) fn.ntmps c, fn.results.toList⟩ ∧ ntOf P f = fn.ntmps := by
  unfold fnA at h
  cases hf : P.funcs[f]? with
  | none => rw [hf] at h; cases h
  | some fn =>
    rw [hf] at h
    simp only at h
    cases hb : fn.body with
    | none => rw [hb] at h; cases h
    | some c =>
      rw [hb] at h
      simp only at h
      split at h
      · rename_i hk
        cases h
        exact ⟨fn, c, rfl, hb, hk, rfl, by simp [ntOf, hf]⟩
      · cases h

def PrimsOk (P : Program) (keep : Keeps) (prims : Prims) : Prop := ∀ f args h r, prims.fn f args h = some (some r) → ∀ ρ w avs, HR P keep ρ h w → VRs ρ args avs →
  (∃ fn c, P.funcs[f]? = some fn ∧ fn.body = some c) ∧ CallsIn (fen none) 0 P f avs.toArray w (Ret P keep ρ h w r)

theorem callF_sound {prims : Prims} (hm : P.follows .mixedOrders = true) (hn : NamesOk P) (hc : CallOk P keep call) (hpr : PrimsOk P keep prims) {args : List AV} {h : Heap} {r : AV × Heap} (hr : callF P keep prims lf call f args h = some r)
    {ρ : Pls} {w : World} {avs : List Value} (hh : HR P keep ρ h w) (hv : VRs ρ args avs) : (∃ fn c, P.funcs[f]? = some fn ∧ fn.body = some c) ∧ CallsIn (fen none) 0 P f avs.toArray w (Ret P keep ρ h w r) := by
  unfold callF at hr
  cases hp : prims.fn f args h with
  | some q =>
    rw [hp] at hr
    have hr : q = some r := hr
    subst hr
    exact hpr f args h r hp ρ w avs hh hv
  | none =>
    rw [hp] at hr
    obtain ⟨k, h1, h2⟩ := ob_some.1 (show ob (fnA P keep f) (fun k => ob (execA call lf f none k.code ⟨fillC args .leaf 0, h⟩) fun r => endFn P k.res r) = some r from hr)
    obtain ⟨fn, c, hf, hb, hk, rfl, hnt⟩ := fnA_some h1
    obtain ⟨q, h3, h4⟩ := ob_some.1 h2
    refine ⟨⟨fn, c, hf, hb⟩, ?_⟩
    have hlen := hv.length
    have ht : TR (keep f) (ntOf P f) ρ (fillC args .leaf 0) (avs.toArray ++ Array.replicate (fn.ntmps - avs.toArray.size) undef) := by
      refine ⟨by rw [hnt]; simp; omega, fun t v _ hg => ?_⟩
      rw [gt_fillC] at hg
      split at hg
      · rename_i hlt
        rw [Nat.sub_zero] at hg
        obtain ⟨cv, g1, g2⟩ := hv.get t v hg
        refine ⟨cv, ?_, g2⟩
        rw [Array.getElem?_append_left (by simp; omega)]
        simpa using g1
      · cases hg
    refine callsIn_of_wp_marks hf hb trivial ?_
    have hd : DefOk w.heap.size ρ h [] w := ⟨fun d hd => (by cases hd), List.Pairwise.nil⟩
    rw [← hnt] at h3
    refine exec_sound hm hn hc c ⟨fillC args .leaf 0, h⟩ q h3 w.heap.size ρ _ w none _ rfl hh ht hd (Nat.le_refl _) (fun ρ' a' w' hp' ht' hd' => ?_)
    obtain ⟨e, s'⟩ := q
    have out : (ob (resA P fn.results.toList s') fun vs => some (tupled vs, s'.hp)) = some r → LeavesInM (fen none) 0 P fn a'.tmps (Ret P keep ρ h w r) a'.defers .returning w' := by
      intro ho
      obtain ⟨vs, g1, g2⟩ := ob_some.1 ho
      cases g2
      refine leaves_marks a'.defers w' hp' hd' fun w'' hp'' => ?_
      obtain ⟨v, g3, g4⟩ := results_sound hp''.hr ht' hk g1
      exact ⟨v, g3, ρ', g4, hp''⟩
    cases e with
    | normal => exact out h4
    | ret => exact out h4
    | exit id => cases h4
    | goto l => cases h4
end
end Go.Am

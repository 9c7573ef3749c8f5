/-
  AM, 35: calls of functions.
-/
import Derived.Test.YtboobbebilegnaaGreatAm34
namespace Go.Am
section
variable {P : Program} {keep : Keeps} {call : CallFn} {lf : Nat} {f : FuncId}

theorem Post.shut {ρ ρ' : Pls} {h h' : Heap} {w w' : World} (hp : Post P keep ρ h w ρ' h' w') {r : Nat} (hr : w.heap.size ≤ r) (ho : ¬ Own ρ' h' r) (o : Obj) : Post P keep ρ h w ρ' h' { w' with heap := w'.heap.setIfInBounds r o } := by
  have hsame : ∀ k, k ≠ r → (w'.heap.setIfInBounds r o)[k]? = w'.heap[k]? := fun k hk => by rw [Array.getElem?_setIfInBounds, if_neg (fun e => hk e.symm)]
  refine ⟨hp.le, hp.hr.frame fun b x p hx hd hpl => hsame _ fun e => ho ⟨b, x, p, hx, hd, hpl, e⟩, ⟨hp.fr.os, hp.fr.output, by simpa using hp.fr.size, fun k hk hn => (hsame k (by omega)).trans (hp.fr.same k hk hn)⟩, hp.own, hp.next, hp.new⟩

theorem fnA_some {k : FnA} (h : fnA P keep f = some k) : ∃ fn c, P.funcs[f]? = some fn ∧ fn.body = some c ∧ okRes (keep f) fn.results.toList = true ∧ keep f (ntOf P f) = false ∧ k = ⟨compC P (keep f) fn.ntmps c, fn.results.toList, fn.ntmps, plainC c⟩ ∧ ntOf P f = fn.ntmps := by
  unfold fnA at h
  cases hf : P.funcs[f]? with
  | none => rw [hf] at h; cases h
  | some fn =>
    rw [hf] at h
    simp only at h
    cases hb : fn.body with
    | none => rw [hb] at h; cases h
    | some c =>
      rw [hb] at h
      simp only at h
      split at h
      · rename_i hk
        cases h
        rw [Bool.and_eq_true, Bool.not_eq_true'] at hk
        have hnt : ntOf P f = fn.ntmps := by simp [ntOf, hf]
        exact ⟨fn, c, rfl, hb, hk.1, by rw [hnt]; exact hk.2, rfl, hnt⟩
      · cases h

theorem args_TR {ρ : Pls} {args : List AV} {avs : List Value} {nt : Nat} {kp : Nat → Bool} (hv : VRs ρ args avs) : TR kp nt ρ (fillC args .leaf 0) (avs.toArray ++ Array.replicate (nt - avs.toArray.size) undef) := by
  have hlen := hv.length
  refine ⟨by simp; omega, fun t v _ hg => ?_⟩
  rw [gt_fillC] at hg
  split at hg
  · rename_i hlt
    rw [Nat.sub_zero] at hg
    obtain ⟨cv, g1, g2⟩ := hv.get t v hg
    refine ⟨cv, ?_, g2⟩
    rw [Array.getElem?_append_left (by simp; omega)]
    simpa using g1
  · cases hg
theorem args_off {args : List AV} {nt : Nat} (h : args.length ≤ nt) : putOff (fillC args .leaf 0) nt = [] := by
  unfold putOff
  rw [gt_fillC, if_neg (by omega), Tr.gt_leaf]

/-- a call that was put off is made -/
theorem callD_sound (hm : P.follows .mixedOrders = true) (hn : NamesOk P) (hc : CallOk P keep call) {i : FuncId} {args : List AV} {h h' : Heap} (hr : callD P keep lf call i args h = some h') {ρ : Pls} {w : World} {avs : List Value} (hh : HR P keep ρ h w) (hv : VRs ρ args avs) :
    (∃ fn c, P.funcs[i]? = some fn ∧ fn.body = some c) ∧ CallsDIn (fen none) 0 P i avs.toArray .returning w (fun e u' w' => u' = .returning ∧ ∃ v, e = .returned v ∧ ∃ ρ', Post P keep ρ h w ρ' h' w') := by
  obtain ⟨k, h1, h2⟩ := ob_some.1 hr
  obtain ⟨fn, c, hf, hb, hk, hkD, rfl, hnt⟩ := fnA_some h1
  obtain ⟨h3, h4⟩ := iff'_some.1 h2
  simp only [and'_eq, Bool.and_eq_true] at h3
  obtain ⟨hpl, hle⟩ := h3
  have hle : args.length ≤ fn.ntmps := by have := Nat.le_of_ble_eq_true hle; simpa using this
  obtain ⟨q, h5, h6⟩ := ob_some.1 h4
  refine ⟨⟨fn, c, hf, hb⟩, ?_⟩
  have main : CallsDIn (fen none) 0 P i avs.toArray .returning w (fun e u' w' => u' = .returning ∧ (fun e w' => ∃ v, e = .returned v ∧ ∃ ρ', Post P keep ρ h w ρ' h' w') e w') := by
    refine callsDIn_of_wp (F := fen none) hf hb trivial ?_
    have h5 : execA call lf (ntOf P i) i none (compC P (keep i) (ntOf P i) c) ⟨fillC args .leaf 0, h⟩ = some q := by rw [hnt]; exact h5
    have hd : DefOk ⟨w.heap.size, some []⟩ ρ h (putOff (fillC args .leaf 0) (ntOf P i)) [] w := ⟨⟨(fun d hd => by cases hd), List.Pairwise.nil⟩, args_off (by rw [hnt]; exact hle), fun ds0 e => by cases e; rfl⟩
    refine exec_sound hkD hm hn hc c ⟨fillC args .leaf 0, h⟩ q h5 ⟨w.heap.size, some []⟩ ρ _ w none _ rfl hh (by rw [hnt]; exact args_TR hv) hd (Nat.le_refl _) (fun _ => hpl) (fun ρ' a' w' hp' ht' hd' => ?_)
    obtain ⟨e, s'⟩ := q
    have hnil := hd'.2.2 [] rfl
    have out : (ob (resA P fn.results.toList s') fun _ => some s'.hp) = some h' → a'.defers = [] ∧ ∃ v, (results fn a'.tmps).run P w' = .ok v w' ∧ ∃ v', Ending.returned v = Ending.returned v' ∧ ∃ ρ', Post P keep ρ h w ρ' h' w' := by
      intro ho
      obtain ⟨vs, g1, g2⟩ := ob_some.1 ho
      cases g2
      obtain ⟨v, g3, g4⟩ := results_sound hp'.hr ht' hk g1
      exact ⟨hnil, v, g3, v, rfl, ρ', hp'⟩
    cases e with
    | normal => exact out h6
    | ret => exact out h6
    | exit id => cases h6
    | goto l => cases h6
  exact main

theorem runDs_cons (d : AV) (ds : List AV) (h : Heap) : runDs P keep lf call (d :: ds) h = ob (applyD P keep lf call d h) (runDs P keep lf call ds) := rfl

theorem leaves_all (hm : P.follows .mixedOrders = true) (hn : NamesOk P) (hc : CallOk P keep call) {ρ : Pls} {h h2 : Heap} {w : World} {fn : Func} {tmps : Array Value} {R : Ending → World → Prop} {n0 : DP} (hb0 : n0.base = w.heap.size) (hpd : n0.pd = none) : ∀ (ds : List Deferred) (l : List AV) (ρ' : Pls) (h' : Heap) (w' : World), Post P keep ρ h w ρ' h' w' → DefOk n0 ρ' h' l ds w' → runDs P keep lf call l h' = some h2 →
    (∀ ρ'' w'', Post P keep ρ h w ρ'' h2 w'' → ρ'.le ρ'' → ∃ v, (results fn tmps).run P w'' = .ok v w'' ∧ R (.returned v) w'') → LeavesInM (fen none) 0 P fn tmps R ds .returning w'
  | [], l, ρ', h', w', hp, hd, hr, hR => by
    obtain rfl : l = [] := hd.2.1
    cases hr
    exact hR ρ' w' hp (Pls.le_refl _)
  | d :: ds, l, ρ', h', w', hp, hd, hr, hR => by
    refine ⟨(by intro e; cases e), ?_⟩
    rcases hd.2.1 with ⟨r, h1, hdf⟩ | ⟨v, l', rfl, ⟨i, fa, ca, as, cap, rfl, ht, vc, va⟩, hdf⟩
    · obtain ⟨h2', h3, h4⟩ := hd.1.1 d (List.mem_cons_self ..) r h1
      rw [hb0] at h2'
      refine .inl ⟨r, { w' with heap := w'.heap.setIfInBounds r (.deferred none) }, h1, ?_, leaves_all hm hn hc hb0 hpd ds l ρ' h' _ (hp.shut h2' h4 _) ⟨⟨fun e he s g1 => ?_, (List.pairwise_cons.1 hd.1.2).2⟩, hdf, fun ds0 e => by rw [hpd] at e; cases e⟩ hr hR⟩
      · simp [Instr.takeDeferred, getObj, setObj, Sem.run, h3]
      · obtain ⟨g2, g3, g4⟩ := hd.1.1 e (List.mem_cons_of_mem _ he) s g1
        refine ⟨g2, ?_, g4⟩
        show (w'.heap.setIfInBounds r _)[s]? = _
        rw [Array.getElem?_setIfInBounds, if_neg ((List.pairwise_cons.1 hd.1.2).1 e he r s h1 g1)]
        exact g3
    · rw [runDs_cons] at hr
      obtain ⟨h1, g1, g2⟩ := ob_some.1 hr
      have g1 : callD P keep lf call i (app' fa (app' as ca)) h' = some h1 := g1
      rw [app'_eq, app'_eq] at g1
      obtain ⟨⟨fn1, c1, hfn, hbody⟩, hcd⟩ := callD_sound hm hn hc g1 hp.hr (avs := (d.args ++ cap).toList) (by
        rw [← List.append_assoc, Array.toList_append]
        exact va.append vc)
      rw [Array.toArray_toList] at hcd
      refine .inr ⟨(fun e => by cases e), .func i, cap, i, d.args ++ cap, ht, ?_, fun _ _ => trivial, hcd.mono fun e u' w1 hR1 => ?_⟩
      · rw [ht]
        simp only [invoke]
        have e : (#[] ++ d.args ++ cap : Array Value) = d.args ++ cap := by simp
        first
          | exact run_callFunc hn hfn hbody
          | (simp only [Array.empty_append]; exact run_callFunc hn hfn hbody)
      · obtain ⟨rfl, v, rfl, ρ1, hp1⟩ := hR1
        have hd1 : DefOk n0 ρ' h' l' ds w' := ⟨⟨fun e he s g => hd.1.1 e (List.mem_cons_of_mem _ he) s g, (List.pairwise_cons.1 hd.1.2).2⟩, hdf, fun ds0 e => by rw [hpd] at e; cases e⟩
        exact leaves_all hm hn hc hb0 hpd ds l' ρ1 h1 w1 (hp.trans hp1) (hd1.post hp1) g2 (fun ρ'' w'' hp'' hle => hR ρ'' w'' hp'' (Pls.le_trans hp1.le hle))

def PrimsOk (P : Program) (keep : Keeps) (prims : Prims) : Prop := ∀ f args h r, prims.fn f args h = some (some r) → ∀ ρ w avs, HR P keep ρ h w → VRs ρ args avs →
  (∃ fn c, P.funcs[f]? = some fn ∧ fn.body = some c) ∧ CallsIn (fen none) 0 P f avs.toArray w (Ret P keep ρ h w r)

theorem callF_sound {prims : Prims} (hm : P.follows .mixedOrders = true) (hn : NamesOk P) (hc : CallOk P keep call) (hpr : PrimsOk P keep prims) {args : List AV} {h : Heap} {r : AV × Heap} (hr : callF P keep prims lf call f args h = some r)
    {ρ : Pls} {w : World} {avs : List Value} (hh : HR P keep ρ h w) (hv : VRs ρ args avs) : (∃ fn c, P.funcs[f]? = some fn ∧ fn.body = some c) ∧ CallsIn (fen none) 0 P f avs.toArray w (Ret P keep ρ h w r) := by
  unfold callF at hr
  cases hp : prims.fn f args h with
  | some q =>
    rw [hp] at hr
    have hr : q = some r := hr
    subst hr
    exact hpr f args h r hp ρ w avs hh hv
  | none =>
    rw [hp] at hr
    obtain ⟨k, h1, h2⟩ := ob_some.1 (show ob (fnA P keep f) (fun k => iff' (Nat.ble (len' args) k.nt) (ob (execA call lf k.nt f none k.code ⟨fillC args .leaf 0, h⟩) fun r => endFn P keep lf call k.nt k.res r)) = some r from hr)
    obtain ⟨fn, c, hf, hb, hk, hkD, rfl, hnt⟩ := fnA_some h1
    obtain ⟨hle, h2⟩ := iff'_some.1 h2
    have hle : args.length ≤ fn.ntmps := by have := Nat.le_of_ble_eq_true hle; simpa using this
    obtain ⟨q, h3, h4⟩ := ob_some.1 h2
    refine ⟨⟨fn, c, hf, hb⟩, ?_⟩
    have ht : TR (keep f) (ntOf P f) ρ (fillC args .leaf 0) (avs.toArray ++ Array.replicate (fn.ntmps - avs.toArray.size) undef) := by rw [hnt]; exact args_TR hv
    refine callsIn_of_wp_marks hf hb trivial ?_
    have hd : DefOk ⟨w.heap.size, none⟩ ρ h (putOff (fillC args .leaf 0) (ntOf P f)) [] w := ⟨⟨(fun d hd => by cases hd), List.Pairwise.nil⟩, args_off (by rw [hnt]; exact hle), fun ds0 e => by cases e⟩
    have h3 : execA call lf (ntOf P f) f none (compC P (keep f) (ntOf P f) c) ⟨fillC args .leaf 0, h⟩ = some q := by rw [hnt]; exact h3
    refine exec_sound hkD hm hn hc c ⟨fillC args .leaf 0, h⟩ q h3 ⟨w.heap.size, none⟩ ρ _ w none _ rfl hh ht hd (Nat.le_refl _) (fun e => by cases e) (fun ρ' a' w' hp' ht' hd' => ?_)
    obtain ⟨e, s'⟩ := q
    have out : (ob (leaveD P keep lf call fn.ntmps s') fun h => ob (resA P fn.results.toList ⟨s'.tm, h⟩) fun vs => some (tupled vs, h)) = some r → LeavesInM (fen none) 0 P fn a'.tmps (Ret P keep ρ h w r) a'.defers .returning w' := by
      intro ho
      obtain ⟨h2', g0, g00⟩ := ob_some.1 ho
      obtain ⟨vs, g1, g2⟩ := ob_some.1 g00
      cases g2
      have hrun : runDs P keep lf call (putOff s'.tm (ntOf P f)) s'.hp = some h2' := by
        rw [hnt]
        unfold leaveD at g0
        unfold putOff
        cases hg : s'.tm.gt fn.ntmps with
        | none => rw [hg] at g0; exact g0
        | some v =>
          rw [hg] at g0
          obtain ⟨l, rfl, g3⟩ := eTuple_some g0
          exact g3
      refine leaves_all hm hn hc (n0 := ⟨w.heap.size, none⟩) rfl rfl a'.defers _ ρ' s'.hp w' hp' hd' hrun (fun ρ'' w'' hp'' hle => ?_)
      obtain ⟨v, g3, g4⟩ := results_sound (s := ⟨s'.tm, h2'⟩) hp''.hr (ht'.mono hle) hk g1
      exact ⟨v, g3, ρ'', g4, hp''⟩
    cases e with
    | normal => exact out h4
    | ret => exact out h4
    | exit id => cases h4
    | goto l => cases h4
end
end Go.Am

/-
  AM, 17: a region without a draw.
-/
import Derived.Test.YtboobbebilegnaaGreatAm16
namespace Go.Am

/-- no limits; in a round of this loop's -/
def fen (ro : Option Nat) : Fence := { Fence.wide with round := ro }

section
variable {P : Program} {keep : Keeps} {w : World} {ρ : Pls} {h : Heap}

def Ret (P : Program) (keep : Keeps) (ρ : Pls) (h : Heap) (w : World) (r : AV × Heap) : Ending → World → Prop
  | .returned v, w' => ∃ ρ', VR ρ' r.1 v ∧ Post P keep ρ h w ρ' r.2 w'
  | _, _ => False

/-- what is told of calls holds -/
def CallOk (P : Program) (keep : Keeps) (call : CallFn) : Prop := ∀ t args h r, call t args h = some r → ∀ ρ w avs, HR P keep ρ h w → VRs ρ args avs →
  match t with
  | .fn f => (∃ fn c, P.funcs[f]? = some fn ∧ fn.body = some c) ∧ CallsIn (fen none) 0 P f avs.toArray w (Ret P keep ρ h w r)
  | .loop l => ∀ p, ρ l = some p → ∃ f tmps assign body, (Instr.yield p.blk avs.toArray).run P w = .ok (.round p.blk f tmps assign body) w ∧ RoundIn (fen none) 0 P p.blk f tmps assign body w (Ret P keep ρ h w r)

def nameOk (fn : Func) : Bool := fn.body.isNone || !(fn.name == "runtime.NumGoroutine")
def NamesOk (P : Program) : Prop := P.funcs.all nameOk = true

theorem run_callFunc (hn : NamesOk P) {f : FuncId} {fn : Func} {c : Code} {args : Array Value} (hf : P.funcs[f]? = some fn) (hb : fn.body = some c) : (callFunc f args).run P w = .ok (.enter f args) w := by
  have h1 : nameOk fn = true := by
    unfold NamesOk at hn
    rw [Array.all_eq_true'] at hn
    exact hn fn (Array.mem_of_getElem? hf)
  simp only [nameOk, hb, Option.isNone_some, Bool.false_or, Bool.not_eq_true'] at h1
  have h2 : fn.name ≠ "runtime.NumGoroutine" := by simpa using h1
  simp [callFunc, hf, h2, hb]

/-- one operation that is wanted -/
theorem step_sound {call : CallFn} {find : Nat → Option Opd} {loc : List AV} {vs tm : Tr AV} {a : Act} {o : Oper} {id : Nat} {r : AV × Heap} {ro : Option Nat} {next : Act → World → Prop} {Q : Exit → Act → World → Prop}
    (hn : NamesOk P) (hc : CallOk P keep call) (hr : HR P keep ρ h w) (he : EnvOk find loc vs tm ρ a) (hid : h.next ≤ id) (hi : (compOp P find o.op).ev loc vs tm call id h = some r)
    (hnext : ∀ ρ' v w', VR ρ' r.1 v → Post P keep ρ h w ρ' r.2 w' → next (a.put o.dst v) w') : o.wpIn (fen ro) 0 P a w next Q := by
  refine ⟨fun _ _ => trivial, ?_⟩
  have hnd : ∀ c, o.op ≠ .defer c := by
    intro c e
    rw [e] at hi
    cases hi
  rw [Oper.semAt_eq _ _ _ hnd]
  have hg := compOp_good (P := P) (keep := keep) (find := find) o
  have give : ∀ {v : AV}, GivesN P w ρ (execOp a.eval o) v → some r = some (v, h) → o.uponIn (fen ro) 0 P a next Q ((execOp a.eval o).run P w) := by
    intro v hv e
    cases e
    obtain ⟨cv, h1, h2⟩ := hv
    rw [h1]
    exact hnext ρ cv w h2 (Post.refl hr)
  have does : DoesN P keep w ρ h (execOp a.eval o) r.1 r.2 → o.uponIn (fen ro) 0 P a next Q ((execOp a.eval o).run P w) := by
    intro hd
    obtain ⟨ρ', nx, v, w', h1, h2, h3, h4⟩ := hd
    rw [h1]
    rcases h2 with rfl | ⟨rfl, rfl⟩
    · exact hnext ρ' v w' h3 h4
    · exact hnext ρ' undef w' h3 h4
  cases hco : compOp P find o.op with
  | bad => rw [hco] at hi; cases hi
  | mv x =>
    rw [hco] at hi hg
    obtain ⟨v, h1, h2⟩ := ob_some.1 (show ob (x.get loc vs tm) (fun v => some (v, h)) = some r from hi)
    exact give (hg loc vs tm ρ h w a hr he v h1) h2.symm
  | p1 f x =>
    rw [hco] at hi hg
    obtain ⟨v, h1, h2⟩ := ob_some.1 (show ob (x.get loc vs tm) (fun v => ob (f v) fun r => some (r, h)) = some r from hi)
    obtain ⟨u, h3, h4⟩ := ob_some.1 h2
    exact give (hg loc vs tm ρ h w a hr he v u h1 h3) h4.symm
  | p2 f x y =>
    rw [hco] at hi hg
    obtain ⟨v, h1, h2⟩ := ob_some.1 (show ob (x.get loc vs tm) (fun v => ob (y.get loc vs tm) fun u => ob (f v u) fun r => some (r, h)) = some r from hi)
    obtain ⟨u, h3, h4⟩ := ob_some.1 h2
    obtain ⟨s, h5, h6⟩ := ob_some.1 h4
    exact give (hg loc vs tm ρ h w a hr he v u s h1 h3 h5) h6.symm
  | pick c x y =>
    rw [hco] at hi hg
    obtain ⟨v, h1, h2⟩ := ob_some.1 (show ob (c.get loc vs tm) (fun v => eBool (fun t => ob (Bool.rec (motive := fun _ => Option AV) (y.get loc vs tm) (x.get loc vs tm) t) fun r => some (r, h)) v) = some r from hi)
    obtain ⟨t, e, h3⟩ := eBool_some h2
    subst e
    obtain ⟨s, h5, h6⟩ := ob_some.1 h3
    refine give (hg loc vs tm ρ h w a hr he t s h1 ?_) h6.symm
    cases t <;> exact h5
  | pn f xs =>
    rw [hco] at hi hg
    obtain ⟨v, h1, h2⟩ := ob_some.1 (show ob (gets xs loc vs tm) (fun v => ob (f v) fun r => some (r, h)) = some r from hi)
    obtain ⟨u, h3, h4⟩ := ob_some.1 h2
    exact give (hg loc vs tm ρ h w a hr he v u h1 h3) h4.symm
  | ld1 x =>
    rw [hco] at hi hg
    obtain ⟨v, h1, h2⟩ := ob_some.1 (show ob (x.get loc vs tm) (fun v => ob (load1 h v) fun r => some (r, h)) = some r from hi)
    obtain ⟨u, h3, h4⟩ := ob_some.1 h2
    exact give (hg loc vs tm ρ h w a hr he v u h1 h3) h4.symm
  | ldn s x =>
    rw [hco] at hi hg
    obtain ⟨v, h1, h2⟩ := ob_some.1 (show ob (x.get loc vs tm) (fun v => ob (loadN s h v) fun r => some (r, h)) = some r from hi)
    obtain ⟨u, h3, h4⟩ := ob_some.1 h2
    exact give (hg loc vs tm ρ h w a hr he v u h1 h3) h4.symm
  | rd f xs =>
    rw [hco] at hi hg
    obtain ⟨v, h1, h2⟩ := ob_some.1 (show ob (gets xs loc vs tm) (fun v => ob (f v h) fun r => some (r, h)) = some r from hi)
    obtain ⟨u, h3, h4⟩ := ob_some.1 h2
    exact give (hg loc vs tm ρ h w a hr he v u h1 h3) h4.symm
  | al f xs =>
    rw [hco] at hi hg
    obtain ⟨v, h1, h2⟩ := ob_some.1 (show ob (gets xs loc vs tm) (fun v => ob (f v) fun r => some (r.2 id, h.new id r.1)) = some r from hi)
    obtain ⟨u, h3, h4⟩ := ob_some.1 h2
    cases h4
    obtain ⟨ob', sz, cv, w', g1, g2, g3, g4, g5⟩ := hg loc vs tm ρ h w a hr he v u h1 h3
    have f1 := (hr.fresh hid).1
    obtain ⟨g6, g7⟩ := g5 id f1
    refine does ⟨_, _, cv, w', g1, .inl rfl, g7, ?_⟩
    rw [new_eq hid]
    exact hr.push hid (by omega) g2 g3 g4 g6
  | st1 x y =>
    rw [hco] at hi hg
    obtain ⟨v, h1, h2⟩ := ob_some.1 (show ob (x.get loc vs tm) (fun p => ob (y.get loc vs tm) fun v => store1 h p v) = some r from hi)
    obtain ⟨u, h3, h4⟩ := ob_some.1 h2
    exact does (hg loc vs tm ρ h w a hr he v u r h1 h3 h4)
  | ef f xs =>
    rw [hco] at hi hg
    obtain ⟨v, h1, h2⟩ := ob_some.1 (show ob (gets xs loc vs tm) (fun v => f v id h) = some r from hi)
    exact does (hg loc vs tm ρ h w a hr he v id r hid h1 h2)
  | cl g xs =>
    rw [hco] at hi hg
    obtain ⟨g0, args, ts, hop, hg0, hxs⟩ := hg
    obtain ⟨fv, h1, h2⟩ := ob_some.1 (show ob (g.get loc vs tm) (fun f => ob (gets xs loc vs tm) fun us => applyV call us h f) = some r from hi)
    obtain ⟨us, h3, h4⟩ := ob_some.1 h2
    have vf := resolve_sound he hg0 h1
    have va := resolves_sound he hxs h3
    obtain ⟨fn, first, cap, e, h5⟩ := eFunc_some (show eFunc _ fv = some r from h4)
    subst e
    obtain ⟨fn', a', b', e2, hf, ha, hb⟩ := vf
    have hex : execOp a.eval o = (do let d ← Deferred.ofValue (a.eval g0) (args.map a.eval); invoke d.target d.args) := by
      obtain ⟨dst, op, ty, pos, after, guard⟩ := o
      simp only at hop
      subst hop
      rfl
    have hargs : (args.toList.map a.eval) = (args.map a.eval).toList := by simp
    rw [hargs] at va
    cases fn with
    | func f =>
      cases hf
      have h6 : call (.fn f) (app' first (app' us cap)) h = some r := h5
      obtain ⟨⟨fn, c, hfn, hbody⟩, hcall⟩ := hc _ _ _ _ h6 ρ w ((a' ++ args.map a.eval ++ b').toList) hr (by
        rw [app'_eq, app'_eq]
        simp only [Array.toList_append, List.append_assoc]
        exact ha.append (va.append hb))
      have hrun : (execOp a.eval o).run P w = .ok (.enter f (a' ++ args.map a.eval ++ b')) w := by
        rw [hex, e2]
        simp only [Deferred.ofValue, Sem.run_bind, Sem.run_pure, Result.andThen_ok, invoke]
        exact run_callFunc hn hfn hbody
      rw [hrun, Oper.uponIn_enter]
      refine ⟨fun hd => (by cases hd), ?_⟩
      rw [Array.toArray_toList] at hcall
      refine CallsIn.mono (F := fen none) hcall (fun e w' hR => ?_)
      cases e with
      | returned v => obtain ⟨ρ', h7, h8⟩ := hR; exact hnext ρ' v w' h7 h8
      | panicked chain => exact hR.elim
      | outgrown => exact hR.elim
    | yield l =>
      obtain ⟨p, hp, h0, rfl⟩ := hf
      have h6 : call (.loop l) (app' first us) h = some r := h5
      obtain ⟨f, tmps, assign, body, hy, hcall⟩ := hc _ _ _ _ h6 ρ w ((a' ++ args.map a.eval).toList) hr (by
        rw [app'_eq]
        simp only [Array.toList_append]
        exact ha.append va) p hp
      have hrun : (execOp a.eval o).run P w = .ok (.round p.blk f tmps assign body) w := by
        rw [hex, e2]
        simp only [Deferred.ofValue, Sem.run_bind, Sem.run_pure, Result.andThen_ok, invoke]
        rw [Array.toArray_toList] at hy
        exact hy
      rw [hrun, Oper.uponIn_round]
      refine ⟨fun hd => (by cases hd), ?_⟩
      refine RoundIn.mono (F := fen none) hcall (fun e w' hR => ?_)
      cases e with
      | returned v => obtain ⟨ρ', h7, h8⟩ := hR; exact hnext ρ' v w' h7 h8
      | panicked chain => exact hR.elim
      | outgrown => exact hR.elim
    | _ => cases hf
end
end Go.Am

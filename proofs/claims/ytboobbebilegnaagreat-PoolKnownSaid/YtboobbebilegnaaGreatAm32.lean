/-
  AM, 32: a range over a function.
-/
import Derived.Test.YtboobbebilegnaaGreatAm31
namespace Go.Am
section
variable {P : Program} {keep : Keeps} {call : CallFn} {lf : Nat} {f : FuncId} {ro : Option Nat}

theorem own_lt {ρ : Pls} {h : Heap} {w : World} {k : Nat} (hr : HR P keep ρ h w) (ho : Own ρ h k) : k < w.heap.size := by
  obtain ⟨b, x, p, hx, hd, hp, rfl⟩ := ho
  obtain ⟨q, hq, hlt⟩ := (hr.blk b x hx).place hd
  rw [hp] at hq; cases hq; exact hlt

/-- the statement is entered -/
theorem enter_sound {ρ : Pls} {h : Heap} {w : World} {rom : Option Nat} {n0 : DP} {dl : List AV} {ds : List Deferred} (hr : HR P keep ρ h w) (hro : RoR ρ ro rom) (hd : DefOk n0 ρ h dl ds w) (hn : n0.base ≤ w.heap.size) (hpd : n0.pd = none) (hlp : ∀ l, ro = some l → ∃ b, h.bs.gt l = some (.loop b))
    (tmps : Array Value) (ps : Array Tmp) (assign body : Code) :
    ∃ wA mark dn, Post P keep ρ h w ρ h wA ∧ DefOk n0 ρ h dl (mark ++ ds) wA ∧ wA.os = w.os ∧ wA.output = w.output ∧
      ∀ fn, (Instr.enterLoop fn tmps ps assign body rom).run P w = .ok (wA.heap.size, mark) { wA with heap := wA.heap.push (.loop { state := .ready, pending := none, fn, tmps, params := ps, assign, body, defers := dn }) } := by
  cases ro with
  | none =>
    cases hro
    let wA : World := { w with heap := w.heap.push (.deferred (some [])) }
    refine ⟨wA, [{ target := .collected w.heap.size, args := #[] }], w.heap.size, Post.grow hr rfl rfl rfl, ⟨⟨fun d hm r h1 => ?_, ?_⟩, .inl ⟨_, rfl, hd.2.1⟩, fun ds0 e => by rw [hpd] at e; cases e⟩, rfl, rfl, fun fn => ?_⟩
    · rcases List.mem_append.1 hm with hm | hm
      · rw [List.mem_singleton.1 hm] at h1
        cases h1
        refine ⟨hn, ?_, fun ho => Nat.lt_irrefl _ (own_lt hr ho)⟩
        show (w.heap.push _)[w.heap.size]? = _
        simp
      · obtain ⟨h2, h3, h4⟩ := hd.1.1 d hm r h1
        have hlt := (Array.getElem?_eq_some_iff.1 h3).1
        refine ⟨h2, ?_, h4⟩
        show (w.heap.push _)[r]? = _
        rw [Array.getElem?_push, if_neg (by omega)]; exact h3
    · rw [List.singleton_append, List.pairwise_cons]
      refine ⟨fun e hm r s h1 h2 => ?_, hd.1.2⟩
      cases h1
      obtain ⟨_, g3, _⟩ := hd.1.1 e hm s h2
      have hlt := (Array.getElem?_eq_some_iff.1 g3).1
      omega
    · simp [Instr.enterLoop, wA]; rfl
  | some l =>
    obtain ⟨p, hp, h0, rfl⟩ := hro
    obtain ⟨b, hb⟩ := hlp l rfl
    obtain ⟨p', L, hp', _, hh, _⟩ := hr.blk _ _ hb
    rw [hp] at hp'; cases hp'
    refine ⟨w, [], L.defers, Post.refl hr, by simpa using hd, rfl, rfl, fun fn => ?_⟩
    simp [Instr.enterLoop, run_getLoop hh]

theorem range_sound (hkD : keep f (ntOf P f) = false) (hn : NamesOk P) (hc : CallOk P keep call) {g : Operand} {x : Opd} {ps : Array Tmp} {assign body : Code} (hx : Am.resolve (fun t => if keep f t then some (.tmp t) else none) g = some x) :
    Does2 P keep f ro (.rangeFunc g ps assign body) (fun s => ob (x.get [] .leaf s.tm) fun fv => runRange call (ntOf P f) f ro ps.toList assign body s fv) := by
  intro s r hr n0 ρ act w rom Q hro hh ht hd hn0 hpl hg
  have hpd : n0.pd = none := by
    cases hx : n0.pd with
    | none => rfl
    | some d => have := hpl (by rw [hx]; rfl); cases this
  obtain ⟨fv, h1, h2⟩ := ob_some.1 hr
  have vf := resolve_sound (cond_tmp ht) hx h1
  let L0 : LRec := ⟨.ready, none, f, s.tm.up none (ntOf P f), ps.toList, assign, body⟩
  let enter : XR := ob (applyF call [.func (.yield s.hp.next) [] []] (s.hp.new s.hp.next (.loop L0)) fv) fun r =>
    r.2.theLoop s.hp.next fun b => match b.st with
      | .busy => none
      | _ => match b.pending with
        | none => some (.normal, ⟨s.tm, r.2.put s.hp.next (.loop { b with st := .exhausted })⟩)
        | some c => ob (jumpEx c) fun e => some (e, ⟨s.tm, r.2.put s.hp.next (.loop { b with st := .exhausted })⟩)
  have hent : enter = some r ∧ ∀ l, ro = some l → ∃ b, s.hp.bs.gt l = some (.loop b) := by
    cases ro with
    | none => exact ⟨h2, fun l e => by cases e⟩
    | some l =>
      obtain ⟨b, hb, h3⟩ := theLoop_some (show s.hp.theLoop l (fun _ => enter) = some r from h2)
      exact ⟨h3, fun l' e => by cases e; exact ⟨b, hb⟩⟩
  obtain ⟨he, hlp⟩ := hent
  obtain ⟨q, h3, h4⟩ := ob_some.1 he
  obtain ⟨fn, first, cap, e, h5⟩ := eFunc_some h3
  subst e
  obtain ⟨fn', a', b', e2, hf, ha, hb⟩ := vf
  cases fn with
  | func i =>
    cases hf
    have h6 : call (.fn i) (app' first (app' [.func (.yield s.hp.next) [] []] cap)) (s.hp.new s.hp.next (.loop L0)) = some q := h5
    obtain ⟨wA, mark, dn, hpA, hdA, hosA, houtA, hrunA⟩ := enter_sound hh hro hd hn0 hpd hlp act.tmps ps assign body
    -- the loop's record
    have mk : ∀ fn : FuncId, let L : Loop := { state := .ready, pending := none, fn, tmps := act.tmps, params := ps, assign, body, defers := dn }
        Post P keep ρ s.hp wA (ρ.up s.hp.next ⟨wA.heap.size, 0, 0⟩) (s.hp.new s.hp.next (.loop L0)) { wA with heap := wA.heap.push (.loop L) } := by
      intro fn L
      rw [new_eq (Nat.le_refl _)]
      refine hpA.hr.push (w' := { wA with heap := wA.heap.push (.loop L) }) (o := .loop L) (Nat.le_refl _) (by omega) rfl rfl rfl ⟨_, L, Pls.up_same _ _ _, rfl, ?_, ⟨rfl, rfl, ?_, rfl, rfl, rfl⟩⟩
      · show (wA.heap.push _)[wA.heap.size]? = _
        simp
      · refine TR.mono (Pls.le_up (hh.fresh (Nat.le_refl _)).1) ⟨ht.1, fun t v hk hv => ?_⟩
        have hv : (s.tm.up none (ntOf P f)).gt t = some v := hv
        rw [Tr.gt_up, if_neg (fun e => by rw [e] at hk; rw [hk] at hkD; cases hkD)] at hv
        exact ht.2 t v hk hv
    have hle1 : ρ.le (ρ.up s.hp.next ⟨wA.heap.size, 0, 0⟩) := Pls.le_up (hh.fresh (Nat.le_refl _)).1
    refine wpIn_rangeFunc fun fn _ => ?_
    have hmk := mk fn
    simp only at hmk
    obtain ⟨⟨fn1, c1, hfn, hbody⟩, hcall⟩ := hc _ _ _ _ h6 _ _ ((a' ++ #[Value.func (Fn.yield wA.heap.size) #[] #[]] ++ b').toList) hmk.hr (by
      rw [app'_eq, app'_eq]
      simp only [Array.toList_append, List.append_assoc]
      refine (ha.mono hle1).append (VRs.append ⟨_, [], rfl, ⟨_, _, _, rfl, ⟨_, Pls.up_same _ _ _, rfl, rfl⟩, rfl, rfl⟩, rfl⟩ (hb.mono hle1)))
    let wB : World := { wA with heap := wA.heap.push (.loop { state := .ready, pending := none, fn, tmps := act.tmps, params := ps, assign, body, defers := dn }) }
    refine ⟨wA.heap.size, mark, wB, { target := .fn (.func i) b', args := a' ++ #[Value.func (Fn.yield wA.heap.size) #[] #[]] }, wB, i, a' ++ #[Value.func (Fn.yield wA.heap.size) #[] #[]] ++ b', wB, hrunA fn, ?_, fun _ _ => trivial, ?_, fun hd => (by cases hd), ?_⟩
    · have hmap : Array.map act.eval #[Operand.const (Value.func (Fn.yield wA.heap.size) #[] #[])] = #[Value.func (Fn.yield wA.heap.size) #[] #[]] := by simp [Act.eval]
      simp only [Go.resolve, e2, Deferred.ofValue, Sem.run_pure, hmap]
    · simp only [invoke]
      exact run_callFunc hn hfn hbody
    · rw [Array.toArray_toList] at hcall
      refine CallsIn.mono (F := fen none) hcall (fun e w3 hR => ?_)
      cases e with
      | returned v =>
        obtain ⟨ρ', _, hp⟩ := hR
        obtain ⟨b, hbl, h7⟩ := theLoop_some h4
        obtain ⟨p, L, hpl, hp0, hh3, hlr⟩ := hp.hr.blk _ _ hbl
        have hpe : p = ⟨wA.heap.size, 0, 0⟩ := by
          have := hp.le _ _ (Pls.up_same ρ s.hp.next ⟨wA.heap.size, 0, 0⟩)
          rw [hpl] at this; exact Option.some.inj this
        subst hpe
        have hset := hp.hr.setLoop (r' := { b with st := .exhausted }) (L' := { L with state := .exhausted }) hbl hpl rfl hh3 { hlr with st := rfl }
        have hbusy : (L.state == .busy) = false := by
          have h8 := hlr.st
          cases hst : b.st with
          | busy => rw [hst] at h7; cases h7
          | ready => rw [hst] at h8; rw [show L.state = .ready from h8]; rfl
          | done => rw [hst] at h8; rw [show L.state = .done from h8]; rfl
          | exhausted => rw [hst] at h8; rw [show L.state = .exhausted from h8]; rfl
        have h7' : (match b.pending with
            | none => some (Ex.normal, (⟨s.tm, q.2.put s.hp.next (.loop { b with st := .exhausted })⟩ : St))
            | some c => ob (jumpEx c) fun e => some (e, ⟨s.tm, q.2.put s.hp.next (.loop { b with st := .exhausted })⟩)) = some r := by
          cases hst : b.st with
          | busy => rw [hst] at h7; cases h7
          | ready => rw [hst] at h7; exact h7
          | done => rw [hst] at h7; exact h7
          | exhausted => rw [hst] at h7; exact h7
        have hall := ((hpA.trans hmk).trans hp).trans hset
        have hdef : DefOk n0 ρ' (q.2.put s.hp.next (.loop { b with st := .exhausted })) (putOff s.tm (ntOf P f)) (mark ++ act.defers) _ := (hdA.post (hmk.trans hp)).post hset
        clear hset
        generalize hX : q.2.put s.hp.next (.loop { b with st := .exhausted }) = X at h7' hall hdef
        let w4 : World := { w3 with heap := w3.heap.setIfInBounds wA.heap.size (.loop { L with state := .exhausted }) }
        refine ⟨L.pending, w4, ?_, ?_⟩
        · simp only [Instr.endLoop, Sem.run_bind, run_getLoop hh3, Result.andThen_ok, hbusy, Bool.false_eq_true, if_false, Sem.run_pure, run_setLoop hh3]
          rfl
        · rw [hlr.pending]
          cases hpd : b.pending with
          | none =>
            rw [hpd] at h7'
            cases h7'
            exact hg ρ' _ _ hall (ht.mono hall.le) hdef
          | some c =>
            rw [hpd] at h7'
            obtain ⟨e, h8, h9⟩ := ob_some.1 h7'
            cases h9
            exact jump_wp h8 (hg ρ' _ _ hall (ht.mono hall.le) hdef)
      | panicked chain => exact hR.elim
      | outgrown => exact hR.elim
  | _ => cases h5
end
end Go.Am

/-
  AM, 33: all code; calls.
-/
import Derived.Test.YtboobbebilegnaaGreatAm32
namespace Go.Am
section
variable {P : Program} {keep : Keeps} {call : CallFn} {lf : Nat} {f : FuncId} {ro : Option Nat}

theorem stepR_scope {P : Program} {b : Frame} {a : Act} {k : List Item} {cs : List Frame} {w : World} {c : Code} : step P (lone (b.atR a (.code (.scope c) :: k)) cs w) = .next (lone (b.atR a (.code c :: .inScope c :: k)) cs w) :=
  step_lone_go (by simp [stepG, stepG.exec, Frame.atR])
theorem stepR_inScope {P : Program} {b : Frame} {a : Act} {k : List Item} {cs : List Frame} {w : World} {c : Code} : step P (lone (b.atR a (.inScope c :: k)) cs w) = .next (lone (b.atR a k) cs w) :=
  step_lone_go (by simp [stepG, stepG.exec, Frame.atR])
/-- a scope that is not jumped in -/
theorem wpIn_scope {F : Fence} {n : Nat} {P : Program} {a : Act} {w : World} {Q : Exit → Act → World → Prop} {c : Code} (h : c.wpIn F n P (fun e a w => (∀ l, e ≠ .goto l) ∧ Q e a w) a w) : (Code.scope c).wpIn F n P Q a w := by
  intro b k cs hro hb hr
  have h0 : (lone (b.atR a (.code (.scope c) :: k)) cs w).fenced P F := fenced_calm hb hr rfl
  obtain ⟨e, a₁, w₁, ⟨hng, hq⟩, harr⟩ := h b (.inScope c :: k) cs hro hb hr
  cases e with
  | normal => exact ⟨.normal, a₁, w₁, hq, .head h0 stepR_scope (StepsIn.trans harr (.one (fenced_calm hb hr rfl) stepR_inScope))⟩
  | exit id =>
    have hx : exitTo id (.inScope c :: k) = exitTo id k := by simp [exitTo]
    exact ⟨.exit id, a₁, w₁, hq, fun k' hk => .head h0 stepR_scope (harr.1 k' (by rw [hx]; exact hk)),
      fun hr' hk => let ⟨k₁, h1, h2⟩ := harr.2 hr' (by rw [hx]; exact hk); ⟨k₁, h1, .head h0 stepR_scope h2⟩⟩
  | goto l => exact absurd rfl (hng l)
  | ret => exact ⟨_, a₁, w₁, hq, .of_steps (.one h0 stepR_scope) harr⟩
  | panic ch => exact ⟨_, a₁, w₁, hq, .of_steps (.one h0 stepR_scope) harr⟩
  | outgrown => exact ⟨_, a₁, w₁, hq, .of_steps (.one h0 stepR_scope) harr⟩

theorem outsOf_kept {kp : Nat → Bool} {t n : Nat} : ∀ {ds : List (Option Nat)} {k : Nat} {seen : List Nat}, (t, n) ∈ outsOf kp k ds seen → kp t = true
  | [], k, seen, h => by cases h
  | none :: ds, k, seen, h => by simp only [outsOf] at h; exact outsOf_kept h
  | some d :: ds, k, seen, h => by
    simp only [outsOf] at h
    split at h
    · rename_i hc
      simp only [Bool.and_eq_true] at hc
      rcases List.mem_cons.1 h with e | h
      · cases e; exact hc.1
      · exact outsOf_kept h
    · exact outsOf_kept h
theorem putOutsD_same {D : Nat} : ∀ {l : List (Nat × Nat)} {vs tm tm' : Tr AV}, (∀ x ∈ l, x.1 ≠ D) → putOutsD l vs tm = some tm' → tm'.gt D = tm.gt D
  | [], vs, tm, tm', _, h => by cases h; rfl
  | x :: l, vs, tm, tm', hl, h => by
    obtain ⟨v, h1, h2⟩ := ob_some.1 (show ob (vs.gt x.2) (fun v => putOutsD l vs (tm.up (some v) x.1)) = some tm' from h)
    rw [putOutsD_same (fun y hy => hl y (List.mem_cons_of_mem _ hy)) h2, Tr.gt_up, if_neg (fun e => hl x (List.mem_cons_self ..) e.symm)]
theorem compD_same {P : Program} {kp : Nat → Bool} {nt D : Nat} {ops : Array Oper} {ss : List Stage} {outs : List (Nat × Nat)} {vs tm tm' : Tr AV} (hD : kp D = false) (hc : compD P kp nt ops = some (ss, outs)) (h : putOutsD outs vs tm = some tm') : tm'.gt D = tm.gt D := by
  refine putOutsD_same (fun x hx e => ?_) h
  unfold compD at hc
  simp only at hc
  split at hc
  · simp only [Option.some.injEq, Prod.mk.injEq] at hc
    obtain ⟨_, rfl⟩ := hc
    obtain ⟨y, hy, rfl⟩ := List.mem_map.1 hx
    have := outsOf_kept hy
    simp only at e
    rw [e, hD] at this; cases this
  · cases hc
theorem putOff_same {tm tm' : Tr AV} {nt : Nat} (h : tm'.gt nt = tm.gt nt) : putOff tm' nt = putOff tm nt := by unfold putOff; rw [h]
theorem putOff_up (tm : Tr AV) (nt : Nat) (l : List AV) : putOff (tm.up (some (.tuple l)) nt) nt = l := by unfold putOff; rw [Tr.gt_up, if_pos rfl]

/-- ALL CODE. -/
theorem exec_sound (hkD : keep f (ntOf P f) = false) (hm : P.follows .mixedOrders = true) (hn : NamesOk P) (hc : CallOk P keep call) : ∀ (c : Code), Does2 P keep f ro c (execA call lf (ntOf P f) f ro (compC P (keep f) (ntOf P f) c)) := by
  intro c
  induction c with
  | skip =>
    intro s r hr n0 ρ a w rom Q hro hh ht hd hn0 hpl hg
    cases hr
    exact wpIn_skip (hg ρ a w (Post.refl hh) ht hd)
  | region id ops draw =>
    intro s r hr n0 ρ a w rom Q hro hh ht hd hn0 hpl hg
    cases draw with
    | true =>
      simp only [compC] at hr
      cases hcd : compD P (keep f) (ntOf P f) ops with
      | none => rw [hcd] at hr; cases hr
      | some so =>
        obtain ⟨ss, outs⟩ := so
        rw [hcd] at hr
        obtain ⟨q, h1, h2⟩ := ob_some.1 (show ob (runStages s.hp.next s.tm call ss .leaf ⟨s.hp.bs, s.hp.next + ops.size⟩) (fun q => ob (putOutsD outs q.1 s.tm) fun tm => some (Ex.normal, (⟨tm, q.2⟩ : St))) = some r from hr)
        obtain ⟨tm', h3, h4⟩ := ob_some.1 h2
        cases h4
        exact draw_sound hm hn hc hh ht hcd h1 h3 (fun ρ' a' w' ht' hd' hp => hg ρ' a' w' hp ht' (by rw [hd', putOff_same (compD_same hkD hcd h3)]; exact hd.post hp))
    | false =>
      have hr : execA call lf (ntOf P f) f ro (compR P (keep f) (ntOf P f) ops) s = some r := hr
      cases hcr : compR P (keep f) (ntOf P f) ops with
      | reg is outs =>
        rw [hcr] at hr
        obtain ⟨q, h1, h2⟩ := ob_some.1 (show ob (runIs is s.tm call [] s.hp) (fun q => ob (putOuts outs q.1 s.tm s.tm) fun tm => some (Ex.normal, (⟨tm, q.2⟩ : St))) = some r from hr)
        obtain ⟨tm', h3, h4⟩ := ob_some.1 h2
        cases h4
        have hsame : putOff tm' (ntOf P f) = putOff s.tm (ntOf P f) := by
          obtain ⟨_, _, rfl⟩ := compR_reg hcr
          exact putOff_same (outs_same hkD h3)
        exact reg_sound hn hc hh ht hcr h1 h3 (fun ρ' a' w' ht' hd' hp => hg ρ' a' w' hp ht' (by rw [hd', hsame]; exact hd.post hp))
      | dfr is outs nt' xs =>
        rw [hcr] at hr
        have hnpl : n0.pd = none := by
          cases hx : n0.pd with
          | none => rfl
          | some d =>
            have h0 := hpl (by rw [hx]; rfl)
            unfold compR at hcr
            simp only [plainC] at h0
            cases hdl : deferLast ops.toList with
            | none => rw [hdl] at hcr; cases hcr
            | some x => rw [hdl] at h0; cases h0
        cases ro with
        | some l => cases hr
        | none =>
          cases hro
          obtain ⟨q, h1, h2⟩ := ob_some.1 (show ob (runIs is s.tm call [] s.hp) (fun q => ob (putOuts outs q.1 s.tm s.tm) fun tm => ob (gets xs q.1 .leaf s.tm) fun vs => iff' (isFn vs) (some (Ex.normal, (⟨tm.up (some (.tuple (.tuple vs :: putOff tm nt'))) nt', q.2⟩ : St)))) = some r from hr)
          obtain ⟨tm', h3, h4⟩ := ob_some.1 h2
          obtain ⟨vs, h5, h6⟩ := ob_some.1 h4
          obtain ⟨hfn, h6⟩ := iff'_some.1 h6
          cases h6
          have hsame : ∀ {nt2}, nt2 = ntOf P f → putOff tm' nt2 = putOff s.tm (ntOf P f) := by
            rintro _ rfl
            unfold compR at hcr
            split at hcr
            · dsimp only at hcr
              split at hcr
              · simp only [AC.dfr.injEq] at hcr
                obtain ⟨_, rfl, _⟩ := hcr
                exact putOff_same (outs_same hkD h3)
              · cases hcr
            · cases hcr
          have main := dfr_sound (id := id) (Q := Q) hn hc hh ht hcr h1 h3 h5 (fun ρ' a' w' i first cap args fa ca as ht' hvs vc vf va hd' hp => hg ρ' a' w' hp ?_ ?_) ?_
          · exact main.2
          · refine ⟨ht'.1, fun t v hk hv => ?_⟩
            have hnt : nt' = ntOf P f := by
              unfold compR at hcr
              split at hcr
              · dsimp only at hcr
                split at hcr
                · simp only [AC.dfr.injEq] at hcr; exact hcr.2.2.1.symm
                · cases hcr
              · cases hcr
            subst hnt
            have hv : (tm'.up (some (.tuple (.tuple vs :: putOff tm' (ntOf P f)))) (ntOf P f)).gt t = some v := hv
            rw [Tr.gt_up, if_neg (fun e => by rw [e] at hk; rw [hk] at hkD; cases hkD)] at hv
            exact ht'.2 t v hk hv
          · have hnt : nt' = ntOf P f := by
              unfold compR at hcr
              split at hcr
              · dsimp only at hcr
                split at hcr
                · simp only [AC.dfr.injEq] at hcr; exact hcr.2.2.1.symm
                · cases hcr
              · cases hcr
            subst hnt
            rw [putOff_up, hd', hsame rfl]
            have hd2 := hd.post hp
            refine ⟨⟨fun d hm r h1 => ?_, ?_⟩, .inr ⟨_, _, rfl, ⟨i, fa, ca, as, cap, by rw [hvs], rfl, vc, ?_⟩, hd2.2.1⟩, fun ds0 e => by rw [hnpl] at e; cases e⟩
            · rcases List.mem_cons.1 hm with rfl | hm
              · cases h1
              · exact hd2.1.1 d hm r h1
            · rw [List.pairwise_cons]
              exact ⟨(fun e hm r s h1 => by cases h1), hd2.1.2⟩
            · simp only [Array.toList_append]
              exact vf.append va
          · intro v as e
            subst e
            unfold isFn at hfn
            split at hfn
            · rename_i i fa ca as' heq
              simp only [List.cons.injEq] at heq
              exact ⟨i, fa, ca, heq.1⟩
            · cases hfn
      | _ =>
        exfalso
        rw [hcr] at hr
        unfold compR at hcr
        split at hcr
        · dsimp only at hcr
          split at hcr
          · cases hcr
          · cases hcr <;> cases hr
        · cases hcr
  | seq a b iha ihb => exact seq_sound iha ihb
  | cond c a b iha ihb =>
    cases hx : Am.resolve (fun t => if keep f t then some (.tmp t) else none) c with
    | none => intro s r hr; simp only [compC, hx] at hr; cases hr
    | some x =>
      have : execA call lf (ntOf P f) f ro (compC P (keep f) (ntOf P f) (.cond c a b)) = fun s => ob (x.get [] .leaf s.tm) fun v => eBool (fun t => Bool.rec (motive := fun _ => XR) (execA call lf (ntOf P f) f ro (compC P (keep f) (ntOf P f) b) s) (execA call lf (ntOf P f) f ro (compC P (keep f) (ntOf P f) a) s) t) v := by
        simp only [compC, hx]; rfl
      rw [this]
      exact cond_sound hx iha ihb
  | block id a ih => exact block_sound ih
  | loop a ih => exact loop_sound ih
  | rangeFunc g ps assign body _ _ =>
    cases hx : Am.resolve (fun t => if keep f t then some (.tmp t) else none) g with
    | none => intro s r hr; simp only [compC, hx] at hr; cases hr
    | some x =>
      have : execA call lf (ntOf P f) f ro (compC P (keep f) (ntOf P f) (.rangeFunc g ps assign body)) = fun s => ob (x.get [] .leaf s.tm) fun fv => runRange call (ntOf P f) f ro ps.toList assign body s fv := by
        simp only [compC, hx]; rfl
      rw [this]
      exact range_sound hkD hn hc hx
  | exit id =>
    intro s r hr n0 ρ a w rom Q hro hh ht hd hn0 hpl hg
    cases hr
    exact wpIn_exit (hg ρ a w (Post.refl hh) ht hd)
  | ret =>
    intro s r hr n0 ρ a w rom Q hro hh ht hd hn0 hpl hg
    cases hr
    exact wpIn_ret (hg ρ a w (Post.refl hh) ht hd)
  | scope a ih =>
    intro s r hr n0 ρ act w rom Q hro hh ht hd hn0 hpl hg
    have hr : ob (execA call lf (ntOf P f) f ro (compC P (keep f) (ntOf P f) a) s) (fun r => Ex.rec (motive := fun _ => XR) (some r) (some r) (fun _ => some r) (fun _ => none) r.1) = some r := hr
    obtain ⟨q, h1, h2⟩ := ob_some.1 hr
    obtain ⟨e, s'⟩ := q
    refine wpIn_scope (ih s _ h1 n0 ρ act w rom _ hro hh ht hd hn0 (fun e => hpl e) fun ρ' a' w' hp ht' hd' => ?_)
    cases e with
    | goto l => cases h2
    | normal => cases h2; exact ⟨(fun l e => by cases e), hg ρ' a' w' hp ht' hd'⟩
    | ret => cases h2; exact ⟨(fun l e => by cases e), hg ρ' a' w' hp ht' hd'⟩
    | exit id => cases h2; exact ⟨(fun l e => by cases e), hg ρ' a' w' hp ht' hd'⟩
  | label l =>
    intro s r hr n0 ρ act w rom Q hro hh ht hd hn0 hpl hg
    cases hr
    exact wpIn_label (hg ρ act w (Post.refl hh) ht hd)
  | goto l => intro s r hr; cases hr
  | refuse why => intro s r hr; cases hr

end
end Go.Am

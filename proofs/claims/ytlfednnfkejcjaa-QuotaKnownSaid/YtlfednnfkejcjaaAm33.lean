/-
  AM, 33: all code; calls.
-/
import Derived.Test.YtlfednnfkejcjaaAm32
namespace Go.Am
section
variable {P : Program} {keep : Keeps} {call : CallFn} {lf : Nat} {f : FuncId} {ro : Option Nat}

/-- ALL CODE. -/
theorem exec_sound (hm : P.follows .mixedOrders = true) (hn : NamesOk P) (hc : CallOk P keep call) : ∀ (c : Code), Does2 P keep f ro c (execA call lf f ro (compC P (keep f) (ntOf P f) c)) := by
  intro c
  induction c with
  | skip =>
    intro s r hr n0 ρ a w rom Q hro hh ht hd hn0 hg
    cases hr
    exact wpIn_skip (hg ρ a w (Post.refl hh) ht hd)
  | region id ops draw =>
    intro s r hr n0 ρ a w rom Q hro hh ht hd hn0 hg
    cases draw with
    | true =>
      simp only [compC] at hr
      cases hcd : compD P (keep f) (ntOf P f) ops with
      | none => rw [hcd] at hr; cases hr
      | some so =>
        obtain ⟨ss, outs⟩ := so
        rw [hcd] at hr
        obtain ⟨q, h1, h2⟩ := ob_some.1 (show ob (runStages s.hp.next s.tm call ss .leaf ⟨s.hp.bs, s.hp.next + ops.size⟩) (fun q => ob (putOutsD outs q.1 s.tm) fun tm => some (Ex.normal, (⟨tm, q.2⟩ : St))) = some r from hr)
        obtain ⟨tm', h3, h4⟩ := ob_some.1 h2
        cases h4
        exact draw_sound hm hn hc hh ht hcd h1 h3 (fun ρ' a' w' ht' hd' hp => hg ρ' a' w' hp ht' (by rw [hd']; exact hd.post hp))
    | false =>
      have hr : execA call lf f ro (compR P (keep f) (ntOf P f) ops) s = some r := hr
      obtain ⟨is, outs, hcr⟩ : ∃ is outs, compR P (keep f) (ntOf P f) ops = .reg is outs := ⟨_, _, rfl⟩
      rw [hcr] at hr
      obtain ⟨q, h1, h2⟩ := ob_some.1 (show ob (runIs is s.tm call [] s.hp) (fun q => ob (putOuts outs q.1 s.tm s.tm) fun tm => some (Ex.normal, (⟨tm, q.2⟩ : St))) = some r from hr)
      obtain ⟨tm', h3, h4⟩ := ob_some.1 h2
      cases h4
      exact reg_sound hn hc hh ht hcr h1 h3 (fun ρ' a' w' ht' hd' hp => hg ρ' a' w' hp ht' (by rw [hd']; exact hd.post hp))
  | seq a b iha ihb => exact seq_sound iha ihb
  | cond c a b iha ihb =>
    cases hx : Am.resolve (fun t => if keep f t then some (.tmp t) else none) c with
    | none => intro s r hr; simp only [compC, hx] at hr; cases hr
    | some x =>
      have : execA call lf f ro (compC P (keep f) (ntOf P f) (.cond c a b)) = fun s => ob (x.get [] .leaf s.tm) fun v => eBool (fun t => Bool.rec (motive := fun _ => XR) (execA call lf f ro (compC P (keep f) (ntOf P f) b) s) (execA call lf f ro (compC P (keep f) (ntOf P f) a) s) t) v := by
        simp only [compC, hx]; rfl
      rw [this]
      exact cond_sound hx iha ihb
  | block id a ih => exact block_sound ih
  | loop a ih => exact loop_sound ih
  | rangeFunc g ps assign body _ _ =>
    cases hx : Am.resolve (fun t => if keep f t then some (.tmp t) else none) g with
    | none => intro s r hr; simp only [compC, hx] at hr; cases hr
    | some x =>
      have : execA call lf f ro (compC P (keep f) (ntOf P f) (.rangeFunc g ps assign body)) = fun s => ob (x.get [] .leaf s.tm) fun fv => runRange call f ro ps.toList assign body s fv := by
        simp only [compC, hx]; rfl
      rw [this]
      exact range_sound hn hc hx
  | exit id =>
    intro s r hr n0 ρ a w rom Q hro hh ht hd hn0 hg
    cases hr
    exact wpIn_exit (hg ρ a w (Post.refl hh) ht hd)
  | ret =>
    intro s r hr n0 ρ a w rom Q hro hh ht hd hn0 hg
    cases hr
    exact wpIn_ret (hg ρ a w (Post.refl hh) ht hd)
  | scope a _ => intro s r hr; cases hr
  | label l => intro s r hr; cases hr
  | goto l => intro s r hr; cases hr
  | refuse why => intro s r hr; cases hr

end
end Go.Am

/-
  AM, 34: the end of a function; calls.
-/
import Derived.Test.YtboobbebilegnaaGreatAm33
namespace Go.Am
section
variable {P : Program} {keep : Keeps} {call : CallFn} {lf : Nat} {f : FuncId} {ro : Option Nat}

/-! ### the end of a function -/
def resOf (tmps : Array Value) : ResultVar → Sem Value
  | .tmp t => pure (tmps.getD t undef)
  | .cell a t => do loadVar t (← asAddr (tmps.getD a undef))
theorem results_eq (fn : Func) (tmps : Array Value) : results fn tmps = (do
    let vs ← fn.results.mapM (resOf tmps)
    pure (if h : vs.size = 1 then vs[0] else .tuple vs)) := by
  unfold results
  congr 1

theorem res1_sound {ρ : Pls} {w : World} {a : Act} {rv : ResultVar} {s : St} {v : AV} (hh : HR P keep ρ s.hp w) (ht : TR (keep f) (ntOf P f) ρ s.tm a.tmps) (hk : okRes (keep f) [rv] = true) (hr : res1 P rv s = some v) :
    ∃ cv, (resOf a.tmps rv).run P w = .ok cv w ∧ VR ρ v cv := by
  cases rv with
  | tmp t =>
    simp only [okRes, Bool.and_true] at hk
    obtain ⟨cv, h1, h2⟩ := ht.2 t v hk hr
    have e : a.tmps.getD t undef = cv := by rw [Array.getD_eq_getD_getElem?, h1]; rfl
    exact ⟨cv, by simp only [resOf, e, Sem.run_pure], h2⟩
  | cell x t =>
    simp only [okRes, Bool.and_true] at hk
    obtain ⟨u, h1, h2⟩ := ob_some.1 (show ob (s.tm.gt x) (resC P t s.hp) = some v from hr)
    obtain ⟨cu, h3, h4⟩ := ht.2 x u hk h1
    have e : a.tmps.getD x undef = cu := by rw [Array.getD_eq_getD_getElem?, h3]; rfl
    unfold resC at h2
    cases hs : tSize P t with
    | none => rw [hs] at h2; cases h2
    | some n =>
      cases hg : tAgg P t with
      | none => rw [hs, hg] at h2; cases h2
      | some g =>
        rw [hs, hg] at h2
        have key : ∃ ad cv, cu = .pointer (some ad) ∧ (loadVar t ad).run P w = .ok cv w ∧ VR ρ v cv := by
          cases g with
          | false => exact load1_var hg hh h2 h4
          | true => exact loadN_var hs hg hh h2 h4
        obtain ⟨ad, cv, e2, h5, h6⟩ := key
        refine ⟨cv, ?_, h6⟩
        simp only [resOf, e, e2]
        simp only [asAddr, Sem.run_bind, Sem.run_pure, Result.andThen_ok, h5]

theorem resA_cons (rv : ResultVar) (rs : List ResultVar) (s : St) : resA P (rv :: rs) s = ob (res1 P rv s) fun v => ob (resA P rs s) fun vs => some (v :: vs) := rfl
theorem resA_sound {ρ : Pls} {w : World} {a : Act} {s : St} (hh : HR P keep ρ s.hp w) (ht : TR (keep f) (ntOf P f) ρ s.tm a.tmps) : ∀ {rs : List ResultVar} {vs : List AV}, okRes (keep f) rs = true → resA P rs s = some vs →
    ∃ cvs, (rs.mapM (resOf a.tmps)).run P w = .ok cvs w ∧ VRs ρ vs cvs
  | [], vs, _, hr => by cases hr; exact ⟨[], rfl, rfl⟩
  | rv :: rs, vs, hk, hr => by
    rw [resA_cons] at hr
    obtain ⟨v, h1, h2⟩ := ob_some.1 hr
    obtain ⟨us, h3, h4⟩ := ob_some.1 h2
    cases h4
    have hk1 : okRes (keep f) [rv] = true ∧ okRes (keep f) rs = true := by
      cases rv <;> simp only [okRes, Bool.and_eq_true, Bool.and_true] at hk ⊢ <;> exact hk
    obtain ⟨cv, g1, g2⟩ := res1_sound hh ht hk1.1 h1
    obtain ⟨cvs, g3, g4⟩ := resA_sound hh ht hk1.2 h3
    refine ⟨cv :: cvs, ?_, cv, cvs, rfl, g2, g4⟩
    rw [List.mapM_cons, Sem.run_bind, g1]
    simp only [Result.andThen_ok, Sem.run_bind, g3, Sem.run_pure]

theorem tupled_eq (vs : List AV) : tupled vs = match vs with | [v] => v | vs => .tuple vs := by
  match vs with
  | [] => rfl
  | [v] => rfl
  | v :: u :: t => rfl

theorem results_sound {ρ : Pls} {w : World} {a : Act} {s : St} {fn : Func} {vs : List AV} (hh : HR P keep ρ s.hp w) (ht : TR (keep f) (ntOf P f) ρ s.tm a.tmps) (hk : okRes (keep f) fn.results.toList = true) (hr : resA P fn.results.toList s = some vs) :
    ∃ v, (results fn a.tmps).run P w = .ok v w ∧ VR ρ (tupled vs) v := by
  obtain ⟨cvs, h1, h2⟩ := resA_sound hh ht hk hr
  rw [results_eq, Array.mapM_eq_mapM_toList]
  have h3 : (List.toArray <$> List.mapM (resOf a.tmps) fn.results.toList).run P w = .ok cvs.toArray w := by
    rw [map_eq_pure_bind, Sem.run_bind, h1]; rfl
  rw [Sem.run_bind, h3, tupled_eq]
  simp only [Result.andThen_ok, Sem.run_pure]
  match vs, h2 with
  | [], h2 => cases h2; exact ⟨_, rfl, #[], rfl, rfl⟩
  | [v], h2 => obtain ⟨cv, _, rfl, g, rfl⟩ := h2; exact ⟨cv, rfl, g⟩
  | v :: u :: t, h2 =>
    have h2' := h2
    obtain ⟨cv, _, rfl, g, cu, ct, rfl, g2, g3⟩ := h2
    exact ⟨_, rfl, _, rfl, h2'⟩
end
end Go.Am

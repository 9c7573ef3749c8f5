/-
  AM, 22: what a run stage by stage tells.
-/
import Derived.Test.YtboobbebilegnaaGreatAm21
namespace Go.Am
section
variable {base : Nat} {tm : Tr AV} {call : CallFn}

theorem runEvs_cons (x : Nat × GIns) (l : List (Nat × GIns)) (h : Heap) (vs : Tr AV) : runEvs base tm h (x :: l) vs = ob (x.2.quiet vs tm (base + x.1) h) fun v => runEvs base tm h l (vs.up (some v) x.1) := rfl
theorem runEvs_spec {h : Heap} : ∀ {l : List (Nat × GIns)} {vs vs' : Tr AV}, runEvs base tm h l vs = some vs' → l.Pairwise (fun x y => x.1 ≠ y.1) → (∀ x ∈ l, vs.gt x.1 = none) →
    Sub vs vs' ∧ (∀ i, (∀ x ∈ l, x.1 ≠ i) → vs'.gt i = vs.gt i) ∧ ∀ x ∈ l, ∃ v, vs'.gt x.1 = some v ∧ x.2.quiet vs' tm (base + x.1) h = some v := by
  intro l
  induction l with
  | nil => intro vs vs' hr _ _; cases hr; exact ⟨Sub.refl _, fun _ _ => rfl, fun x hx => (by cases hx)⟩
  | cons x l ih =>
    intro vs vs' hr hp hf
    rw [runEvs_cons] at hr
    obtain ⟨v, h1, h2⟩ := ob_some.1 hr
    rw [List.pairwise_cons] at hp
    have hs : Sub vs (vs.up (some v) x.1) := by
      intro j u hj
      rw [Tr.gt_up]
      by_cases e : j = x.1
      · subst e; rw [hf x (List.mem_cons_self ..)] at hj; cases hj
      · rw [if_neg e]; exact hj
    obtain ⟨g1, g2, g3⟩ := ih h2 hp.2 (fun y hy => by
      rw [Tr.gt_up, if_neg (fun e => hp.1 y hy e.symm)]; exact hf y (List.mem_cons_of_mem _ hy))
    have hx : vs'.gt x.1 = some v := by
      rw [g2 x.1 (fun y hy e => hp.1 y hy e.symm), Tr.gt_up, if_pos rfl]
    refine ⟨hs.trans g1, fun i hi => ?_, fun y hy => ?_⟩
    · rw [g2 i (fun y hy => hi y (List.mem_cons_of_mem _ hy)), Tr.gt_up, if_neg (fun e => hi x (List.mem_cons_self ..) e.symm)]
    · rcases List.mem_cons.1 hy with rfl | hy
      · exact ⟨v, hx, gquiet_mono (hs.trans g1) h1⟩
      · exact g3 y hy

theorem runCks_spec {h : Heap} {vs : Tr AV} : ∀ {l : List (Nat × GIns)}, runCks base tm vs h l = true → ∀ x ∈ l, ∃ v, vs.gt x.1 = some v ∧ x.2.quiet vs tm (base + x.1) h = some v := by
  intro l
  induction l with
  | nil => intro _ x hx; cases hx
  | cons y l ih =>
    intro hc x hx
    have hc : (Option.rec (motive := fun _ => Bool) false (fun v => Option.rec (motive := fun _ => Bool) false (fun u => and' (AV.same v u) (runCks base tm vs h l)) (vs.gt y.1)) (y.2.quiet vs tm (base + y.1) h) : Bool) = true := hc
    cases hq : y.2.quiet vs tm (base + y.1) h with
    | none => rw [hq] at hc; cases hc
    | some v =>
      rw [hq] at hc
      cases hv : vs.gt y.1 with
      | none => rw [hv] at hc; cases hc
      | some u =>
        rw [hv] at hc
        have hc : and' (AV.same v u) (runCks base tm vs h l) = true := hc
        rw [and'_eq, Bool.and_eq_true] at hc
        obtain rfl := same_eq _ _ hc.1
        rcases List.mem_cons.1 hx with rfl | hx
        · exact ⟨v, hv, hq⟩
        · exact ih hc.2 x hx

theorem runMats_cons (x : Nat × GIns) (l : List (Nat × GIns)) (h : Heap) (vs : Tr AV) : runMats base tm vs (x :: l) h = ob (x.2.blk vs tm) fun b => Option.rec (motive := fun _ => Option Heap) (runMats base tm vs l h) (fun b => runMats base tm vs l ⟨h.bs.up (some b) (base + x.1), h.next⟩) b := rfl
theorem runMats_mono {vs vs' : Tr AV} (hs : Sub vs vs') : ∀ {l : List (Nat × GIns)} {h hm : Heap}, runMats base tm vs l h = some hm → runMats base tm vs' l h = some hm := by
  intro l
  induction l with
  | nil => intro h hm hr; exact hr
  | cons x l ih =>
    intro h hm hr
    rw [runMats_cons] at hr ⊢
    obtain ⟨b, h1, h2⟩ := ob_some.1 hr
    refine ob_some.2 ⟨b, blk_mono hs h1, ?_⟩
    cases b with
    | none => exact ih h2
    | some b => exact ih h2

section
variable (gs : List (Nat × GIns)) (b : Array Nat) (es : List Nat) (base : Nat) (tm vsF : Tr AV) (call : CallFn) (hF : Heap)

/-- what is known at a stage -/
def StOk (r : Nat) (h hm : Heap) : Prop :=
  (∀ x ∈ gs, x.2.i.eff = false → loOf b es x.1 ≤ r → r ≤ hiOf b es x.1 → (x.2.i.reads = true ∨ loOf b es x.1 = r) → ∃ v, vsF.gt x.1 = some v ∧ x.2.quiet vsF tm (base + x.1) h = some v) ∧
  runMats base tm vsF (gs.filter fun x => x.2.i.allocs && decide (hiOf b es x.1 = r)) h = some hm
def Run : Nat → List (Nat × GIns) → Heap → Prop
  | r, [], h => StOk gs b es base tm vsF r h hF
  | r, x :: xs, h => ∃ hm v h', StOk gs b es base tm vsF r h hm ∧ vsF.gt x.1 = some v ∧ x.2.ev [] vsF tm call hm.next hm = some (v, h') ∧ Run (r + 1) xs h'
end

theorem reads_quiet {i : Ins} (h : i.reads = true) : i.eff = false := by cases i <;> first | rfl | (cases h; done)
theorem pairwise_ne_filter {gs : List (Nat × GIns)} (hp : gs.Pairwise (fun x y => x.1 ≠ y.1)) (p : Nat × GIns → Bool) : (gs.filter p).Pairwise (fun x y => x.1 ≠ y.1) := hp.filter p

theorem unique_of_pairwise : ∀ {gs : List (Nat × GIns)}, gs.Pairwise (fun x y => x.1 ≠ y.1) → ∀ {x y}, x ∈ gs → y ∈ gs → x.1 = y.1 → x = y := by
  intro gs
  induction gs with
  | nil => intro _ x y hx; cases hx
  | cons z gs ih =>
    intro hp x y hx hy e
    rw [List.pairwise_cons] at hp
    rcases List.mem_cons.1 hx with hx1 | hx1
    · rcases List.mem_cons.1 hy with hy1 | hy1
      · rw [hx1, hy1]
      · exact absurd (hx1 ▸ e) (hp.1 y hy1)
    · rcases List.mem_cons.1 hy with hy1 | hy1
      · exact absurd (hy1 ▸ e.symm) (hp.1 x hx1)
      · exact ih hp.2 hx1 hy1 e

theorem stage_step {gs : List (Nat × GIns)} {b : Array Nat} {es : List Nat} {r : Nat} {vs vs1 : Tr AV} {h : Heap} (hp : gs.Pairwise (fun x y => x.1 ≠ y.1))
    (hck : runCks base tm vs h (gs.filter fun x => x.2.i.reads && decide (loOf b es x.1 < r ∧ r ≤ hiOf b es x.1)) = true)
    (hev : runEvs base tm h (gs.filter fun x => !x.2.i.eff && decide (loOf b es x.1 = r)) vs = some vs1)
    (hf : ∀ x ∈ gs, x.2.i.eff = false → loOf b es x.1 = r → vs.gt x.1 = none) :
    Sub vs vs1 ∧ (∀ i, (∀ x ∈ gs, x.2.i.eff = false → loOf b es x.1 = r → x.1 ≠ i) → vs1.gt i = vs.gt i) ∧
      ∀ vsF, Sub vs1 vsF → ∀ x ∈ gs, x.2.i.eff = false → loOf b es x.1 ≤ r → r ≤ hiOf b es x.1 → (x.2.i.reads = true ∨ loOf b es x.1 = r) → ∃ v, vsF.gt x.1 = some v ∧ x.2.quiet vsF tm (base + x.1) h = some v := by
  have hm : ∀ {x}, x ∈ (gs.filter fun x => !x.2.i.eff && decide (loOf b es x.1 = r)) ↔ x ∈ gs ∧ x.2.i.eff = false ∧ loOf b es x.1 = r := by
    intro x; simp only [List.mem_filter, Bool.and_eq_true, Bool.not_eq_true', decide_eq_true_eq]
  obtain ⟨g1, g2, g3⟩ := runEvs_spec hev (hp.filter _) (fun x hx => let ⟨a1, a2, a3⟩ := hm.1 hx; hf x a1 a2 a3)
  refine ⟨g1, fun i hi => g2 i fun x hx => let ⟨a1, a2, a3⟩ := hm.1 hx; hi x a1 a2 a3, fun vsF hs x hx he hlo hhi hr => ?_⟩
  by_cases hlr : loOf b es x.1 = r
  · obtain ⟨v, h1, h2⟩ := g3 x (hm.2 ⟨hx, he, hlr⟩)
    exact ⟨v, hs _ _ h1, gquiet_mono hs h2⟩
  · have hrd := hr.resolve_right hlr
    obtain ⟨v, h1, h2⟩ := runCks_spec hck x (by simp only [List.mem_filter, Bool.and_eq_true, decide_eq_true_eq]; exact ⟨hx, hrd, by omega, hhi⟩)
    exact ⟨v, hs _ _ (g1 _ _ h1), gquiet_mono (g1.trans hs) h2⟩

theorem runStages_cons (s : Stage) (ss : List Stage) (vs : Tr AV) (h : Heap) : runStages base tm call (s :: ss) vs h =
    iff' (runCks base tm vs h s.cks) (ob (runEvs base tm h s.evs vs) fun vs => ob (runMats base tm vs s.mats h) fun h => runAct tm vs call h (runStages base tm call ss) s.act) := rfl

theorem stages_run {gs : List (Nat × GIns)} {b : Array Nat} {es : List Nat} {vsF : Tr AV} {hF : Heap} (hp : gs.Pairwise (fun x y => x.1 ≠ y.1)) :
    ∀ {acts : List (Nat × GIns)} {r : Nat} {vs : Tr AV} {h : Heap}, runStages base tm call (stagesOf b gs es r acts) vs h = some (vsF, hF) → (∀ x ∈ acts, x ∈ gs ∧ x.2.i.eff = true) → acts.Pairwise (fun x y => x.1 ≠ y.1) →
      (∀ x ∈ gs, (x.2.i.eff = false ∧ r ≤ loOf b es x.1) ∨ x ∈ acts → vs.gt x.1 = none) → Sub vs vsF ∧ Run gs b es base tm vsF call hF r acts h := by
  intro acts
  induction acts with
  | nil =>
    intro r vs h hr ha hap hf
    simp only [stagesOf] at hr
    rw [runStages_cons] at hr
    obtain ⟨hck, hr⟩ := iff'_some.1 hr
    obtain ⟨vs1, hev, hr⟩ := ob_some.1 hr
    obtain ⟨hm, hmt, hr⟩ := ob_some.1 hr
    cases hr
    obtain ⟨g1, _, g3⟩ := stage_step hp hck hev (fun x hx he hlo => hf x hx (.inl ⟨he, by omega⟩))
    exact ⟨g1, g3 _ (Sub.refl _), hmt⟩
  | cons x acts ih =>
    intro r vs h hr ha hap hf
    simp only [stagesOf] at hr
    rw [runStages_cons] at hr
    obtain ⟨hck, hr⟩ := iff'_some.1 hr
    obtain ⟨vs1, hev, hr⟩ := ob_some.1 hr
    obtain ⟨hm, hmt, hr⟩ := ob_some.1 hr
    obtain ⟨q, hq, hr⟩ := ob_some.1 (show ob (x.2.ev [] vs1 tm call hm.next hm) (fun r1 => runStages base tm call (stagesOf b gs es (r + 1) acts) (vs1.up (some r1.1) x.1) r1.2) = some (vsF, hF) from hr)
    obtain ⟨g1, g2, g3⟩ := stage_step hp hck hev (fun x hx he hlo => hf x hx (.inl ⟨he, by omega⟩))
    rw [List.pairwise_cons] at hap
    obtain ⟨hxg, hxe⟩ := ha x (List.mem_cons_self ..)
    have hx1 : vs1.gt x.1 = none := by
      rw [g2 x.1 (fun y hy he _ e => by
        have := unique_of_pairwise hp hy hxg e
        subst this; rw [hxe] at he; cases he)]
      exact hf x hxg (.inr (List.mem_cons_self ..))
    have hs12 : Sub vs1 (vs1.up (some q.1) x.1) := by
      intro j u hj
      rw [Tr.gt_up]
      by_cases e : j = x.1
      · subst e; rw [hx1] at hj; cases hj
      · rw [if_neg e]; exact hj
    obtain ⟨g4, g5⟩ := ih hr (fun y hy => ha y (List.mem_cons_of_mem _ hy)) hap.2 (fun y hy hc => by
      have hne : y.1 ≠ x.1 := by
        intro e
        rcases hc with ⟨he, _⟩ | hc
        · have := unique_of_pairwise hp hy hxg e
          subst this; rw [hxe] at he; cases he
        · exact hap.1 y hc e.symm
      rw [Tr.gt_up, if_neg hne, g2 y.1 (fun z hz he hlo e => by
        have := unique_of_pairwise hp hz hy e
        subst this
        rcases hc with ⟨_, h2⟩ | hc
        · omega
        · rw [(ha z (List.mem_cons_of_mem _ hc)).2] at he; cases he)]
      rcases hc with ⟨he, h2⟩ | hc
      · exact hf y hy (.inl ⟨he, by omega⟩)
      · exact hf y hy (.inr (List.mem_cons_of_mem _ hc)))
    refine ⟨(g1.trans hs12).trans g4, hm, q.1, q.2, ⟨g3 _ (hs12.trans g4), runMats_mono (hs12.trans g4) hmt⟩, g4 _ _ ?_, gev_mono (hs12.trans g4) hq, g5⟩
    rw [Tr.gt_up, if_pos rfl]

/-- the stages from one on -/
theorem Run.get {gs : List (Nat × GIns)} {b : Array Nat} {es : List Nat} {vsF : Tr AV} {hF : Heap} : ∀ {acts : List (Nat × GIns)} {r : Nat} {h : Heap}, Run gs b es base tm vsF call hF r acts h → ∃ hm, StOk gs b es base tm vsF r h hm
  | [], _, _, hr => ⟨_, hr⟩
  | _ :: _, _, _, hr => let ⟨hm, _, _, h1, _⟩ := hr; ⟨hm, h1⟩

/-- what does not read is told of any memory, from its stage -/
theorem Run.all {gs : List (Nat × GIns)} {b : Array Nat} {es : List Nat} {vsF : Tr AV} {hF : Heap} : ∀ {acts : List (Nat × GIns)} {r : Nat} {h : Heap}, Run gs b es base tm vsF call hF r acts h →
    ∀ x ∈ gs, x.2.i.eff = false → x.2.i.reads = false → r ≤ loOf b es x.1 → loOf b es x.1 ≤ r + acts.length → loOf b es x.1 ≤ hiOf b es x.1 → ∃ v, vsF.gt x.1 = some v ∧ ∀ h', x.2.quiet vsF tm (base + x.1) h' = some v := by
  intro acts
  induction acts with
  | nil =>
    intro r h hr x hx he hrd h1 h2 h3
    have e : loOf b es x.1 = r := by simp only [List.length_nil] at h2; omega
    obtain ⟨v, g1, g2⟩ := hr.1 x hx he (by omega) (by omega) (.inr e)
    exact ⟨v, g1, fun h' => gquiet_indep hrd g2⟩
  | cons y acts ih =>
    intro r h hr x hx he hrd h1 h2 h3
    obtain ⟨hm, v, h', hst, _, _, hrun⟩ := hr
    by_cases e : loOf b es x.1 = r
    · obtain ⟨v, g1, g2⟩ := hst.1 x hx he (by omega) (by omega) (.inr e)
      exact ⟨v, g1, fun h' => gquiet_indep hrd g2⟩
    · exact ih hrun x hx he hrd (by omega) (by simp only [List.length_cons] at h2; omega) h3
end
end Go.Am

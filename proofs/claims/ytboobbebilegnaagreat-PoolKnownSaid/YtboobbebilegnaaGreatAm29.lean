/-
  AM, 29: a region that draws its order, as it is compiled.
-/
import Derived.Test.YtboobbebilegnaaGreatAm28
namespace Go.Am
section
variable {P : Program} {keep : Keeps} {w : World} {ρ : Pls} {h : Heap}

/-! ### the last writers -/
theorem outsOf_mem {kp : Nat → Bool} {t k' : Nat} : ∀ {ds : List (Option Nat)} {k : Nat} {seen : List Nat}, (t, k') ∈ outsOf kp k ds seen →
    t ∉ seen ∧ kp t = true ∧ k ≤ k' ∧ ds[k' - k]? = some (some t) ∧ ∀ m, m < k' - k → ds[m]? ≠ some (some t)
  | [], k, seen, h => by cases h
  | d :: ds, k, seen, h => by
    have skip : ∀ {seen' : List Nat}, (t, k') ∈ outsOf kp (k + 1) ds seen' → t ∉ seen → (∀ s, s ∈ seen → s ∈ seen') → d ≠ some t → t ∉ seen ∧ kp t = true ∧ k ≤ k' ∧ (d :: ds)[k' - k]? = some (some t) ∧ ∀ m, m < k' - k → (d :: ds)[m]? ≠ some (some t) := by
      intro seen' h hs hsub hd
      obtain ⟨h1, h2, h3, h4, h5⟩ := outsOf_mem h
      refine ⟨hs, h2, by omega, ?_, fun m hm => ?_⟩
      · rw [show k' - k = (k' - (k + 1)) + 1 by omega]; simpa using h4
      · cases m with
        | zero => simpa using hd
        | succ m => simpa using h5 m (by omega)
    simp only [outsOf] at h
    cases d with
    | none =>
      simp only at h
      exact skip h (outsOf_mem h).1 (fun s hs => hs) (by intro e; cases e)
    | some s =>
      simp only at h
      split at h
      · rename_i hc
        simp only [Bool.and_eq_true, Bool.not_eq_true', List.contains_eq_mem, decide_eq_false_iff_not] at hc
        rcases List.mem_cons.1 h with e | h
        · cases e
          exact ⟨hc.2, hc.1, Nat.le_refl _, by simp, fun m hm => by omega⟩
        · have h1 := (outsOf_mem h).1
          simp only [List.mem_cons, not_or] at h1
          exact skip h h1.2 (fun s hs => List.mem_cons_of_mem _ hs) (by intro e; cases e; exact h1.1 rfl)
      · rename_i hc
        have h1 := outsOf_mem h
        refine skip h h1.1 (fun s hs => hs) (fun e => ?_)
        cases e
        simp only [Bool.and_eq_true, Bool.not_eq_true', List.contains_eq_mem, decide_eq_false_iff_not, not_and, Decidable.not_not] at hc
        exact h1.1 (hc h1.2.1)
theorem outsOf_has {kp : Nat → Bool} {t : Nat} (hk : kp t = true) : ∀ {ds : List (Option Nat)} {k : Nat} {seen : List Nat}, some t ∈ ds → t ∉ seen → ∃ k', (t, k') ∈ outsOf kp k ds seen
  | [], k, seen, h, _ => by cases h
  | d :: ds, k, seen, h, hs => by
    simp only [outsOf]
    cases d with
    | none =>
      rcases List.mem_cons.1 h with e | h
      · cases e
      · exact outsOf_has hk h hs
    | some s =>
      simp only
      by_cases e : s = t
      · subst e
        rw [if_pos (by rw [hk]; simpa using hs)]
        exact ⟨k, List.mem_cons_self ..⟩
      · have h : some t ∈ ds := by
          rcases List.mem_cons.1 h with e2 | h
          · cases e2; exact absurd rfl e
          · exact h
        split
        · obtain ⟨k', h1⟩ := outsOf_has hk (k := k + 1) (seen := s :: seen) h (by simp only [List.mem_cons, not_or]; exact ⟨fun h => e h.symm, hs⟩)
          exact ⟨k', List.mem_cons_of_mem _ h1⟩
        · exact outsOf_has hk h hs

theorem putOutsD_cons (x : Nat × Nat) (l : List (Nat × Nat)) (vs tm : Tr AV) : putOutsD (x :: l) vs tm = ob (vs.gt x.2) fun v => putOutsD l vs (tm.up (some v) x.1) := rfl
theorem putOutsD_get : ∀ {outs : List (Nat × Nat)} {vs tm tm' : Tr AV}, putOutsD outs vs tm = some tm' →
    ∀ t, (∃ j v, (t, j) ∈ outs ∧ vs.gt j = some v ∧ tm'.gt t = some v) ∨ ((∀ j, (t, j) ∉ outs) ∧ tm'.gt t = tm.gt t)
  | [], vs, tm, tm', h, t => by cases h; exact .inr ⟨fun x hx => (by cases hx), rfl⟩
  | o :: os, vs, tm, tm', h, t => by
    rw [putOutsD_cons] at h
    obtain ⟨v, h1, h2⟩ := ob_some.1 h
    rcases putOutsD_get h2 t with ⟨x, u, g1, g2, g3⟩ | ⟨g1, g2⟩
    · exact .inl ⟨x, u, List.mem_cons_of_mem _ g1, g2, g3⟩
    · rw [Tr.gt_up] at g2
      by_cases e : t = o.1
      · rw [if_pos e] at g2
        exact .inl ⟨o.2, v, by rw [e]; exact List.mem_cons_self .., h1, g2⟩
      · rw [if_neg e] at g2
        refine .inr ⟨fun x hx => ?_, g2⟩
        rcases List.mem_cons.1 hx with e2 | hx
        · exact e (by rw [← e2])
        · exact g1 x hx

theorem rev_get {ops : Array Oper} {m : Nat} (hm : m < ops.size) : (ops.toList.reverse.map (·.dst))[m]? = some ((ops[ops.size - 1 - m]?).bind (·.dst)) := by
  rw [List.getElem?_map, List.getElem?_reverse (by simpa using hm)]
  rw [Array.length_toList, Array.getElem?_toList]
  have : ops.size - 1 - m < ops.size := by omega
  rw [Array.getElem?_eq_getElem this]
  rfl

/-- A REGION THAT DRAWS ITS ORDER. -/
theorem draw_sound {call : CallFn} {kp : Nat → Bool} {nt id : Nat} {tm tm' : Tr AV} {ops : Array Oper} {ro : Option Nat} {Q : Exit → Act → World → Prop} {a : Act} {ss : List Stage} {outs : List (Nat × Nat)} {r : Tr AV × Heap}
    (hm : P.follows .mixedOrders = true) (hn : NamesOk P) (hc : CallOk P keep call) (hr : HR P keep ρ h w) (ht : TR kp nt ρ tm a.tmps) (hcomp : compD P kp nt ops = some (ss, outs))
    (hrun : runStages h.next tm call ss .leaf ⟨h.bs, h.next + ops.size⟩ = some r) (hout : putOutsD outs r.1 tm = some tm')
    (hq : ∀ ρ' a' w', TR kp nt ρ' tm' a'.tmps → a'.defers = a.defers → Post P keep ρ h w ρ' r.2 w' → Q .normal a' w') : (Code.region id ops true).wpIn (fen ro) 0 P Q a w := by
  refine wpIn_region_any hm ?_
  unfold compD at hcomp
  simp only at hcomp
  split at hcomp
  · rename_i hchk
    simp only [Option.some.injEq, Prod.mk.injEq] at hcomp
    obtain ⟨rfl, rfl⟩ := hcomp
    simp only [Bool.and_eq_true] at hchk
    obtain ⟨⟨⟨k1, k2⟩, k3⟩, k4⟩ := hchk
    obtain ⟨vsF, hF⟩ := r
    let w0 : World := { w with drawn := w.drawn + 1 }
    let c : DC := ⟨P, keep, kp, nt, ops, call, tm, vsF, hF, ρ, h, w0, a⟩
    have hr0 : HR P keep ρ h w0 := hr.frame fun _ _ _ _ _ _ => rfl
    have hgraph : GraphOk ops := graph_ok k1 k3
    have hp := gs_pairwise c
    have hact : ∀ x ∈ c.gs.filter (fun x => x.2.i.eff), x ∈ c.gs ∧ x.2.i.eff = true := fun x hx => by simpa using List.mem_filter.1 hx
    obtain ⟨_, hR⟩ := stages_run (b := c.b) (es := c.es) hp (show runStages h.next tm call (stagesOf c.b c.gs c.es 0 (c.gs.filter fun x => x.2.i.eff)) .leaf ⟨h.bs, h.next + ops.size⟩ = some (vsF, hF) from hrun) hact (hp.filter _) (fun _ _ _ => rfl)
    have hlen : c.es.length = (c.gs.filter fun x => x.2.i.eff).length := by unfold DC.es; rw [List.length_map]
    have k : DOk c := by
      refine ⟨hgraph, k2, fun i hi => ?_, hn, hc, fun i hi he hrd => ?_, ht⟩
      · rw [List.all_eq_true] at k4
        have := k4 (i, c.f i) (mem_gs (c := c) |>.2 ⟨hi, rfl⟩)
        simpa using this
      · refine hR.all (i, c.f i) (mem_gs.2 ⟨hi, rfl⟩) he hrd (Nat.zero_le _) ?_ ?_
        · rw [Nat.zero_add, ← hlen]
          exact List.length_filter_le _ _
        · refine filter_len_le fun e _ hb => ?_
          cases hb2 : bef c.b e i with
          | false => rfl
          | true =>
            have h1 := bef_lt hgraph _ _ hb
            have h2 := bef_lt hgraph _ _ hb2
            omega
    have hS0 : ∀ j, ¬ ((Array.replicate ops.size false).getD j false = true) := by
      intro j
      rw [Array.getD_eq_getD_getElem?, Array.getElem?_replicate]
      split <;> simp
    have hfree : ∀ i, ρ (h.next + i) = none := fun i => (hr.fresh (by omega)).1
    have d0 : DI c (fun j => (Array.replicate ops.size false).getD j false = true) [] (c.gs.filter fun x => x.2.i.eff) ⟨h.bs, h.next + ops.size⟩ ρ a w0 := by
      refine { run := hR, split := rfl, doneS := fun e he => (by cases he), restS := fun x _ => hS0 _, restG := fun x hx => (mem_gs.1 (hact x hx).1).2, down := fun i j hs => absurd hs (hS0 i), hr := ?_, hn := Nat.le_refl _, le := Pls.le_refl _, fr := ⟨rfl, rfl, Nat.le_refl _, fun _ _ _ => rfl⟩, own := fun _ _ ho => ho, new := fun _ _ hb _ => hb, size := rfl, defers := rfl, tm0 := fun _ _ => rfl, tm1 := fun j t v hj => absurd hj (hS0 j), pend := fun i y _ hs => absurd hs (hS0 i), sep := fun i i' p p' _ _ _ hp1 => ?_, old := fun i p _ hp1 => ?_, free := fun i _ _ => hfree i }
      · exact ⟨fun b p hb => Nat.lt_of_lt_of_le (hr0.dom b p hb) (Nat.le_add_right _ _), fun b x hb => Nat.lt_of_lt_of_le (hr0.has b x hb) (Nat.le_add_right _ _), hr0.blk, hr0.inj⟩
      · rw [show ρ (c.h0.next + i) = none from hfree i] at hp1; cases hp1
      · rw [show ρ (c.h0.next + i) = none from hfree i] at hp1; cases hp1
    refine draw_any (c := c) k (fun S done rest h' ρ' a' w' d hall => ?_) ops.size _ _ _ _ _ _ _ (by simp; rfl) d0 ?_
    · have hpost := d.finish hall
      refine hq ρ' a' w' ⟨by rw [d.size]; exact ht.1, fun t v hk hv => ?_⟩ d.defers ⟨hpost.le, hpost.hr, ⟨hpost.fr.os, hpost.fr.output, hpost.fr.size, hpost.fr.same⟩, hpost.own, hpost.next, hpost.new⟩
      have hin : ∀ {j : Nat}, c.dst j = some t → t < a'.tmps.size := by
        intro j hd
        have hj := dst_lt hd
        obtain ⟨o, ho, h1, _⟩ := compD1_ok (k.good j hj)
        rw [dst_eq ho] at hd
        rw [hd] at h1
        rw [d.size]
        exact Nat.lt_of_lt_of_le (okDst_lt h1) ht.1
      rcases putOutsD_get hout t with ⟨j, u, g1, g2, g3⟩ | ⟨g1, g2⟩
      · rw [g3] at hv; cases hv
        obtain ⟨x, hx, he⟩ := List.mem_map.1 g1
        obtain ⟨t', k'⟩ := x
        simp only [Prod.mk.injEq] at he
        obtain ⟨rfl, rfl⟩ := he
        obtain ⟨_, _, _, h4, h5⟩ := outsOf_mem hx
        rw [Nat.sub_zero] at h4 h5
        have hk' : k' < ops.size := by
          have := (List.getElem?_eq_some_iff.1 h4).1
          simpa using this
        rw [rev_get hk'] at h4
        have hd : c.dst (ops.size - 1 - k') = some t' := Option.some.inj h4
        refine ⟨_, getD_some (hin hd), d.tm1 _ t' v (hall _ (dst_lt hd)) hd (fun j' _ hd' => ?_) g2⟩
        have hj' := dst_lt hd'
        have hj' : j' < ops.size := hj'
        rcases Nat.lt_or_ge (ops.size - 1 - k') j' with h6 | h6
        · have := h5 (ops.size - 1 - j') (by omega)
          rw [rev_get (by omega), show ops.size - 1 - (ops.size - 1 - j') = j' by omega] at this
          exact absurd (congrArg some hd') this
        · exact h6
      · rw [g2] at hv
        obtain ⟨cv, h1, h2⟩ := ht.2 t v hk hv
        have hno : ∀ j, S j → c.dst j ≠ some t := by
          intro j _ hd
          have hj : j < ops.size := dst_lt hd
          have hmem : some t ∈ ops.toList.reverse.map (·.dst) := by
            have := rev_get (ops := ops) (m := ops.size - 1 - j) (by omega)
            rw [show ops.size - 1 - (ops.size - 1 - j) = j by omega] at this
            have := List.mem_of_getElem? this
            rwa [show (ops[j]?).bind (·.dst) = some t from hd] at this
          obtain ⟨k', h3⟩ := outsOf_has hk (k := 0) hmem (by simp : t ∉ ([] : List Nat))
          exact g1 _ (List.mem_map_of_mem (f := fun x : Nat × Nat => (x.1, ops.size - 1 - x.2)) h3)
        have e := d.tm0 t hno
        have hlt : t < a'.tmps.size := by rw [d.size]; exact (Array.getElem?_eq_some_iff.1 h1).1
        refine ⟨_, getD_some hlt, ?_⟩
        rw [e]
        show VR ρ' v (a.tmps.getD t undef)
        rw [Array.getD_eq_getD_getElem?, h1]
        exact h2.mono d.le
    · exact Nat.le_trans (List.length_filter_le _ _) (by simp; exact Nat.le_refl _)
  · cases hcomp
end
end Go.Am

/-
  AM, 27: a region that draws its order.
-/
import Derived.Test.YtboobbebilegnaaGreatAm26
namespace Go.Am
section
variable {c : DC} {S : Nat → Prop} {done : List Nat} {rest : List (Nat × GIns)} {h : Heap} {ρ : Pls} {a : Act} {w : World} {i : Nat} {o : Oper}

/-- the blocks that have to lie by now are laid -/
theorem DI.lay (d : DI c S done rest h ρ a w) {hm : Heap} (hst : StOk c.gs c.b c.es c.h0.next c.tm c.vsF done.length h hm) (hall : ∀ j, j < c.ops.size → hiOf c.b c.es j = done.length → S j) :
    HR c.P c.keep ρ hm w ∧ hm.next = h.next ∧ ∀ k, Own ρ hm k → Own ρ h k ∨ ∃ j p, j < c.ops.size ∧ S j ∧ hiOf c.b c.es j = done.length ∧ ρ (c.h0.next + j) = some p ∧ k = p.blk := by
  have hm' : ∀ {x}, x ∈ (c.gs.filter fun x => x.2.i.allocs && decide (hiOf c.b c.es x.1 = done.length)) → x.1 < c.ops.size ∧ x.2 = c.f x.1 ∧ hiOf c.b c.es x.1 = done.length := by
    intro x hx
    simp only [List.mem_filter, Bool.and_eq_true, decide_eq_true_eq] at hx
    obtain ⟨h1, h2⟩ := mem_gs.1 hx.1
    exact ⟨h1, h2, hx.2.2⟩
  obtain ⟨g1, g2, g3⟩ := mats_lay hst.2 d.hr ((gs_pairwise c).filter _) (fun x hx y hy => by
      obtain ⟨h1, h2, h3⟩ := hm' hx
      rw [h2] at hy
      obtain ⟨p, q1, q2, _, _, q3⟩ := d.pend x.1 y h1 (hall _ h1 h3) (by omega) hy
      exact ⟨p, q1, q2, q3⟩)
    (fun x hx y hy hne p q hp hq => d.sep x.1 y.1 p q (hm' hx).1 (hm' hy).1 hne hp hq)
  refine ⟨g1, g2, fun k hk => (g3 k hk).imp id fun ⟨x, hx, p, hp, _, e⟩ => ?_⟩
  obtain ⟨h1, h2, h3⟩ := hm' hx
  exact ⟨x.1, p, h1, hall _ h1 h3, h3, hp, e⟩

theorem chain_mid : ∀ {l : List Nat} {x : Nat} {r : List Nat} {b : Array Nat}, chainOk b (l ++ x :: r) = true → ∀ y ∈ r, bef b y x = true
  | [], x, r, b, h, y, hy => by
    simp only [List.nil_append, chainOk, Bool.and_eq_true, List.all_eq_true] at h
    exact h.1 y hy
  | z :: l, x, r, b, h, y, hy => by
    simp only [List.cons_append, chainOk, Bool.and_eq_true] at h
    exact chain_mid h.2 y hy

/-- an operation that writes is the next one -/
theorem DI.head (k : DOk c) (d : DI c S done rest h ρ a w) (hi : i < c.ops.size) (hS : ¬ S i) (hready : ∀ j, bef c.b i j = true → S j) (he : (c.f i).i.eff = true) : ∃ xs, rest = (i, c.f i) :: xs := by
  have hm : i ∈ c.es := mem_es.2 ⟨hi, he⟩
  rw [d.split] at hm
  rcases List.mem_append.1 hm with hm | hm
  · exact absurd (d.doneS i hm) hS
  · cases rest with
    | nil => cases hm
    | cons x xs =>
      rw [List.map_cons] at hm
      rcases List.mem_cons.1 hm with e | hm
      · exact ⟨xs, by rw [show x = (i, c.f i) from Prod.ext e.symm (by rw [d.restG x (List.mem_cons_self ..), ← e])]⟩
      · have := chain_mid (l := done) (x := x.1) (r := xs.map (·.1)) (by rw [← List.map_cons (f := fun x : Nat × GIns => x.1), ← d.split]; exact k.chain) i hm
        exact absurd (hready _ this) (d.restS x (List.mem_cons_self ..))

/-- what has to lie before it, lies -/
theorem DI.due (d : DI c S done ((i, c.f i) :: rest) h ρ a w) (hready : ∀ j, bef c.b i j = true → S j) : ∀ j, j < c.ops.size → hiOf c.b c.es j = done.length → S j := by
  intro j _ hj
  by_cases hS : S j
  · exact hS
  · have hd := done_all d hS
    unfold hiOf at hj
    rw [d.split, List.filter_append, hd, List.length_append] at hj
    have hnil : (((i, c.f i) :: rest).map (·.1)).filter (fun e => !bef c.b e j) = [] := List.length_eq_zero_iff.1 (by omega)
    rw [List.map_cons, List.filter_eq_nil_iff] at hnil
    have := hnil i (List.mem_cons_self ..)
    simp only [Bool.not_eq_true', Bool.not_eq_false] at this
    exact hready j this

/-- AN OPERATION THAT WRITES. -/
theorem DI.act (k : DOk c) (d : DI c S done ((i, c.f i) :: rest) h ρ a w) (hi : i < c.ops.size) (hS : ¬ S i) (hready : ∀ j, bef c.b i j = true → S j) (ho : c.ops[i]? = some o) (he : (c.f i).i.eff = true)
    {hm h' : Heap} {u : AV} (hnx : hm.next = h.next) (hown : ∀ k, Own ρ hm k → Own ρ h k ∨ ∃ j p, j < c.ops.size ∧ S j ∧ hiOf c.b c.es j = done.length ∧ ρ (c.h0.next + j) = some p ∧ k = p.blk)
    (hu : c.vsF.gt i = some u) (hrun : Run c.gs c.b c.es c.h0.next c.tm c.vsF c.call c.hF (done.length + 1) rest h') {ρ' : Pls} {v : Value} {w' : World} (hv : VR ρ' u v) (hp : Post c.P c.keep ρ hm w ρ' h' w') :
    DI c (fun j => S j ∨ j = i) (done ++ [i]) rest h' ρ' (a.put o.dst v) w' := by
  obtain ⟨t0, t1⟩ := put_tmps k d hi hS ho hp.le (v := v) (fun u' hu' => by rw [hu] at hu'; cases hu'; exact hv)
  have hw0 : c.w0.heap.size ≤ w.heap.size := d.fr.size
  have hnew : ∀ j p, j < c.ops.size → ρ' (c.h0.next + j) = some p → ρ (c.h0.next + j) = some p := fun j p hj h1 => hp.new _ p h1 (by rw [hnx]; have := d.hn; omega)
  have hsame : ∀ n, n < c.w0.heap.size → Own ρ hm n → Own c.ρ0 c.h0 n := by
    intro n hn h1
    rcases hown n h1 with h1 | ⟨j, p, hj, _, _, hpp, e⟩
    · exact d.own n hn h1
    · have := d.old j p hj hpp; omega
  have hnodup : (done ++ i :: rest.map (·.1)).Nodup := by
    have := d.split
    rw [List.map_cons] at this
    rw [← this]
    unfold DC.es
    rw [List.Nodup, List.pairwise_map]
    exact ((gs_pairwise c).filter _).imp fun h => h
  refine { run := (by rw [List.length_append]; exact hrun), split := (by rw [d.split]; simp), doneS := fun e hm => ?_, restS := fun x hx hs => ?_, restG := fun x hx => d.restG x (List.mem_cons_of_mem _ hx), down := fun i' j hs hb => ?_, hr := hp.hr, hn := Nat.le_trans d.hn (by rw [← hnx]; exact hp.next), le := Pls.le_trans d.le hp.le, fr := ⟨hp.fr.os.trans d.fr.os, hp.fr.output.trans d.fr.output, Nat.le_trans d.fr.size hp.fr.size, fun n hn ho => (hp.fr.same n (by omega) fun h1 => ho (hsame n hn h1)).trans (d.fr.same n hn ho)⟩, own := fun n hn h1 => hsame n hn (hp.own n (by omega) h1), new := fun b p h1 h2 => d.new b p (hp.new b p h1 (by rw [hnx]; have := d.hn; omega)) h2, size := (put_size _ _ _).trans d.size, defers := (put_defers _ _ _).trans d.defers, tm0 := t0, tm1 := t1, pend := fun i' y' h1 h2 h3 h4 => ?_, sep := fun j j' p p' hj hj' hne h1 h2 => d.sep j j' p p' hj hj' hne (hnew j p hj h1) (hnew j' p' hj' h2), old := fun j p hj h1 => ?_, free := fun i' h1 h2 => ?_ }
  · rcases List.mem_append.1 hm with hm | hm
    · exact .inl (d.doneS e hm)
    · exact .inr (List.mem_singleton.1 hm)
  · rcases hs with hs | hs
    · exact d.restS x (List.mem_cons_of_mem _ hx) hs
    · have h1 := (List.nodup_append.1 hnodup).2.1
      rw [List.nodup_cons] at h1
      exact h1.1 (by rw [← hs]; exact List.mem_map_of_mem hx)
  · rcases hs with hs | hs
    · exact .inl (d.down i' j hs hb)
    · subst hs; exact .inl (hready j hb)
  · rw [List.length_append, List.length_singleton] at h3
    have hne : i' ≠ i := by
      intro e
      subst e
      cases hx : (c.f i').i with
      | al f xs => rw [hx] at he; cases he
      | _ => unfold GIns.blk at h4; rw [hx] at h4; cases h4
    obtain ⟨p, g1, g2, g3, g4, g5⟩ := d.pend i' y' h1 (h2.resolve_right hne) (by omega) h4
    have hno : ¬ Own ρ hm p.blk := by
      intro h5
      rcases hown _ h5 with h5 | ⟨j, q, hj, _, hh, hq, e⟩
      · exact g5 h5
      · by_cases e2 : i' = j
        · subst e2; omega
        · exact d.sep i' j p q h1 hj e2 g1 hq e
    refine ⟨p, hp.le _ _ g1, (g2.frame fun q _ hq => ?_).mono hp.le, g3, Nat.lt_of_lt_of_le g4 hp.fr.size, fun h5 => hno (hp.own _ g4 h5)⟩
    rw [g1] at hq; cases hq
    exact hp.fr.same _ g4 hno
  · have := d.old j p hj (hnew j p hj h1)
    have := hp.fr.size
    omega
  · cases hc : ρ' (c.h0.next + i') with
    | none => rfl
    | some p =>
      have := hnew i' p h1 hc
      rw [d.free i' h1 fun hs => h2 (.inl hs)] at this; cases this

/-- ALL IS DONE. -/
theorem DI.finish (d : DI c S done rest h ρ a w) (hall : ∀ j, j < c.ops.size → S j) : Post c.P c.keep c.ρ0 c.h0 c.w0 ρ c.hF w := by
  have hnil : rest = [] := by
    cases rest with
    | nil => rfl
    | cons x xs =>
      have hx : x.1 ∈ c.es := by rw [d.split]; exact List.mem_append_right _ (by simp)
      exact absurd (hall _ (mem_es.1 hx).1) (d.restS x (List.mem_cons_self ..))
  subst hnil
  obtain ⟨h1, h2, h3⟩ := d.lay (hm := c.hF) d.run (fun j hj _ => hall j hj)
  refine ⟨d.le, h1, d.fr, fun n hn ho => ?_, by rw [h2]; have := d.hn; omega, d.new⟩
  rcases h3 n ho with ho | ⟨j, p, hj, _, _, hp, e⟩
  · exact d.own n hn ho
  · have := d.old j p hj hp; omega
end
end Go.Am

/-
  AM, 28: a region that draws its order, whatever order.
-/
import Derived.Test.YtboobbebilegnaaGreatAm27
namespace Go.Am
section
variable {c : DC} {ro : Option Nat} {Q : Exit → Act → World → Prop}

theorem filter_len_le {α : Type} {p q : α → Bool} : ∀ {l : List α}, (∀ x ∈ l, p x = true → q x = true) → (l.filter p).length ≤ (l.filter q).length
  | [], _ => Nat.le_refl _
  | x :: l, h => by
    have ih := filter_len_le (l := l) fun y hy => h y (List.mem_cons_of_mem _ hy)
    simp only [List.filter_cons]
    cases hp : p x with
    | true => rw [h x (List.mem_cons_self ..) hp]; simp; exact ih
    | false => cases hq : q x <;> simp <;> omega

theorem filter_len_lt {α : Type} {p q : α → Bool} : ∀ {l : List α} {x : α}, x ∈ l → p x = false → q x = true → (∀ x ∈ l, p x = true → q x = true) → (l.filter p).length < (l.filter q).length
  | y :: l, x, hx, hp, hq, h => by
    have ih := filter_len_le (l := l) fun y hy => h y (List.mem_cons_of_mem _ hy)
    simp only [List.filter_cons]
    rcases List.mem_cons.1 hx with e | hx
    · subst e
      rw [hp, hq]; simp; omega
    · have ih2 := filter_len_lt hx hp hq fun y hy => h y (List.mem_cons_of_mem _ hy)
      cases hp2 : p y with
      | true => rw [h y (List.mem_cons_self ..) hp2]; simp; exact ih2
      | false => cases hq2 : q y <;> simp <;> omega

theorem getD_both {l : Array Bool} {j : Nat} (h : j < l.size) (x y : Bool) : l.getD j x = l.getD j y := by simp [Array.getD_eq_getD_getElem?, h]
theorem getD_set {l : Array Bool} {i j : Nat} (hi : i < l.size) : ((l.setIfInBounds i true).getD j false = true) ↔ (l.getD j false = true ∨ j = i) := by
  simp only [Array.getD_eq_getD_getElem?, Array.getElem?_setIfInBounds]
  by_cases e : i = j
  · subst e; simp [hi]
  · rw [if_neg e]
    constructor
    · exact .inl
    · rintro (h | h)
      · exact h
      · exact absurd h.symm e

theorem draw_any (k : DOk c) (hq : ∀ S done rest h ρ a w, DI c S done rest h ρ a w → (∀ j, j < c.ops.size → S j) → Q .normal a w) :
    ∀ (fuel : Nat) (listed : Array Bool) (done : List Nat) (rest : List (Nat × GIns)) (h : Heap) (ρ : Pls) (a : Act) (w : World), listed.size = c.ops.size → DI c (fun j => listed.getD j false = true) done rest h ρ a w →
      ((List.range c.ops.size).filter fun i => !listed.getD i true).length ≤ fuel → wpAnyIn (fen ro) 0 c.P .any c.ops Q fuel listed a w := by
  have stop : ∀ (listed : Array Bool) (done : List Nat) (rest : List (Nat × GIns)) (h : Heap) (ρ : Pls) (a : Act) (w : World), listed.size = c.ops.size → DI c (fun j => listed.getD j false = true) done rest h ρ a w → Region.ready .any c.ops listed = [] → Q .normal a w := by
    intro listed done rest h ρ a w hsz d hr
    refine hq _ done rest h ρ a w d fun j => ?_
    induction j using Nat.strongRecOn with
    | _ j ih =>
      intro hj
      cases hl : listed.getD j false with
      | true => rfl
      | false =>
        obtain ⟨o, ho⟩ : ∃ o, c.ops[j]? = some o := ⟨_, Array.getElem?_eq_getElem hj⟩
        have : j ∈ Region.ready .any c.ops listed := mem_ready.2 ⟨by rw [getD_both (by omega) true false]; exact hl, o, ho, fun e he hb => ih e.on (k.graph.back j o ho e he hb) (by have := k.graph.back j o ho e he hb; omega)⟩
        rw [hr] at this; cases this
  intro fuel
  induction fuel with
  | zero =>
    intro listed done rest h ρ a w hsz d hf
    have hnil : Region.ready .any c.ops listed = [] := by
      cases hr : Region.ready .any c.ops listed with
      | nil => rfl
      | cons i r =>
        have hi : i ∈ Region.ready .any c.ops listed := by rw [hr]; exact List.mem_cons_self ..
        obtain ⟨h1, o, ho, _⟩ := mem_ready.1 hi
        have hlt : i < c.ops.size := (Array.getElem?_eq_some_iff.1 ho).1
        have hm : i ∈ ((List.range c.ops.size).filter fun i => !listed.getD i true) := List.mem_filter.2 ⟨List.mem_range.2 hlt, by rw [h1]; rfl⟩
        have := List.length_pos_of_mem hm
        omega
    exact ⟨hnil, stop listed done rest h ρ a w hsz d hnil⟩
  | succ fuel ih =>
    intro listed done rest h ρ a w hsz d hf
    refine ⟨stop listed done rest h ρ a w hsz d, fun i hi => ?_⟩
    obtain ⟨h1, o, ho, hpre⟩ := mem_ready.1 hi
    have hlt : i < c.ops.size := (Array.getElem?_eq_some_iff.1 ho).1
    have hS : ¬ (listed.getD i false = true) := by rw [getD_both (by omega) false true, h1]; simp
    have hready : ∀ j, bef c.b i j = true → listed.getD j false = true := by
      intro j hj
      obtain ⟨o', ho', e, he, hb, h2⟩ := before_spec (fun o ho => k.graph.back i o ho) hj
      rw [ho] at ho'; cases ho'
      rcases h2 with rfl | h2
      · exact hpre e he hb
      · exact d.down _ _ (hpre e he hb) h2
    have hgood := k.good i hlt
    have henv := env_ok k d hS hready ho
    -- on with the rest
    have next : ∀ {done' : List Nat} {rest' : List (Nat × GIns)} {h' : Heap} {ρ' : Pls} {a' : Act} {w' : World}, DI c (fun j => listed.getD j false = true ∨ j = i) done' rest' h' ρ' a' w' → wpAnyIn (fen ro) 0 c.P .any c.ops Q fuel (listed.setIfInBounds i true) a' w' := by
      intro done' rest' h' ρ' a' w' d'
      have hS' : (fun j => (listed.setIfInBounds i true).getD j false = true) = (fun j => listed.getD j false = true ∨ j = i) := funext fun j => propext (getD_set (by omega))
      refine ih _ done' rest' h' ρ' a' w' (by simp [hsz]) (by rw [hS']; exact d') ?_
      have hlt2 : ((List.range c.ops.size).filter fun j => !(listed.setIfInBounds i true).getD j true).length < ((List.range c.ops.size).filter fun i => !listed.getD i true).length := by
        refine filter_len_lt (x := i) (List.mem_range.2 hlt) ?_ (by rw [h1]; rfl) fun j hj hp => ?_
        · rw [getD_both (by simp; omega) true false, (getD_set (by omega)).2 (.inr rfl)]; rfl
        · have hjl : j < listed.size := by have := List.mem_range.1 hj; omega
          cases hlj : listed.getD j true with
          | false => rfl
          | true =>
            rw [getD_both (by simp; omega) true false, (getD_set (by omega)).2 (.inl (by rw [getD_both hjl false true]; exact hlj))] at hp
            cases hp
      omega
    by_cases heff : (c.f i).i.eff = true
    · obtain ⟨xs, hrest⟩ := d.head k hlt hS hready heff
      subst hrest
      obtain ⟨hm, u, h', hst, hu, hev, hrun⟩ := d.run
      obtain ⟨l1, l2, l3⟩ := d.lay hst (d.due hready)
      refine act_step (h := hm) k.names k.calls l1 hgood ho henv (Nat.le_refl _) hev (fun ρ' v w' hv hp => next (d.act k hlt hS hready ho heff l2 l3 hu hrun hv hp))
    · have heff : (c.f i).i.eff = false := by simpa using heff
      by_cases hal : (c.f i).i.allocs = true
      · have hrd : (c.f i).i.reads = false := by
          cases hx : (c.f i).i with
          | al f xs => rfl
          | _ => rw [hx] at hal; cases hal
        obtain ⟨u, hu, hqt⟩ := k.still i hlt heff hrd
        refine alloc_step d.hr hgood ho henv hal (hqt h) (d.free i hlt hS) (fun hb v hv => ?_) (fun y v w' ob' sz hb hos hout hheap hbr hv => ?_)
        · exact next (d.quiet k hlt hS hready ho heff (fun y e => by rw [show (c.f i).blk c.vsF c.tm = some none from hb] at e; cases e) (fun u' hu' => by rw [hu] at hu'; cases hu'; exact hv))
        · exact next (d.alloc k hlt hS hready ho heff hb hos hout hheap hbr (fun u' hu' => by rw [hu] at hu'; cases hu'; exact hv))
      · have hal : (c.f i).i.allocs = false := by simpa using hal
        have hqt : ∃ u, c.vsF.gt i = some u ∧ (c.f i).quiet c.vsF c.tm (c.h0.next + i) h = some u := by
          cases hrd : (c.f i).i.reads with
          | false => obtain ⟨u, hu, hqt⟩ := k.still i hlt heff hrd; exact ⟨u, hu, hqt h⟩
          | true =>
            obtain ⟨hm, hst⟩ := d.run.get
            exact hst.1 (i, c.f i) (mem_gs.2 ⟨hlt, rfl⟩) heff (lo_le d hready) (le_hi d hS) (.inl hrd)
        obtain ⟨u, hu, hqt⟩ := hqt
        refine quiet_step d.hr hgood ho henv hal hqt (fun v hv => ?_)
        refine next (d.quiet k hlt hS hready ho heff (fun y e => ?_) (fun u' hu' => by rw [hu] at hu'; cases hu'; exact hv))
        cases hx : (c.f i).i with
        | al f xs => rw [hx] at hal; cases hal
        | _ => unfold GIns.blk at e; rw [hx] at e; cases e
end
end Go.Am

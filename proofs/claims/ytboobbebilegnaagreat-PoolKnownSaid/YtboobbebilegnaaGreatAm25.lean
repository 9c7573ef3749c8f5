/-
  AM, 25: blocks that wait to be laid; what holds on the way through a region that draws its order.
-/
import Derived.Test.YtboobbebilegnaaGreatAm24
namespace Go.Am
section
variable {P : Program} {keep : Keeps} {w w' : World} {ρ : Pls} {h : Heap}

/-- a block that lies in the model's memory already is laid -/
theorem HR.mat (hr : HR P keep ρ h w) {b : Nat} {p : Pl} {y : Blk} (hp : ρ b = some p) (hbn : b < h.next) (hb : BR P keep ρ b y w) (hfree : ¬ Own ρ h p.blk) :
    HR P keep ρ ⟨h.bs.up (some y) b, h.next⟩ w ∧ ∀ k, Own ρ ⟨h.bs.up (some y) b, h.next⟩ k → Own ρ h k ∨ k = p.blk := by
  have hget : ∀ c, (h.bs.up (some y) b).gt c = if c = b then some y else h.bs.gt c := fun c => Tr.gt_up _ _ _ _
  refine ⟨⟨hr.dom, fun c z hz => ?_, fun c z hz => ?_, fun c c' z z' q q' hz hz' hd hd' hrw hq hq' hne => ?_⟩, fun k hk => ?_⟩
  · simp only [hget] at hz
    by_cases e : c = b
    · subst e; exact hbn
    · rw [if_neg e] at hz; exact hr.has _ _ hz
  · simp only [hget] at hz
    by_cases e : c = b
    · subst e; rw [if_pos rfl] at hz; cases hz; exact hb
    · rw [if_neg e] at hz; exact hr.blk c z hz
  · simp only [hget] at hz hz'
    by_cases e : c = b
    · subst e
      have e' : c' ≠ c := fun e => hne e.symm
      rw [if_neg e'] at hz'
      rw [hp] at hq; cases hq
      exact fun e => hfree ⟨c', z', q', hz', hd', hq', e.symm⟩
    · rw [if_neg e] at hz
      by_cases e' : c' = b
      · subst e'
        rw [hp] at hq'; cases hq'
        exact fun e => hfree ⟨c, z, q, hz, hd, hq, e⟩
      · rw [if_neg e'] at hz'
        exact hr.inj c c' z z' q q' hz hz' hd hd' hrw hq hq' hne
  · obtain ⟨c, z, q, hz, hd, hq, rfl⟩ := hk
    simp only [hget] at hz
    by_cases e : c = b
    · subst e; rw [hp] at hq; cases hq; exact .inr rfl
    · rw [if_neg e] at hz; exact .inl ⟨c, z, q, hz, hd, hq, rfl⟩

/-- a block of the model's gets a number; it is not laid yet -/
theorem HR.more (hr : HR P keep ρ h w) {b : Nat} {p : Pl} {o : Obj} (hb : ρ b = none) (hbn : b < h.next) (hheap : w'.heap = w.heap.push o) :
    HR P keep (ρ.up b p) h w' ∧ ∀ k, Own (ρ.up b p) h k → Own ρ h k := by
  have hle : ρ.le (ρ.up b p) := Pls.le_up hb
  have live : ∀ c z q, h.bs.gt c = some z → z.dead? = false → (ρ.up b p) c = some q → ρ c = some q := by
    intro c z q hz hd hq
    obtain ⟨q', hq', _⟩ := (hr.blk c z hz).place hd
    have := hle _ _ hq'
    rw [hq] at this; cases this; exact hq'
  refine ⟨⟨fun c q hc => ?_, hr.has, fun c z hz => ?_, fun c c' z z' q q' hz hz' hd hd' hrw hq hq' hne => ?_⟩, fun k hk => ?_⟩
  · unfold Pls.up at hc
    by_cases e : c = b
    · subst e; exact hbn
    · rw [if_neg e] at hc; exact hr.dom _ _ hc
  · refine ((hr.blk c z hz).frame fun q hd hq => ?_).mono hle
    obtain ⟨q', hq', hlt⟩ := (hr.blk c z hz).place hd
    rw [hq] at hq'; cases hq'
    rw [hheap, Array.getElem?_push, if_neg (by omega)]
  · exact hr.inj c c' z z' q q' hz hz' hd hd' hrw (live _ _ _ hz hd hq) (live _ _ _ hz' hd' hq') hne
  · obtain ⟨c, z, q, hz, hd, hq, rfl⟩ := hk
    exact ⟨c, z, q, hz, hd, live _ _ _ hz hd hq, rfl⟩

/-- the blocks of a stage are laid -/
theorem mats_lay {base : Nat} {tm vsF : Tr AV} : ∀ {l : List (Nat × GIns)} {h hm : Heap}, runMats base tm vsF l h = some hm → HR P keep ρ h w → l.Pairwise (fun x y => x.1 ≠ y.1) →
    (∀ x ∈ l, ∀ y, x.2.blk vsF tm = some (some y) → ∃ p, ρ (base + x.1) = some p ∧ BR P keep ρ (base + x.1) y w ∧ ¬ Own ρ h p.blk) →
    (∀ x ∈ l, ∀ y ∈ l, x.1 ≠ y.1 → ∀ p q, ρ (base + x.1) = some p → ρ (base + y.1) = some q → p.blk ≠ q.blk) →
    HR P keep ρ hm w ∧ hm.next = h.next ∧ ∀ k, Own ρ hm k → Own ρ h k ∨ ∃ x ∈ l, ∃ p, ρ (base + x.1) = some p ∧ x.2.blk vsF tm ≠ some none ∧ k = p.blk := by
  intro l
  induction l with
  | nil => intro h hm hr hh _ _ _; cases hr; exact ⟨hh, rfl, fun k hk => .inl hk⟩
  | cons x l ih =>
    intro h hm hr hh hp hx hs
    rw [runMats_cons] at hr
    obtain ⟨b, h1, h2⟩ := ob_some.1 hr
    rw [List.pairwise_cons] at hp
    cases b with
    | none =>
      obtain ⟨g1, g2, g3⟩ := ih h2 hh hp.2 (fun y hy => hx y (List.mem_cons_of_mem _ hy)) (fun y hy z hz => hs y (List.mem_cons_of_mem _ hy) z (List.mem_cons_of_mem _ hz))
      exact ⟨g1, g2, fun k hk => (g3 k hk).imp id fun ⟨y, hy, r⟩ => ⟨y, List.mem_cons_of_mem _ hy, r⟩⟩
    | some b =>
      obtain ⟨p, hpp, hbr, hno⟩ := hx x (List.mem_cons_self ..) b h1
      obtain ⟨m1, m2⟩ := hh.mat hpp (hh.dom _ _ hpp) hbr hno
      obtain ⟨g1, g2, g3⟩ := ih h2 m1 hp.2 (fun y hy z hz => by
        obtain ⟨q, a1, a2, a3⟩ := hx y (List.mem_cons_of_mem _ hy) z hz
        refine ⟨q, a1, a2, fun ho => ?_⟩
        rcases m2 _ ho with ho | ho
        · exact a3 ho
        · exact hs y (List.mem_cons_of_mem _ hy) x (List.mem_cons_self ..) (fun e => hp.1 y hy e.symm) q p a1 hpp ho)
        (fun y hy z hz => hs y (List.mem_cons_of_mem _ hy) z (List.mem_cons_of_mem _ hz))
      refine ⟨g1, g2, fun k hk => ?_⟩
      rcases g3 k hk with ho | ⟨y, hy, r⟩
      · rcases m2 k ho with ho | ho
        · exact .inl ho
        · exact .inr ⟨x, List.mem_cons_self .., p, hpp, (by rw [h1]; intro e; cases e), ho⟩
      · exact .inr ⟨y, List.mem_cons_of_mem _ hy, r⟩
end

/-- what is fixed for one run of a region -/
structure DC where
  P : Program
  keep : Keeps
  kp : Nat → Bool
  nt : Nat
  ops : Array Oper
  call : CallFn
  tm : Tr AV
  vsF : Tr AV
  hF : Heap
  ρ0 : Pls
  h0 : Heap
  w0 : World
  a0 : Act

namespace DC
def b (c : DC) : Array Nat := Region.before c.ops
noncomputable def gs (c : DC) : List (Nat × GIns) := (List.range c.ops.size).map fun i => (i, compD1 c.P c.kp c.nt c.ops i)
noncomputable def es (c : DC) : List Nat := (c.gs.filter fun x => x.2.i.eff).map (·.1)
def dst (c : DC) (j : Nat) : Option Nat := (c.ops[j]?).bind (·.dst)
noncomputable def f (c : DC) (i : Nat) : GIns := compD1 c.P c.kp c.nt c.ops i
end DC

structure DI (c : DC) (S : Nat → Prop) (done : List Nat) (rest : List (Nat × GIns)) (h : Heap) (ρ : Pls) (a : Act) (w : World) : Prop where
  run : Run c.gs c.b c.es c.h0.next c.tm c.vsF c.call c.hF done.length rest h
  split : c.es = done ++ rest.map (·.1)
  doneS : ∀ e ∈ done, S e
  restS : ∀ x ∈ rest, ¬ S x.1
  restG : ∀ x ∈ rest, x.2 = c.f x.1
  down : ∀ i j, S i → bef c.b i j = true → S j
  hr : HR c.P c.keep ρ h w
  hn : c.h0.next + c.ops.size ≤ h.next
  le : c.ρ0.le ρ
  fr : Fr c.ρ0 c.h0 c.w0 w
  own : ∀ k, k < c.w0.heap.size → Own ρ h k → Own c.ρ0 c.h0 k
  new : ∀ b p, ρ b = some p → b < c.h0.next → c.ρ0 b = some p
  size : a.tmps.size = c.a0.tmps.size
  defers : a.defers = c.a0.defers
  tm0 : ∀ t, (∀ j, S j → c.dst j ≠ some t) → a.tmps.getD t undef = c.a0.tmps.getD t undef
  tm1 : ∀ j t v, S j → c.dst j = some t → (∀ j', S j' → c.dst j' = some t → j' ≤ j) → c.vsF.gt j = some v → VR ρ v (a.tmps.getD t undef)
  pend : ∀ i y, i < c.ops.size → S i → done.length ≤ hiOf c.b c.es i → (c.f i).blk c.vsF c.tm = some (some y) →
    ∃ p, ρ (c.h0.next + i) = some p ∧ BR c.P c.keep ρ (c.h0.next + i) y w ∧ c.w0.heap.size ≤ p.blk ∧ p.blk < w.heap.size ∧ ¬ Own ρ h p.blk
  sep : ∀ i i' p p', i < c.ops.size → i' < c.ops.size → i ≠ i' → ρ (c.h0.next + i) = some p → ρ (c.h0.next + i') = some p' → p.blk ≠ p'.blk
  old : ∀ i p, i < c.ops.size → ρ (c.h0.next + i) = some p → c.w0.heap.size ≤ p.blk ∧ p.blk < w.heap.size
  free : ∀ i, i < c.ops.size → ¬ S i → ρ (c.h0.next + i) = none

/-- what holds of the region throughout -/
structure DOk (c : DC) : Prop where
  graph : GraphOk c.ops
  chain : chainOk c.b c.es = true
  good : ∀ i, i < c.ops.size → (c.f i).i.isBad = false
  names : NamesOk c.P
  calls : CallOk c.P c.keep c.call
  still : ∀ i, i < c.ops.size → (c.f i).i.eff = false → (c.f i).i.reads = false → ∃ v, c.vsF.gt i = some v ∧ ∀ h, (c.f i).quiet c.vsF c.tm (c.h0.next + i) h = some v
  tr : TR c.kp c.nt c.ρ0 c.tm c.a0.tmps
end Go.Am

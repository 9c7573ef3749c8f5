/-
  AM, 25: blocks that wait to be laid; what holds on the way through a region that draws its order.
-/
import Derived.Test.YtlfednnfkejcjaaQAmD
import Derived.Below
set_option linter.unusedVariables false
set_option linter.unusedSimpArgs false

namespace Go.Am
section
variable {P : Program} {keep : Keeps} {w w' : World} {ρ : Pls} {h : Heap}

/-- a block that lies in the model's memory already is laid -/
theorem HR.mat (hr : HR P keep ρ h w) {b : Nat} {p : Pl} {y : Blk} (hp : ρ b = some p) (hbn : b < h.next) (hb : BR P keep ρ b y w) (hfree : ¬ Own ρ h p.blk) :
    HR P keep ρ ⟨h.bs.up (some y) b, h.next⟩ w ∧ ∀ k, Own ρ ⟨h.bs.up (some y) b, h.next⟩ k → Own ρ h k ∨ k = p.blk := by
  have hget : ∀ c, (h.bs.up (some y) b).gt c = if c = b then some y else h.bs.gt c := fun c => Tr.gt_up _ _ _ _
  refine ⟨⟨hr.dom, fun c z hz => ?_, fun c z hz => ?_, fun c c' z z' q q' hz hz' hd hd' hrw hq hq' hne => ?_⟩, fun k hk => ?_⟩
  · simp only [hget] at hz
    by_cases e : c = b
    · subst e; exact hbn
    · rw [if_neg e] at hz; exact hr.has _ _ hz
  · simp only [hget] at hz
    by_cases e : c = b
    · subst e; rw [if_pos rfl] at hz; cases hz; exact hb
    · rw [if_neg e] at hz; exact hr.blk c z hz
  · simp only [hget] at hz hz'
    by_cases e : c = b
    · subst e
      have e' : c' ≠ c := fun e => hne e.symm
      rw [if_neg e'] at hz'
      rw [hp] at hq; cases hq
      exact fun e => hfree ⟨c', z', q', hz', hd', hq', e.symm⟩
    · rw [if_neg e] at hz
      by_cases e' : c' = b
      · subst e'
        rw [hp] at hq'; cases hq'
        exact fun e => hfree ⟨c, z, q, hz, hd, hq, e⟩
      · rw [if_neg e'] at hz'
        exact hr.inj c c' z z' q q' hz hz' hd hd' hrw hq hq' hne
  · obtain ⟨c, z, q, hz, hd, hq, rfl⟩ := hk
    simp only [hget] at hz
    by_cases e : c = b
    · subst e; rw [hp] at hq; cases hq; exact .inr rfl
    · rw [if_neg e] at hz; exact .inl ⟨c, z, q, hz, hd, hq, rfl⟩

/-- a block of the model's gets a number; it is not laid yet -/
theorem HR.more (hr : HR P keep ρ h w) {b : Nat} {p : Pl} {o : Obj} (hb : ρ b = none) (hbn : b < h.next) (hheap : w'.heap = w.heap.push o) :
    HR P keep (ρ.up b p) h w' ∧ ∀ k, Own (ρ.up b p) h k → Own ρ h k := by
  have hle : ρ.le (ρ.up b p) := Pls.le_up hb
  have live : ∀ c z q, h.bs.gt c = some z → z.dead? = false → (ρ.up b p) c = some q → ρ c = some q := by
    intro c z q hz hd hq
    obtain ⟨q', hq', _⟩ := (hr.blk c z hz).place hd
    have := hle _ _ hq'
    rw [hq] at this; cases this; exact hq'
  refine ⟨⟨fun c q hc => ?_, hr.has, fun c z hz => ?_, fun c c' z z' q q' hz hz' hd hd' hrw hq hq' hne => ?_⟩, fun k hk => ?_⟩
  · unfold Pls.up at hc
    by_cases e : c = b
    · subst e; exact hbn
    · rw [if_neg e] at hc; exact hr.dom _ _ hc
  · refine ((hr.blk c z hz).frame fun q hd hq => ?_).mono hle
    obtain ⟨q', hq', hlt⟩ := (hr.blk c z hz).place hd
    rw [hq] at hq'; cases hq'
    rw [hheap, Array.getElem?_push, if_neg (by omega)]
  · exact hr.inj c c' z z' q q' hz hz' hd hd' hrw (live _ _ _ hz hd hq) (live _ _ _ hz' hd' hq') hne
  · obtain ⟨c, z, q, hz, hd, hq, rfl⟩ := hk
    exact ⟨c, z, q, hz, hd, live _ _ _ hz hd hq, rfl⟩

theorem HR.more_ownW (hr : HR P keep ρ h w) {b : Nat} {p : Pl} (hb : ρ b = none) : ∀ k, OwnW (ρ.up b p) h k → OwnW ρ h k := by
  intro k ⟨c, z, q, hz, hd, hq, e⟩
  obtain ⟨q', hq', _⟩ := (hr.blk c z hz).place (dead_of_fixed hd)
  have := (Pls.le_up (p := p) hb) _ _ hq'
  rw [hq] at this; cases this
  exact ⟨c, z, q, hz, hd, hq', e⟩
theorem mats_ownW {base : Nat} {tm vsF : Tr AV} : ∀ {l : List (Nat × GIns)} {h hm : Heap}, runMats base tm vsF l h = some hm →
    (∀ x ∈ l, ∀ y, x.2.blk vsF tm = some (some y) → ∃ p, ρ (base + x.1) = some p) →
    ∀ k, OwnW ρ hm k → OwnW ρ h k ∨ ∃ x ∈ l, ∃ p, ρ (base + x.1) = some p ∧ k = p.blk := by
  intro l
  induction l with
  | nil => intro h hm hr _ k hk; cases hr; exact .inl hk
  | cons x l ih =>
    intro h hm hr hx k hk
    rw [runMats_cons] at hr
    obtain ⟨b, h1, h2⟩ := ob_some.1 hr
    cases b with
    | none =>
      rcases ih h2 (fun y hy => hx y (List.mem_cons_of_mem _ hy)) k hk with g | ⟨y, hy, r⟩
      · exact .inl g
      · exact .inr ⟨y, List.mem_cons_of_mem _ hy, r⟩
    | some b =>
      obtain ⟨p, hpp⟩ := hx x (List.mem_cons_self ..) b h1
      rcases ih h2 (fun y hy => hx y (List.mem_cons_of_mem _ hy)) k hk with ⟨c, z, q, hz, hd, hq, rfl⟩ | ⟨y, hy, r⟩
      · simp only [Tr.gt_up] at hz
        by_cases e : c = base + x.1
        · subst e; rw [hpp] at hq; cases hq; exact .inr ⟨x, List.mem_cons_self .., p, hpp, rfl⟩
        · rw [if_neg e] at hz; exact .inl ⟨c, z, q, hz, hd, hq, rfl⟩
      · exact .inr ⟨y, List.mem_cons_of_mem _ hy, r⟩

/-- the blocks of a stage are laid -/
theorem mats_lay {base : Nat} {tm vsF : Tr AV} : ∀ {l : List (Nat × GIns)} {h hm : Heap}, runMats base tm vsF l h = some hm → HR P keep ρ h w → l.Pairwise (fun x y => x.1 ≠ y.1) →
    (∀ x ∈ l, ∀ y, x.2.blk vsF tm = some (some y) → ∃ p, ρ (base + x.1) = some p ∧ BR P keep ρ (base + x.1) y w ∧ ¬ Own ρ h p.blk) →
    (∀ x ∈ l, ∀ y ∈ l, x.1 ≠ y.1 → ∀ p q, ρ (base + x.1) = some p → ρ (base + y.1) = some q → p.blk ≠ q.blk) →
    HR P keep ρ hm w ∧ hm.next = h.next ∧ ∀ k, Own ρ hm k → Own ρ h k ∨ ∃ x ∈ l, ∃ p, ρ (base + x.1) = some p ∧ x.2.blk vsF tm ≠ some none ∧ k = p.blk := by
  intro l
  induction l with
  | nil => intro h hm hr hh _ _ _; cases hr; exact ⟨hh, rfl, fun k hk => .inl hk⟩
  | cons x l ih =>
    intro h hm hr hh hp hx hs
    rw [runMats_cons] at hr
    obtain ⟨b, h1, h2⟩ := ob_some.1 hr
    rw [List.pairwise_cons] at hp
    cases b with
    | none =>
      obtain ⟨g1, g2, g3⟩ := ih h2 hh hp.2 (fun y hy => hx y (List.mem_cons_of_mem _ hy)) (fun y hy z hz => hs y (List.mem_cons_of_mem _ hy) z (List.mem_cons_of_mem _ hz))
      exact ⟨g1, g2, fun k hk => (g3 k hk).imp id fun ⟨y, hy, r⟩ => ⟨y, List.mem_cons_of_mem _ hy, r⟩⟩
    | some b =>
      obtain ⟨p, hpp, hbr, hno⟩ := hx x (List.mem_cons_self ..) b h1
      obtain ⟨m1, m2⟩ := hh.mat hpp (hh.dom _ _ hpp) hbr hno
      obtain ⟨g1, g2, g3⟩ := ih h2 m1 hp.2 (fun y hy z hz => by
        obtain ⟨q, a1, a2, a3⟩ := hx y (List.mem_cons_of_mem _ hy) z hz
        refine ⟨q, a1, a2, fun ho => ?_⟩
        rcases m2 _ ho with ho | ho
        · exact a3 ho
        · exact hs y (List.mem_cons_of_mem _ hy) x (List.mem_cons_self ..) (fun e => hp.1 y hy e.symm) q p a1 hpp ho)
        (fun y hy z hz => hs y (List.mem_cons_of_mem _ hy) z (List.mem_cons_of_mem _ hz))
      refine ⟨g1, g2, fun k hk => ?_⟩
      rcases g3 k hk with ho | ⟨y, hy, r⟩
      · rcases m2 k ho with ho | ho
        · exact .inl ho
        · exact .inr ⟨x, List.mem_cons_self .., p, hpp, (by rw [h1]; intro e; cases e), ho⟩
      · exact .inr ⟨y, List.mem_cons_of_mem _ hy, r⟩
end

/-- what is fixed for one run of a region -/
structure DC where
  P : Program
  keep : Keeps
  kp : Nat → Bool
  nt : Nat
  ops : Array Oper
  call : CallFn
  tm : Tr AV
  vsF : Tr AV
  hF : Heap
  ρ0 : Pls
  h0 : Heap
  w0 : World
  a0 : Act

namespace DC
def b (c : DC) : Array Nat := Region.before c.ops
noncomputable def gs (c : DC) : List (Nat × GIns) := (List.range c.ops.size).map fun i => (i, compD1 c.P c.kp c.nt c.ops i)
noncomputable def es (c : DC) : List Nat := (c.gs.filter fun x => x.2.i.eff).map (·.1)
def dst (c : DC) (j : Nat) : Option Nat := (c.ops[j]?).bind (·.dst)
noncomputable def f (c : DC) (i : Nat) : GIns := compD1 c.P c.kp c.nt c.ops i
end DC

structure DI (c : DC) (S : Nat → Prop) (done : List Nat) (rest : List (Nat × GIns)) (h : Heap) (ρ : Pls) (a : Act) (w : World) : Prop where
  run : Run c.gs c.b c.es c.h0.next c.tm c.vsF c.call c.hF done.length rest h
  split : c.es = done ++ rest.map (·.1)
  doneS : ∀ e ∈ done, S e
  restS : ∀ x ∈ rest, ¬ S x.1
  restG : ∀ x ∈ rest, x.2 = c.f x.1
  down : ∀ i j, S i → bef c.b i j = true → S j
  hr : HR c.P c.keep ρ h w
  hn : c.h0.next + c.ops.size ≤ h.next
  le : c.ρ0.le ρ
  fr : Fr c.ρ0 c.h0 c.w0 w
  own : ∀ k, k < c.w0.heap.size → Own ρ h k → Own c.ρ0 c.h0 k
  ownW : ∀ k, k < c.w0.heap.size → OwnW ρ h k → OwnW c.ρ0 c.h0 k
  new : ∀ b p, ρ b = some p → b < c.h0.next → c.ρ0 b = some p
  size : a.tmps.size = c.a0.tmps.size
  defers : a.defers = c.a0.defers
  tm0 : ∀ t, (∀ j, S j → c.dst j ≠ some t) → a.tmps.getD t undef = c.a0.tmps.getD t undef
  tm1 : ∀ j t v, S j → c.dst j = some t → (∀ j', S j' → c.dst j' = some t → j' ≤ j) → c.vsF.gt j = some v → VR ρ v (a.tmps.getD t undef)
  pend : ∀ i y, i < c.ops.size → S i → done.length ≤ hiOf c.b c.es i → (c.f i).blk c.vsF c.tm = some (some y) →
    ∃ p, ρ (c.h0.next + i) = some p ∧ BR c.P c.keep ρ (c.h0.next + i) y w ∧ c.w0.heap.size ≤ p.blk ∧ p.blk < w.heap.size ∧ ¬ Own ρ h p.blk
  sep : ∀ i i' p p', i < c.ops.size → i' < c.ops.size → i ≠ i' → ρ (c.h0.next + i) = some p → ρ (c.h0.next + i') = some p' → p.blk ≠ p'.blk
  old : ∀ i p, i < c.ops.size → ρ (c.h0.next + i) = some p → c.w0.heap.size ≤ p.blk ∧ p.blk < w.heap.size
  free : ∀ i, i < c.ops.size → ¬ S i → ρ (c.h0.next + i) = none

/-- what holds of the region throughout -/
structure DOk (c : DC) : Prop where
  graph : GraphOk c.ops
  chain : chainOk c.b c.es = true
  good : ∀ i, i < c.ops.size → (c.f i).i.isBad = false
  names : NamesOk c.P
  calls : CallOk c.P c.keep c.call
  still : ∀ i, i < c.ops.size → (c.f i).i.eff = false → (c.f i).i.reads = false → ∃ v, c.vsF.gt i = some v ∧ ∀ h, (c.f i).quiet c.vsF c.tm (c.h0.next + i) h = some v
  tr : TR c.kp c.nt c.ρ0 c.tm c.a0.tmps
end Go.Am

/-
  AM, 26: on the way through a region that draws its order.
-/
namespace Go.Am
section
variable {c : DC} {S : Nat → Prop} {done : List Nat} {rest : List (Nat × GIns)} {h : Heap} {ρ : Pls} {a : Act} {w : World} {i : Nat} {o : Oper}

theorem gs_pairwise (c : DC) : c.gs.Pairwise (fun x y => x.1 ≠ y.1) := by
  unfold DC.gs
  rw [List.pairwise_map]
  exact List.nodup_range.imp fun h => h
theorem mem_gs {x : Nat × GIns} : x ∈ c.gs ↔ x.1 < c.ops.size ∧ x.2 = c.f x.1 := by
  unfold DC.gs DC.f
  rw [List.mem_map]
  constructor
  · rintro ⟨i, hi, rfl⟩; exact ⟨List.mem_range.1 hi, rfl⟩
  · rintro ⟨h1, h2⟩; exact ⟨x.1, List.mem_range.2 h1, by rw [← h2]⟩
theorem mem_es {e : Nat} : e ∈ c.es ↔ e < c.ops.size ∧ (c.f e).i.eff = true := by
  unfold DC.es
  rw [List.mem_map]
  constructor
  · rintro ⟨x, hx, rfl⟩
    rw [List.mem_filter] at hx
    obtain ⟨h1, h2⟩ := mem_gs.1 hx.1
    exact ⟨h1, by rw [← h2]; exact hx.2⟩
  · rintro ⟨h1, h2⟩
    exact ⟨(e, c.f e), List.mem_filter.2 ⟨mem_gs.2 ⟨h1, rfl⟩, h2⟩, rfl⟩

theorem dst_eq (ho : c.ops[i]? = some o) : c.dst i = o.dst := by unfold DC.dst; rw [ho]; rfl
theorem dst_lt {j t : Nat} (h : c.dst j = some t) : j < c.ops.size := by
  unfold DC.dst at h
  cases hj : c.ops[j]? with
  | none => rw [hj] at h; cases h
  | some x => exact (Array.getElem?_eq_some_iff.1 hj).1
theorem dst_named (ho : c.ops[i]? = some o) {t : Nat} (h : c.dst i = some t) : t ∈ namesOf c.ops o := by
  rw [dst_eq ho] at h
  unfold namesOf
  simp [h]

/-- nobody behind who writes what it names is done -/
theorem later_not (k : DOk c) (d : DI c S done rest h ρ a w) (hS : ¬ S i) (ho : c.ops[i]? = some o) {t j : Nat} (ht : t ∈ namesOf c.ops o) (hj : S j) (hd : c.dst j = some t) : j < i := by
  rcases Nat.lt_trichotomy j i with h1 | h1 | h1
  · exact h1
  · subst h1; exact absurd hj hS
  · rcases k.graph.names i j o t ho (dst_lt hd) (by omega) hd ht with h2 | h2
    · have := bef_lt k.graph i j h2; omega
    · exact absurd (d.down j i hj h2) hS

theorem env_ok (k : DOk c) (d : DI c S done rest h ρ a w) (hS : ¬ S i) (hready : ∀ j, bef c.b i j = true → S j) (ho : c.ops[i]? = some o) : EnvOk (findN c.kp c.ops o i) [] c.vsF c.tm ρ a := by
  intro t x v hx hg
  unfold findN at hx
  split at hx
  · rename_i hn
    have hn : t ∈ namesOf c.ops o := by simpa using hn
    unfold findOpi at hx
    cases hw : writer c.ops t i with
    | some j =>
      rw [hw] at hx; cases hx
      obtain ⟨h1, h2, h3⟩ := writer_some hw
      have hj : S j := hready j (k.graph.first i o j t ho h1 h2 hn)
      refine d.tm1 j t v hj h2 (fun j' hj' hd' => ?_) hg
      have := later_not k d hS ho hn hj' hd'
      rcases Nat.lt_or_ge j j' with h4 | h4
      · exact absurd hd' (h3 j' h4 this)
      · exact h4
    | none =>
      rw [hw] at hx
      simp only at hx
      split at hx
      · rename_i hk
        cases hx
        have e := d.tm0 t (fun j hj hd => writer_none hw j (later_not k d hS ho hn hj hd) hd)
        obtain ⟨cv, h1, h2⟩ := k.tr.2 t v hk hg
        rw [e, Array.getD_eq_getD_getElem?, h1]
        exact h2.mono d.le
      · cases hx
  · cases hx

/-- one temporary more -/
theorem put_tmps (k : DOk c) (d : DI c S done rest h ρ a w) (hi : i < c.ops.size) (hS : ¬ S i) (ho : c.ops[i]? = some o) {ρ' : Pls} (hl : ρ.le ρ') {v : Value} (hv : ∀ u, c.vsF.gt i = some u → VR ρ' u v) :
    (∀ t, (∀ j, (S j ∨ j = i) → c.dst j ≠ some t) → (a.put o.dst v).tmps.getD t undef = c.a0.tmps.getD t undef) ∧
    ∀ j t u, (S j ∨ j = i) → c.dst j = some t → (∀ j', (S j' ∨ j' = i) → c.dst j' = some t → j' ≤ j) → c.vsF.gt j = some u → VR ρ' u ((a.put o.dst v).tmps.getD t undef) := by
  have hok : okDst c.nt o.dst = true := by
    obtain ⟨o', ho', h1, _⟩ := compD1_ok (k.good i hi)
    rw [ho] at ho'; cases ho'; exact h1
  have hother : ∀ t, o.dst ≠ some t → (a.put o.dst v).tmps.getD t undef = a.tmps.getD t undef := by
    intro t ht
    cases hd : o.dst with
    | none => rfl
    | some q =>
      rw [hd] at hok ht
      have hlt : q < a.tmps.size := by rw [d.size]; exact Nat.lt_of_lt_of_le (okDst_lt hok) k.tr.1
      rw [put_getD hlt, if_neg (fun e => ht (by rw [e]))]
  refine ⟨fun t ht => ?_, fun j t u hj hd hmax hu => ?_⟩
  · rw [hother t (by rw [← dst_eq ho]; exact ht i (.inr rfl))]
    exact d.tm0 t fun j hj => ht j (.inl hj)
  · by_cases e : j = i
    · subst e
      rw [dst_eq ho] at hd
      rw [hd] at hok ⊢
      have hlt : t < a.tmps.size := by rw [d.size]; exact Nat.lt_of_lt_of_le (okDst_lt hok) k.tr.1
      rw [put_getD hlt, if_pos rfl]
      exact hv u hu
    · have hj' : S j := hj.resolve_right e
      have hne : o.dst ≠ some t := by
        intro e2
        have h1 := hmax i (.inr rfl) (by rw [dst_eq ho]; exact e2)
        have h2 := later_not k d hS ho (dst_named ho (by rw [dst_eq ho]; exact e2)) hj' hd
        omega
      rw [hother t hne]
      exact (d.tm1 j t u hj' hd (fun j' h1 h2 => hmax j' (.inl h1) h2) hu).mono hl

theorem lo_le (d : DI c S done rest h ρ a w) (hready : ∀ j, bef c.b i j = true → S j) : loOf c.b c.es i ≤ done.length := by
  unfold loOf
  rw [d.split, List.filter_append]
  have : (rest.map (·.1)).filter (fun e => bef c.b i e) = [] := by
    rw [List.filter_eq_nil_iff]
    intro e he hb
    obtain ⟨x, hx, rfl⟩ := List.mem_map.1 he
    exact d.restS x hx (hready _ hb)
  rw [this, List.append_nil]
  exact List.length_filter_le _ _
theorem done_all (d : DI c S done rest h ρ a w) (hS : ¬ S i) : done.filter (fun e => !bef c.b e i) = done := by
  rw [List.filter_eq_self]
  intro e he
  cases hb : bef c.b e i with
  | false => rfl
  | true => exact absurd (d.down e i (d.doneS e he) hb) hS
theorem le_hi (d : DI c S done rest h ρ a w) (hS : ¬ S i) : done.length ≤ hiOf c.b c.es i := by
  unfold hiOf
  rw [d.split, List.filter_append, done_all d hS, List.length_append]
  omega

/-- AN OPERATION THAT ONLY TELLS A VALUE. -/
theorem DI.quiet (k : DOk c) (d : DI c S done rest h ρ a w) (hi : i < c.ops.size) (hS : ¬ S i) (hready : ∀ j, bef c.b i j = true → S j) (ho : c.ops[i]? = some o) (he : (c.f i).i.eff = false)
    (hb : ∀ y, (c.f i).blk c.vsF c.tm ≠ some (some y)) {v : Value} (hv : ∀ u, c.vsF.gt i = some u → VR ρ u v) : DI c (fun j => S j ∨ j = i) done rest h ρ (a.put o.dst v) w := by
  obtain ⟨t0, t1⟩ := put_tmps k d hi hS ho (Pls.le_refl ρ) hv
  refine { d with doneS := fun e h => .inl (d.doneS e h), restS := fun x hx hs => ?_, down := fun i' j hs hbf => ?_, size := (put_size _ _ _).trans d.size, defers := (put_defers _ _ _).trans d.defers, tm0 := t0, tm1 := t1, pend := fun i' y h1 h2 h3 h4 => ?_, free := fun i' h1 h2 => d.free i' h1 fun hs => h2 (.inl hs) }
  · rcases hs with hs | hs
    · exact d.restS x hx hs
    · have : x.1 ∈ c.es := by rw [d.split]; exact List.mem_append_right _ (List.mem_map_of_mem hx)
      rw [hs] at this
      rw [(mem_es.1 this).2] at he; cases he
  · rcases hs with hs | hs
    · exact .inl (d.down i' j hs hbf)
    · subst hs; exact .inl (hready j hbf)
  · rcases h2 with h2 | h2
    · exact d.pend i' y h1 h2 h3 h4
    · subst h2; exact absurd h4 (hb y)

/-- A NEW BLOCK. -/
theorem DI.alloc (k : DOk c) (d : DI c S done rest h ρ a w) (hi : i < c.ops.size) (hS : ¬ S i) (hready : ∀ j, bef c.b i j = true → S j) (ho : c.ops[i]? = some o) (he : (c.f i).i.eff = false)
    {y : Blk} {v : Value} {w' : World} {ob' : Obj} {sz : Nat} (hblk : (c.f i).blk c.vsF c.tm = some (some y)) (hos : w'.os = w.os) (hout : w'.output = w.output) (hheap : w'.heap = w.heap.push ob')
    (hbr : BR c.P c.keep (ρ.up (c.h0.next + i) ⟨w.heap.size, 0, sz⟩) (c.h0.next + i) y w') (hv : ∀ u, c.vsF.gt i = some u → VR (ρ.up (c.h0.next + i) ⟨w.heap.size, 0, sz⟩) u v) :
    DI c (fun j => S j ∨ j = i) done rest h (ρ.up (c.h0.next + i) ⟨w.heap.size, 0, sz⟩) (a.put o.dst v) w' := by
  have hfree := d.free i hi hS
  have hle : ρ.le (ρ.up (c.h0.next + i) ⟨w.heap.size, 0, sz⟩) := Pls.le_up hfree
  obtain ⟨t0, t1⟩ := put_tmps k d hi hS ho hle hv
  have hlt : c.h0.next + i < h.next := by have := d.hn; omega
  obtain ⟨m1, m2⟩ := d.hr.more (p := ⟨w.heap.size, 0, sz⟩) hfree hlt hheap
  have hsz : w'.heap.size = w.heap.size + 1 := by rw [hheap]; simp
  have hsame : ∀ n, n < w.heap.size → w'.heap[n]? = w.heap[n]? := fun n hn => by rw [hheap, Array.getElem?_push, if_neg (by omega)]
  have hup : ∀ j p, j < c.ops.size → (ρ.up (c.h0.next + i) ⟨w.heap.size, 0, sz⟩) (c.h0.next + j) = some p → (j = i ∧ p = ⟨w.heap.size, 0, sz⟩) ∨ (j ≠ i ∧ ρ (c.h0.next + j) = some p) := by
    intro j p _ hp
    unfold Pls.up at hp
    by_cases e : j = i
    · subst e; rw [if_pos rfl] at hp; cases hp; exact .inl ⟨rfl, rfl⟩
    · rw [if_neg (by omega)] at hp; exact .inr ⟨e, hp⟩
  have hw0 : c.w0.heap.size ≤ w.heap.size := d.fr.size
  refine { run := d.run, split := d.split, doneS := fun e h => .inl (d.doneS e h), restS := fun x hx hs => ?_, restG := d.restG, down := fun i' j hs hb => ?_, hr := m1, hn := d.hn, le := Pls.le_trans d.le hle, fr := ⟨hos.trans d.fr.os, hout.trans d.fr.output, by omega, fun n hn ho => (hsame n (by omega)).trans (d.fr.sameW n hn ho)⟩, own := fun n hn ho => d.own n hn (m2 n ho), ownW := fun n hn ho => d.ownW n hn (d.hr.more_ownW hfree n ho), new := fun b p hp hlt => ?_, size := (put_size _ _ _).trans d.size, defers := (put_defers _ _ _).trans d.defers, tm0 := t0, tm1 := t1, pend := fun i' y' h1 h2 h3 h4 => ?_, sep := fun j j' p p' hj hj' hne hp hp' => ?_, old := fun j p hj hp => ?_, free := fun i' h1 h2 => ?_ }
  · rcases hs with hs | hs
    · exact d.restS x hx hs
    · have : x.1 ∈ c.es := by rw [d.split]; exact List.mem_append_right _ (List.mem_map_of_mem hx)
      rw [hs] at this
      rw [(mem_es.1 this).2] at he; cases he
  · rcases hs with hs | hs
    · exact .inl (d.down i' j hs hb)
    · subst hs; exact .inl (hready j hb)
  · unfold Pls.up at hp
    rw [if_neg (by omega)] at hp
    exact d.new b p hp hlt
  · by_cases e : i' = i
    · subst e
      rw [hblk] at h4; cases h4
      refine ⟨_, Pls.up_same _ _ _, hbr, hw0, by rw [hsz]; exact Nat.lt_succ_self _, fun ho => ?_⟩
      obtain ⟨b, z, q, hz, hd, hq, e⟩ := m2 _ ho
      obtain ⟨q', hq', hlt'⟩ := (d.hr.blk b z hz).place hd
      rw [hq] at hq'; cases hq'
      simp only at e; omega
    · obtain ⟨p, g1, g2, g3, g4, g5⟩ := d.pend i' y' h1 (h2.resolve_right e) h3 h4
      refine ⟨p, hle _ _ g1, (g2.frame fun q _ hq => ?_).mono hle, g3, by omega, fun ho => g5 (m2 _ ho)⟩
      rw [g1] at hq; cases hq
      exact hsame _ g4
  · rcases hup j p hj hp with ⟨e1, e2⟩ | ⟨e1, e2⟩ <;> rcases hup j' p' hj' hp' with ⟨e3, e4⟩ | ⟨e3, e4⟩
    · omega
    · have := (d.old j' p' hj' e4).2; subst e2; simp only; omega
    · have := (d.old j p hj e2).2; subst e4; simp only; omega
    · exact d.sep j j' p p' hj hj' hne e2 e4
  · rcases hup j p hj hp with ⟨e1, e2⟩ | ⟨e1, e2⟩
    · subst e2; simp only; omega
    · have := d.old j p hj e2; omega
  · unfold Pls.up
    have hne : i' ≠ i := fun e => h2 (.inr e)
    rw [if_neg (by omega)]
    exact d.free i' h1 fun hs => h2 (.inl hs)
end
end Go.Am

/-
  AM, 27: a region that draws its order.
-/
namespace Go.Am
section
variable {c : DC} {S : Nat → Prop} {done : List Nat} {rest : List (Nat × GIns)} {h : Heap} {ρ : Pls} {a : Act} {w : World} {i : Nat} {o : Oper}

/-- the blocks that have to lie by now are laid -/
theorem DI.lay (d : DI c S done rest h ρ a w) {hm : Heap} (hst : StOk c.gs c.b c.es c.h0.next c.tm c.vsF done.length h hm) (hall : ∀ j, j < c.ops.size → hiOf c.b c.es j = done.length → S j) :
    HR c.P c.keep ρ hm w ∧ hm.next = h.next ∧ ∀ k, Own ρ hm k → Own ρ h k ∨ ∃ j p, j < c.ops.size ∧ S j ∧ hiOf c.b c.es j = done.length ∧ ρ (c.h0.next + j) = some p ∧ k = p.blk := by
  have hm' : ∀ {x}, x ∈ (c.gs.filter fun x => x.2.i.allocs && decide (hiOf c.b c.es x.1 = done.length)) → x.1 < c.ops.size ∧ x.2 = c.f x.1 ∧ hiOf c.b c.es x.1 = done.length := by
    intro x hx
    simp only [List.mem_filter, Bool.and_eq_true, decide_eq_true_eq] at hx
    obtain ⟨h1, h2⟩ := mem_gs.1 hx.1
    exact ⟨h1, h2, hx.2.2⟩
  obtain ⟨g1, g2, g3⟩ := mats_lay hst.2 d.hr ((gs_pairwise c).filter _) (fun x hx y hy => by
      obtain ⟨h1, h2, h3⟩ := hm' hx
      rw [h2] at hy
      obtain ⟨p, q1, q2, _, _, q3⟩ := d.pend x.1 y h1 (hall _ h1 h3) (by omega) hy
      exact ⟨p, q1, q2, q3⟩)
    (fun x hx y hy hne p q hp hq => d.sep x.1 y.1 p q (hm' hx).1 (hm' hy).1 hne hp hq)
  refine ⟨g1, g2, fun k hk => (g3 k hk).imp id fun ⟨x, hx, p, hp, _, e⟩ => ?_⟩
  obtain ⟨h1, h2, h3⟩ := hm' hx
  exact ⟨x.1, p, h1, hall _ h1 h3, h3, hp, e⟩

theorem DI.layW (d : DI c S done rest h ρ a w) {hm : Heap} (hst : StOk c.gs c.b c.es c.h0.next c.tm c.vsF done.length h hm) (hall : ∀ j, j < c.ops.size → hiOf c.b c.es j = done.length → S j) :
    ∀ k, OwnW ρ hm k → OwnW ρ h k ∨ ∃ j p, j < c.ops.size ∧ ρ (c.h0.next + j) = some p ∧ k = p.blk := by
  have hm' : ∀ {x}, x ∈ (c.gs.filter fun x => x.2.i.allocs && decide (hiOf c.b c.es x.1 = done.length)) → x.1 < c.ops.size ∧ x.2 = c.f x.1 ∧ hiOf c.b c.es x.1 = done.length := by
    intro x hx
    simp only [List.mem_filter, Bool.and_eq_true, decide_eq_true_eq] at hx
    obtain ⟨h1, h2⟩ := mem_gs.1 hx.1
    exact ⟨h1, h2, hx.2.2⟩
  have g3 := mats_ownW (ρ := ρ) hst.2 (fun x hx y hy => by
      obtain ⟨h1, h2, h3⟩ := hm' hx
      rw [h2] at hy
      obtain ⟨p, q1, _⟩ := d.pend x.1 y h1 (hall _ h1 h3) (by omega) hy
      exact ⟨p, q1⟩)
  exact fun k hk => (g3 k hk).imp id fun ⟨x, hx, p, hp, e⟩ => ⟨x.1, p, (hm' hx).1, hp, e⟩

theorem chain_mid : ∀ {l : List Nat} {x : Nat} {r : List Nat} {b : Array Nat}, chainOk b (l ++ x :: r) = true → ∀ y ∈ r, bef b y x = true
  | [], x, r, b, h, y, hy => by
    simp only [List.nil_append, chainOk, Bool.and_eq_true, List.all_eq_true] at h
    exact h.1 y hy
  | z :: l, x, r, b, h, y, hy => by
    simp only [List.cons_append, chainOk, Bool.and_eq_true] at h
    exact chain_mid h.2 y hy

/-- an operation that writes is the next one -/
theorem DI.head (k : DOk c) (d : DI c S done rest h ρ a w) (hi : i < c.ops.size) (hS : ¬ S i) (hready : ∀ j, bef c.b i j = true → S j) (he : (c.f i).i.eff = true) : ∃ xs, rest = (i, c.f i) :: xs := by
  have hm : i ∈ c.es := mem_es.2 ⟨hi, he⟩
  rw [d.split] at hm
  rcases List.mem_append.1 hm with hm | hm
  · exact absurd (d.doneS i hm) hS
  · cases rest with
    | nil => cases hm
    | cons x xs =>
      rw [List.map_cons] at hm
      rcases List.mem_cons.1 hm with e | hm
      · exact ⟨xs, by rw [show x = (i, c.f i) from Prod.ext e.symm (by rw [d.restG x (List.mem_cons_self ..), ← e])]⟩
      · have := chain_mid (l := done) (x := x.1) (r := xs.map (·.1)) (by rw [← List.map_cons (f := fun x : Nat × GIns => x.1), ← d.split]; exact k.chain) i hm
        exact absurd (hready _ this) (d.restS x (List.mem_cons_self ..))

/-- what has to lie before it, lies -/
theorem DI.due (d : DI c S done ((i, c.f i) :: rest) h ρ a w) (hready : ∀ j, bef c.b i j = true → S j) : ∀ j, j < c.ops.size → hiOf c.b c.es j = done.length → S j := by
  intro j _ hj
  by_cases hS : S j
  · exact hS
  · have hd := done_all d hS
    unfold hiOf at hj
    rw [d.split, List.filter_append, hd, List.length_append] at hj
    have hnil : (((i, c.f i) :: rest).map (·.1)).filter (fun e => !bef c.b e j) = [] := List.length_eq_zero_iff.1 (by omega)
    rw [List.map_cons, List.filter_eq_nil_iff] at hnil
    have := hnil i (List.mem_cons_self ..)
    simp only [Bool.not_eq_true', Bool.not_eq_false] at this
    exact hready j this

/-- AN OPERATION THAT WRITES. -/
theorem DI.act (k : DOk c) (d : DI c S done ((i, c.f i) :: rest) h ρ a w) (hi : i < c.ops.size) (hS : ¬ S i) (hready : ∀ j, bef c.b i j = true → S j) (ho : c.ops[i]? = some o) (he : (c.f i).i.eff = true)
    {hm h' : Heap} {u : AV} (hnx : hm.next = h.next) (hown : ∀ k, Own ρ hm k → Own ρ h k ∨ ∃ j p, j < c.ops.size ∧ S j ∧ hiOf c.b c.es j = done.length ∧ ρ (c.h0.next + j) = some p ∧ k = p.blk)
    (hownW : ∀ k, OwnW ρ hm k → OwnW ρ h k ∨ ∃ j p, j < c.ops.size ∧ ρ (c.h0.next + j) = some p ∧ k = p.blk)
    (hu : c.vsF.gt i = some u) (hrun : Run c.gs c.b c.es c.h0.next c.tm c.vsF c.call c.hF (done.length + 1) rest h') {ρ' : Pls} {v : Value} {w' : World} (hv : VR ρ' u v) (hp : Post c.P c.keep ρ hm w ρ' h' w') :
    DI c (fun j => S j ∨ j = i) (done ++ [i]) rest h' ρ' (a.put o.dst v) w' := by
  obtain ⟨t0, t1⟩ := put_tmps k d hi hS ho hp.le (v := v) (fun u' hu' => by rw [hu] at hu'; cases hu'; exact hv)
  have hw0 : c.w0.heap.size ≤ w.heap.size := d.fr.size
  have hnew : ∀ j p, j < c.ops.size → ρ' (c.h0.next + j) = some p → ρ (c.h0.next + j) = some p := fun j p hj h1 => hp.new _ p h1 (by rw [hnx]; have := d.hn; omega)
  have hsame : ∀ n, n < c.w0.heap.size → Own ρ hm n → Own c.ρ0 c.h0 n := by
    intro n hn h1
    rcases hown n h1 with h1 | ⟨j, p, hj, _, _, hpp, e⟩
    · exact d.own n hn h1
    · have := d.old j p hj hpp; omega
  have hsameW : ∀ n, n < c.w0.heap.size → OwnW ρ hm n → OwnW c.ρ0 c.h0 n := by
    intro n hn h1
    rcases hownW n h1 with h1 | ⟨j, p, hj, hpp, e⟩
    · exact d.ownW n hn h1
    · have := d.old j p hj hpp; omega
  have hnodup : (done ++ i :: rest.map (·.1)).Nodup := by
    have := d.split
    rw [List.map_cons] at this
    rw [← this]
    unfold DC.es
    rw [List.Nodup, List.pairwise_map]
    exact ((gs_pairwise c).filter _).imp fun h => h
  refine { run := (by rw [List.length_append]; exact hrun), split := (by rw [d.split]; simp), doneS := fun e hm => ?_, restS := fun x hx hs => ?_, restG := fun x hx => d.restG x (List.mem_cons_of_mem _ hx), down := fun i' j hs hb => ?_, hr := hp.hr, hn := Nat.le_trans d.hn (by rw [← hnx]; exact hp.next), le := Pls.le_trans d.le hp.le, fr := ⟨hp.fr.os.trans d.fr.os, hp.fr.output.trans d.fr.output, Nat.le_trans d.fr.size hp.fr.size, fun n hn ho => (hp.fr.sameW n (by omega) fun h1 => ho (hsameW n hn h1)).trans (d.fr.sameW n hn ho)⟩, own := fun n hn h1 => hsame n hn (hp.own n (by omega) h1), ownW := fun n hn h1 => hsameW n hn (hp.ownW n (by omega) h1), new := fun b p h1 h2 => d.new b p (hp.new b p h1 (by rw [hnx]; have := d.hn; omega)) h2, size := (put_size _ _ _).trans d.size, defers := (put_defers _ _ _).trans d.defers, tm0 := t0, tm1 := t1, pend := fun i' y' h1 h2 h3 h4 => ?_, sep := fun j j' p p' hj hj' hne h1 h2 => d.sep j j' p p' hj hj' hne (hnew j p hj h1) (hnew j' p' hj' h2), old := fun j p hj h1 => ?_, free := fun i' h1 h2 => ?_ }
  · rcases List.mem_append.1 hm with hm | hm
    · exact .inl (d.doneS e hm)
    · exact .inr (List.mem_singleton.1 hm)
  · rcases hs with hs | hs
    · exact d.restS x (List.mem_cons_of_mem _ hx) hs
    · have h1 := (List.nodup_append.1 hnodup).2.1
      rw [List.nodup_cons] at h1
      exact h1.1 (by rw [← hs]; exact List.mem_map_of_mem hx)
  · rcases hs with hs | hs
    · exact .inl (d.down i' j hs hb)
    · subst hs; exact .inl (hready j hb)
  · rw [List.length_append, List.length_singleton] at h3
    have hne : i' ≠ i := by
      intro e
      subst e
      cases hx : (c.f i').i with
      | al f xs => rw [hx] at he; cases he
      | _ => unfold GIns.blk at h4; rw [hx] at h4; cases h4
    obtain ⟨p, g1, g2, g3, g4, g5⟩ := d.pend i' y' h1 (h2.resolve_right hne) (by omega) h4
    have hno : ¬ Own ρ hm p.blk := by
      intro h5
      rcases hown _ h5 with h5 | ⟨j, q, hj, _, hh, hq, e⟩
      · exact g5 h5
      · by_cases e2 : i' = j
        · subst e2; omega
        · exact d.sep i' j p q h1 hj e2 g1 hq e
    refine ⟨p, hp.le _ _ g1, (g2.frame fun q _ hq => ?_).mono hp.le, g3, Nat.lt_of_lt_of_le g4 hp.fr.size, fun h5 => hno (hp.own _ g4 h5)⟩
    rw [g1] at hq; cases hq
    exact hp.fr.same _ g4 hno
  · have := d.old j p hj (hnew j p hj h1)
    have := hp.fr.size
    omega
  · cases hc : ρ' (c.h0.next + i') with
    | none => rfl
    | some p =>
      have := hnew i' p h1 hc
      rw [d.free i' h1 fun hs => h2 (.inl hs)] at this; cases this

/-- ALL IS DONE. -/
theorem DI.finish (d : DI c S done rest h ρ a w) (hall : ∀ j, j < c.ops.size → S j) : Post c.P c.keep c.ρ0 c.h0 c.w0 ρ c.hF w := by
  have hnil : rest = [] := by
    cases rest with
    | nil => rfl
    | cons x xs =>
      have hx : x.1 ∈ c.es := by rw [d.split]; exact List.mem_append_right _ (by simp)
      exact absurd (hall _ (mem_es.1 hx).1) (d.restS x (List.mem_cons_self ..))
  subst hnil
  obtain ⟨h1, h2, h3⟩ := d.lay (hm := c.hF) d.run (fun j hj _ => hall j hj)
  have h4 := d.layW (hm := c.hF) d.run (fun j hj _ => hall j hj)
  refine ⟨d.le, h1, d.fr, fun n hn ho => ?_, by rw [h2]; have := d.hn; omega, d.new, fun n hn ho => ?_⟩
  · rcases h3 n ho with ho | ⟨j, p, hj, _, _, hp, e⟩
    · exact d.own n hn ho
    · have := d.old j p hj hp; omega
  · rcases h4 n ho with ho | ⟨j, p, hj, hp, e⟩
    · exact d.ownW n hn ho
    · have := d.old j p hj hp; omega
end
end Go.Am

/-
  AM, 28: a region that draws its order, whatever order.
-/
namespace Go.Am
section
variable {c : DC} {ro : Option Nat} {Q : Exit → Act → World → Prop}

theorem filter_len_le {α : Type} {p q : α → Bool} : ∀ {l : List α}, (∀ x ∈ l, p x = true → q x = true) → (l.filter p).length ≤ (l.filter q).length
  | [], _ => Nat.le_refl _
  | x :: l, h => by
    have ih := filter_len_le (l := l) fun y hy => h y (List.mem_cons_of_mem _ hy)
    simp only [List.filter_cons]
    cases hp : p x with
    | true => rw [h x (List.mem_cons_self ..) hp]; simp; exact ih
    | false => cases hq : q x <;> simp <;> omega

theorem filter_len_lt {α : Type} {p q : α → Bool} : ∀ {l : List α} {x : α}, x ∈ l → p x = false → q x = true → (∀ x ∈ l, p x = true → q x = true) → (l.filter p).length < (l.filter q).length
  | y :: l, x, hx, hp, hq, h => by
    have ih := filter_len_le (l := l) fun y hy => h y (List.mem_cons_of_mem _ hy)
    simp only [List.filter_cons]
    rcases List.mem_cons.1 hx with e | hx
    · subst e
      rw [hp, hq]; simp; omega
    · have ih2 := filter_len_lt hx hp hq fun y hy => h y (List.mem_cons_of_mem _ hy)
      cases hp2 : p y with
      | true => rw [h y (List.mem_cons_self ..) hp2]; simp; exact ih2
      | false => cases hq2 : q y <;> simp <;> omega

theorem getD_both {l : Array Bool} {j : Nat} (h : j < l.size) (x y : Bool) : l.getD j x = l.getD j y := by simp [Array.getD_eq_getD_getElem?, h]
theorem getD_set {l : Array Bool} {i j : Nat} (hi : i < l.size) : ((l.setIfInBounds i true).getD j false = true) ↔ (l.getD j false = true ∨ j = i) := by
  simp only [Array.getD_eq_getD_getElem?, Array.getElem?_setIfInBounds]
  by_cases e : i = j
  · subst e; simp [hi]
  · rw [if_neg e]
    constructor
    · exact .inl
    · rintro (h | h)
      · exact h
      · exact absurd h.symm e

theorem draw_any (k : DOk c) (hq : ∀ S done rest h ρ a w, DI c S done rest h ρ a w → (∀ j, j < c.ops.size → S j) → Q .normal a w) :
    ∀ (fuel : Nat) (listed : Array Bool) (done : List Nat) (rest : List (Nat × GIns)) (h : Heap) (ρ : Pls) (a : Act) (w : World), listed.size = c.ops.size → DI c (fun j => listed.getD j false = true) done rest h ρ a w →
      ((List.range c.ops.size).filter fun i => !listed.getD i true).length ≤ fuel → wpAnyIn (fen ro) 0 c.P .any c.ops Q fuel listed a w := by
  have stop : ∀ (listed : Array Bool) (done : List Nat) (rest : List (Nat × GIns)) (h : Heap) (ρ : Pls) (a : Act) (w : World), listed.size = c.ops.size → DI c (fun j => listed.getD j false = true) done rest h ρ a w → Region.ready .any c.ops listed = [] → Q .normal a w := by
    intro listed done rest h ρ a w hsz d hr
    refine hq _ done rest h ρ a w d fun j => ?_
    induction j using Nat.strongRecOn with
    | _ j ih =>
      intro hj
      cases hl : listed.getD j false with
      | true => rfl
      | false =>
        obtain ⟨o, ho⟩ : ∃ o, c.ops[j]? = some o := ⟨_, Array.getElem?_eq_getElem hj⟩
        have : j ∈ Region.ready .any c.ops listed := mem_ready.2 ⟨by rw [getD_both (by omega) true false]; exact hl, o, ho, fun e he hb => ih e.on (k.graph.back j o ho e he hb) (by have := k.graph.back j o ho e he hb; omega)⟩
        rw [hr] at this; cases this
  intro fuel
  induction fuel with
  | zero =>
    intro listed done rest h ρ a w hsz d hf
    have hnil : Region.ready .any c.ops listed = [] := by
      cases hr : Region.ready .any c.ops listed with
      | nil => rfl
      | cons i r =>
        have hi : i ∈ Region.ready .any c.ops listed := by rw [hr]; exact List.mem_cons_self ..
        obtain ⟨h1, o, ho, _⟩ := mem_ready.1 hi
        have hlt : i < c.ops.size := (Array.getElem?_eq_some_iff.1 ho).1
        have hm : i ∈ ((List.range c.ops.size).filter fun i => !listed.getD i true) := List.mem_filter.2 ⟨List.mem_range.2 hlt, by rw [h1]; rfl⟩
        have := List.length_pos_of_mem hm
        omega
    exact ⟨hnil, stop listed done rest h ρ a w hsz d hnil⟩
  | succ fuel ih =>
    intro listed done rest h ρ a w hsz d hf
    refine ⟨stop listed done rest h ρ a w hsz d, fun i hi => ?_⟩
    obtain ⟨h1, o, ho, hpre⟩ := mem_ready.1 hi
    have hlt : i < c.ops.size := (Array.getElem?_eq_some_iff.1 ho).1
    have hS : ¬ (listed.getD i false = true) := by rw [getD_both (by omega) false true, h1]; simp
    have hready : ∀ j, bef c.b i j = true → listed.getD j false = true := by
      intro j hj
      obtain ⟨o', ho', e, he, hb, h2⟩ := before_spec (fun o ho => k.graph.back i o ho) hj
      rw [ho] at ho'; cases ho'
      rcases h2 with rfl | h2
      · exact hpre e he hb
      · exact d.down _ _ (hpre e he hb) h2
    have hgood := k.good i hlt
    have henv := env_ok k d hS hready ho
    -- on with the rest
    have next : ∀ {done' : List Nat} {rest' : List (Nat × GIns)} {h' : Heap} {ρ' : Pls} {a' : Act} {w' : World}, DI c (fun j => listed.getD j false = true ∨ j = i) done' rest' h' ρ' a' w' → wpAnyIn (fen ro) 0 c.P .any c.ops Q fuel (listed.setIfInBounds i true) a' w' := by
      intro done' rest' h' ρ' a' w' d'
      have hS' : (fun j => (listed.setIfInBounds i true).getD j false = true) = (fun j => listed.getD j false = true ∨ j = i) := funext fun j => propext (getD_set (by omega))
      refine ih _ done' rest' h' ρ' a' w' (by simp [hsz]) (by rw [hS']; exact d') ?_
      have hlt2 : ((List.range c.ops.size).filter fun j => !(listed.setIfInBounds i true).getD j true).length < ((List.range c.ops.size).filter fun i => !listed.getD i true).length := by
        refine filter_len_lt (x := i) (List.mem_range.2 hlt) ?_ (by rw [h1]; rfl) fun j hj hp => ?_
        · rw [getD_both (by simp; omega) true false, (getD_set (by omega)).2 (.inr rfl)]; rfl
        · have hjl : j < listed.size := by have := List.mem_range.1 hj; omega
          cases hlj : listed.getD j true with
          | false => rfl
          | true =>
            rw [getD_both (by simp; omega) true false, (getD_set (by omega)).2 (.inl (by rw [getD_both hjl false true]; exact hlj))] at hp
            cases hp
      omega
    by_cases heff : (c.f i).i.eff = true
    · obtain ⟨xs, hrest⟩ := d.head k hlt hS hready heff
      subst hrest
      obtain ⟨hm, u, h', hst, hu, hev, hrun⟩ := d.run
      obtain ⟨l1, l2, l3⟩ := d.lay hst (d.due hready)
      refine act_step (h := hm) k.names k.calls l1 hgood ho henv (Nat.le_refl _) hev (fun ρ' v w' hv hp => next (d.act k hlt hS hready ho heff l2 l3 (d.layW hst (d.due hready)) hu hrun hv hp))
    · have heff : (c.f i).i.eff = false := by simpa using heff
      by_cases hal : (c.f i).i.allocs = true
      · have hrd : (c.f i).i.reads = false := by
          cases hx : (c.f i).i with
          | al f xs => rfl
          | _ => rw [hx] at hal; cases hal
        obtain ⟨u, hu, hqt⟩ := k.still i hlt heff hrd
        refine alloc_step d.hr hgood ho henv hal (hqt h) (d.free i hlt hS) (fun hb v hv => ?_) (fun y v w' ob' sz hb hos hout hheap hbr hv => ?_)
        · exact next (d.quiet k hlt hS hready ho heff (fun y e => by rw [show (c.f i).blk c.vsF c.tm = some none from hb] at e; cases e) (fun u' hu' => by rw [hu] at hu'; cases hu'; exact hv))
        · exact next (d.alloc k hlt hS hready ho heff hb hos hout hheap hbr (fun u' hu' => by rw [hu] at hu'; cases hu'; exact hv))
      · have hal : (c.f i).i.allocs = false := by simpa using hal
        have hqt : ∃ u hx, c.vsF.gt i = some u ∧ HR c.P c.keep ρ hx w ∧ (c.f i).quiet c.vsF c.tm (c.h0.next + i) hx = some u := by
          cases hrd : (c.f i).i.reads with
          | false => obtain ⟨u, hu, hqt⟩ := k.still i hlt heff hrd; exact ⟨u, h, hu, d.hr, hqt h⟩
          | true =>
            obtain ⟨hm, hst⟩ := d.run.get
            obtain ⟨u, hu, hq⟩ := hst.1 (i, c.f i) (mem_gs.2 ⟨hlt, rfl⟩) heff (lo_le d hready) (le_hi d hS) (.inl hrd)
            obtain ⟨hx, h2, h3⟩ := ob_some.1 hq
            have hown : ∀ {x}, x ∈ ownAt c.b c.gs c.es done.length (i, c.f i) → x.1 < c.ops.size ∧ x.2 = c.f x.1 ∧ listed.getD x.1 false = true ∧ done.length ≤ hiOf c.b c.es x.1 := by
              intro x hx
              unfold ownAt at hx
              rw [hrd] at hx
              have hx : x ∈ c.gs.filter fun y => y.2.i.allocs && bef c.b i y.1 && decide (done.length ≤ hiOf c.b c.es y.1) := hx
              simp only [List.mem_filter, Bool.and_eq_true, decide_eq_true_eq] at hx
              obtain ⟨q1, ⟨_, q2⟩, q3⟩ := hx
              obtain ⟨q4, q5⟩ := mem_gs.1 q1
              exact ⟨q4, q5, hready _ q2, q3⟩
            have hpw : (ownAt c.b c.gs c.es done.length (i, c.f i)).Pairwise (fun x y => x.1 ≠ y.1) := by
              unfold ownAt
              rw [hrd]
              exact (gs_pairwise c).filter _
            obtain ⟨g1, _, _⟩ := mats_lay h2 d.hr hpw (fun x hx y hy => by
                obtain ⟨q1, q2, q3, q4⟩ := hown hx
                rw [q2] at hy
                obtain ⟨p, r1, r2, _, _, r3⟩ := d.pend x.1 y q1 q3 q4 hy
                exact ⟨p, r1, r2, r3⟩)
              (fun x hx y hy hne p q hp hq => d.sep x.1 y.1 p q (hown hx).1 (hown hy).1 hne hp hq)
            exact ⟨u, hx, hu, g1, h3⟩
        obtain ⟨u, hx, hu, hhx, hqt⟩ := hqt
        refine quiet_step hhx hgood ho henv hal hqt (fun v hv => ?_)
        refine next (d.quiet k hlt hS hready ho heff (fun y e => ?_) (fun u' hu' => by rw [hu] at hu'; cases hu'; exact hv))
        cases hx : (c.f i).i with
        | al f xs => rw [hx] at hal; cases hal
        | _ => unfold GIns.blk at e; rw [hx] at e; cases e
end
end Go.Am

/-
  AM, 29: a region that draws its order, as it is compiled.
-/
namespace Go.Am
section
variable {P : Program} {keep : Keeps} {w : World} {ρ : Pls} {h : Heap}

/-! ### the last writers -/
theorem outsOf_mem {kp : Nat → Bool} {t k' : Nat} : ∀ {ds : List (Option Nat)} {k : Nat} {seen : List Nat}, (t, k') ∈ outsOf kp k ds seen →
    t ∉ seen ∧ kp t = true ∧ k ≤ k' ∧ ds[k' - k]? = some (some t) ∧ ∀ m, m < k' - k → ds[m]? ≠ some (some t)
  | [], k, seen, h => by cases h
  | d :: ds, k, seen, h => by
    have skip : ∀ {seen' : List Nat}, (t, k') ∈ outsOf kp (k + 1) ds seen' → t ∉ seen → (∀ s, s ∈ seen → s ∈ seen') → d ≠ some t → t ∉ seen ∧ kp t = true ∧ k ≤ k' ∧ (d :: ds)[k' - k]? = some (some t) ∧ ∀ m, m < k' - k → (d :: ds)[m]? ≠ some (some t) := by
      intro seen' h hs hsub hd
      obtain ⟨h1, h2, h3, h4, h5⟩ := outsOf_mem h
      refine ⟨hs, h2, by omega, ?_, fun m hm => ?_⟩
      · rw [show k' - k = (k' - (k + 1)) + 1 by omega]; simpa using h4
      · cases m with
        | zero => simpa using hd
        | succ m => simpa using h5 m (by omega)
    simp only [outsOf] at h
    cases d with
    | none =>
      simp only at h
      exact skip h (outsOf_mem h).1 (fun s hs => hs) (by intro e; cases e)
    | some s =>
      simp only at h
      split at h
      · rename_i hc
        simp only [Bool.and_eq_true, Bool.not_eq_true', List.contains_eq_mem, decide_eq_false_iff_not] at hc
        rcases List.mem_cons.1 h with e | h
        · cases e
          exact ⟨hc.2, hc.1, Nat.le_refl _, by simp, fun m hm => by omega⟩
        · have h1 := (outsOf_mem h).1
          simp only [List.mem_cons, not_or] at h1
          exact skip h h1.2 (fun s hs => List.mem_cons_of_mem _ hs) (by intro e; cases e; exact h1.1 rfl)
      · rename_i hc
        have h1 := outsOf_mem h
        refine skip h h1.1 (fun s hs => hs) (fun e => ?_)
        cases e
        simp only [Bool.and_eq_true, Bool.not_eq_true', List.contains_eq_mem, decide_eq_false_iff_not, not_and, Decidable.not_not] at hc
        exact h1.1 (hc h1.2.1)
theorem outsOf_has {kp : Nat → Bool} {t : Nat} (hk : kp t = true) : ∀ {ds : List (Option Nat)} {k : Nat} {seen : List Nat}, some t ∈ ds → t ∉ seen → ∃ k', (t, k') ∈ outsOf kp k ds seen
  | [], k, seen, h, _ => by cases h
  | d :: ds, k, seen, h, hs => by
    simp only [outsOf]
    cases d with
    | none =>
      rcases List.mem_cons.1 h with e | h
      · cases e
      · exact outsOf_has hk h hs
    | some s =>
      simp only
      by_cases e : s = t
      · subst e
        rw [if_pos (by rw [hk]; simpa using hs)]
        exact ⟨k, List.mem_cons_self ..⟩
      · have h : some t ∈ ds := by
          rcases List.mem_cons.1 h with e2 | h
          · cases e2; exact absurd rfl e
          · exact h
        split
        · obtain ⟨k', h1⟩ := outsOf_has hk (k := k + 1) (seen := s :: seen) h (by simp only [List.mem_cons, not_or]; exact ⟨fun h => e h.symm, hs⟩)
          exact ⟨k', List.mem_cons_of_mem _ h1⟩
        · exact outsOf_has hk h hs

theorem putOutsD_cons (x : Nat × Nat) (l : List (Nat × Nat)) (vs tm : Tr AV) : putOutsD (x :: l) vs tm = ob (vs.gt x.2) fun v => putOutsD l vs (tm.up (some v) x.1) := rfl
theorem putOutsD_get : ∀ {outs : List (Nat × Nat)} {vs tm tm' : Tr AV}, putOutsD outs vs tm = some tm' →
    ∀ t, (∃ j v, (t, j) ∈ outs ∧ vs.gt j = some v ∧ tm'.gt t = some v) ∨ ((∀ j, (t, j) ∉ outs) ∧ tm'.gt t = tm.gt t)
  | [], vs, tm, tm', h, t => by cases h; exact .inr ⟨fun x hx => (by cases hx), rfl⟩
  | o :: os, vs, tm, tm', h, t => by
    rw [putOutsD_cons] at h
    obtain ⟨v, h1, h2⟩ := ob_some.1 h
    rcases putOutsD_get h2 t with ⟨x, u, g1, g2, g3⟩ | ⟨g1, g2⟩
    · exact .inl ⟨x, u, List.mem_cons_of_mem _ g1, g2, g3⟩
    · rw [Tr.gt_up] at g2
      by_cases e : t = o.1
      · rw [if_pos e] at g2
        exact .inl ⟨o.2, v, by rw [e]; exact List.mem_cons_self .., h1, g2⟩
      · rw [if_neg e] at g2
        refine .inr ⟨fun x hx => ?_, g2⟩
        rcases List.mem_cons.1 hx with e2 | hx
        · exact e (by rw [← e2])
        · exact g1 x hx

theorem rev_get {ops : Array Oper} {m : Nat} (hm : m < ops.size) : (ops.toList.reverse.map (·.dst))[m]? = some ((ops[ops.size - 1 - m]?).bind (·.dst)) := by
  rw [List.getElem?_map, List.getElem?_reverse (by simpa using hm)]
  rw [Array.length_toList, Array.getElem?_toList]
  have : ops.size - 1 - m < ops.size := by omega
  rw [Array.getElem?_eq_getElem this]
  rfl

/-- A REGION THAT DRAWS ITS ORDER. -/
theorem draw_sound {call : CallFn} {kp : Nat → Bool} {nt id : Nat} {tm tm' : Tr AV} {ops : Array Oper} {ro : Option Nat} {Q : Exit → Act → World → Prop} {a : Act} {ss : List Stage} {outs : List (Nat × Nat)} {r : Tr AV × Heap}
    (hm : P.follows .mixedOrders = true) (hn : NamesOk P) (hc : CallOk P keep call) (hr : HR P keep ρ h w) (ht : TR kp nt ρ tm a.tmps) (hcomp : compD P kp nt ops = some (ss, outs))
    (hrun : runStages h.next tm call ss .leaf ⟨h.bs, h.next + ops.size⟩ = some r) (hout : putOutsD outs r.1 tm = some tm')
    (hq : ∀ ρ' a' w', TR kp nt ρ' tm' a'.tmps → a'.defers = a.defers → Post P keep ρ h w ρ' r.2 w' → Q .normal a' w') : (Code.region id ops true).wpIn (fen ro) 0 P Q a w := by
  refine wpIn_region_any hm ?_
  unfold compD at hcomp
  simp only at hcomp
  split at hcomp
  · rename_i hchk
    simp only [Option.some.injEq, Prod.mk.injEq] at hcomp
    obtain ⟨rfl, rfl⟩ := hcomp
    simp only [Bool.and_eq_true] at hchk
    obtain ⟨⟨⟨k1, k2⟩, k3⟩, k4⟩ := hchk
    obtain ⟨vsF, hF⟩ := r
    let w0 : World := { w with drawn := w.drawn + 1 }
    let c : DC := ⟨P, keep, kp, nt, ops, call, tm, vsF, hF, ρ, h, w0, a⟩
    have hr0 : HR P keep ρ h w0 := hr.frame fun _ _ _ _ _ _ => rfl
    have hgraph : GraphOk ops := graph_ok k1 k3
    have hp := gs_pairwise c
    have hact : ∀ x ∈ c.gs.filter (fun x => x.2.i.eff), x ∈ c.gs ∧ x.2.i.eff = true := fun x hx => by simpa using List.mem_filter.1 hx
    obtain ⟨_, hR⟩ := stages_run (b := c.b) (es := c.es) hp (show runStages h.next tm call (stagesOf c.b c.gs c.es 0 (c.gs.filter fun x => x.2.i.eff)) .leaf ⟨h.bs, h.next + ops.size⟩ = some (vsF, hF) from hrun) hact (hp.filter _) (fun _ _ _ => rfl)
    have hlen : c.es.length = (c.gs.filter fun x => x.2.i.eff).length := by unfold DC.es; rw [List.length_map]
    have k : DOk c := by
      refine ⟨hgraph, k2, fun i hi => ?_, hn, hc, fun i hi he hrd => ?_, ht⟩
      · rw [List.all_eq_true] at k4
        have := k4 (i, c.f i) (mem_gs (c := c) |>.2 ⟨hi, rfl⟩)
        simpa using this
      · refine hR.all (i, c.f i) (mem_gs.2 ⟨hi, rfl⟩) he hrd (Nat.zero_le _) ?_ ?_
        · rw [Nat.zero_add, ← hlen]
          exact List.length_filter_le _ _
        · refine filter_len_le fun e _ hb => ?_
          cases hb2 : bef c.b e i with
          | false => rfl
          | true =>
            have h1 := bef_lt hgraph _ _ hb
            have h2 := bef_lt hgraph _ _ hb2
            omega
    have hS0 : ∀ j, ¬ ((Array.replicate ops.size false).getD j false = true) := by
      intro j
      rw [Array.getD_eq_getD_getElem?, Array.getElem?_replicate]
      split <;> simp
    have hfree : ∀ i, ρ (h.next + i) = none := fun i => (hr.fresh (by omega)).1
    have d0 : DI c (fun j => (Array.replicate ops.size false).getD j false = true) [] (c.gs.filter fun x => x.2.i.eff) ⟨h.bs, h.next + ops.size⟩ ρ a w0 := by
      refine { run := hR, split := rfl, doneS := fun e he => (by cases he), restS := fun x _ => hS0 _, restG := fun x hx => (mem_gs.1 (hact x hx).1).2, down := fun i j hs => absurd hs (hS0 i), hr := ?_, hn := Nat.le_refl _, le := Pls.le_refl _, fr := ⟨rfl, rfl, Nat.le_refl _, fun _ _ _ => rfl⟩, own := fun _ _ ho => ho, ownW := fun _ _ ho => ho, new := fun _ _ hb _ => hb, size := rfl, defers := rfl, tm0 := fun _ _ => rfl, tm1 := fun j t v hj => absurd hj (hS0 j), pend := fun i y _ hs => absurd hs (hS0 i), sep := fun i i' p p' _ _ _ hp1 => ?_, old := fun i p _ hp1 => ?_, free := fun i _ _ => hfree i }
      · exact ⟨fun b p hb => Nat.lt_of_lt_of_le (hr0.dom b p hb) (Nat.le_add_right _ _), fun b x hb => Nat.lt_of_lt_of_le (hr0.has b x hb) (Nat.le_add_right _ _), hr0.blk, hr0.inj⟩
      · rw [show ρ (c.h0.next + i) = none from hfree i] at hp1; cases hp1
      · rw [show ρ (c.h0.next + i) = none from hfree i] at hp1; cases hp1
    refine draw_any (c := c) k (fun S done rest h' ρ' a' w' d hall => ?_) ops.size _ _ _ _ _ _ _ (by simp; rfl) d0 ?_
    · have hpost := d.finish hall
      refine hq ρ' a' w' ⟨by rw [d.size]; exact ht.1, fun t v hk hv => ?_⟩ d.defers ⟨hpost.le, hpost.hr, ⟨hpost.fr.os, hpost.fr.output, hpost.fr.size, hpost.fr.sameW⟩, hpost.own, hpost.next, hpost.new, hpost.ownW⟩
      have hin : ∀ {j : Nat}, c.dst j = some t → t < a'.tmps.size := by
        intro j hd
        have hj := dst_lt hd
        obtain ⟨o, ho, h1, _⟩ := compD1_ok (k.good j hj)
        rw [dst_eq ho] at hd
        rw [hd] at h1
        rw [d.size]
        exact Nat.lt_of_lt_of_le (okDst_lt h1) ht.1
      rcases putOutsD_get hout t with ⟨j, u, g1, g2, g3⟩ | ⟨g1, g2⟩
      · rw [g3] at hv; cases hv
        obtain ⟨x, hx, he⟩ := List.mem_map.1 g1
        obtain ⟨t', k'⟩ := x
        simp only [Prod.mk.injEq] at he
        obtain ⟨rfl, rfl⟩ := he
        obtain ⟨_, _, _, h4, h5⟩ := outsOf_mem hx
        rw [Nat.sub_zero] at h4 h5
        have hk' : k' < ops.size := by
          have := (List.getElem?_eq_some_iff.1 h4).1
          simpa using this
        rw [rev_get hk'] at h4
        have hd : c.dst (ops.size - 1 - k') = some t' := Option.some.inj h4
        refine ⟨_, getD_some (hin hd), d.tm1 _ t' v (hall _ (dst_lt hd)) hd (fun j' _ hd' => ?_) g2⟩
        have hj' := dst_lt hd'
        have hj' : j' < ops.size := hj'
        rcases Nat.lt_or_ge (ops.size - 1 - k') j' with h6 | h6
        · have := h5 (ops.size - 1 - j') (by omega)
          rw [rev_get (by omega), show ops.size - 1 - (ops.size - 1 - j') = j' by omega] at this
          exact absurd (congrArg some hd') this
        · exact h6
      · rw [g2] at hv
        obtain ⟨cv, h1, h2⟩ := ht.2 t v hk hv
        have hno : ∀ j, S j → c.dst j ≠ some t := by
          intro j _ hd
          have hj : j < ops.size := dst_lt hd
          have hmem : some t ∈ ops.toList.reverse.map (·.dst) := by
            have := rev_get (ops := ops) (m := ops.size - 1 - j) (by omega)
            rw [show ops.size - 1 - (ops.size - 1 - j) = j by omega] at this
            have := List.mem_of_getElem? this
            rwa [show (ops[j]?).bind (·.dst) = some t from hd] at this
          obtain ⟨k', h3⟩ := outsOf_has hk (k := 0) hmem (by simp : t ∉ ([] : List Nat))
          exact g1 _ (List.mem_map_of_mem (f := fun x : Nat × Nat => (x.1, ops.size - 1 - x.2)) h3)
        have e := d.tm0 t hno
        have hlt : t < a'.tmps.size := by rw [d.size]; exact (Array.getElem?_eq_some_iff.1 h1).1
        refine ⟨_, getD_some hlt, ?_⟩
        rw [e]
        show VR ρ' v (a.tmps.getD t undef)
        rw [Array.getD_eq_getD_getElem?, h1]
        exact h2.mono d.le
    · exact Nat.le_trans (List.length_filter_le _ _) (by simp; exact Nat.le_refl _)
  · cases hcomp
end
end Go.Am

/-
  AM, 30: code.
-/
namespace Go.Am
section
variable {P : Program} {keep : Keeps} {w w' : World} {ρ ρ' : Pls} {h h' : Heap}

/-- one call that is put off -/
def DvR (ρ : Pls) (v : AV) (d : Deferred) : Prop := ∃ (i : FuncId) (fa ca as : List AV) (cap : Array Value),
  v = .tuple (.func (.func i) fa ca :: as) ∧ d.target = .fn (.func i) cap ∧ VRs ρ ca cap.toList ∧ VRs ρ (fa ++ as) d.args.toList
/-- the calls that are put off, marks of loops among them -/
def DfR (ρ : Pls) : List AV → List Deferred → Prop
  | l, [] => l = []
  | l, d :: ds => (∃ r, d.target = .collected r ∧ DfR ρ l ds) ∨ ∃ v l', l = v :: l' ∧ DvR ρ v d ∧ DfR ρ l' ds
theorem DvR.mono (hl : ρ.le ρ') {v : AV} {d : Deferred} (h : DvR ρ v d) : DvR ρ' v d := by
  obtain ⟨i, fa, ca, as, cap, h1, h2, h3, h4⟩ := h
  exact ⟨i, fa, ca, as, cap, h1, h2, h3.mono hl, h4.mono hl⟩
theorem DfR.mono (hl : ρ.le ρ') : ∀ {ds : List Deferred} {l : List AV}, DfR ρ l ds → DfR ρ' l ds
  | [], _, h => h
  | _ :: _, _, .inl ⟨r, h1, h2⟩ => .inl ⟨r, h1, DfR.mono hl h2⟩
  | _ :: _, _, .inr ⟨v, l', h1, h2, h3⟩ => .inr ⟨v, l', h1, h2.mono hl, DfR.mono hl h3⟩

/-- from where on the marks lie; what all is that is put off, if that does not turn -/
structure DP where
  base : Nat
  pd : Option (List Deferred)

/-- the calls that are put off: marks of blocks that nobody holds and that hold nothing, and those that are told -/
def DefOk (n0 : DP) (ρ : Pls) (h : Heap) (l : List AV) (ds : List Deferred) (w : World) : Prop :=
  ((∀ d ∈ ds, ∀ r, d.target = .collected r → n0.base ≤ r ∧ w.heap[r]? = some (.deferred (some [])) ∧ ¬ Own ρ h r) ∧
  ds.Pairwise fun d e => ∀ r s, d.target = .collected r → e.target = .collected s → r ≠ s) ∧ DfR ρ l ds ∧ ∀ ds0, n0.pd = some ds0 → ds = ds0

theorem DefOk.post {n0 : DP} {l : List AV} {ds : List Deferred} (hd : DefOk n0 ρ h l ds w) (hp : Post P keep ρ h w ρ' h' w') : DefOk n0 ρ' h' l ds w' := by
  refine ⟨⟨fun d hm r h1 => ?_, hd.1.2⟩, hd.2.1.mono hp.le, hd.2.2⟩
  obtain ⟨h2, h3, h4⟩ := hd.1.1 d hm r h1
  have hlt := (Array.getElem?_eq_some_iff.1 h3).1
  exact ⟨h2, (hp.fr.same r hlt h4).trans h3, fun ho => h4 (hp.own r hlt ho)⟩

/-- an object more, which nobody holds -/
theorem Post.grow (hr : HR P keep ρ h w) {o : Obj} (hos : w'.os = w.os) (hout : w'.output = w.output) (hheap : w'.heap = w.heap.push o) : Post P keep ρ h w ρ h w' := by
  refine ⟨Pls.le_refl _, hr.frame fun b x p hx hd hp => ?_, ⟨hos, hout, by rw [hheap]; simp, fun k hk _ => ?_⟩, fun _ _ h => h, Nat.le_refl _, fun _ _ h _ => h, fun _ _ h => h⟩
  · obtain ⟨q, hq, hlt⟩ := (hr.blk b x hx).place hd
    rw [hp] at hq; cases hq
    rw [hheap, Array.getElem?_push, if_neg (by omega)]
  · rw [hheap, Array.getElem?_push, if_neg (by omega)]

/-- in which round -/
def RoR (ρ : Pls) : Option Nat → Option Nat → Prop
  | none, m => m = none
  | some l, m => ∃ p, ρ l = some p ∧ p.off = 0 ∧ m = some p.blk
theorem RoR.mono (hl : ρ.le ρ') {ro rom : Option Nat} (h : RoR ρ ro rom) : RoR ρ' ro rom := by
  cases ro with
  | none => exact h
  | some l => obtain ⟨p, h1, h2⟩ := h; exact ⟨p, hl _ _ h1, h2⟩

def exOf : Ex → Exit
  | .normal => .normal
  | .ret => .ret
  | .exit id => .exit id
  | .goto l => .goto l

/-- what is asked of the code that comes next -/
def Goes (P : Program) (keep : Keeps) (f : FuncId) (n0 : DP) (ρ : Pls) (h : Heap) (w : World) (e : Exit) (s' : St) (Q : Exit → Act → World → Prop) : Prop :=
  ∀ ρ' a' w', Post P keep ρ h w ρ' s'.hp w' → TR (keep f) (ntOf P f) ρ' s'.tm a'.tmps → DefOk n0 ρ' s'.hp (putOff s'.tm (ntOf P f)) a'.defers w' → Q e a' w'

/-- the code's run does what is told -/
def Does2 (P : Program) (keep : Keeps) (f : FuncId) (ro : Option Nat) (c : Code) (x : St → XR) : Prop :=
  ∀ s r, x s = some r → ∀ n0 ρ a w rom Q, RoR ρ ro rom → HR P keep ρ s.hp w → TR (keep f) (ntOf P f) ρ s.tm a.tmps → DefOk n0 ρ s.hp (putOff s.tm (ntOf P f)) a.defers w → n0.base ≤ w.heap.size → (n0.pd.isSome = true → plainC c = true) → Goes P keep f n0 ρ s.hp w (exOf r.1) r.2 Q →
    c.wpIn (fen rom) 0 P Q a w

theorem Goes.after {f : FuncId} {n0 : DP} {e : Exit} {s' : St} {Q : Exit → Act → World → Prop} (hg : Goes P keep f n0 ρ h w e s' Q) (hp : Post P keep ρ h w ρ' h' w') : Goes P keep f n0 ρ' h' w' e s' Q :=
  fun ρ2 a2 w2 hp2 ht hd => hg ρ2 a2 w2 (hp.trans hp2) ht hd

theorem cond_tmp {kp : Nat → Bool} {tm : Tr AV} {a : Act} {nt : Nat} (ht : TR kp nt ρ tm a.tmps) : EnvOk (fun t => if kp t then some (.tmp t) else none) [] .leaf tm ρ a := by
  intro t x v hx hg
  simp only at hx
  split at hx
  · rename_i hk
    cases hx
    obtain ⟨cv, h1, h2⟩ := ht.2 t v hk hg
    rw [Array.getD_eq_getD_getElem?, h1]; exact h2
  · cases hx

/-- walk on as a jump says -/
theorem jump_wp {c : Code} {e : Ex} {rom : Option Nat} {Q : Exit → Act → World → Prop} {a : Act} (hj : jumpEx c = some e) (hq : Q (exOf e) a w) : c.wpIn (fen rom) 0 P Q a w := by
  cases c with
  | ret => cases hj; exact wpIn_ret hq
  | exit id => cases hj; exact wpIn_exit hq
  | goto l => cases hj; exact wpIn_goto hq
  | _ => cases hj

theorem run_getLoop {b : Nat} {L : Loop} (hh : w.heap[b]? = some (.loop L)) : (Instr.getLoop b).run P w = .ok L w := by
  simp [Instr.getLoop, getObj, Sem.run, hh]
theorem run_setLoop {b : Nat} {L : Loop} (hh : w.heap[b]? = some (.loop L)) (o : Obj) : (setObj b o).run P w = .ok () { w with heap := w.heap.setIfInBounds b o } := by simp [setObj, Sem.run, hh]

/-- a loop's record is written -/
theorem HR.setLoop (hr : HR P keep ρ h w) {l : Nat} {r r' : LRec} {L L' : Loop} (hb : h.bs.gt l = some (.loop r)) {p : Pl} (hp : ρ l = some p) (h0 : p.off = 0) (hh : w.heap[p.blk]? = some (.loop L)) (hl : LR P keep ρ r' L') :
    Post P keep ρ h w ρ (h.put l (.loop r')) { w with heap := w.heap.setIfInBounds p.blk (.loop L') } := by
  have hlt := (Array.getElem?_eq_some_iff.1 hh).1
  refine hr.write hb rfl rfl hp rfl rfl (by simp) (fun k hk => ?_) ⟨p, L', hp, h0, ?_, hl⟩
  · show (w.heap.setIfInBounds p.blk _)[k]? = _
    rw [Array.getElem?_setIfInBounds, if_neg (fun e => hk e.symm)]
  · show (w.heap.setIfInBounds p.blk _)[p.blk]? = _
    rw [Array.getElem?_setIfInBounds, if_pos rfl, if_pos hlt]
end
end Go.Am

/-
  AM, 31: code: what is told of it holds.
-/
namespace Go.Am
section
variable {P : Program} {keep : Keeps} {call : CallFn} {lf : Nat} {f : FuncId} {ro : Option Nat}

theorem thenX_some {r : Ex × St} {g : St → XR} {q : Ex × St} (h : thenX r g = some q) : (r.1 = .normal ∧ g r.2 = some q) ∨ (r.1 ≠ .normal ∧ q = r) := by
  obtain ⟨e, s⟩ := r
  cases e with
  | normal => exact .inl ⟨rfl, h⟩
  | ret => cases h; exact .inr ⟨(by intro e; cases e), rfl⟩
  | exit id => cases h; exact .inr ⟨(by intro e; cases e), rfl⟩
  | goto l => cases h; exact .inr ⟨(by intro e; cases e), rfl⟩

theorem seq_sound {a b : Code} {ea eb : St → XR} (ha : Does2 P keep f ro a ea) (hb : Does2 P keep f ro b eb) : Does2 P keep f ro (.seq a b) (fun s => ob (ea s) fun r => thenX r eb) := by
  intro s r hr n0 ρ act w rom Q hro hh ht hd hn hpl hg
  obtain ⟨q, h1, h2⟩ := ob_some.1 hr
  refine wpIn_seq (ha s q h1 n0 ρ act w rom _ hro hh ht hd hn (fun e => by have := hpl e; simp only [plainC, Bool.and_eq_true] at this; exact this.1) fun ρ' a' w' hp ht' hd' => ?_)
  rcases thenX_some h2 with ⟨e, h3⟩ | ⟨e, rfl⟩
  · rw [e]
    exact hb q.2 r h3 n0 ρ' a' w' rom Q (hro.mono hp.le) hp.hr ht' hd' (Nat.le_trans hn hp.fr.size) (fun e => by have := hpl e; simp only [plainC, Bool.and_eq_true] at this; exact this.2) (hg.after hp)
  · have := hg ρ' a' w' hp ht' hd'
    cases hx : r.1 with
    | normal => exact absurd hx e
    | ret => rw [hx] at this; exact this
    | exit id => rw [hx] at this; exact this
    | goto l => rw [hx] at this; exact this

theorem block_sound {id : Nat} {a : Code} {ea : St → XR} (ha : Does2 P keep f ro a ea) : Does2 P keep f ro (.block id a) (fun s => ob (ea s) fun r => inBlk id r) := by
  intro s r hr n0 ρ act w rom Q hro hh ht hd hn hpl hg
  obtain ⟨q, h1, h2⟩ := ob_some.1 hr
  refine wpIn_block (ha s q h1 n0 ρ act w rom _ hro hh ht hd hn (fun e => hpl e) fun ρ' a' w' hp ht' hd' => ?_)
  obtain ⟨e, s'⟩ := q
  cases e with
  | normal => cases h2; exact hg ρ' a' w' hp ht' hd'
  | ret => cases h2; exact hg ρ' a' w' hp ht' hd'
  | goto l => cases h2; exact hg ρ' a' w' hp ht' hd'
  | exit j =>
    have h2 : (Bool.rec (motive := fun _ => XR) (some (Ex.exit j, s')) (some (.normal, s')) (Nat.beq j id) : XR) = some r := h2
    show (Exit.inBlock id Q) (.exit j) a' w'
    by_cases e : j = id
    · subst e
      rw [show Nat.beq j j = true from by simp] at h2
      cases h2
      simp only [Exit.inBlock, if_true]
      exact hg ρ' a' w' hp ht' hd'
    · rw [show Nat.beq j id = false from by cases hb : Nat.beq j id with
        | false => rfl
        | true => exact absurd (Nat.eq_of_beq_eq_true hb) e] at h2
      cases h2
      simp only [Exit.inBlock, if_neg e]
      exact hg ρ' a' w' hp ht' hd'

theorem cond_sound {c : Operand} {x : Opd} {a b : Code} {ea eb : St → XR} (hc : Am.resolve (fun t => if keep f t then some (.tmp t) else none) c = some x) (ha : Does2 P keep f ro a ea) (hb : Does2 P keep f ro b eb) :
    Does2 P keep f ro (.cond c a b) (fun s => ob (x.get [] .leaf s.tm) fun v => eBool (fun b => Bool.rec (motive := fun _ => XR) (eb s) (ea s) b) v) := by
  intro s r hr n0 ρ act w rom Q hro hh ht hd hn hpl hg
  obtain ⟨v, h1, h2⟩ := ob_some.1 hr
  obtain ⟨t, e, h3⟩ := eBool_some h2
  subst e
  have hv := resolve_sound (cond_tmp ht) hc h1
  cases t with
  | true => exact wpIn_cond_true hv (ha s r h3 n0 ρ act w rom Q hro hh ht hd hn (fun e => by have := hpl e; simp only [plainC, Bool.and_eq_true] at this; exact this.1) hg)
  | false => exact wpIn_cond_false hv (hb s r h3 n0 ρ act w rom Q hro hh ht hd hn (fun e => by have := hpl e; simp only [plainC, Bool.and_eq_true] at this; exact this.2) hg)

theorem least {p : Nat → Prop} (h : ∃ n, p n) : ∃ n, p n ∧ ∀ m, p m → n ≤ m := by
  obtain ⟨n, hn⟩ := h
  induction n using Nat.strongRecOn with
  | _ n ih =>
    by_cases hx : ∃ m, m < n ∧ p m
    · obtain ⟨m, h1, h2⟩ := hx
      exact ih m h1 h2
    · refine ⟨n, hn, fun m hm => ?_⟩
      rcases Nat.lt_or_ge m n with h1 | h1
      · exact absurd ⟨m, h1, hm⟩ hx
      · exact h1

theorem loopN_succ (body : St → XR) (n : Nat) (s : St) : loopN body (n + 1) s = ob (body s) fun r => Ex.rec (motive := fun _ => XR) (loopN body n r.2) (some r) (fun _ => some r) (fun _ => some r) r.1 := rfl

/-- how many rounds are left: the least number that is enough -/
theorem loop_sound {a : Code} {ea : St → XR} (ha : Does2 P keep f ro a ea) : Does2 P keep f ro (.loop a) (fun s => loopN ea lf s) := by
  intro s r hr n0 ρ act w rom Q hro hh ht hd hn hpl hg
  -- what holds at a round's begin
  let I : Nat → Act → World → Prop := fun n a w => ∃ s ρ, loopN ea n s = some r ∧ RoR ρ ro rom ∧ HR P keep ρ s.hp w ∧ TR (keep f) (ntOf P f) ρ s.tm a.tmps ∧ DefOk n0 ρ s.hp (putOff s.tm (ntOf P f)) a.defers w ∧ n0.base ≤ w.heap.size ∧ Goes P keep f n0 ρ s.hp w (exOf r.1) r.2 Q
  open Classical in
  let μ : Act → World → Nat := fun a w => if h : ∃ n, I n a w then (least h).choose else 0
  have hμ : ∀ n a w, I n a w → μ a w ≤ n := by
    intro n a w hI
    have hex : ∃ n, I n a w := ⟨n, hI⟩
    simp only [μ, dif_pos hex]
    exact (least hex).choose_spec.2 n hI
  refine wpIn_loop (fun a w => ∃ n, I n a w) μ ⟨lf, s, ρ, hr, hro, hh, ht, hd, hn, hg⟩ (fun a w hex => ?_)
  obtain ⟨n, hn1, hn2⟩ : ∃ n, I n a w ∧ μ a w = n := ⟨_, by simp only [μ, dif_pos hex]; exact (least hex).choose_spec.1, rfl⟩
  obtain ⟨s, ρ, h1, h2, h3, h4, h5, h6, h7⟩ := hn1
  cases n with
  | zero => cases h1
  | succ n =>
    rw [loopN_succ] at h1
    obtain ⟨q, g1, g2⟩ := ob_some.1 h1
    refine ha s q g1 n0 ρ a w rom _ h2 h3 h4 h5 h6 (fun e => hpl e) fun ρ' a' w' hp ht' hd' => ?_
    obtain ⟨e, s'⟩ := q
    cases e with
    | normal =>
      have hI : I n a' w' := ⟨s', ρ', g2, h2.mono hp.le, hp.hr, ht', hd', Nat.le_trans h6 hp.fr.size, h7.after hp⟩
      refine ⟨⟨n, hI⟩, ?_⟩
      have := hμ n a' w' hI
      omega
    | ret => cases g2; exact h7 ρ' a' w' hp ht' hd'
    | exit j => cases g2; exact h7 ρ' a' w' hp ht' hd'
    | goto j => cases g2; exact h7 ρ' a' w' hp ht' hd'
end
end Go.Am

/-
  AM, 32: a range over a function.
-/
namespace Go.Am
section
variable {P : Program} {keep : Keeps} {call : CallFn} {lf : Nat} {f : FuncId} {ro : Option Nat}

theorem own_lt {ρ : Pls} {h : Heap} {w : World} {k : Nat} (hr : HR P keep ρ h w) (ho : Own ρ h k) : k < w.heap.size := by
  obtain ⟨b, x, p, hx, hd, hp, rfl⟩ := ho
  obtain ⟨q, hq, hlt⟩ := (hr.blk b x hx).place hd
  rw [hp] at hq; cases hq; exact hlt

/-- the statement is entered -/
theorem enter_sound {ρ : Pls} {h : Heap} {w : World} {rom : Option Nat} {n0 : DP} {dl : List AV} {ds : List Deferred} (hr : HR P keep ρ h w) (hro : RoR ρ ro rom) (hd : DefOk n0 ρ h dl ds w) (hn : n0.base ≤ w.heap.size) (hpd : n0.pd = none) (hlp : ∀ l, ro = some l → ∃ b, h.bs.gt l = some (.loop b))
    (tmps : Array Value) (ps : Array Tmp) (assign body : Code) :
    ∃ wA mark dn, Post P keep ρ h w ρ h wA ∧ DefOk n0 ρ h dl (mark ++ ds) wA ∧ wA.os = w.os ∧ wA.output = w.output ∧
      ∀ fn, (Instr.enterLoop fn tmps ps assign body rom).run P w = .ok (wA.heap.size, mark) { wA with heap := wA.heap.push (.loop { state := .ready, pending := none, fn, tmps, params := ps, assign, body, defers := dn }) } := by
  cases ro with
  | none =>
    cases hro
    let wA : World := { w with heap := w.heap.push (.deferred (some [])) }
    refine ⟨wA, [{ target := .collected w.heap.size, args := #[] }], w.heap.size, Post.grow hr rfl rfl rfl, ⟨⟨fun d hm r h1 => ?_, ?_⟩, .inl ⟨_, rfl, hd.2.1⟩, fun ds0 e => by rw [hpd] at e; cases e⟩, rfl, rfl, fun fn => ?_⟩
    · rcases List.mem_append.1 hm with hm | hm
      · rw [List.mem_singleton.1 hm] at h1
        cases h1
        refine ⟨hn, ?_, fun ho => Nat.lt_irrefl _ (own_lt hr ho)⟩
        show (w.heap.push _)[w.heap.size]? = _
        simp
      · obtain ⟨h2, h3, h4⟩ := hd.1.1 d hm r h1
        have hlt := (Array.getElem?_eq_some_iff.1 h3).1
        refine ⟨h2, ?_, h4⟩
        show (w.heap.push _)[r]? = _
        rw [Array.getElem?_push, if_neg (by omega)]; exact h3
    · rw [List.singleton_append, List.pairwise_cons]
      refine ⟨fun e hm r s h1 h2 => ?_, hd.1.2⟩
      cases h1
      obtain ⟨_, g3, _⟩ := hd.1.1 e hm s h2
      have hlt := (Array.getElem?_eq_some_iff.1 g3).1
      omega
    · simp [Instr.enterLoop, wA]; rfl
  | some l =>
    obtain ⟨p, hp, h0, rfl⟩ := hro
    obtain ⟨b, hb⟩ := hlp l rfl
    obtain ⟨p', L, hp', _, hh, _⟩ := hr.blk _ _ hb
    rw [hp] at hp'; cases hp'
    refine ⟨w, [], L.defers, Post.refl hr, by simpa using hd, rfl, rfl, fun fn => ?_⟩
    simp [Instr.enterLoop, run_getLoop hh]

theorem range_sound (hkD : keep f (ntOf P f) = false) (hn : NamesOk P) (hc : CallOk P keep call) {g : Operand} {x : Opd} {ps : Array Tmp} {assign body : Code} (hx : Am.resolve (fun t => if keep f t then some (.tmp t) else none) g = some x) :
    Does2 P keep f ro (.rangeFunc g ps assign body) (fun s => ob (x.get [] .leaf s.tm) fun fv => runRange call (ntOf P f) f ro ps.toList assign body s fv) := by
  intro s r hr n0 ρ act w rom Q hro hh ht hd hn0 hpl hg
  have hpd : n0.pd = none := by
    cases hx : n0.pd with
    | none => rfl
    | some d => have := hpl (by rw [hx]; rfl); cases this
  obtain ⟨fv, h1, h2⟩ := ob_some.1 hr
  have vf := resolve_sound (cond_tmp ht) hx h1
  let L0 : LRec := ⟨.ready, none, f, s.tm.up none (ntOf P f), ps.toList, assign, body⟩
  let enter : XR := ob (applyF call [.func (.yield s.hp.next) [] []] (s.hp.new s.hp.next (.loop L0)) fv) fun r =>
    r.2.theLoop s.hp.next fun b => match b.st with
      | .busy => none
      | _ => match b.pending with
        | none => some (.normal, ⟨s.tm, r.2.put s.hp.next (.loop { b with st := .exhausted })⟩)
        | some c => ob (jumpEx c) fun e => some (e, ⟨s.tm, r.2.put s.hp.next (.loop { b with st := .exhausted })⟩)
  have hent : enter = some r ∧ ∀ l, ro = some l → ∃ b, s.hp.bs.gt l = some (.loop b) := by
    cases ro with
    | none => exact ⟨h2, fun l e => by cases e⟩
    | some l =>
      obtain ⟨b, hb, h3⟩ := theLoop_some (show s.hp.theLoop l (fun _ => enter) = some r from h2)
      exact ⟨h3, fun l' e => by cases e; exact ⟨b, hb⟩⟩
  obtain ⟨he, hlp⟩ := hent
  obtain ⟨q, h3, h4⟩ := ob_some.1 he
  obtain ⟨fn, first, cap, e, h5⟩ := eFunc_some h3
  subst e
  obtain ⟨fn', a', b', e2, hf, ha, hb⟩ := vf
  cases fn with
  | func i =>
    cases hf
    have h6 : call (.fn i) (app' first (app' [.func (.yield s.hp.next) [] []] cap)) (s.hp.new s.hp.next (.loop L0)) = some q := h5
    obtain ⟨wA, mark, dn, hpA, hdA, hosA, houtA, hrunA⟩ := enter_sound hh hro hd hn0 hpd hlp act.tmps ps assign body
    -- the loop's record
    have mk : ∀ fn : FuncId, let L : Loop := { state := .ready, pending := none, fn, tmps := act.tmps, params := ps, assign, body, defers := dn }
        Post P keep ρ s.hp wA (ρ.up s.hp.next ⟨wA.heap.size, 0, 0⟩) (s.hp.new s.hp.next (.loop L0)) { wA with heap := wA.heap.push (.loop L) } := by
      intro fn L
      rw [new_eq (Nat.le_refl _)]
      refine hpA.hr.push (w' := { wA with heap := wA.heap.push (.loop L) }) (o := .loop L) (Nat.le_refl _) (by omega) rfl rfl rfl ⟨_, L, Pls.up_same _ _ _, rfl, ?_, ⟨rfl, rfl, ?_, rfl, rfl, rfl⟩⟩
      · show (wA.heap.push _)[wA.heap.size]? = _
        simp
      · refine TR.mono (Pls.le_up (hh.fresh (Nat.le_refl _)).1) ⟨ht.1, fun t v hk hv => ?_⟩
        have hv : (s.tm.up none (ntOf P f)).gt t = some v := hv
        rw [Tr.gt_up, if_neg (fun e => by rw [e] at hk; rw [hk] at hkD; cases hkD)] at hv
        exact ht.2 t v hk hv
    have hle1 : ρ.le (ρ.up s.hp.next ⟨wA.heap.size, 0, 0⟩) := Pls.le_up (hh.fresh (Nat.le_refl _)).1
    refine wpIn_rangeFunc fun fn _ => ?_
    have hmk := mk fn
    simp only at hmk
    obtain ⟨⟨fn1, c1, hfn, hbody⟩, hcall⟩ := hc _ _ _ _ h6 _ _ ((a' ++ #[Value.func (Fn.yield wA.heap.size) #[] #[]] ++ b').toList) hmk.hr (by
      rw [app'_eq, app'_eq]
      simp only [Array.toList_append, List.append_assoc]
      refine (ha.mono hle1).append (VRs.append ⟨_, [], rfl, ⟨_, _, _, rfl, ⟨_, Pls.up_same _ _ _, rfl, rfl⟩, rfl, rfl⟩, rfl⟩ (hb.mono hle1)))
    let wB : World := { wA with heap := wA.heap.push (.loop { state := .ready, pending := none, fn, tmps := act.tmps, params := ps, assign, body, defers := dn }) }
    refine ⟨wA.heap.size, mark, wB, { target := .fn (.func i) b', args := a' ++ #[Value.func (Fn.yield wA.heap.size) #[] #[]] }, wB, i, a' ++ #[Value.func (Fn.yield wA.heap.size) #[] #[]] ++ b', wB, hrunA fn, ?_, fun _ _ => trivial, ?_, fun hd => (by cases hd), ?_⟩
    · have hmap : Array.map act.eval #[Operand.const (Value.func (Fn.yield wA.heap.size) #[] #[])] = #[Value.func (Fn.yield wA.heap.size) #[] #[]] := by simp [Act.eval]
      simp only [Go.resolve, e2, Deferred.ofValue, Sem.run_pure, hmap]
    · simp only [invoke]
      exact run_callFunc hn hfn hbody
    · rw [Array.toArray_toList] at hcall
      refine CallsIn.mono (F := fen none) hcall (fun e w3 hR => ?_)
      cases e with
      | returned v =>
        obtain ⟨ρ', _, hp⟩ := hR
        obtain ⟨b, hbl, h7⟩ := theLoop_some h4
        obtain ⟨p, L, hpl, hp0, hh3, hlr⟩ := hp.hr.blk _ _ hbl
        have hpe : p = ⟨wA.heap.size, 0, 0⟩ := by
          have := hp.le _ _ (Pls.up_same ρ s.hp.next ⟨wA.heap.size, 0, 0⟩)
          rw [hpl] at this; exact Option.some.inj this
        subst hpe
        have hset := hp.hr.setLoop (r' := { b with st := .exhausted }) (L' := { L with state := .exhausted }) hbl hpl rfl hh3 { hlr with st := rfl }
        have hbusy : (L.state == .busy) = false := by
          have h8 := hlr.st
          cases hst : b.st with
          | busy => rw [hst] at h7; cases h7
          | ready => rw [hst] at h8; rw [show L.state = .ready from h8]; rfl
          | done => rw [hst] at h8; rw [show L.state = .done from h8]; rfl
          | exhausted => rw [hst] at h8; rw [show L.state = .exhausted from h8]; rfl
        have h7' : (match b.pending with
            | none => some (Ex.normal, (⟨s.tm, q.2.put s.hp.next (.loop { b with st := .exhausted })⟩ : St))
            | some c => ob (jumpEx c) fun e => some (e, ⟨s.tm, q.2.put s.hp.next (.loop { b with st := .exhausted })⟩)) = some r := by
          cases hst : b.st with
          | busy => rw [hst] at h7; cases h7
          | ready => rw [hst] at h7; exact h7
          | done => rw [hst] at h7; exact h7
          | exhausted => rw [hst] at h7; exact h7
        have hall := ((hpA.trans hmk).trans hp).trans hset
        have hdef : DefOk n0 ρ' (q.2.put s.hp.next (.loop { b with st := .exhausted })) (putOff s.tm (ntOf P f)) (mark ++ act.defers) _ := (hdA.post (hmk.trans hp)).post hset
        clear hset
        generalize hX : q.2.put s.hp.next (.loop { b with st := .exhausted }) = X at h7' hall hdef
        let w4 : World := { w3 with heap := w3.heap.setIfInBounds wA.heap.size (.loop { L with state := .exhausted }) }
        refine ⟨L.pending, w4, ?_, ?_⟩
        · simp only [Instr.endLoop, Sem.run_bind, run_getLoop hh3, Result.andThen_ok, hbusy, Bool.false_eq_true, if_false, Sem.run_pure, run_setLoop hh3]
          rfl
        · rw [hlr.pending]
          cases hpd : b.pending with
          | none =>
            rw [hpd] at h7'
            cases h7'
            exact hg ρ' _ _ hall (ht.mono hall.le) hdef
          | some c =>
            rw [hpd] at h7'
            obtain ⟨e, h8, h9⟩ := ob_some.1 h7'
            cases h9
            exact jump_wp h8 (hg ρ' _ _ hall (ht.mono hall.le) hdef)
      | panicked chain => exact hR.elim
      | outgrown => exact hR.elim
  | _ => cases h5
end
end Go.Am

/-
  AM, 33: all code; calls.
-/
namespace Go.Am
section
variable {P : Program} {keep : Keeps} {call : CallFn} {lf : Nat} {f : FuncId} {ro : Option Nat}

theorem stepR_scope {P : Program} {b : Frame} {a : Act} {k : List Item} {cs : List Frame} {w : World} {c : Code} : step P (lone (b.atR a (.code (.scope c) :: k)) cs w) = .next (lone (b.atR a (.code c :: .inScope c :: k)) cs w) :=
  step_lone_go (by simp [stepG, stepG.exec, Frame.atR])
theorem stepR_inScope {P : Program} {b : Frame} {a : Act} {k : List Item} {cs : List Frame} {w : World} {c : Code} : step P (lone (b.atR a (.inScope c :: k)) cs w) = .next (lone (b.atR a k) cs w) :=
  step_lone_go (by simp [stepG, stepG.exec, Frame.atR])
/-- a scope that is not jumped in -/
theorem wpIn_scope {F : Fence} {n : Nat} {P : Program} {a : Act} {w : World} {Q : Exit → Act → World → Prop} {c : Code} (h : c.wpIn F n P (fun e a w => (∀ l, e ≠ .goto l) ∧ Q e a w) a w) : (Code.scope c).wpIn F n P Q a w := by
  intro b k cs hro hb hr
  have h0 : (lone (b.atR a (.code (.scope c) :: k)) cs w).fenced P F := fenced_calm hb hr rfl
  obtain ⟨e, a₁, w₁, ⟨hng, hq⟩, harr⟩ := h b (.inScope c :: k) cs hro hb hr
  cases e with
  | normal => exact ⟨.normal, a₁, w₁, hq, .head h0 stepR_scope (StepsIn.trans harr (.one (fenced_calm hb hr rfl) stepR_inScope))⟩
  | exit id =>
    have hx : exitTo id (.inScope c :: k) = exitTo id k := by simp [exitTo]
    exact ⟨.exit id, a₁, w₁, hq, fun k' hk => .head h0 stepR_scope (harr.1 k' (by rw [hx]; exact hk)),
      fun hr' hk => let ⟨k₁, h1, h2⟩ := harr.2 hr' (by rw [hx]; exact hk); ⟨k₁, h1, .head h0 stepR_scope h2⟩⟩
  | goto l => exact absurd rfl (hng l)
  | ret => exact ⟨_, a₁, w₁, hq, .of_steps (.one h0 stepR_scope) harr⟩
  | panic ch => exact ⟨_, a₁, w₁, hq, .of_steps (.one h0 stepR_scope) harr⟩
  | outgrown => exact ⟨_, a₁, w₁, hq, .of_steps (.one h0 stepR_scope) harr⟩

theorem outsOf_kept {kp : Nat → Bool} {t n : Nat} : ∀ {ds : List (Option Nat)} {k : Nat} {seen : List Nat}, (t, n) ∈ outsOf kp k ds seen → kp t = true
  | [], k, seen, h => by cases h
  | none :: ds, k, seen, h => by simp only [outsOf] at h; exact outsOf_kept h
  | some d :: ds, k, seen, h => by
    simp only [outsOf] at h
    split at h
    · rename_i hc
      simp only [Bool.and_eq_true] at hc
      rcases List.mem_cons.1 h with e | h
      · cases e; exact hc.1
      · exact outsOf_kept h
    · exact outsOf_kept h
theorem putOutsD_same {D : Nat} : ∀ {l : List (Nat × Nat)} {vs tm tm' : Tr AV}, (∀ x ∈ l, x.1 ≠ D) → putOutsD l vs tm = some tm' → tm'.gt D = tm.gt D
  | [], vs, tm, tm', _, h => by cases h; rfl
  | x :: l, vs, tm, tm', hl, h => by
    obtain ⟨v, h1, h2⟩ := ob_some.1 (show ob (vs.gt x.2) (fun v => putOutsD l vs (tm.up (some v) x.1)) = some tm' from h)
    rw [putOutsD_same (fun y hy => hl y (List.mem_cons_of_mem _ hy)) h2, Tr.gt_up, if_neg (fun e => hl x (List.mem_cons_self ..) e.symm)]
theorem compD_same {P : Program} {kp : Nat → Bool} {nt D : Nat} {ops : Array Oper} {ss : List Stage} {outs : List (Nat × Nat)} {vs tm tm' : Tr AV} (hD : kp D = false) (hc : compD P kp nt ops = some (ss, outs)) (h : putOutsD outs vs tm = some tm') : tm'.gt D = tm.gt D := by
  refine putOutsD_same (fun x hx e => ?_) h
  unfold compD at hc
  simp only at hc
  split at hc
  · simp only [Option.some.injEq, Prod.mk.injEq] at hc
    obtain ⟨_, rfl⟩ := hc
    obtain ⟨y, hy, rfl⟩ := List.mem_map.1 hx
    have := outsOf_kept hy
    simp only at e
    rw [e, hD] at this; cases this
  · cases hc
theorem putOff_same {tm tm' : Tr AV} {nt : Nat} (h : tm'.gt nt = tm.gt nt) : putOff tm' nt = putOff tm nt := by unfold putOff; rw [h]
theorem putOff_up (tm : Tr AV) (nt : Nat) (l : List AV) : putOff (tm.up (some (.tuple l)) nt) nt = l := by unfold putOff; rw [Tr.gt_up, if_pos rfl]

/-- ALL CODE. -/
theorem exec_sound (hkD : keep f (ntOf P f) = false) (hm : P.follows .mixedOrders = true) (hn : NamesOk P) (hc : CallOk P keep call) : ∀ (c : Code), Does2 P keep f ro c (execA call lf (ntOf P f) f ro (compC P (keep f) (ntOf P f) c)) := by
  intro c
  induction c with
  | skip =>
    intro s r hr n0 ρ a w rom Q hro hh ht hd hn0 hpl hg
    cases hr
    exact wpIn_skip (hg ρ a w (Post.refl hh) ht hd)
  | region id ops draw =>
    intro s r hr n0 ρ a w rom Q hro hh ht hd hn0 hpl hg
    cases draw with
    | true =>
      simp only [compC] at hr
      cases hcd : compD P (keep f) (ntOf P f) ops with
      | none => rw [hcd] at hr; cases hr
      | some so =>
        obtain ⟨ss, outs⟩ := so
        rw [hcd] at hr
        obtain ⟨q, h1, h2⟩ := ob_some.1 (show ob (runStages s.hp.next s.tm call ss .leaf ⟨s.hp.bs, s.hp.next + ops.size⟩) (fun q => ob (putOutsD outs q.1 s.tm) fun tm => some (Ex.normal, (⟨tm, q.2⟩ : St))) = some r from hr)
        obtain ⟨tm', h3, h4⟩ := ob_some.1 h2
        cases h4
        exact draw_sound hm hn hc hh ht hcd h1 h3 (fun ρ' a' w' ht' hd' hp => hg ρ' a' w' hp ht' (by rw [hd', putOff_same (compD_same hkD hcd h3)]; exact hd.post hp))
    | false =>
      have hr : execA call lf (ntOf P f) f ro (compR P (keep f) (ntOf P f) ops) s = some r := hr
      cases hcr : compR P (keep f) (ntOf P f) ops with
      | reg is outs =>
        rw [hcr] at hr
        obtain ⟨q, h1, h2⟩ := ob_some.1 (show ob (runIs is s.tm call [] s.hp) (fun q => ob (putOuts outs q.1 s.tm s.tm) fun tm => some (Ex.normal, (⟨tm, q.2⟩ : St))) = some r from hr)
        obtain ⟨tm', h3, h4⟩ := ob_some.1 h2
        cases h4
        have hsame : putOff tm' (ntOf P f) = putOff s.tm (ntOf P f) := by
          obtain ⟨_, _, rfl⟩ := compR_reg hcr
          exact putOff_same (outs_same hkD h3)
        exact reg_sound hn hc hh ht hcr h1 h3 (fun ρ' a' w' ht' hd' hp => hg ρ' a' w' hp ht' (by rw [hd', hsame]; exact hd.post hp))
      | dfr is outs nt' xs =>
        rw [hcr] at hr
        have hnpl : n0.pd = none := by
          cases hx : n0.pd with
          | none => rfl
          | some d =>
            have h0 := hpl (by rw [hx]; rfl)
            unfold compR at hcr
            simp only [plainC] at h0
            cases hdl : deferLast ops.toList with
            | none => rw [hdl] at hcr; cases hcr
            | some x => rw [hdl] at h0; cases h0
        cases ro with
        | some l => cases hr
        | none =>
          cases hro
          obtain ⟨q, h1, h2⟩ := ob_some.1 (show ob (runIs is s.tm call [] s.hp) (fun q => ob (putOuts outs q.1 s.tm s.tm) fun tm => ob (gets xs q.1 .leaf s.tm) fun vs => iff' (isFn vs) (some (Ex.normal, (⟨tm.up (some (.tuple (.tuple vs :: putOff tm nt'))) nt', q.2⟩ : St)))) = some r from hr)
          obtain ⟨tm', h3, h4⟩ := ob_some.1 h2
          obtain ⟨vs, h5, h6⟩ := ob_some.1 h4
          obtain ⟨hfn, h6⟩ := iff'_some.1 h6
          cases h6
          have hsame : ∀ {nt2}, nt2 = ntOf P f → putOff tm' nt2 = putOff s.tm (ntOf P f) := by
            rintro _ rfl
            unfold compR at hcr
            split at hcr
            · dsimp only at hcr
              split at hcr
              · simp only [AC.dfr.injEq] at hcr
                obtain ⟨_, rfl, _⟩ := hcr
                exact putOff_same (outs_same hkD h3)
              · cases hcr
            · cases hcr
          have main := dfr_sound (id := id) (Q := Q) hn hc hh ht hcr h1 h3 h5 (fun ρ' a' w' i first cap args fa ca as ht' hvs vc vf va hd' hp => hg ρ' a' w' hp ?_ ?_) ?_
          · exact main.2
          · refine ⟨ht'.1, fun t v hk hv => ?_⟩
            have hnt : nt' = ntOf P f := by
              unfold compR at hcr
              split at hcr
              · dsimp only at hcr
                split at hcr
                · simp only [AC.dfr.injEq] at hcr; exact hcr.2.2.1.symm
                · cases hcr
              · cases hcr
            subst hnt
            have hv : (tm'.up (some (.tuple (.tuple vs :: putOff tm' (ntOf P f)))) (ntOf P f)).gt t = some v := hv
            rw [Tr.gt_up, if_neg (fun e => by rw [e] at hk; rw [hk] at hkD; cases hkD)] at hv
            exact ht'.2 t v hk hv
          · have hnt : nt' = ntOf P f := by
              unfold compR at hcr
              split at hcr
              · dsimp only at hcr
                split at hcr
                · simp only [AC.dfr.injEq] at hcr; exact hcr.2.2.1.symm
                · cases hcr
              · cases hcr
            subst hnt
            rw [putOff_up, hd', hsame rfl]
            have hd2 := hd.post hp
            refine ⟨⟨fun d hm r h1 => ?_, ?_⟩, .inr ⟨_, _, rfl, ⟨i, fa, ca, as, cap, by rw [hvs], rfl, vc, ?_⟩, hd2.2.1⟩, fun ds0 e => by rw [hnpl] at e; cases e⟩
            · rcases List.mem_cons.1 hm with rfl | hm
              · cases h1
              · exact hd2.1.1 d hm r h1
            · rw [List.pairwise_cons]
              exact ⟨(fun e hm r s h1 => by cases h1), hd2.1.2⟩
            · simp only [Array.toList_append]
              exact vf.append va
          · intro v as e
            subst e
            unfold isFn at hfn
            split at hfn
            · rename_i i fa ca as' heq
              simp only [List.cons.injEq] at heq
              exact ⟨i, fa, ca, heq.1⟩
            · cases hfn
      | _ =>
        exfalso
        rw [hcr] at hr
        unfold compR at hcr
        split at hcr
        · dsimp only at hcr
          split at hcr
          · cases hcr
          · cases hcr <;> cases hr
        · cases hcr
  | seq a b iha ihb => exact seq_sound iha ihb
  | cond c a b iha ihb =>
    cases hx : Am.resolve (fun t => if keep f t then some (.tmp t) else none) c with
    | none => intro s r hr; simp only [compC, hx] at hr; cases hr
    | some x =>
      have : execA call lf (ntOf P f) f ro (compC P (keep f) (ntOf P f) (.cond c a b)) = fun s => ob (x.get [] .leaf s.tm) fun v => eBool (fun t => Bool.rec (motive := fun _ => XR) (execA call lf (ntOf P f) f ro (compC P (keep f) (ntOf P f) b) s) (execA call lf (ntOf P f) f ro (compC P (keep f) (ntOf P f) a) s) t) v := by
        simp only [compC, hx]; rfl
      rw [this]
      exact cond_sound hx iha ihb
  | block id a ih => exact block_sound ih
  | loop a ih => exact loop_sound ih
  | rangeFunc g ps assign body _ _ =>
    cases hx : Am.resolve (fun t => if keep f t then some (.tmp t) else none) g with
    | none => intro s r hr; simp only [compC, hx] at hr; cases hr
    | some x =>
      have : execA call lf (ntOf P f) f ro (compC P (keep f) (ntOf P f) (.rangeFunc g ps assign body)) = fun s => ob (x.get [] .leaf s.tm) fun fv => runRange call (ntOf P f) f ro ps.toList assign body s fv := by
        simp only [compC, hx]; rfl
      rw [this]
      exact range_sound hkD hn hc hx
  | exit id =>
    intro s r hr n0 ρ a w rom Q hro hh ht hd hn0 hpl hg
    cases hr
    exact wpIn_exit (hg ρ a w (Post.refl hh) ht hd)
  | ret =>
    intro s r hr n0 ρ a w rom Q hro hh ht hd hn0 hpl hg
    cases hr
    exact wpIn_ret (hg ρ a w (Post.refl hh) ht hd)
  | scope a ih =>
    intro s r hr n0 ρ act w rom Q hro hh ht hd hn0 hpl hg
    have hr : ob (execA call lf (ntOf P f) f ro (compC P (keep f) (ntOf P f) a) s) (fun r => Ex.rec (motive := fun _ => XR) (some r) (some r) (fun _ => some r) (fun _ => none) r.1) = some r := hr
    obtain ⟨q, h1, h2⟩ := ob_some.1 hr
    obtain ⟨e, s'⟩ := q
    refine wpIn_scope (ih s _ h1 n0 ρ act w rom _ hro hh ht hd hn0 (fun e => hpl e) fun ρ' a' w' hp ht' hd' => ?_)
    cases e with
    | goto l => cases h2
    | normal => cases h2; exact ⟨(fun l e => by cases e), hg ρ' a' w' hp ht' hd'⟩
    | ret => cases h2; exact ⟨(fun l e => by cases e), hg ρ' a' w' hp ht' hd'⟩
    | exit id => cases h2; exact ⟨(fun l e => by cases e), hg ρ' a' w' hp ht' hd'⟩
  | label l =>
    intro s r hr n0 ρ act w rom Q hro hh ht hd hn0 hpl hg
    cases hr
    exact wpIn_label (hg ρ act w (Post.refl hh) ht hd)
  | goto l => intro s r hr; cases hr
  | refuse why => intro s r hr; cases hr

end
end Go.Am

/-
  AM, 34: the end of a function; calls.
-/
namespace Go.Am
section
variable {P : Program} {keep : Keeps} {call : CallFn} {lf : Nat} {f : FuncId} {ro : Option Nat}

/-! ### the end of a function -/
def resOf (tmps : Array Value) : ResultVar → Sem Value
  | .tmp t => pure (tmps.getD t undef)
  | .cell a t => do loadVar t (← asAddr (tmps.getD a undef))
theorem results_eq (fn : Func) (tmps : Array Value) : results fn tmps = (do
    let vs ← fn.results.mapM (resOf tmps)
    pure (if h : vs.size = 1 then vs[0] else .tuple vs)) := by
  unfold results
  congr 1

theorem res1_sound {ρ : Pls} {w : World} {a : Act} {rv : ResultVar} {s : St} {v : AV} (hh : HR P keep ρ s.hp w) (ht : TR (keep f) (ntOf P f) ρ s.tm a.tmps) (hk : okRes (keep f) [rv] = true) (hr : res1 P rv s = some v) :
    ∃ cv, (resOf a.tmps rv).run P w = .ok cv w ∧ VR ρ v cv := by
  cases rv with
  | tmp t =>
    simp only [okRes, Bool.and_true] at hk
    obtain ⟨cv, h1, h2⟩ := ht.2 t v hk hr
    have e : a.tmps.getD t undef = cv := by rw [Array.getD_eq_getD_getElem?, h1]; rfl
    exact ⟨cv, by simp only [resOf, e, Sem.run_pure], h2⟩
  | cell x t =>
    simp only [okRes, Bool.and_true] at hk
    obtain ⟨u, h1, h2⟩ := ob_some.1 (show ob (s.tm.gt x) (resC P t s.hp) = some v from hr)
    obtain ⟨cu, h3, h4⟩ := ht.2 x u hk h1
    have e : a.tmps.getD x undef = cu := by rw [Array.getD_eq_getD_getElem?, h3]; rfl
    unfold resC at h2
    cases hs : tSize P t with
    | none => rw [hs] at h2; cases h2
    | some n =>
      cases hg : tAgg P t with
      | none => rw [hs, hg] at h2; cases h2
      | some g =>
        rw [hs, hg] at h2
        have key : ∃ ad cv, cu = .pointer (some ad) ∧ (loadVar t ad).run P w = .ok cv w ∧ VR ρ v cv := by
          cases g with
          | false => exact load1_var hg hh h2 h4
          | true => exact loadN_var hs hg hh h2 h4
        obtain ⟨ad, cv, e2, h5, h6⟩ := key
        refine ⟨cv, ?_, h6⟩
        simp only [resOf, e, e2]
        simp only [asAddr, Sem.run_bind, Sem.run_pure, Result.andThen_ok, h5]

theorem resA_cons (rv : ResultVar) (rs : List ResultVar) (s : St) : resA P (rv :: rs) s = ob (res1 P rv s) fun v => ob (resA P rs s) fun vs => some (v :: vs) := rfl
theorem resA_sound {ρ : Pls} {w : World} {a : Act} {s : St} (hh : HR P keep ρ s.hp w) (ht : TR (keep f) (ntOf P f) ρ s.tm a.tmps) : ∀ {rs : List ResultVar} {vs : List AV}, okRes (keep f) rs = true → resA P rs s = some vs →
    ∃ cvs, (rs.mapM (resOf a.tmps)).run P w = .ok cvs w ∧ VRs ρ vs cvs
  | [], vs, _, hr => by cases hr; exact ⟨[], rfl, rfl⟩
  | rv :: rs, vs, hk, hr => by
    rw [resA_cons] at hr
    obtain ⟨v, h1, h2⟩ := ob_some.1 hr
    obtain ⟨us, h3, h4⟩ := ob_some.1 h2
    cases h4
    have hk1 : okRes (keep f) [rv] = true ∧ okRes (keep f) rs = true := by
      cases rv <;> simp only [okRes, Bool.and_eq_true, Bool.and_true] at hk ⊢ <;> exact hk
    obtain ⟨cv, g1, g2⟩ := res1_sound hh ht hk1.1 h1
    obtain ⟨cvs, g3, g4⟩ := resA_sound hh ht hk1.2 h3
    refine ⟨cv :: cvs, ?_, cv, cvs, rfl, g2, g4⟩
    rw [List.mapM_cons, Sem.run_bind, g1]
    simp only [Result.andThen_ok, Sem.run_bind, g3, Sem.run_pure]

theorem tupled_eq (vs : List AV) : tupled vs = match vs with | [v] => v | vs => .tuple vs := by
  match vs with
  | [] => rfl
  | [v] => rfl
  | v :: u :: t => rfl

theorem results_sound {ρ : Pls} {w : World} {a : Act} {s : St} {fn : Func} {vs : List AV} (hh : HR P keep ρ s.hp w) (ht : TR (keep f) (ntOf P f) ρ s.tm a.tmps) (hk : okRes (keep f) fn.results.toList = true) (hr : resA P fn.results.toList s = some vs) :
    ∃ v, (results fn a.tmps).run P w = .ok v w ∧ VR ρ (tupled vs) v := by
  obtain ⟨cvs, h1, h2⟩ := resA_sound hh ht hk hr
  rw [results_eq, Array.mapM_eq_mapM_toList]
  have h3 : (List.toArray <$> List.mapM (resOf a.tmps) fn.results.toList).run P w = .ok cvs.toArray w := by
    rw [map_eq_pure_bind, Sem.run_bind, h1]; rfl
  rw [Sem.run_bind, h3, tupled_eq]
  simp only [Result.andThen_ok, Sem.run_pure]
  match vs, h2 with
  | [], h2 => cases h2; exact ⟨_, rfl, #[], rfl, rfl⟩
  | [v], h2 => obtain ⟨cv, _, rfl, g, rfl⟩ := h2; exact ⟨cv, rfl, g⟩
  | v :: u :: t, h2 =>
    have h2' := h2
    obtain ⟨cv, _, rfl, g, cu, ct, rfl, g2, g3⟩ := h2
    exact ⟨_, rfl, _, rfl, h2'⟩
end
end Go.Am

/-
  AM, 35: calls of functions.
-/
namespace Go.Am
section
variable {P : Program} {keep : Keeps} {call : CallFn} {lf : Nat} {f : FuncId}

theorem Post.shut {ρ ρ' : Pls} {h h' : Heap} {w w' : World} (hp : Post P keep ρ h w ρ' h' w') {r : Nat} (hr : w.heap.size ≤ r) (ho : ¬ Own ρ' h' r) (o : Obj) : Post P keep ρ h w ρ' h' { w' with heap := w'.heap.setIfInBounds r o } := by
  have hsame : ∀ k, k ≠ r → (w'.heap.setIfInBounds r o)[k]? = w'.heap[k]? := fun k hk => by rw [Array.getElem?_setIfInBounds, if_neg (fun e => hk e.symm)]
  refine ⟨hp.le, hp.hr.frame fun b x p hx hd hpl => hsame _ fun e => ho ⟨b, x, p, hx, hd, hpl, e⟩, ⟨hp.fr.os, hp.fr.output, by simpa using hp.fr.size, fun k hk hn => (hsame k (by omega)).trans (hp.fr.sameW k hk hn)⟩, hp.own, hp.next, hp.new, hp.ownW⟩

theorem fnA_some {k : FnA} (h : fnA P keep f = some k) : ∃ fn c, P.funcs[f]? = some fn ∧ fn.body = some c ∧ okRes (keep f) fn.results.toList = true ∧ keep f (ntOf P f) = false ∧ k = ⟨compC P (keep f) fn.ntmps c, fn.results.toList, fn.ntmps, plainC c⟩ ∧ ntOf P f = fn.ntmps := by
  unfold fnA at h
  cases hf : P.funcs[f]? with
  | none => rw [hf] at h; cases h
  | some fn =>
    rw [hf] at h
    simp only at h
    cases hb : fn.body with
    | none => rw [hb] at h; cases h
    | some c =>
      rw [hb] at h
      simp only at h
      split at h
      · rename_i hk
        cases h
        rw [Bool.and_eq_true, Bool.not_eq_true'] at hk
        have hnt : ntOf P f = fn.ntmps := by simp [ntOf, hf]
        exact ⟨fn, c, rfl, hb, hk.1, by rw [hnt]; exact hk.2, rfl, hnt⟩
      · cases h

theorem args_TR {ρ : Pls} {args : List AV} {avs : List Value} {nt : Nat} {kp : Nat → Bool} (hv : VRs ρ args avs) : TR kp nt ρ (fillC args .leaf 0) (avs.toArray ++ Array.replicate (nt - avs.toArray.size) undef) := by
  have hlen := hv.length
  refine ⟨by simp; omega, fun t v _ hg => ?_⟩
  rw [gt_fillC] at hg
  split at hg
  · rename_i hlt
    rw [Nat.sub_zero] at hg
    obtain ⟨cv, g1, g2⟩ := hv.get t v hg
    refine ⟨cv, ?_, g2⟩
    rw [Array.getElem?_append_left (by simp; omega)]
    simpa using g1
  · cases hg
theorem args_off {args : List AV} {nt : Nat} (h : args.length ≤ nt) : putOff (fillC args .leaf 0) nt = [] := by
  unfold putOff
  rw [gt_fillC, if_neg (by omega), Tr.gt_leaf]

/-- a call that was put off is made -/
theorem callD_sound (hm : P.follows .mixedOrders = true) (hn : NamesOk P) (hc : CallOk P keep call) {i : FuncId} {args : List AV} {h h' : Heap} (hr : callD P keep lf call i args h = some h') {ρ : Pls} {w : World} {avs : List Value} (hh : HR P keep ρ h w) (hv : VRs ρ args avs) :
    (∃ fn c, P.funcs[i]? = some fn ∧ fn.body = some c) ∧ CallsDIn (fen none) 0 P i avs.toArray .returning w (fun e u' w' => u' = .returning ∧ ∃ v, e = .returned v ∧ ∃ ρ', Post P keep ρ h w ρ' h' w') := by
  obtain ⟨k, h1, h2⟩ := ob_some.1 hr
  obtain ⟨fn, c, hf, hb, hk, hkD, rfl, hnt⟩ := fnA_some h1
  obtain ⟨h3, h4⟩ := iff'_some.1 h2
  simp only [and'_eq, Bool.and_eq_true] at h3
  obtain ⟨hpl, hle⟩ := h3
  have hle : args.length ≤ fn.ntmps := by have := Nat.le_of_ble_eq_true hle; simpa using this
  obtain ⟨q, h5, h6⟩ := ob_some.1 h4
  refine ⟨⟨fn, c, hf, hb⟩, ?_⟩
  have main : CallsDIn (fen none) 0 P i avs.toArray .returning w (fun e u' w' => u' = .returning ∧ (fun e w' => ∃ v, e = .returned v ∧ ∃ ρ', Post P keep ρ h w ρ' h' w') e w') := by
    refine callsDIn_of_wp (F := fen none) hf hb trivial ?_
    have h5 : execA call lf (ntOf P i) i none (compC P (keep i) (ntOf P i) c) ⟨fillC args .leaf 0, h⟩ = some q := by rw [hnt]; exact h5
    have hd : DefOk ⟨w.heap.size, some []⟩ ρ h (putOff (fillC args .leaf 0) (ntOf P i)) [] w := ⟨⟨(fun d hd => by cases hd), List.Pairwise.nil⟩, args_off (by rw [hnt]; exact hle), fun ds0 e => by cases e; rfl⟩
    refine exec_sound hkD hm hn hc c ⟨fillC args .leaf 0, h⟩ q h5 ⟨w.heap.size, some []⟩ ρ _ w none _ rfl hh (by rw [hnt]; exact args_TR hv) hd (Nat.le_refl _) (fun _ => hpl) (fun ρ' a' w' hp' ht' hd' => ?_)
    obtain ⟨e, s'⟩ := q
    have hnil := hd'.2.2 [] rfl
    have out : (ob (resA P fn.results.toList s') fun _ => some s'.hp) = some h' → a'.defers = [] ∧ ∃ v, (results fn a'.tmps).run P w' = .ok v w' ∧ ∃ v', Ending.returned v = Ending.returned v' ∧ ∃ ρ', Post P keep ρ h w ρ' h' w' := by
      intro ho
      obtain ⟨vs, g1, g2⟩ := ob_some.1 ho
      cases g2
      obtain ⟨v, g3, g4⟩ := results_sound hp'.hr ht' hk g1
      exact ⟨hnil, v, g3, v, rfl, ρ', hp'⟩
    cases e with
    | normal => exact out h6
    | ret => exact out h6
    | exit id => cases h6
    | goto l => cases h6
  exact main

theorem runDs_cons (d : AV) (ds : List AV) (h : Heap) : runDs P keep lf call (d :: ds) h = ob (applyD P keep lf call d h) (runDs P keep lf call ds) := rfl

theorem leaves_all (hm : P.follows .mixedOrders = true) (hn : NamesOk P) (hc : CallOk P keep call) {ρ : Pls} {h h2 : Heap} {w : World} {fn : Func} {tmps : Array Value} {R : Ending → World → Prop} {n0 : DP} (hb0 : n0.base = w.heap.size) (hpd : n0.pd = none) : ∀ (ds : List Deferred) (l : List AV) (ρ' : Pls) (h' : Heap) (w' : World), Post P keep ρ h w ρ' h' w' → DefOk n0 ρ' h' l ds w' → runDs P keep lf call l h' = some h2 →
    (∀ ρ'' w'', Post P keep ρ h w ρ'' h2 w'' → ρ'.le ρ'' → ∃ v, (results fn tmps).run P w'' = .ok v w'' ∧ R (.returned v) w'') → LeavesInM (fen none) 0 P fn tmps R ds .returning w'
  | [], l, ρ', h', w', hp, hd, hr, hR => by
    obtain rfl : l = [] := hd.2.1
    cases hr
    exact hR ρ' w' hp (Pls.le_refl _)
  | d :: ds, l, ρ', h', w', hp, hd, hr, hR => by
    refine ⟨(by intro e; cases e), ?_⟩
    rcases hd.2.1 with ⟨r, h1, hdf⟩ | ⟨v, l', rfl, ⟨i, fa, ca, as, cap, rfl, ht, vc, va⟩, hdf⟩
    · obtain ⟨h2', h3, h4⟩ := hd.1.1 d (List.mem_cons_self ..) r h1
      rw [hb0] at h2'
      refine .inl ⟨r, { w' with heap := w'.heap.setIfInBounds r (.deferred none) }, h1, ?_, leaves_all hm hn hc hb0 hpd ds l ρ' h' _ (hp.shut h2' h4 _) ⟨⟨fun e he s g1 => ?_, (List.pairwise_cons.1 hd.1.2).2⟩, hdf, fun ds0 e => by rw [hpd] at e; cases e⟩ hr hR⟩
      · simp [Instr.takeDeferred, getObj, setObj, Sem.run, h3]
      · obtain ⟨g2, g3, g4⟩ := hd.1.1 e (List.mem_cons_of_mem _ he) s g1
        refine ⟨g2, ?_, g4⟩
        show (w'.heap.setIfInBounds r _)[s]? = _
        rw [Array.getElem?_setIfInBounds, if_neg ((List.pairwise_cons.1 hd.1.2).1 e he r s h1 g1)]
        exact g3
    · rw [runDs_cons] at hr
      obtain ⟨h1, g1, g2⟩ := ob_some.1 hr
      have g1 : callD P keep lf call i (app' fa (app' as ca)) h' = some h1 := g1
      rw [app'_eq, app'_eq] at g1
      obtain ⟨⟨fn1, c1, hfn, hbody⟩, hcd⟩ := callD_sound hm hn hc g1 hp.hr (avs := (d.args ++ cap).toList) (by
        rw [← List.append_assoc, Array.toList_append]
        exact va.append vc)
      rw [Array.toArray_toList] at hcd
      refine .inr ⟨(fun e => by cases e), .func i, cap, i, d.args ++ cap, ht, ?_, fun _ _ => trivial, hcd.mono fun e u' w1 hR1 => ?_⟩
      · rw [ht]
        simp only [invoke]
        have e : (#[] ++ d.args ++ cap : Array Value) = d.args ++ cap := by simp
        first
          | exact run_callFunc hn hfn hbody
          | (simp only [Array.empty_append]; exact run_callFunc hn hfn hbody)
      · obtain ⟨rfl, v, rfl, ρ1, hp1⟩ := hR1
        have hd1 : DefOk n0 ρ' h' l' ds w' := ⟨⟨fun e he s g => hd.1.1 e (List.mem_cons_of_mem _ he) s g, (List.pairwise_cons.1 hd.1.2).2⟩, hdf, fun ds0 e => by rw [hpd] at e; cases e⟩
        exact leaves_all hm hn hc hb0 hpd ds l' ρ1 h1 w1 (hp.trans hp1) (hd1.post hp1) g2 (fun ρ'' w'' hp'' hle => hR ρ'' w'' hp'' (Pls.le_trans hp1.le hle))

def PrimsOk (P : Program) (keep : Keeps) (prims : Prims) : Prop := ∀ f args h r, prims.fn f args h = some (some r) → ∀ ρ w avs, HR P keep ρ h w → VRs ρ args avs →
  (∃ fn c, P.funcs[f]? = some fn ∧ fn.body = some c) ∧ CallsIn (fen none) 0 P f avs.toArray w (Ret P keep ρ h w r)

theorem callF_sound {prims : Prims} (hm : P.follows .mixedOrders = true) (hn : NamesOk P) (hc : CallOk P keep call) (hpr : PrimsOk P keep prims) {args : List AV} {h : Heap} {r : AV × Heap} (hr : callF P keep prims lf call f args h = some r)
    {ρ : Pls} {w : World} {avs : List Value} (hh : HR P keep ρ h w) (hv : VRs ρ args avs) : (∃ fn c, P.funcs[f]? = some fn ∧ fn.body = some c) ∧ CallsIn (fen none) 0 P f avs.toArray w (Ret P keep ρ h w r) := by
  unfold callF at hr
  cases hp : prims.fn f args h with
  | some q =>
    rw [hp] at hr
    have hr : q = some r := hr
    subst hr
    exact hpr f args h r hp ρ w avs hh hv
  | none =>
    rw [hp] at hr
    obtain ⟨k, h1, h2⟩ := ob_some.1 (show ob (fnA P keep f) (fun k => iff' (Nat.ble (len' args) k.nt) (ob (execA call lf k.nt f none k.code ⟨fillC args .leaf 0, h⟩) fun r => endFn P keep lf call k.nt k.res r)) = some r from hr)
    obtain ⟨fn, c, hf, hb, hk, hkD, rfl, hnt⟩ := fnA_some h1
    obtain ⟨hle, h2⟩ := iff'_some.1 h2
    have hle : args.length ≤ fn.ntmps := by have := Nat.le_of_ble_eq_true hle; simpa using this
    obtain ⟨q, h3, h4⟩ := ob_some.1 h2
    refine ⟨⟨fn, c, hf, hb⟩, ?_⟩
    have ht : TR (keep f) (ntOf P f) ρ (fillC args .leaf 0) (avs.toArray ++ Array.replicate (fn.ntmps - avs.toArray.size) undef) := by rw [hnt]; exact args_TR hv
    refine callsIn_of_wp_marks hf hb trivial ?_
    have hd : DefOk ⟨w.heap.size, none⟩ ρ h (putOff (fillC args .leaf 0) (ntOf P f)) [] w := ⟨⟨(fun d hd => by cases hd), List.Pairwise.nil⟩, args_off (by rw [hnt]; exact hle), fun ds0 e => by cases e⟩
    have h3 : execA call lf (ntOf P f) f none (compC P (keep f) (ntOf P f) c) ⟨fillC args .leaf 0, h⟩ = some q := by rw [hnt]; exact h3
    refine exec_sound hkD hm hn hc c ⟨fillC args .leaf 0, h⟩ q h3 ⟨w.heap.size, none⟩ ρ _ w none _ rfl hh ht hd (Nat.le_refl _) (fun e => by cases e) (fun ρ' a' w' hp' ht' hd' => ?_)
    obtain ⟨e, s'⟩ := q
    have out : (ob (leaveD P keep lf call fn.ntmps s') fun h => ob (resA P fn.results.toList ⟨s'.tm, h⟩) fun vs => some (tupled vs, h)) = some r → LeavesInM (fen none) 0 P fn a'.tmps (Ret P keep ρ h w r) a'.defers .returning w' := by
      intro ho
      obtain ⟨h2', g0, g00⟩ := ob_some.1 ho
      obtain ⟨vs, g1, g2⟩ := ob_some.1 g00
      cases g2
      have hrun : runDs P keep lf call (putOff s'.tm (ntOf P f)) s'.hp = some h2' := by
        rw [hnt]
        unfold leaveD at g0
        unfold putOff
        cases hg : s'.tm.gt fn.ntmps with
        | none => rw [hg] at g0; exact g0
        | some v =>
          rw [hg] at g0
          obtain ⟨l, rfl, g3⟩ := eTuple_some g0
          exact g3
      refine leaves_all hm hn hc (n0 := ⟨w.heap.size, none⟩) rfl rfl a'.defers _ ρ' s'.hp w' hp' hd' hrun (fun ρ'' w'' hp'' hle => ?_)
      obtain ⟨v, g3, g4⟩ := results_sound (s := ⟨s'.tm, h2'⟩) hp''.hr (ht'.mono hle) hk g1
      exact ⟨v, g3, ρ'', g4, hp''⟩
    cases e with
    | normal => exact out h4
    | ret => exact out h4
    | exit id => cases h4
    | goto l => cases h4
end
end Go.Am

/-
  AM, 36: rounds of a range over a function; every call.
-/
namespace Go.Am
section
variable {P : Program} {keep : Keeps} {call : CallFn} {lf : Nat}

theorem setPs_cons (nt t : Nat) (ps : List Nat) (v : AV) (vs : List AV) (tm : Tr AV) : setPs nt (t :: ps) (v :: vs) tm = iff' (Nat.ble (t + 1) nt) (setPs nt ps vs (tm.up (some v) t)) := rfl

theorem setPs_sound {kp : Nat → Bool} {nt : Nat} {ρ : Pls} : ∀ {ps : List Nat} {vs : List AV} {tm tm' : Tr AV} {cvs : List Value} {tmps : Array Value}, setPs nt ps vs tm = some tm' → VRs ρ vs cvs → TR kp nt ρ tm tmps →
    cvs.length = ps.length ∧ TR kp nt ρ tm' ((ps.zip cvs).foldl (fun tmps (x : Nat × Value) => tmps.setIfInBounds x.1 x.2) tmps)
  | [], [], tm, tm', cvs, tmps, h, hv, ht => by cases h; cases hv; exact ⟨rfl, ht⟩
  | [], v :: vs, tm, tm', cvs, tmps, h, hv, ht => by cases h
  | t :: ps, [], tm, tm', cvs, tmps, h, hv, ht => by cases h
  | t :: ps, v :: vs, tm, tm', cvs, tmps, h, hv, ht => by
    rw [setPs_cons] at h
    obtain ⟨h1, h2⟩ := iff'_some.1 h
    have hlt : t < nt := Nat.le_of_ble_eq_true h1
    obtain ⟨cv, cvs, rfl, g1, g2⟩ := hv
    have ht' : TR kp nt ρ (tm.up (some v) t) (tmps.setIfInBounds t cv) := by
      refine ⟨by simpa using ht.1, fun s u hk hg => ?_⟩
      rw [Tr.gt_up] at hg
      rw [Array.getElem?_setIfInBounds]
      by_cases e : s = t
      · subst e
        rw [if_pos rfl] at hg; cases hg
        rw [if_pos rfl, if_pos (Nat.lt_of_lt_of_le hlt ht.1)]
        exact ⟨cv, rfl, g1⟩
      · rw [if_neg e] at hg
        rw [if_neg (fun h => e h.symm)]
        exact ht.2 s u hk hg
    obtain ⟨h3, h4⟩ := setPs_sound h2 g2 ht'
    exact ⟨by simp [h3], h4⟩

theorem setPs_same {nt D : Nat} (hD : nt ≤ D) : ∀ {ps : List Nat} {vs : List AV} {tm tm' : Tr AV}, setPs nt ps vs tm = some tm' → tm'.gt D = tm.gt D
  | [], [], tm, tm', h => by cases h; rfl
  | [], v :: vs, tm, tm', h => by cases h
  | t :: ps, [], tm, tm', h => by cases h
  | t :: ps, v :: vs, tm, tm', h => by
    rw [setPs_cons] at h
    obtain ⟨h1, h2⟩ := iff'_some.1 h
    have hlt : t < nt := Nat.le_of_ble_eq_true h1
    rw [setPs_same hD h2, Tr.gt_up, if_neg (by omega)]
theorem onlyNormal_some {r : Ex × St} {g : St → Res} {q : AV × Heap} (h : onlyNormal r g = some q) : r.1 = .normal ∧ g r.2 = some q := by
  obtain ⟨e, s⟩ := r
  cases e with
  | normal => exact ⟨rfl, h⟩
  | ret => cases h
  | exit id => cases h
  | goto l => cases h

theorem callL_sound (hm : P.follows .mixedOrders = true) (hn : NamesOk P) (hc : CallOk P keep call) {l : Nat} {args : List AV} {h : Heap} {r : AV × Heap} (hr : callL P keep lf call l args h = some r)
    {ρ : Pls} {w : World} {avs : List Value} (hh : HR P keep ρ h w) (hv : VRs ρ args avs) {p : Pl} (hp : ρ l = some p) :
    ∃ f tmps assign body, (Instr.yield p.blk avs.toArray).run P w = .ok (.round p.blk f tmps assign body) w ∧ RoundIn (fen none) 0 P p.blk f tmps assign body w (Ret P keep ρ h w r) := by
  obtain ⟨b, hb, h1⟩ := theLoop_some hr
  obtain ⟨p', L, hp', h0, hL, hlr⟩ := hh.blk _ _ hb
  rw [hp] at hp'; cases hp'
  obtain ⟨tm, h2, h3⟩ := ob_some.1 h1
  obtain ⟨hck, h3⟩ := iff'_some.1 h3
  simp only [and'_eq, notB_eq, Bool.and_eq_true, Bool.not_eq_true'] at hck
  obtain ⟨hkD, hoff⟩ := hck
  have hoff : putOff tm (ntOf P b.fn) = [] := by
    rw [putOff_same (setPs_same (Nat.le_refl _) h2)]
    unfold putOff
    unfold noOff at hoff
    cases hg : b.tm.gt (ntOf P b.fn) with
    | none => rfl
    | some v => rw [hg] at hoff; cases hoff
  obtain ⟨q, h4, h5⟩ := ob_some.1 h3
  obtain ⟨hqn, h6⟩ := onlyNormal_some h5
  obtain ⟨b', hb', h7⟩ := theLoop_some h6
  obtain ⟨hlen, ht⟩ := setPs_sound h2 hv hlr.tm
  have hsize : avs.toArray.size = L.params.size := by
    have := hlr.params
    rw [← this] at hlen
    simpa using hlen
  refine ⟨L.fn, ((L.params.zip avs.toArray).foldl (fun tmps (x : Tmp × Value) => tmps.setIfInBounds x.1 x.2) L.tmps), L.assign, L.body, ?_, ?_⟩
  · simp only [Instr.yield, Sem.run_bind, run_getLoop hL, Result.andThen_ok]
    rw [if_neg (by rw [hsize]; simp)]
    rfl
  · rw [hlr.assign, hlr.body]
    have hzip : ((L.params.zip avs.toArray).foldl (fun tmps (x : Tmp × Value) => tmps.setIfInBounds x.1 x.2) L.tmps) = ((b.params.zip avs).foldl (fun tmps (x : Nat × Value) => tmps.setIfInBounds x.1 x.2) L.tmps) := by
      rw [← Array.foldl_toList, Array.toList_zip, hlr.params]
    have ht : TR (keep b.fn) (ntOf P b.fn) ρ tm ((L.params.zip avs.toArray).foldl (fun tmps (x : Tmp × Value) => tmps.setIfInBounds x.1 x.2) L.tmps) := by rw [hzip]; exact ht
    have hd0 : ∀ {ρ : Pls} {h : Heap} {w' : World}, DefOk ⟨0, none⟩ ρ h (putOff tm (ntOf P b.fn)) [] w' := ⟨⟨fun d hd => (by cases hd), List.Pairwise.nil⟩, hoff, fun ds0 e => by cases e⟩
    refine roundIn_of_wpIn (F := fen none) trivial ?_
    have hro : RoR ρ (some l) (some p.blk) := ⟨p, hp, h0, rfl⟩
    refine exec_sound hkD hm hn hc b.assign ⟨tm, h⟩ q h4 ⟨0, none⟩ ρ _ w (some p.blk) _ hro hh ht hd0 (Nat.zero_le _) (fun e => by cases e) (fun ρ1 a1 w1 hp1 ht1 hdf1 => ?_)
    rw [hqn]
    obtain ⟨p1, L1, hpl1, _, hL1, hlr1⟩ := hp1.hr.blk _ _ hb'
    have e1 : p1 = p := by have := hp1.le _ _ hp; rw [hpl1] at this; exact Option.some.inj this
    subst e1
    cases hst : b'.st with
    | ready =>
      rw [hst] at h7
      obtain ⟨q2, h8, h9⟩ := ob_some.1 h7
      have hset := hp1.hr.setLoop (r' := { b' with st := .busy }) (L' := { L1 with state := .busy }) hb' hpl1 h0 hL1 { hlr1 with st := rfl }
      have hst1 : L1.state = .ready := by have := hlr1.st; rw [hst] at this; exact this
      let w2 : World := { w1 with heap := w1.heap.setIfInBounds p1.blk (.loop { L1 with state := .busy }) }
      refine ⟨w2, ?_, ?_⟩
      · simp only [Instr.beginRound, Sem.run_bind, run_getLoop hL1, Result.andThen_ok, run_setLoop hL1, hst1]
        rfl
      · have hdef2 : DefOk ⟨0, none⟩ ρ1 (q.2.hp.put l (.loop { b' with st := .busy })) (putOff q.2.tm (ntOf P b.fn)) a1.defers w2 := hdf1.post hset
        refine exec_sound hkD hm hn hc b.body ⟨q.2.tm, q.2.hp.put l (.loop { b' with st := .busy })⟩ q2 h8 ⟨0, none⟩ ρ1 a1 w2 (some p1.blk) _ (hro.mono hp1.le) hset.hr ht1 hdef2 (Nat.zero_le _) (fun e => by cases e) (fun ρ2 a2 w3 hp2 ht2 hdf2 => ?_)
        obtain ⟨b2, hb2, h10⟩ := theLoop_some h9
        obtain ⟨p2, L2, hpl2, _, hL2, hlr2⟩ := hp2.hr.blk _ _ hb2
        have e2 : p2 = p1 := by have := hp2.le _ _ hpl1; rw [hpl2] at this; exact Option.some.inj this
        subst e2
        have fin : ∀ (jump : Option Code) (st : LState) (S : LoopState), SR st S → S = (if jump.isNone then .ready else .done) → r = (.bool jump.isNone, q2.2.hp.put l (.loop { b2 with st := st, pending := jump })) →
            ∃ v w', (Instr.endRound p2.blk jump).run P w3 = .ok v w' ∧ Ret P keep ρ h w r (.returned v) w' := by
          intro jump st S hS hS2 hre
          have hset2 := hp2.hr.setLoop (r' := { b2 with st := st, pending := jump }) (L' := { L2 with state := S, pending := jump }) hb2 hpl2 h0 hL2 { hlr2 with st := hS, pending := rfl }
          let w4 : World := { w3 with heap := w3.heap.setIfInBounds p2.blk (.loop { L2 with state := S, pending := jump }) }
          refine ⟨.bool jump.isNone, w4, ?_, ρ2, ?_, ?_⟩
          · simp only [Instr.endRound, Sem.run_bind, run_getLoop hL2, Result.andThen_ok, run_setLoop hL2, Sem.run_pure, ← hS2]
            rfl
          · rw [hre]; exact rfl
          · rw [hre]; exact ((hp1.trans hset).trans hp2).trans hset2
        obtain ⟨e, s2⟩ := q2
        cases hst2 : b2.st with
        | busy =>
          rw [hst2] at h10
          cases e with
          | normal => cases h10; exact fin none .ready .ready rfl rfl rfl
          | ret => cases h10; exact fin (some .ret) .done .done rfl rfl rfl
          | exit id => cases h10; exact fin (some (.exit id)) .done .done rfl rfl rfl
          | goto t => cases h10; exact fin (some (.goto t)) .done .done rfl rfl rfl
        | ready => rw [hst2] at h10; cases h10
        | done => rw [hst2] at h10; cases h10
        | exhausted => rw [hst2] at h10; cases h10
    | busy => rw [hst] at h7; cases h7
    | done => rw [hst] at h7; cases h7
    | exhausted => rw [hst] at h7; cases h7

/-- EVERY CALL. -/
theorem callN_sound {prims : Prims} (hm : P.follows .mixedOrders = true) (hn : NamesOk P) (hpr : PrimsOk P keep prims) : ∀ (n : Nat), CallOk P keep (callN P keep prims lf n) := by
  intro n
  induction n with
  | zero => intro t args h r hr; cases hr
  | succ n ih =>
    intro t args h r hr ρ w avs hh hv
    cases t with
    | fn f => exact callF_sound hm hn ih hpr (show callF P keep prims lf (callN P keep prims lf n) f args h = some r from hr) hh hv
    | loop l => exact fun p hp => callL_sound hm hn ih (show callL P keep lf (callN P keep prims lf n) l args h = some r from hr) hh hv hp

def noPrims : Prims := ⟨fun _ _ _ => none⟩
theorem noPrims_ok : PrimsOk P keep noPrims := fun _ _ _ _ h => by cases h

theorem empty_HR (w : World) : HR P keep (fun _ => none) ⟨.leaf, 0⟩ w := ⟨fun _ _ h => (by cases h), fun _ _ h => (by cases h), fun _ _ h => (by cases h), fun _ _ _ _ _ _ h => (by cases h)⟩

/-- A CALL WITHOUT ARGUMENTS, FROM NOTHING: in every world it returns that, and leaves all that was there. -/
theorem calls_of_run {prims : Prims} (hm : P.follows .mixedOrders = true) (hn : NamesOk P) (hpr : PrimsOk P keep prims) {n : Nat} {f : FuncId} {b : Bool} {h : Heap} (hr : callN P keep prims lf n (.fn f) [] ⟨.leaf, 0⟩ = some (.bool b, h)) (w : World) :
    Calls P f #[] w fun e w' => e = .returned (.bool b) ∧ w'.os = w.os ∧ w'.output = w.output ∧ ∀ k, k < w.heap.size → w'.heap[k]? = w.heap[k]? := by
  have h1 := (callN_sound (lf := lf) hm hn hpr n (.fn f) [] ⟨.leaf, 0⟩ _ hr (fun _ => none) w [] (empty_HR w) rfl).2
  refine callsIn_wide.1 (CallsIn.mono (F := Fence.wide) h1 fun e w' hR => ?_)
  cases e with
  | returned v =>
    obtain ⟨ρ', hv, hp⟩ := hR
    refine ⟨by rw [show v = .bool b from hv], hp.fr.os, hp.fr.output, fun k hk => hp.fr.same k hk ?_⟩
    rintro ⟨_, _, _, hx, _⟩
    cases hx
  | panicked chain => exact hR.elim
  | outgrown => exact hR.elim
end
end Go.Am

/-
  AM, 37: calls that are answered otherwise: functions of plain values, whose contract is known.
-/
namespace Go.Am
section
variable {P : Program} {keep : Keeps}

/-- the world is as it was, but for what is new -/
theorem Post.below {ρ : Pls} {h : Heap} {w w' : World} (hr : HR P keep ρ h w) (hb : RowKit.Below w.heap.size w w') : Post P keep ρ h w ρ h w' := by
  refine ⟨Pls.le_refl _, hr.frame fun b x p hx hd hp => ?_, ⟨hb.os, hb.output, hb.size, fun k hk _ => hb.block k hk⟩, fun _ _ h => h, Nat.le_refl _, fun _ _ h _ => h, fun _ _ h => h⟩
  obtain ⟨q, hq, hlt⟩ := (hr.blk b x hx).place hd
  rw [hp] at hq; cases hq
  exact hb.block _ hlt

theorem callsIn_none {f : FuncId} {args : Array Value} {w : World} {R : Ending → World → Prop} (h : Calls P f args w R) : CallsIn (fen none) 0 P f args w R := callsIn_wide.2 h

/-- a contract of a function of plain values -/
theorem prim_calls {f : FuncId} {avs : Array Value} {ρ : Pls} {h : Heap} {w : World} {r : AV} {v : Value} (hr : HR P keep ρ h w) (hv : VR ρ r v) (hc : Calls P f avs w fun e w' => e = .returned v ∧ RowKit.Below w.heap.size w w') :
    CallsIn (fen none) 0 P f avs w (Ret P keep ρ h w (r, h)) :=
  CallsIn.mono (F := fen none) (callsIn_none hc) fun e w' ⟨he, hb⟩ => by
    subst he
    exact ⟨ρ, hv, Post.below hr hb⟩

/-- several answers, the first one that answers -/
noncomputable def Prims.or (p q : Prims) : Prims := ⟨fun f args h => Option.rec (motive := fun _ => Option Res) (q.fn f args h) some (p.fn f args h)⟩
theorem Prims.or_ok {p q : Prims} (hp : PrimsOk P keep p) (hq : PrimsOk P keep q) : PrimsOk P keep (p.or q) := by
  intro f args h r hr
  cases hx : p.fn f args h with
  | none =>
    have : q.fn f args h = some (some r) := by
      have h1 : (Option.rec (motive := fun _ => Option Res) (q.fn f args h) some (p.fn f args h) : Option Res) = some (some r) := hr
      rw [hx] at h1; exact h1
    exact hq f args h r this
  | some y =>
    have : p.fn f args h = some (some r) := by
      have h1 : (Option.rec (motive := fun _ => Option Res) (q.fn f args h) some (p.fn f args h) : Option Res) = some (some r) := hr
      rw [hx] at h1; rw [hx]; exact h1
    exact hp f args h r this

/-! ### strings.Repeat -/
noncomputable def repeat2 (s n : AV) (h : Heap) : Res := eStr (fun l => eInt (fun k n => iff' (Nat.beq (kNo k) (nat_lit 3)) (Int.rec (motive := fun _ => Res) (fun c => iff' (and' (Nat.ble c (nat_lit 1073741824)) (Nat.ble (Nat.mul (len' l) c) (nat_lit 1073741824))) (some (.str (rep' c l), h))) (fun _ => none) n)) n) s
noncomputable def repeatP (g : FuncId) : Prims := ⟨fun f args h => Bool.rec (motive := fun _ => Option Res) none (some (l2 (fun s n => repeat2 s n h) args)) (Nat.beq f g)⟩

theorem repeatP_ok {g : FuncId} {rl : List UInt8 → Nat → List UInt8} (hrl : ∀ l c, rl l c = (List.replicate c l).flatten) (hb : ∃ fn c, P.funcs[g]? = some fn ∧ fn.body = some c)
    (hc : ∀ (s : ByteArray) (c : Nat) (w : World), c ≤ 9223372036854775807 → s.size * c ≤ 140737488355328 → Calls P g #[.string s, .int .i64 c] w fun e w' => e = .returned (.string ⟨(rl s.data.toList c).toArray⟩) ∧ RowKit.Below w.heap.size w w') : PrimsOk P keep (repeatP g) := by
  intro f args h r hr ρ w avs hh hv
  replace hr : (Bool.rec (motive := fun _ => Option Res) none (some (l2 (fun s n => repeat2 s n h) args)) (Nat.beq f g) : Option Res) = some (some r) := hr
  cases hfg : Nat.beq f g with
  | false => rw [hfg] at hr; cases hr
  | true =>
    rw [hfg] at hr
    obtain rfl := Nat.eq_of_beq_eq_true hfg
    have hr : l2 (fun s n => repeat2 s n h) args = some r := Option.some.inj hr
    obtain ⟨s, n, rfl, h1⟩ := l2_some hr
    obtain ⟨l, rfl, h2⟩ := eStr_some h1
    obtain ⟨k, n, rfl, h3⟩ := eInt_some h2
    obtain ⟨h4, h5⟩ := iff'_some.1 h3
    have hk : k = .i64 := by cases k <;> first | rfl | cases h4
    subst hk
    cases n with
    | negSucc c => cases h5
    | ofNat c =>
      obtain ⟨h6, h7⟩ := iff'_some.1 h5
      cases h7
      simp only [and'_eq, Bool.and_eq_true] at h6
      have h8 := Nat.le_of_ble_eq_true h6.1
      have h9 := Nat.le_of_ble_eq_true h6.2
      obtain ⟨v, v', e1, ⟨sb, rfl, rfl⟩, h10⟩ := hv.two
      cases h10
      subst e1
      refine ⟨hb, ?_⟩
      have h9 : (sb.data.toList.map (·.toNat)).length * c ≤ 1073741824 := by have := h9; rwa [len'_eq] at this
      have hsz : sb.size * c ≤ 140737488355328 := by
        have : sb.size = (sb.data.toList.map (·.toNat)).length := by rw [List.length_map, Array.length_toList]; rfl
        rw [this]; omega
      refine prim_calls hh ?_ (hc sb c w (by omega) hsz)
      refine ⟨_, rfl, ?_⟩
      rw [hrl, rep'_eq]
      simp [List.map_flatten, List.map_replicate]
end
end Go.Am

/-
  AM, 26: on the way through a region that draws its order.
-/
import Derived.Test.YtboobbebilegnaaGreatAm25
namespace Go.Am
section
variable {c : DC} {S : Nat → Prop} {done : List Nat} {rest : List (Nat × GIns)} {h : Heap} {ρ : Pls} {a : Act} {w : World} {i : Nat} {o : Oper}

theorem gs_pairwise (c : DC) : c.gs.Pairwise (fun x y => x.1 ≠ y.1) := by
  unfold DC.gs
  rw [List.pairwise_map]
  exact List.nodup_range.imp fun h => h
theorem mem_gs {x : Nat × GIns} : x ∈ c.gs ↔ x.1 < c.ops.size ∧ x.2 = c.f x.1 := by
  unfold DC.gs DC.f
  rw [List.mem_map]
  constructor
  · rintro ⟨i, hi, rfl⟩; exact ⟨List.mem_range.1 hi, rfl⟩
  · rintro ⟨h1, h2⟩; exact ⟨x.1, List.mem_range.2 h1, by rw [← h2]⟩
theorem mem_es {e : Nat} : e ∈ c.es ↔ e < c.ops.size ∧ (c.f e).i.eff = true := by
  unfold DC.es
  rw [List.mem_map]
  constructor
  · rintro ⟨x, hx, rfl⟩
    rw [List.mem_filter] at hx
    obtain ⟨h1, h2⟩ := mem_gs.1 hx.1
    exact ⟨h1, by rw [← h2]; exact hx.2⟩
  · rintro ⟨h1, h2⟩
    exact ⟨(e, c.f e), List.mem_filter.2 ⟨mem_gs.2 ⟨h1, rfl⟩, h2⟩, rfl⟩

theorem dst_eq (ho : c.ops[i]? = some o) : c.dst i = o.dst := by unfold DC.dst; rw [ho]; rfl
theorem dst_lt {j t : Nat} (h : c.dst j = some t) : j < c.ops.size := by
  unfold DC.dst at h
  cases hj : c.ops[j]? with
  | none => rw [hj] at h; cases h
  | some x => exact (Array.getElem?_eq_some_iff.1 hj).1
theorem dst_named (ho : c.ops[i]? = some o) {t : Nat} (h : c.dst i = some t) : t ∈ namesOf c.ops o := by
  rw [dst_eq ho] at h
  unfold namesOf
  simp [h]

/-- nobody behind who writes what it names is done -/
theorem later_not (k : DOk c) (d : DI c S done rest h ρ a w) (hS : ¬ S i) (ho : c.ops[i]? = some o) {t j : Nat} (ht : t ∈ namesOf c.ops o) (hj : S j) (hd : c.dst j = some t) : j < i := by
  rcases Nat.lt_trichotomy j i with h1 | h1 | h1
  · exact h1
  · subst h1; exact absurd hj hS
  · rcases k.graph.names i j o t ho (dst_lt hd) (by omega) hd ht with h2 | h2
    · have := bef_lt k.graph i j h2; omega
    · exact absurd (d.down j i hj h2) hS

theorem env_ok (k : DOk c) (d : DI c S done rest h ρ a w) (hS : ¬ S i) (hready : ∀ j, bef c.b i j = true → S j) (ho : c.ops[i]? = some o) : EnvOk (findN c.kp c.ops o i) [] c.vsF c.tm ρ a := by
  intro t x v hx hg
  unfold findN at hx
  split at hx
  · rename_i hn
    have hn : t ∈ namesOf c.ops o := by simpa using hn
    unfold findOpi at hx
    cases hw : writer c.ops t i with
    | some j =>
      rw [hw] at hx; cases hx
      obtain ⟨h1, h2, h3⟩ := writer_some hw
      have hj : S j := hready j (k.graph.first i o j t ho h1 h2 hn)
      refine d.tm1 j t v hj h2 (fun j' hj' hd' => ?_) hg
      have := later_not k d hS ho hn hj' hd'
      rcases Nat.lt_or_ge j j' with h4 | h4
      · exact absurd hd' (h3 j' h4 this)
      · exact h4
    | none =>
      rw [hw] at hx
      simp only at hx
      split at hx
      · rename_i hk
        cases hx
        have e := d.tm0 t (fun j hj hd => writer_none hw j (later_not k d hS ho hn hj hd) hd)
        obtain ⟨cv, h1, h2⟩ := k.tr.2 t v hk hg
        rw [e, Array.getD_eq_getD_getElem?, h1]
        exact h2.mono d.le
      · cases hx
  · cases hx

/-- one temporary more -/
theorem put_tmps (k : DOk c) (d : DI c S done rest h ρ a w) (hi : i < c.ops.size) (hS : ¬ S i) (ho : c.ops[i]? = some o) {ρ' : Pls} (hl : ρ.le ρ') {v : Value} (hv : ∀ u, c.vsF.gt i = some u → VR ρ' u v) :
    (∀ t, (∀ j, (S j ∨ j = i) → c.dst j ≠ some t) → (a.put o.dst v).tmps.getD t undef = c.a0.tmps.getD t undef) ∧
    ∀ j t u, (S j ∨ j = i) → c.dst j = some t → (∀ j', (S j' ∨ j' = i) → c.dst j' = some t → j' ≤ j) → c.vsF.gt j = some u → VR ρ' u ((a.put o.dst v).tmps.getD t undef) := by
  have hok : okDst c.nt o.dst = true := by
    obtain ⟨o', ho', h1, _⟩ := compD1_ok (k.good i hi)
    rw [ho] at ho'; cases ho'; exact h1
  have hother : ∀ t, o.dst ≠ some t → (a.put o.dst v).tmps.getD t undef = a.tmps.getD t undef := by
    intro t ht
    cases hd : o.dst with
    | none => rfl
    | some q =>
      rw [hd] at hok ht
      have hlt : q < a.tmps.size := by rw [d.size]; exact Nat.lt_of_lt_of_le (okDst_lt hok) k.tr.1
      rw [put_getD hlt, if_neg (fun e => ht (by rw [e]))]
  refine ⟨fun t ht => ?_, fun j t u hj hd hmax hu => ?_⟩
  · rw [hother t (by rw [← dst_eq ho]; exact ht i (.inr rfl))]
    exact d.tm0 t fun j hj => ht j (.inl hj)
  · by_cases e : j = i
    · subst e
      rw [dst_eq ho] at hd
      rw [hd] at hok ⊢
      have hlt : t < a.tmps.size := by rw [d.size]; exact Nat.lt_of_lt_of_le (okDst_lt hok) k.tr.1
      rw [put_getD hlt, if_pos rfl]
      exact hv u hu
    · have hj' : S j := hj.resolve_right e
      have hne : o.dst ≠ some t := by
        intro e2
        have h1 := hmax i (.inr rfl) (by rw [dst_eq ho]; exact e2)
        have h2 := later_not k d hS ho (dst_named ho (by rw [dst_eq ho]; exact e2)) hj' hd
        omega
      rw [hother t hne]
      exact (d.tm1 j t u hj' hd (fun j' h1 h2 => hmax j' (.inl h1) h2) hu).mono hl

theorem lo_le (d : DI c S done rest h ρ a w) (hready : ∀ j, bef c.b i j = true → S j) : loOf c.b c.es i ≤ done.length := by
  unfold loOf
  rw [d.split, List.filter_append]
  have : (rest.map (·.1)).filter (fun e => bef c.b i e) = [] := by
    rw [List.filter_eq_nil_iff]
    intro e he hb
    obtain ⟨x, hx, rfl⟩ := List.mem_map.1 he
    exact d.restS x hx (hready _ hb)
  rw [this, List.append_nil]
  exact List.length_filter_le _ _
theorem done_all (d : DI c S done rest h ρ a w) (hS : ¬ S i) : done.filter (fun e => !bef c.b e i) = done := by
  rw [List.filter_eq_self]
  intro e he
  cases hb : bef c.b e i with
  | false => rfl
  | true => exact absurd (d.down e i (d.doneS e he) hb) hS
theorem le_hi (d : DI c S done rest h ρ a w) (hS : ¬ S i) : done.length ≤ hiOf c.b c.es i := by
  unfold hiOf
  rw [d.split, List.filter_append, done_all d hS, List.length_append]
  omega

/-- AN OPERATION THAT ONLY TELLS A VALUE. -/
theorem DI.quiet (k : DOk c) (d : DI c S done rest h ρ a w) (hi : i < c.ops.size) (hS : ¬ S i) (hready : ∀ j, bef c.b i j = true → S j) (ho : c.ops[i]? = some o) (he : (c.f i).i.eff = false)
    (hb : ∀ y, (c.f i).blk c.vsF c.tm ≠ some (some y)) {v : Value} (hv : ∀ u, c.vsF.gt i = some u → VR ρ u v) : DI c (fun j => S j ∨ j = i) done rest h ρ (a.put o.dst v) w := by
  obtain ⟨t0, t1⟩ := put_tmps k d hi hS ho (Pls.le_refl ρ) hv
  refine { d with doneS := fun e h => .inl (d.doneS e h), restS := fun x hx hs => ?_, down := fun i' j hs hbf => ?_, size := (put_size _ _ _).trans d.size, defers := (put_defers _ _ _).trans d.defers, tm0 := t0, tm1 := t1, pend := fun i' y h1 h2 h3 h4 => ?_, free := fun i' h1 h2 => d.free i' h1 fun hs => h2 (.inl hs) }
  · rcases hs with hs | hs
    · exact d.restS x hx hs
    · have : x.1 ∈ c.es := by rw [d.split]; exact List.mem_append_right _ (List.mem_map_of_mem hx)
      rw [hs] at this
      rw [(mem_es.1 this).2] at he; cases he
  · rcases hs with hs | hs
    · exact .inl (d.down i' j hs hbf)
    · subst hs; exact .inl (hready j hbf)
  · rcases h2 with h2 | h2
    · exact d.pend i' y h1 h2 h3 h4
    · subst h2; exact absurd h4 (hb y)

/-- A NEW BLOCK. -/
theorem DI.alloc (k : DOk c) (d : DI c S done rest h ρ a w) (hi : i < c.ops.size) (hS : ¬ S i) (hready : ∀ j, bef c.b i j = true → S j) (ho : c.ops[i]? = some o) (he : (c.f i).i.eff = false)
    {y : Blk} {v : Value} {w' : World} {ob' : Obj} {sz : Nat} (hblk : (c.f i).blk c.vsF c.tm = some (some y)) (hos : w'.os = w.os) (hout : w'.output = w.output) (hheap : w'.heap = w.heap.push ob')
    (hbr : BR c.P c.keep (ρ.up (c.h0.next + i) ⟨w.heap.size, 0, sz⟩) (c.h0.next + i) y w') (hv : ∀ u, c.vsF.gt i = some u → VR (ρ.up (c.h0.next + i) ⟨w.heap.size, 0, sz⟩) u v) :
    DI c (fun j => S j ∨ j = i) done rest h (ρ.up (c.h0.next + i) ⟨w.heap.size, 0, sz⟩) (a.put o.dst v) w' := by
  have hfree := d.free i hi hS
  have hle : ρ.le (ρ.up (c.h0.next + i) ⟨w.heap.size, 0, sz⟩) := Pls.le_up hfree
  obtain ⟨t0, t1⟩ := put_tmps k d hi hS ho hle hv
  have hlt : c.h0.next + i < h.next := by have := d.hn; omega
  obtain ⟨m1, m2⟩ := d.hr.more (p := ⟨w.heap.size, 0, sz⟩) hfree hlt hheap
  have hsz : w'.heap.size = w.heap.size + 1 := by rw [hheap]; simp
  have hsame : ∀ n, n < w.heap.size → w'.heap[n]? = w.heap[n]? := fun n hn => by rw [hheap, Array.getElem?_push, if_neg (by omega)]
  have hup : ∀ j p, j < c.ops.size → (ρ.up (c.h0.next + i) ⟨w.heap.size, 0, sz⟩) (c.h0.next + j) = some p → (j = i ∧ p = ⟨w.heap.size, 0, sz⟩) ∨ (j ≠ i ∧ ρ (c.h0.next + j) = some p) := by
    intro j p _ hp
    unfold Pls.up at hp
    by_cases e : j = i
    · subst e; rw [if_pos rfl] at hp; cases hp; exact .inl ⟨rfl, rfl⟩
    · rw [if_neg (by omega)] at hp; exact .inr ⟨e, hp⟩
  have hw0 : c.w0.heap.size ≤ w.heap.size := d.fr.size
  refine { run := d.run, split := d.split, doneS := fun e h => .inl (d.doneS e h), restS := fun x hx hs => ?_, restG := d.restG, down := fun i' j hs hb => ?_, hr := m1, hn := d.hn, le := Pls.le_trans d.le hle, fr := ⟨hos.trans d.fr.os, hout.trans d.fr.output, by omega, fun n hn ho => (hsame n (by omega)).trans (d.fr.same n hn ho)⟩, own := fun n hn ho => d.own n hn (m2 n ho), new := fun b p hp hlt => ?_, size := (put_size _ _ _).trans d.size, defers := (put_defers _ _ _).trans d.defers, tm0 := t0, tm1 := t1, pend := fun i' y' h1 h2 h3 h4 => ?_, sep := fun j j' p p' hj hj' hne hp hp' => ?_, old := fun j p hj hp => ?_, free := fun i' h1 h2 => ?_ }
  · rcases hs with hs | hs
    · exact d.restS x hx hs
    · have : x.1 ∈ c.es := by rw [d.split]; exact List.mem_append_right _ (List.mem_map_of_mem hx)
      rw [hs] at this
      rw [(mem_es.1 this).2] at he; cases he
  · rcases hs with hs | hs
    · exact .inl (d.down i' j hs hb)
    · subst hs; exact .inl (hready j hb)
  · unfold Pls.up at hp
    rw [if_neg (by omega)] at hp
    exact d.new b p hp hlt
  · by_cases e : i' = i
    · subst e
      rw [hblk] at h4; cases h4
      refine ⟨_, Pls.up_same _ _ _, hbr, hw0, by rw [hsz]; exact Nat.lt_succ_self _, fun ho => ?_⟩
      obtain ⟨b, z, q, hz, hd, hq, e⟩ := m2 _ ho
      obtain ⟨q', hq', hlt'⟩ := (d.hr.blk b z hz).place hd
      rw [hq] at hq'; cases hq'
      simp only at e; omega
    · obtain ⟨p, g1, g2, g3, g4, g5⟩ := d.pend i' y' h1 (h2.resolve_right e) h3 h4
      refine ⟨p, hle _ _ g1, (g2.frame fun q _ hq => ?_).mono hle, g3, by omega, fun ho => g5 (m2 _ ho)⟩
      rw [g1] at hq; cases hq
      exact hsame _ g4
  · rcases hup j p hj hp with ⟨e1, e2⟩ | ⟨e1, e2⟩ <;> rcases hup j' p' hj' hp' with ⟨e3, e4⟩ | ⟨e3, e4⟩
    · omega
    · have := (d.old j' p' hj' e4).2; subst e2; simp only; omega
    · have := (d.old j p hj e2).2; subst e4; simp only; omega
    · exact d.sep j j' p p' hj hj' hne e2 e4
  · rcases hup j p hj hp with ⟨e1, e2⟩ | ⟨e1, e2⟩
    · subst e2; simp only; omega
    · have := d.old j p hj e2; omega
  · unfold Pls.up
    have hne : i' ≠ i := fun e => h2 (.inr e)
    rw [if_neg (by omega)]
    exact d.free i' h1 fun hs => h2 (.inl hs)
end
end Go.Am

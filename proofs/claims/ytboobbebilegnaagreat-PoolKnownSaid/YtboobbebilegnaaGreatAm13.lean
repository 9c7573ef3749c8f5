/-
  AM, 13: append.
-/
import Derived.Test.YtboobbebilegnaaGreatAm12
import Derived.Laws.Append
namespace Go.Am
section
variable {P : Program} {keep : Keeps} {w : World} {ρ : Pls} {h : Heap}

theorem HR.kill (hr : HR P keep ρ h w) {b : Nat} {x : Blk} (hb : h.bs.gt b = some x) : Post P keep ρ h w ρ (h.put b .dead) w := by
  refine ⟨Pls.le_refl _, ⟨hr.dom, fun c z hz => ?_, fun c z hz => ?_, fun c c' z z' q q' hz hz' hd hd' hrw hq hq' hne => ?_⟩, ⟨rfl, rfl, Nat.le_refl _, fun _ _ _ => rfl⟩, fun k _ ho => ?_, Nat.le_refl _, fun _ _ h _ => h⟩
  · rw [put_get] at hz
    by_cases e : c = b
    · subst e; exact hr.has _ _ hb
    · rw [if_neg e] at hz; exact hr.has _ _ hz
  · rw [put_get] at hz
    by_cases e : c = b
    · rw [if_pos e] at hz; cases hz; trivial
    · rw [if_neg e] at hz; exact hr.blk _ _ hz
  · rw [put_get] at hz hz'
    by_cases e : c = b
    · rw [if_pos e] at hz; cases hz; cases hd
    · by_cases e' : c' = b
      · rw [if_pos e'] at hz'; cases hz'; cases hd'
      · rw [if_neg e] at hz; rw [if_neg e'] at hz'
        exact hr.inj c c' z z' q q' hz hz' hd hd' hrw hq hq' hne
  · obtain ⟨c, z, q, hz, hzr, hq, rfl⟩ := ho
    rw [put_get] at hz
    by_cases e : c = b
    · rw [if_pos e] at hz; cases hz; cases hzr
    · rw [if_neg e] at hz; exact ⟨c, z, q, hz, hzr, hq, rfl⟩

/-- N cells, of which these lie in a row from a place on -/
def Row (ρ : Pls) (y : Blk) (N : Nat) (row : Array Value) (o : Nat) : Prop :=
  ∃ t z, y = .cells t z N false ∧ ∀ i, i < N → ∃ v cv, cellAt t z i = some v ∧ v.one = true ∧ row[o + i]? = some cv ∧ VR ρ v cv

/-- what the mark of a block says: this type; not just its cells -/
def BMark (y : Blk) (e : TypeId) : Prop := ∀ t z n ro, y = .cells t z n ro → ∀ k x, z = tyMark k x → e = k ∧ x = false
theorem BMark.ok {t : Tr AV} {z : List AV} {n : Nat} {ro : Bool} {e : TypeId} {p : Pl} (h : BMark (.cells t z n ro) e) : MarkOk z n p e := fun k x hz => by
  obtain ⟨a, b⟩ := h _ _ _ _ rfl k x hz
  exact ⟨a, fun hx => by rw [b] at hx; cases hx⟩
theorem tyMark_inj {k k' : Nat} {x x' : Bool} (h : tyMark k x = tyMark k' x') : k = k' ∧ x = x' := by
  simp only [tyMark, List.cons.injEq, AV.tuple.injEq, AV.int.injEq, AV.bool.injEq, and_true, true_and] at h
  exact ⟨Int.ofNat_inj.1 h.1, h.2⟩
theorem bmark_new {t : Tr AV} {n : Nat} {ro : Bool} {e : TypeId} : BMark (.cells t (tyMark e false) n ro) e := fun t' z n' ro' h k x hz => by
  cases h
  obtain ⟨a, b⟩ := tyMark_inj hz
  exact ⟨a, b.symm⟩
theorem fitsZ_mark {e k : Nat} {x : Bool} (h : fitsZ e (tyMark k x) = true) : e = k ∧ x = false := by
  have h : (Bool.rec (motive := fun _ => Bool) (Nat.beq k e) false x : Bool) = true := h
  cases x with
  | true => cases h
  | false => exact ⟨(Nat.eq_of_beq_eq_true h).symm, rfl⟩
theorem zKeep_mark {z : List AV} {k : Nat} {x : Bool} (h : zKeep z = tyMark k x) : z = tyMark k x := by
  unfold zKeep at h
  cases hm : markOf z with
  | none => rw [hm] at h; cases h
  | some p => rw [hm] at h; exact h

theorem Row.of {cs z : List AV} {cvs : List Value} {row : Array Value} {o : Nat} (hv : VRs ρ cs cvs) (hone : allOne cs = true) (hrow : ∀ i, i < cs.length → row[o + i]? = cvs[i]?) : Row ρ (.cells (fillC cs .leaf 0) z (len' cs) false) cs.length row o := by
  rw [len'_eq]
  rw [allOne_eq, List.all_eq_true] at hone
  refine ⟨_, _, rfl, fun i hi => ?_⟩
  obtain ⟨u, h1, h2⟩ := hv.get i cs[i] (List.getElem?_eq_getElem hi)
  refine ⟨cs[i], u, ?_, hone _ (List.getElem_mem hi), by rw [hrow i hi, h1], h2⟩
  unfold cellAt
  rw [gt_fillC, if_pos (by omega), Nat.sub_zero, List.getElem?_eq_getElem hi]

/-- a new row of the model's -/
theorem app_row (hr : HR P keep ρ h w) {id : Nat} (hid : h.next ≤ id) {y : Blk} {N : Nat} {row : Array Value} {e : TypeId} (hy : Row ρ y N row 0) (hmk : BMark y e) {need cap size : Nat} (hneed : need ≤ cap) (hN : N ≤ row.size) (hsz : row.size = cap * size) :
    Post P keep ρ h w (ρ.up id ⟨w.heap.size, 0, cap * size⟩) (h.new id y) (w.drew.alloc (.cells row e)) ∧
      VR (ρ.up id ⟨w.heap.size, 0, cap * size⟩) (.slice (some (id, 0)) need need (some size)) (.slice (some ⟨w.heap.size, 0, none⟩) need cap) := by
  have f1 := (hr.fresh hid).1
  refine ⟨?_, ⟨_, _, _, Pls.up_same _ _ _, rfl, hneed, hneed, (fun e => by cases e), (fun es e => by cases e; simp), fun _ => by simp⟩⟩
  rw [new_eq hid]
  obtain ⟨t, z, rfl, hv⟩ := hy
  refine hr.push (w' := w.drew.alloc (.cells row e)) (o := .cells row e) hid (by omega) rfl rfl rfl ?_
  refine ⟨_, row, e, (0, 0), Pls.up_same _ _ _, ?_, hsz, by simp only [Nat.zero_add]; omega, fun i hi => ?_, fun _ i _ hh => by simp at hh, hmk.ok⟩
  · show (w.heap.push _)[w.heap.size]? = _
    simp
  · obtain ⟨v, cv, h1, h2, h3, h4⟩ := hv i hi
    exact ⟨v, cv, h1, h2, h3, h4.mono (Pls.le_up f1)⟩

theorem run_append_in {t u e ty : TypeId} {ts : Array TypeId} {d : TypeDesc} {size : Nat} (ht : ts[0]? = some t) (hu : P.underlying t = some (.slice e)) (hs : tSize P e = some size) (ht1 : ts[1]? = some u) (hu1 : P.underlying u = some d) (hint : ∀ k, d ≠ .int k)
    {base : Option Addr} {sLen sCap n : Nat} {x : Value} {cs : Array Value} (hx : (Builtin.lenOf x).run P w = .ok n w) (hc : (Builtin.firstCells size n x).run P w = .ok cs w) (hle : sLen + n ≤ sCap)
    {w' : World} (hst : match base with | some a => (storeCells (a.add (sLen * size)) cs.toList).run P w = .ok () w' | none => w' = w) :
    (Builtin.append_ ts ty #[.slice base sLen sCap, x]).run P w = .ok (.slice base (sLen + n) sCap) w' := by
  simp only [Builtin.append_, ht, ht1, List.getElem?_toArray, List.getElem?_cons_zero, List.getElem?_cons_succ, Sem.run_bind, run_underlying hu, run_underlying hu1, Result.andThen_ok, run_sizeT hs, Sem.run_pure]
  simp only [Bool.false_eq_true, if_false, Bool.not_false, if_true, hx, Result.andThen_ok, if_pos hle, Sem.run_bind, hc]
  cases base with
  | none => simp only at hst; subst hst; rfl
  | some a => simp only [Sem.run_bind, hst, Result.andThen_ok, Sem.run_pure]

theorem run_append_out {t u e ty : TypeId} {ts : Array TypeId} {d : TypeDesc} {i : TypeInfo} {z : Value} (ht : ts[0]? = some t) (hu : P.underlying t = some (.slice e)) (hi : P.info? e = some i) (hz0 : i.zero = some z) (ht1 : ts[1]? = some u) (hu1 : P.underlying u = some d) (hint : ∀ k, d ≠ .int k)
    {base : Option Addr} {sLen sCap n : Nat} {x : Value} {co cs : Array Value} (hx : (Builtin.lenOf x).run P w = .ok n w) (hc : (Builtin.firstCells i.size n x).run P w.drew = .ok cs w.drew) (ho : (Builtin.firstCells i.size sLen (.slice base sLen sCap)).run P w.drew = .ok co w.drew)
    (hle : ¬ sLen + n ≤ sCap) (h63 : ((sLen + n : Nat) : Int) ≤ 9223372036854775807) (hfit : Builtin.nextslicecap (sLen + n) sCap * i.bytes ≤ 281474976710656) :
    (Builtin.append_ ts ty #[.slice base sLen sCap, x]).run P w =
      .ok (.slice (some ⟨w.heap.size, 0, none⟩) (sLen + n) (grownCap w (sLen + n) sCap e)) (w.drew.alloc (.cells (co ++ cs ++ Builtin.zeroCells z.cells (grownCap w (sLen + n) sCap e - (sLen + n))) e)) := by
  have h63' : ¬ (9223372036854775807 < ((sLen : Int) + (n : Int))) := by omega
  have h48' : ¬ (281474976710656 < Builtin.nextslicecap (sLen + n) sCap * i.bytes) := by omega
  simp [Builtin.append_, ht, ht1, run_underlying hu, run_underlying hu1, sizeOf, typeInfo, zeroValue, hi, hz0, hx, hle, h63', h48', Question.forced, ho, hc, newRow, grownCap]

theorem le_grownCap {need old : Nat} {e : TypeId} (h : old < need) : need ≤ grownCap w need old e := by
  unfold grownCap
  simp only [Question.cut]
  have := le_nextslicecap h
  omega

/-- onto a new block -/
theorem appNew_some {size need id : Nat} {cs z : List AV} {q : AV × Heap} (hq : appNew size need z id h cs = some q) : allOne cs = true ∧ q = (.slice (some (id, 0)) need need (some size), h.new id (.cells (fillC cs .leaf 0) z (len' cs) false)) := by
  obtain ⟨h1, h2⟩ := iff'_some.1 hq
  cases h2; exact ⟨h1, rfl⟩

/-- L cells of another block from a place on, and then these -/
def Onto (y : Blk) (tr : Tr AV) (z : List AV) (off L : Nat) (vs : List AV) : Prop :=
  ∃ t' z', y = .cells t' z' (L + vs.length) false ∧ (∀ i, i < L → cellAt t' z' i = cellAt tr z (off + i)) ∧ ∀ i, i < vs.length → cellAt t' z' (L + i) = vs[i]?

theorem Onto.row {tr : Tr AV} {z : List AV} {off L m : Nat} {vs old z0 : List AV} {ro : Bool} {bk : Nat} (hl : h.ld bk off L = some old) (hb : h.bs.gt bk = some (.cells tr z m ro)) : off + L ≤ m ∧ old.length = L ∧ Onto (.cells (fillC (old ++ vs) .leaf 0) z0 (len' (old ++ vs)) false) tr z off L vs := by
  obtain ⟨tr', z', m', ro', hb', hle, hlen, hv⟩ := ld_some hl
  rw [hb] at hb'; cases hb'
  refine ⟨hle, hlen, ?_⟩
  rw [len'_eq]
  refine ⟨fillC (old ++ vs) .leaf 0, z0, by rw [List.length_append, hlen], fun i hi => ?_, fun i hi => ?_⟩
  · rw [hv i hi]
    have hget : (old ++ vs)[i]? = some old[i] := by rw [List.getElem?_append_left (by omega)]; exact List.getElem?_eq_getElem (by omega)
    unfold cellAt
    rw [gt_fillC, if_pos (by simp only [List.length_append]; omega), Nat.sub_zero, hget, List.getElem?_eq_getElem (show i < old.length by omega)]
  · have hget : (old ++ vs)[L + i]? = some vs[i] := by rw [List.getElem?_append_right (by omega), hlen, Nat.add_sub_cancel_left]; exact List.getElem?_eq_getElem hi
    unfold cellAt
    rw [gt_fillC, if_pos (by simp only [List.length_append]; omega), Nat.sub_zero, hget, List.getElem?_eq_getElem hi]

theorem appDead_some {size need e off len n bk id : Nat} {vs : List AV} {q : AV × Heap} (hq : appDead size need e off len n vs bk id h = some q) (hn : vs.length = n * size) :
    ∃ tr z m y, h.bs.gt bk = some (.cells tr z m false) ∧ allOne vs = true ∧ off + len * size ≤ m ∧ Onto y tr z off (len * size) vs ∧ BMark y e ∧ (∀ e0, (∀ k x, z = tyMark k x → e0 = k) → BMark y e0) ∧ q = (.slice (some (id, 0)) need need (some size), (h.put bk .dead).new id y) := by
  obtain ⟨tr, z, m, ro, hb, hq1⟩ := cells_some hq
  obtain ⟨h1, hq2⟩ := iff'_some.1 hq1
  clear hq hq1
  simp only [and'_eq, notB_eq, Bool.and_eq_true, Bool.not_eq_true'] at h1
  obtain ⟨⟨rfl, hone⟩, hfit⟩ := h1
  have hfz : ∀ k x, z = tyMark k x → e = k ∧ x = false := fun k x hz => by subst hz; exact fitsZ_mark hfit
  refine ⟨tr, z, m, ?_⟩
  cases hc : and' (Nat.beq off 0) (Nat.beq (len * size) m) with
  | true =>
    have hq : (Bool.rec (motive := fun _ => Option (AV × Heap)) _ (some (.slice (some (id, 0)) need need (some size), (h.put bk .dead).new id (.cells (fillC vs tr m) z (m + n * size) false))) (and' (Nat.beq off 0) (Nat.beq (len * size) m)) : Option (AV × Heap)) = some q := hq2
    rw [hc] at hq
    simp only [and'_eq, Bool.and_eq_true] at hc
    obtain ⟨h0, hm⟩ := hc
    obtain rfl := Nat.eq_of_beq_eq_true h0
    have hm := Nat.eq_of_beq_eq_true hm
    cases hq
    refine ⟨_, hb, hone, by omega, ⟨_, _, by rw [hm, hn], fun i hi => ?_, fun i hi => ?_⟩, fun t z' n' ro' hy k x hz => ?_, fun e0 h0 t z' n' ro' hy k x hz => ?_, rfl⟩
    · unfold cellAt
      rw [gt_fillC, if_neg (by omega), Nat.zero_add]
    · unfold cellAt
      rw [gt_fillC, if_pos (by omega), show len * size + i - m = i by omega, List.getElem?_eq_getElem hi]
    · cases hy; exact hfz k x hz
    · cases hy; exact ⟨h0 k x hz, (hfz k x hz).2⟩
  | false =>
    have hq : (Bool.rec (motive := fun _ => Option (AV × Heap)) (Option.rec (motive := fun _ => Option (AV × Heap)) none (fun old => appNew size need (zKeep z) id (h.put bk .dead) (app' old vs)) (h.ld bk off (len * size))) _ (and' (Nat.beq off 0) (Nat.beq (len * size) m)) : Option (AV × Heap)) = some q := hq2
    rw [hc] at hq
    cases hl : h.ld bk off (len * size) with
    | none => rw [hl] at hq; cases hq
    | some old =>
      rw [hl] at hq
      obtain ⟨_, rfl⟩ := appNew_some hq
      obtain ⟨h2, h3, h4⟩ := Onto.row (vs := vs) (z0 := zKeep z) hl hb
      refine ⟨_, hb, hone, h2, h4, fun t z' n' ro' hy k x hz => ?_, fun e0 h0 t z' n' ro' hy k x hz => ?_, by rw [app'_eq]⟩
      · cases hy; exact hfz k x (zKeep_mark hz)
      · cases hy; exact ⟨h0 k x (zKeep_mark hz), (hfz k x (zKeep_mark hz)).2⟩

/-- what lies so in memory -/
theorem Onto.lies (hr : HR P keep ρ h w) {y : Blk} {tr : Tr AV} {z : List AV} {off L m bk : Nat} {vs : List AV} {cvs : List Value} {ro : Bool} (hy : Onto y tr z off L vs) (hb : h.bs.gt bk = some (.cells tr z m ro)) (hle : off + L ≤ m)
    (hv : VRs ρ vs cvs) (hone : allOne vs = true) {p : Pl} (hp : ρ bk = some p) {row : Array Value} {o : Nat} (hold : ∀ i u, i < L → w.cell? ⟨p.blk, p.off + off + i, none⟩ = some u → row[o + i]? = some u) (hnew : ∀ i, i < vs.length → row[o + L + i]? = cvs[i]?) :
    Row ρ y (L + vs.length) row o := by
  obtain ⟨t', z', rfl, h1, h2⟩ := hy
  rw [allOne_eq, List.all_eq_true] at hone
  refine ⟨t', z', rfl, fun i hi => ?_⟩
  by_cases hlt : i < L
  · obtain ⟨p', v, cv, hp', g1, g2, g3, g4⟩ := hr.cell hb (i := off + i) (by omega)
    rw [hp] at hp'; cases hp'
    refine ⟨v, cv, by rw [h1 i hlt]; exact g1, g2, hold i cv hlt (by rw [← g3]; congr 2; omega), g4⟩
  · obtain ⟨j, rfl⟩ : ∃ j, i = L + j := ⟨i - L, by omega⟩
    have hj : j < vs.length := by omega
    obtain ⟨u, g1, g2⟩ := hv.get j vs[j] (List.getElem?_eq_getElem hj)
    refine ⟨vs[j], u, by rw [h2 j hj]; exact List.getElem?_eq_getElem hj, hone _ (List.getElem_mem hj), by rw [← Nat.add_assoc, hnew j hj, g1], g2⟩

/-- the elder block's cells, read as a row -/
theorem run_oldCells (hr : HR P keep ρ h w) {tr : Tr AV} {z : List AV} {off L m bk : Nat} {ro : Bool} (hb : h.bs.gt bk = some (.cells tr z m ro)) (hle : off + L ≤ m) {p : Pl} (hp : ρ bk = some p) :
    ∃ cs : List Value, cs.length = L ∧ (loadCells ⟨p.blk, p.off + off, none⟩ L).run P w = .ok cs.toArray w ∧ ∀ i u, i < L → w.cell? ⟨p.blk, p.off + off + i, none⟩ = some u → cs[i]? = some u := by
  obtain ⟨p', c, e, fz, hp', hh, hs, hpm, hv, _⟩ := hr.blk _ _ hb
  rw [hp] at hp'; cases hp'
  have hget : ∀ i, i < L → (c.extract (p.off + off) (p.off + off + L)).toList[i]? = c[p.off + off + i]? := fun i hi => by
    rw [Array.getElem?_toList, Array.getElem?_extract, if_pos (by omega)]
  have hlen : (c.extract (p.off + off) (p.off + off + L)).toList.length = L := by simp; omega
  refine ⟨(c.extract (p.off + off) (p.off + off + L)).toList, hlen, run_loadRun hlen (fun j u hj => ?_), fun i u hi hu => ?_⟩
  · have hjl : j < L := by rw [← hlen]; exact (List.getElem?_eq_some_iff.1 hj).1
    rw [add_addr, cell_of_heap hh, ← hget j hjl]; exact hj
  · rw [hget i hi, ← cell_of_heap hh]; exact hu

/-- the elder block is written on beyond its cells, and is another block from now on -/
theorem app_over (hr : HR P keep ρ h w) {bk id m : Nat} {tr : Tr AV} {z : List AV} (hb : h.bs.gt bk = some (.cells tr z m false)) {p : Pl} (hp : ρ bk = some p) (hid : h.next ≤ id) {w' : World} {off : Nat} {y : Blk} {N : Nat}
    {row c : Array Value} {e : TypeId} {fz : Nat × Nat} (hh : w.heap[p.blk]? = some (.cells c e fz)) (hfz : ∀ i, i < p.size → ¬ (fz.1 ≤ i ∧ i < fz.2)) (hos : w'.os = w.os) (hout : w'.output = w.output) (hheap : w'.heap = w.heap.setIfInBounds p.blk (.cells row e fz))
    (hsz : row.size = p.size) (hN : p.off + off + N ≤ p.size) (hy : Row ρ y N row (p.off + off)) (hmk : BMark y e) :
    Post P keep ρ h w (ρ.up id ⟨p.blk, p.off + off, p.size⟩) ((h.put bk .dead).new id y) w' := by
  have hk := hr.kill hb
  have hlt : p.blk < w.heap.size := (Array.getElem?_eq_some_iff.1 hh).1
  have hold : ∀ k, k ≠ p.blk → w'.heap[k]? = w.heap[k]? := fun k hne => by rw [hheap, Array.getElem?_setIfInBounds, if_neg (fun e => hne e.symm)]
  have hid' : (h.put bk .dead).next ≤ id := hid
  obtain ⟨f1, f2⟩ := hk.hr.fresh hid'
  have hother : ∀ c z q, (h.put bk .dead).bs.gt c = some z → z.dead? = false → ρ c = some q → q.blk ≠ p.blk := fun c z q hz hd hq => by
    rw [put_get] at hz
    by_cases e : c = bk
    · rw [if_pos e] at hz; cases hz; cases hd
    · rw [if_neg e] at hz
      exact hr.inj c bk z _ q p hz hb hd rfl (.inr rfl) hq hp e
  have hown : Own ρ h p.blk := ⟨bk, _, p, hb, rfl, hp, rfl⟩
  rw [new_eq hid']
  obtain ⟨t', z', rfl, hv⟩ := hy
  refine ⟨Pls.le_up f1, hk.hr.add f1 f2 (by omega) (by omega) hother (fun c z q hz hd hq => hold _ (hother c z q hz hd hq)) ?_, ⟨hos, hout, by rw [hheap]; simp, fun k _ ho => hold k fun e => ho (e ▸ hown)⟩, fun k _ ho => ?_, by show h.next ≤ id + 1; omega, fun c q hc hlt => by unfold Pls.up at hc; rwa [if_neg (by omega)] at hc⟩
  · refine ⟨_, row, e, fz, Pls.up_same _ _ _, by rw [hheap, Array.getElem?_setIfInBounds, if_pos rfl, if_pos hlt], hsz, hN, fun i hi => ?_, fun _ => hfz, hmk.ok⟩
    obtain ⟨v, cv, h1, h2, h3, h4⟩ := hv i hi
    exact ⟨v, cv, h1, h2, h3, h4.mono (Pls.le_up f1)⟩
  · obtain ⟨c, z, q, hz, hzr, hq, rfl⟩ := ho
    simp only [Tr.gt_up] at hz
    by_cases e : c = id
    · subst e; rw [Pls.up_same] at hq; cases hq; exact hown
    · rw [if_neg e] at hz
      unfold Pls.up at hq; rw [if_neg e] at hq
      exact hk.own _ ‹_› ⟨c, z, q, hz, hzr, hq, rfl⟩

theorem tSize_info {e : TypeId} {s : Nat} (hs : tSize P e = some s) : ∃ i, P.info? e = some i ∧ i.size = s := by
  unfold tSize at hs
  cases hi : P.info? e with
  | none => rw [hi] at hs; cases hs
  | some i => rw [hi] at hs; cases hs; exact ⟨i, rfl, rfl⟩

theorem room_fits {bs need c' : Nat} (hr : room bs need = true) (hc : c' < need) : ((need : Nat) : Int) ≤ 9223372036854775807 ∧ Builtin.nextslicecap need c' * bs ≤ 281474976710656 := by
  unfold room at hr
  simp only [and'_eq, Bool.and_eq_true] at hr
  have h1 := Nat.le_of_ble_eq_true hr.1
  have h2 := Nat.le_of_ble_eq_true hr.2
  have h1 : need * bs ≤ 68719476736 := h1
  have h2 : need ≤ 68719476736 := h2
  exact ⟨by omega, growslice_fits hc (by omega)⟩

theorem appendS_sound {t u ty : TypeId} {ts : Array TypeId} {du : TypeDesc} {id : Nat} {s x : AV} {q : AV × Heap} (ht : ts[0]? = some t) (ht1 : ts[1]? = some u) (hu1 : P.underlying u = some du) (hint : ∀ k, du ≠ .int k) (hid : h.next ≤ id)
    (hr : HR P keep ρ h w) (hq : appendS P t s x id h = some q) {a b : Value} (hs : VR ρ s a) (hx : VR ρ x b) : Does P keep w ρ h (Builtin.append_ ts ty #[a, b]) q.1 q.2 := by
  unfold appendS at hq
  cases hu : P.underlying t with
  | none => rw [hu] at hq; cases hq
  | some d =>
    rw [hu] at hq
    cases d with
    | slice e =>
      cases hsz : tSize P e with
      | none => simp only [hsz] at hq; cases hq
      | some size =>
        cases size with
        | zero => simp only [hsz] at hq; cases hq
        | succ k =>
          cases hbt : tBytes P e with
          | none => simp only [hsz, hbt] at hq; cases hq
          | some bs =>
            cases hz : tZero P e with
            | none => simp only [hsz, hbt, hz, Option.map_none] at hq; cases hq
            | some z =>
              simp only [hsz, hbt, hz, Option.map_some, Option.getD_some] at hq
              cases hzl : Nat.beq (len' z.cells) (k + 1) with
              | false => rw [hzl] at hq; cases hq
              | true =>
                rw [hzl] at hq
                obtain ⟨o, len, c, g, e0, hq0⟩ := eSlice_some hq
                subst e0
                clear hq
                cases hsrc : srcOf (k + 1) (fun n => n) x h with
                | none => rw [hsrc] at hq0; cases hq0
                | some src =>
                  rw [hsrc] at hq0
                  obtain ⟨hc, hq1⟩ := iff'_some.1 hq0
                  clear hq0
                  simp only [and'_eq, Bool.and_eq_true] at hc
                  obtain ⟨hroom, hlen⟩ := hc
                  have hlen : src.1.length = src.2 * (k + 1) := by have := Nat.eq_of_beq_eq_true hlen; rw [len'_eq] at this; exact this
                  have hzl : z.cells.length = k + 1 := by have := Nat.eq_of_beq_eq_true hzl; rwa [len'_eq] at this
                  obtain ⟨n, cs, g1, g2, g3, g4⟩ := srcOf_sound hr hsrc hx (fun n => Nat.le_refl _)
                  have g3' := g3 w.drew rfl
                  replace g3 := g3 w rfl
                  rw [g2] at hlen hroom hq1
                  have hcl := g4.length
                  obtain ⟨inf, hi, his⟩ := tSize_info hsz
                  have hzv : ∃ zv, inf.zero = some zv ∧ VR ρ z zv := by
                    unfold tZero at hz
                    rw [hi] at hz
                    simp only [Option.bind_some] at hz
                    cases hiz : inf.zero with
                    | none => rw [hiz] at hz; cases hz
                    | some zv => rw [hiz] at hz; exact ⟨zv, rfl, VR.const ρ _ _ hz⟩
                  obtain ⟨zv, hiz, vz⟩ := hzv
                  have hib : inf.bytes = bs := by unfold tBytes at hbt; rw [hi] at hbt; simpa using hbt
                  have hzc : zv.cells.size = k + 1 := by have := vz.cells.length; rw [hzl] at this; simpa using this.symm
                  have hout : ∀ {base : Option Addr} {c' : Nat} {co : Array Value}, (Builtin.firstCells (k + 1) len (.slice base len c')).run P w.drew = .ok co w.drew → c' < len + n →
                      (Builtin.append_ ts ty #[.slice base len c', b]).run P w =
                        .ok (.slice (some ⟨w.heap.size, 0, none⟩) (len + n) (grownCap w (len + n) c' e)) (w.drew.alloc (.cells (co ++ cs ++ Builtin.zeroCells zv.cells (grownCap w (len + n) c' e - (len + n))) e)) := by
                    intro base c' co ho hlt
                    obtain ⟨r1, r2⟩ := room_fits hroom hlt
                    exact run_append_out ht hu hi hiz ht1 hu1 hint g1 (by rw [his]; exact g3') (by rw [his]; exact ho) (by omega) r1 (by rw [hib]; exact r2)
                  have hcs : cs.size = n * (k + 1) := by rw [← hlen]; simpa using hcl.symm
                  have hrowsz : ∀ {co : Array Value} {c' : Nat}, co.size = len * (k + 1) → c' < len + n → (co ++ cs ++ Builtin.zeroCells zv.cells (grownCap w (len + n) c' e - (len + n))).size = grownCap w (len + n) c' e * (k + 1) := by
                    intro co c' hco hlt
                    have := le_grownCap (w := w) (e := e) hlt
                    simp only [Array.size_append, hco, hcs, Builtin.zeroCells, Array.size_map, Array.size_range, hzc]
                    rw [← Nat.add_mul, ← Nat.add_mul]
                    congr 1; omega
                  cases n with
                  | zero =>
                    cases hq1
                    rw [Nat.zero_mul] at hcs
                    have hnil : cs.toList = [] := by simpa using hcs
                    have hin : ∀ {base : Option Addr} {c' : Nat}, len ≤ c' → (Builtin.append_ ts ty #[.slice base len c', b]).run P w = .ok (.slice base len c') w := by
                      intro base c' hle
                      refine run_append_in ht hu hsz ht1 hu1 hint g1 g3 (by omega) ?_
                      cases base with
                      | none => rfl
                      | some a => rw [hnil]; rfl
                    refine ⟨ρ, a, w, ?_, hs, Post.refl hr⟩
                    cases o with
                    | none => obtain ⟨rfl, rfl, _, rfl⟩ := hs; exact hin (Nat.le_refl _)
                    | some p0 => obtain ⟨p, a', c', _, rfl, h1, _⟩ := hs; exact hin h1
                  | succ n =>
                    have hq2 : appAt (k + 1) e o len c g id h src.1 (n + 1) = some q := hq1
                    clear hq1
                    cases o with
                    | none =>
                      obtain ⟨rfl, rfl, _, rfl⟩ := hs
                      obtain ⟨_, hq3⟩ := iff'_some.1 (show iff' (Nat.beq 0 0) (appNew (k + 1) (n + 1) (tyMark e false) id h src.1) = some q from hq2)
                      obtain ⟨hone, rfl⟩ := appNew_some hq3
                      have hgc := le_grownCap (w := w) (e := e) (show 0 < 0 + (n + 1) by omega)
                      obtain ⟨hpost, hval⟩ := app_row (e := e) hr hid (y := .cells (fillC src.1 .leaf 0) (tyMark e false) (len' src.1) false) (N := src.1.length) (row := #[] ++ cs ++ Builtin.zeroCells zv.cells (grownCap w (0 + (n + 1)) 0 e - (0 + (n + 1)))) (need := 0 + (n + 1)) (cap := grownCap w (0 + (n + 1)) 0 e) (size := k + 1)
                        (Row.of g4 hone fun i hi => by
                          have : i < cs.size := by have := hcl; simp at this; omega
                          simp only [Array.empty_append, Nat.zero_add, Array.getElem?_append_left this, Array.getElem?_toList]) bmark_new hgc (by simp only [Array.size_append, hcs, hlen]; simp) (hrowsz (by simp) (by omega))
                      refine ⟨_, _, _, hout rfl (by omega), ?_, hpost⟩
                      simpa using hval
                    | some p0 =>
                      obtain ⟨bk, off⟩ := p0
                      obtain ⟨p, a', c', hp, rfl, hle, hcle, hg, hes, ha⟩ := hs
                      have hold : ∀ {tr : Tr AV} {zz : List AV} {m : Nat} {ro : Bool}, h.bs.gt bk = some (.cells tr zz m ro) → off + len * (k + 1) ≤ m →
                          ∃ co : Array Value, (Builtin.firstCells (k + 1) len (.slice (some a') len c')).run P w.drew = .ok co w.drew ∧ co.size = len * (k + 1) ∧ ∀ i u, i < len * (k + 1) → w.cell? ⟨p.blk, p.off + off + i, none⟩ = some u → co[i]? = some u := by
                        intro tr zz m ro hb hm
                        obtain ⟨co, o1, o2, o3⟩ := run_oldCells (w := w.drew) hr.drew hb hm hp
                        refine ⟨co.toArray, ?_, by simpa using o1, fun i u hi hu => by simpa using o3 i u hi hu⟩
                        by_cases hc0 : c' = 0
                        · obtain rfl : len = 0 := by omega
                          rw [Nat.zero_mul] at o1
                          obtain rfl : co = [] := List.length_eq_zero_iff.1 o1
                          simp only [Builtin.firstCells, Nat.zero_mul]; rfl
                        · rw [ha hc0]; exact o2
                      have hnewrow : ∀ (co rest : Array Value) (i : Nat), co.size = len * (k + 1) → i < src.1.length → (co ++ cs ++ rest)[0 + len * (k + 1) + i]? = cs.toList[i]? := by
                        intro co rest i hco hi
                        have : i < cs.size := by omega
                        rw [Array.getElem?_append_left (by simp only [Array.size_append]; omega), Array.getElem?_append_right (by omega), Array.getElem?_toList]
                        congr 1; omega
                      have holdrow : ∀ (co rest : Array Value) (i : Nat) (u : Value), co.size = len * (k + 1) → i < len * (k + 1) → co[i]? = some u → (co ++ cs ++ rest)[0 + i]? = some u := by
                        intro co rest i u hco hi hu
                        rw [Array.getElem?_append_left (by simp only [Array.size_append]; omega), Array.getElem?_append_left (by omega), Nat.zero_add]
                        exact hu
                      have hmul : (len + (n + 1)) * (k + 1) = len * (k + 1) + (n + 1) * (k + 1) := Nat.add_mul _ _ _
                      have hq2 : (Bool.rec (motive := fun _ => Option (AV × Heap))
                          (Option.rec (motive := fun _ => Option (AV × Heap))
                            (Option.rec (motive := fun _ => Option (AV × Heap)) none (fun old => appNew (k + 1) (len + (n + 1)) (tyMark e false) id h (app' old src.1)) (h.ld bk off (len * (k + 1))))
                            (fun es => iff' (Nat.beq es (k + 1)) (appDead (k + 1) (len + (n + 1)) e off len (n + 1) src.1 bk id h)) g)
                          (stoAs (.slice (some (bk, off)) (len + (n + 1)) c g) (h.sto bk (off + len * (k + 1)) src.1)) (Nat.ble (len + (n + 1)) c) : Option (AV × Heap)) = some q := hq2
                      cases hbl : Nat.ble (len + (n + 1)) c with
                      | true =>
                        rw [hbl] at hq2
                        obtain ⟨h', hst, rfl⟩ := stAs_some hq2
                        have hle2 := Nat.le_of_ble_eq_true hbl
                        obtain ⟨p', w', hp', hrun, hpost⟩ := hr.sto hst g4
                        rw [hp] at hp'; cases hp'
                        have ha' := ha (by omega)
                        subst ha'
                        refine ⟨ρ, _, w', run_append_in ht hu hsz ht1 hu1 hint g1 g3 (by omega) (w' := w') ?_, ⟨p, _, c', hp, rfl, by omega, hcle, hg, hes, ha⟩, hpost⟩
                        simp only [add_addr]
                        rw [Nat.add_assoc]; exact hrun
                      | false =>
                        rw [hbl] at hq2
                        cases g with
                        | none =>
                          have hcc := hg rfl
                          have hlt : c' < len + (n + 1) := by
                            rcases Nat.lt_or_ge c' (len + (n + 1)) with h1 | h1
                            · exact h1
                            · rw [hcc] at h1; rw [Nat.ble_eq_true_of_le h1] at hbl; cases hbl
                          cases hl : h.ld bk off (len * (k + 1)) with
                          | none => rw [hl] at hq2; cases hq2
                          | some old =>
                            rw [hl] at hq2
                            obtain ⟨hone2, rfl⟩ := appNew_some hq2
                            obtain ⟨tr, zz, m, ro, hb, _⟩ := ld_some hl
                            obtain ⟨hm, hol, honto⟩ := Onto.row (vs := src.1) (z0 := tyMark e false) hl hb
                            obtain ⟨co, o1, o2, o3⟩ := hold hb hm
                            have hone : allOne src.1 = true := by
                              rw [allOne_eq, app'_eq, List.all_append, Bool.and_eq_true] at hone2
                              rw [allOne_eq]; exact hone2.2
                            have hrow : Row ρ (.cells (fillC (old ++ src.1) .leaf 0) (tyMark e false) (len' (old ++ src.1)) false) (len * (k + 1) + src.1.length) (co ++ cs ++ Builtin.zeroCells zv.cells (grownCap w (len + (n + 1)) c' e - (len + (n + 1)))) 0 :=
                              honto.lies hr hb hm g4 hone hp (fun i u hi hu => holdrow co _ i u o2 hi (o3 i u hi hu)) (fun i hi => hnewrow co _ i o2 hi)
                            obtain ⟨hpost, hval⟩ := app_row (e := e) hr hid hrow bmark_new (need := len + (n + 1)) (cap := grownCap w (len + (n + 1)) c' e) (size := k + 1) (le_grownCap hlt)
                              (by simp only [Array.size_append, o2, hcs, hlen]; omega) (hrowsz o2 hlt)
                            refine ⟨_, _, _, hout o1 hlt, hval, ?_⟩
                            rw [app'_eq]; exact hpost
                        | some es =>
                          obtain ⟨he, hq3⟩ := iff'_some.1 (show iff' (Nat.beq es (k + 1)) (appDead (k + 1) (len + (n + 1)) e off len (n + 1) src.1 bk id h) = some q from hq2)
                          obtain rfl := Nat.eq_of_beq_eq_true he
                          obtain ⟨tr, zz, m, y, hb, hone, hm, honto, hbm, hbm0, rfl⟩ := appDead_some hq3 hlen
                          have hcap := hes _ rfl
                          by_cases hin : len + (n + 1) ≤ c'
                          · obtain ⟨p', ca, ce, fz, hp', hh, hsz', hpm, hval, hfz⟩ := hr.blk _ _ hb
                            rw [hp] at hp'; cases hp'
                            have ha' := ha (by omega)
                            subst ha'
                            have hmul2 : (len + (n + 1)) * (k + 1) ≤ c' * (k + 1) := Nat.mul_le_mul_right _ hin
                            have hone' : ∀ u ∈ cs.toList, u.oneCell' = true := fun u hu => by
                              obtain ⟨i, hi⟩ := List.getElem?_of_mem hu
                              have hlt : i < src.1.length := by rw [hcl]; exact (List.getElem?_eq_some_iff.1 hi).1
                              obtain ⟨u', h1, h2⟩ := g4.get i src.1[i] (List.getElem?_eq_getElem hlt)
                              rw [hi] at h1; cases h1
                              rw [allOne_eq, List.all_eq_true] at hone
                              exact h2.one (hone _ (List.getElem_mem hlt))
                            obtain ⟨w', hrun, hos, hou, hheap⟩ := run_storeRun P (k := p.blk) (base := p.off + off + len * (k + 1)) cs.toList 0 w ca hh (by rw [← hcl, hlen, hsz']; omega) hone' (by rw [hsz']; exact hfz.1 rfl)
                            rw [Nat.add_zero] at hheap
                            have hsum : p.off + off + len * (k + 1) + cs.toList.length ≤ ca.size := by rw [← hcl, hlen, hsz']; omega
                            have hrow : Row ρ y (len * (k + 1) + src.1.length) (putRun ca (p.off + off + len * (k + 1)) cs.toList) (p.off + off) := by
                              refine honto.lies hr hb hm g4 hone hp (fun i u hi hu => ?_) (fun i hi => ?_)
                              · rw [putRun_get _ _ _ _ hsum, if_neg (by omega), ← cell_of_heap hh]; exact hu
                              · rw [putRun_get _ _ _ _ hsum, if_pos (by omega)]
                                congr 1; omega
                            refine ⟨_, _, w', run_append_in ht hu hsz ht1 hu1 hint g1 g3 hin (w' := w') ?_, ?_, app_over hr hb hp hid hh (hfz.1 rfl) hos hou hheap (by rw [putRun_size, hsz']) (by rw [hlen]; omega) hrow (hbm0 _ fun k x hz => (hfz.2 k x hz).1)⟩
                            · simp only [add_addr]; exact hrun
                            · exact ⟨_, _, c', Pls.up_same _ _ _, rfl, hin, hin, (fun e => by cases e), (fun es e => by cases e; exact hcap), fun _ => rfl⟩
                          · have hlt : c' < len + (n + 1) := by omega
                            obtain ⟨co, o1, o2, o3⟩ := hold hb hm
                            have hk := hr.kill hb
                            have hrow : Row ρ y (len * (k + 1) + src.1.length) (co ++ cs ++ Builtin.zeroCells zv.cells (grownCap w (len + (n + 1)) c' e - (len + (n + 1)))) 0 :=
                              honto.lies hr hb hm g4 hone hp (fun i u hi hu => holdrow co _ i u o2 hi (o3 i u hi hu)) (fun i hi => hnewrow co _ i o2 hi)
                            obtain ⟨hpost, hval⟩ := app_row (e := e) hk.hr (id := id) hid hrow hbm (need := len + (n + 1)) (cap := grownCap w (len + (n + 1)) c' e) (size := k + 1) (le_grownCap hlt)
                              (by simp only [Array.size_append, o2, hcs, hlen]; omega) (hrowsz o2 hlt)
                            exact ⟨_, _, _, hout o1 hlt, hval, hk.trans hpost⟩
    | _ => cases hq
end
end Go.Am

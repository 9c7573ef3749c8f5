/-
  AM, 4: how the abstract memory lies in the model's: reading, writing, new blocks.
-/
import Derived.Test.YtlfednnfkejcjaaQAmA
import Derived.Laws.Cells
import Derived.LaidEqlPtr
import Derived.Laws.Strings
import Derived.Laws.StructEq
set_option linter.unusedVariables false
set_option linter.unusedSimpArgs false

namespace Go.Am

def ER (ρ : Pls) (e : MEnt) (e' : MapEntry) : Prop := VR ρ e.key e'.key ∧ VR ρ e.val e'.val ∧ e'.born = e.born
def ERs (ρ : Pls) : List MEnt → List MapEntry → Prop
  | [], l => l = []
  | e :: es, l => ∃ e' es', l = e' :: es' ∧ ER ρ e e' ∧ ERs ρ es es'
theorem ERs.mono {ρ σ : Pls} (h : ρ.le σ) : ∀ {es : List MEnt} {l : List MapEntry}, ERs ρ es l → ERs σ es l
  | [], _, hl => hl
  | _ :: _, _, hl => by obtain ⟨e', es', e, ⟨h1, h2, h3⟩, h4⟩ := hl; exact ⟨e', es', e, ⟨h1.mono h, h2.mono h, h3⟩, ERs.mono h h4⟩
theorem ERs.length {ρ : Pls} : ∀ {es : List MEnt} {l : List MapEntry}, ERs ρ es l → l.length = es.length
  | [], _, hl => by cases hl; rfl
  | _ :: _, _, hl => by obtain ⟨e', es', rfl, _, h4⟩ := hl; simp [ERs.length h4]

/-- The temporaries that are kept. -/
def TR (keep : Nat → Bool) (nt : Nat) (ρ : Pls) (tm : Tr AV) (arr : Array Value) : Prop :=
  nt ≤ arr.size ∧ ∀ t v, keep t = true → tm.gt t = some v → ∃ cv, arr[t]? = some cv ∧ VR ρ v cv
theorem TR.mono {keep : Nat → Bool} {nt : Nat} {ρ σ : Pls} (h : ρ.le σ) {tm : Tr AV} {arr : Array Value} (ht : TR keep nt ρ tm arr) : TR keep nt σ tm arr :=
  ⟨ht.1, fun t v hk hv => let ⟨cv, h1, h2⟩ := ht.2 t v hk hv; ⟨cv, h1, h2.mono h⟩⟩

def SR : LState → LoopState → Prop
  | .ready, s => s = .ready
  | .busy, s => s = .busy
  | .done, s => s = .done
  | .exhausted, s => s = .exhausted

structure LR (P : Program) (keep : Keeps) (ρ : Pls) (l : LRec) (L : Loop) : Prop where
  st : SR l.st L.state
  pending : L.pending = l.pending
  tm : TR (keep l.fn) (ntOf P l.fn) ρ l.tm L.tmps
  params : L.params.toList = l.params
  assign : L.assign = l.assign
  body : L.body = l.body

/-- what a mark says: the type of the model's block, and, if that is told, that it has just these cells -/
def MarkOk (z : List AV) (n : Nat) (p : Pl) (e : TypeId) : Prop := ∀ t x, z = tyMark t x → e = t ∧ (x = true → p.off = 0 ∧ p.size = n)
theorem markOk_nil {n : Nat} {p : Pl} {e : TypeId} : MarkOk [] n p e := fun _ _ h => (by cases h)
theorem markOk_one {z : List AV} {n : Nat} {p : Pl} {e : TypeId} (hz : ∀ v ∈ z, v.one = true) : MarkOk z n p e := fun t x h => by
  subst h
  have := hz _ (List.mem_cons_self ..)
  cases this
/-- How a block lies in memory. -/
def BR (P : Program) (keep : Keeps) (ρ : Pls) (b : Nat) (x : Blk) (w : World) : Prop :=
  match x with
  | .cells t z n ro => ∃ p c e fz, ρ b = some p ∧ w.heap[p.blk]? = some (.cells c e fz) ∧ c.size = p.size ∧ p.off + n ≤ p.size ∧
      (∀ i, i < n → ∃ v cv, cellAt t z i = some v ∧ v.one = true ∧ c[p.off + i]? = some cv ∧ VR ρ v cv) ∧
      (ro = false → ∀ i, i < p.size → ¬ (fz.1 ≤ i ∧ i < fz.2)) ∧ MarkOk z n p e
  | .dead => True
  | .map es clock => ∃ p es', ρ b = some p ∧ p.off = 0 ∧ w.heap[p.blk]? = some (.map es' clock) ∧ ERs ρ es es'.toList
  | .siter s pos => ∃ p sb, ρ b = some p ∧ p.off = 0 ∧ w.heap[p.blk]? = some (.stringIter sb pos) ∧ sb.data.toList.map (·.toNat) = s
  | .loop l => ∃ p L, ρ b = some p ∧ p.off = 0 ∧ w.heap[p.blk]? = some (.loop L) ∧ LR P keep ρ l L

section
variable {P : Program} {keep : Keeps} {ρ σ : Pls} {h h' : Heap} {w w' : World} {b : Nat} {x : Blk}

theorem BR.mono (hl : ρ.le σ) (hb : BR P keep ρ b x w) : BR P keep σ b x w := by
  cases x with
  | cells t z n ro =>
    obtain ⟨p, c, e, fz, hp, hc, hs, hn, hv, hf⟩ := hb
    exact ⟨p, c, e, fz, hl _ _ hp, hc, hs, hn, fun i hi => let ⟨v, cv, h1, h2, h3, h4⟩ := hv i hi; ⟨v, cv, h1, h2, h3, h4.mono hl⟩, hf⟩
  | dead => trivial
  | map es clock => obtain ⟨p, es', hp, h0, hc, he⟩ := hb; exact ⟨p, es', hl _ _ hp, h0, hc, he.mono hl⟩
  | siter s pos => obtain ⟨p, sb, hp, r⟩ := hb; exact ⟨p, sb, hl _ _ hp, r⟩
  | loop l =>
    obtain ⟨p, L, hp, h0, hc, r⟩ := hb
    exact ⟨p, L, hl _ _ hp, h0, hc, { r with tm := r.tm.mono hl }⟩
theorem BR.place (hb : BR P keep ρ b x w) (hx : x.dead? = false) : ∃ p, ρ b = some p ∧ p.blk < w.heap.size := by
  have key : ∀ {p : Pl} {o : Obj}, w.heap[p.blk]? = some o → p.blk < w.heap.size := fun ho => (Array.getElem?_eq_some_iff.1 ho).1
  cases x with
  | cells t z n ro => obtain ⟨p, c, e, fz, hp, hc, _⟩ := hb; exact ⟨p, hp, key hc⟩
  | dead => cases hx
  | map es clock => obtain ⟨p, es', hp, h0, hc, he⟩ := hb; exact ⟨p, hp, key hc⟩
  | siter s pos => obtain ⟨p, sb, hp, _, hc, _⟩ := hb; exact ⟨p, hp, key hc⟩
  | loop l => obtain ⟨p, L, hp, h0, hc, r⟩ := hb; exact ⟨p, hp, key hc⟩
theorem BR.frame (hb : BR P keep ρ b x w) (hw : ∀ p, x.dead? = false → ρ b = some p → w'.heap[p.blk]? = w.heap[p.blk]?) : BR P keep ρ b x w' := by
  cases x with
  | cells t z n ro => obtain ⟨p, c, e, fz, hp, hc, r⟩ := hb; exact ⟨p, c, e, fz, hp, (hw p rfl hp).trans hc, r⟩
  | dead => trivial
  | map es clock => obtain ⟨p, es', hp, h0, hc, he⟩ := hb; exact ⟨p, es', hp, h0, (hw p rfl hp).trans hc, he⟩
  | siter s pos => obtain ⟨p, sb, hp, h0, hc, r⟩ := hb; exact ⟨p, sb, hp, h0, (hw p rfl hp).trans hc, r⟩
  | loop l => obtain ⟨p, L, hp, h0, hc, r⟩ := hb; exact ⟨p, L, hp, h0, (hw p rfl hp).trans hc, r⟩

/-- How the abstract memory lies in the model's. -/
structure HR (P : Program) (keep : Keeps) (ρ : Pls) (h : Heap) (w : World) : Prop where
  dom : ∀ b p, ρ b = some p → b < h.next
  has : ∀ b x, h.bs.gt b = some x → b < h.next
  blk : ∀ b x, h.bs.gt b = some x → BR P keep ρ b x w
  inj : ∀ b b' x x' p p', h.bs.gt b = some x → h.bs.gt b' = some x' → x.dead? = false → x'.dead? = false → (x.ro = false ∨ x'.ro = false) →
    ρ b = some p → ρ b' = some p' → b ≠ b' → p.blk ≠ p'.blk

/-- the model's blocks that are held -/
def Own (ρ : Pls) (h : Heap) (k : Nat) : Prop := ∃ b x p, h.bs.gt b = some x ∧ x.dead? = false ∧ ρ b = some p ∧ p.blk = k

theorem dead_of_ro {x : Blk} (h : x.ro = false) : x.dead? = false := by cases x <;> first | rfl | cases h
/-- a block that stays for good: read only, and of no marked type -/
def Blk.fixed : Blk → Bool
  | .cells _ z _ r => r && (markOf z).isNone
  | .dead => true
  | _ => false
theorem fixed_of_ro {x : Blk} (h : x.ro = false) : x.fixed = false := by
  cases x with
  | cells t z n r => cases r with | true => cases h | false => rfl
  | dead => cases h
  | _ => rfl
theorem dead_of_fixed {x : Blk} (h : x.fixed = false) : x.dead? = false := by cases x <;> first | rfl | cases h
/-- .. and that may be written -/
def OwnW (ρ : Pls) (h : Heap) (k : Nat) : Prop := ∃ b x p, h.bs.gt b = some x ∧ x.fixed = false ∧ ρ b = some p ∧ p.blk = k
theorem OwnW.own {ρ : Pls} {h : Heap} {k : Nat} : OwnW ρ h k → Own ρ h k := fun ⟨b, x, p, h1, h2, h3⟩ => ⟨b, x, p, h1, dead_of_fixed h2, h3⟩

structure Fr (ρ : Pls) (h : Heap) (w w' : World) : Prop where
  os : w'.os = w.os
  output : w'.output = w.output
  size : w.heap.size ≤ w'.heap.size
  sameW : ∀ k, k < w.heap.size → ¬ OwnW ρ h k → w'.heap[k]? = w.heap[k]?
theorem Fr.same {ρ : Pls} {h : Heap} {w w' : World} (f : Fr ρ h w w') : ∀ k, k < w.heap.size → ¬ Own ρ h k → w'.heap[k]? = w.heap[k]? := fun k hk ho => f.sameW k hk fun h => ho h.own

structure Post (P : Program) (keep : Keeps) (ρ : Pls) (h : Heap) (w : World) (ρ' : Pls) (h' : Heap) (w' : World) : Prop where
  le : ρ.le ρ'
  hr : HR P keep ρ' h' w'
  fr : Fr ρ h w w'
  own : ∀ k, k < w.heap.size → Own ρ' h' k → Own ρ h k
  next : h.next ≤ h'.next
  new : ∀ b p, ρ' b = some p → b < h.next → ρ b = some p
  ownW : ∀ k, k < w.heap.size → OwnW ρ' h' k → OwnW ρ h k

theorem Post.refl (hr : HR P keep ρ h w) : Post P keep ρ h w ρ h w :=
  ⟨Pls.le_refl _, hr, ⟨rfl, rfl, Nat.le_refl _, fun _ _ _ => rfl⟩, fun _ _ h => h, Nat.le_refl _, fun _ _ h _ => h, fun _ _ h => h⟩
theorem Post.trans {ρ1 ρ2 ρ3 : Pls} {h1 h2 h3 : Heap} {w1 w2 w3 : World} (a : Post P keep ρ1 h1 w1 ρ2 h2 w2) (b : Post P keep ρ2 h2 w2 ρ3 h3 w3) : Post P keep ρ1 h1 w1 ρ3 h3 w3 :=
  ⟨Pls.le_trans a.le b.le, b.hr,
   ⟨b.fr.os.trans a.fr.os, b.fr.output.trans a.fr.output, Nat.le_trans a.fr.size b.fr.size,
    fun k hk ho => (b.fr.sameW k (Nat.lt_of_lt_of_le hk a.fr.size) fun h => ho (a.ownW k hk h)).trans (a.fr.sameW k hk ho)⟩,
   fun k hk h => a.own k hk (b.own k (Nat.lt_of_lt_of_le hk a.fr.size) h), Nat.le_trans a.next b.next,
   fun c p hc hlt => a.new c p (b.new c p hc (Nat.lt_of_lt_of_le hlt a.next)) hlt,
   fun k hk h => a.ownW k hk (b.ownW k (Nat.lt_of_lt_of_le hk a.fr.size) h)⟩

/-- the model's memory turns where no block lies -/
theorem HR.frame (hr : HR P keep ρ h w) (hw : ∀ b x p, h.bs.gt b = some x → x.dead? = false → ρ b = some p → w'.heap[p.blk]? = w.heap[p.blk]?) : HR P keep ρ h w' :=
  { hr with blk := fun b x hx => (hr.blk b x hx).frame fun p hd hp => hw b x p hx hd hp }

/-- ONE BLOCK IS WRITTEN, and stays what it is. -/
theorem HR.write (hr : HR P keep ρ h w) {p : Pl} {y : Blk} (hx : h.bs.gt b = some x) (hro : x.ro = false) (hy : y.ro = false) (hp : ρ b = some p)
    (hos : w'.os = w.os) (hout : w'.output = w.output) (hsz : w'.heap.size = w.heap.size)
    (hw : ∀ k, k ≠ p.blk → w'.heap[k]? = w.heap[k]?) (hb : BR P keep ρ b y w') : Post P keep ρ h w ρ (h.put b y) w' := by
  have hget : ∀ c, (h.put b y).bs.gt c = if c = b then some y else h.bs.gt c := fun c => Tr.gt_up _ _ _ _
  have hxd := dead_of_ro hro
  have hyd := dead_of_ro hy
  refine ⟨Pls.le_refl _, ⟨hr.dom, fun c z hz => ?_, fun c z hz => ?_, fun c c' z z' q q' hz hz' hd hd' hrw hq hq' hne => ?_⟩, ⟨hos, hout, by omega, fun k _ ho => hw k fun e => ho ⟨b, x, p, hx, fixed_of_ro hro, hp, e.symm⟩⟩, fun k _ ho => ?_, Nat.le_refl _, fun _ _ h _ => h, fun k _ ho => ?_⟩
  · rw [hget] at hz
    by_cases e : c = b
    · subst e; exact hr.has _ _ hx
    · rw [if_neg e] at hz; exact hr.has _ _ hz
  · rw [hget] at hz
    by_cases e : c = b
    · subst e; rw [if_pos rfl] at hz; cases hz; exact hb
    · rw [if_neg e] at hz
      exact (hr.blk c z hz).frame fun q hd hq => hw _ (hr.inj c b z x q p hz hx hd hxd (.inr hro) hq hp e)
  · have fix : ∀ c z, (h.put b y).bs.gt c = some z → z.dead? = false → ∃ z0, h.bs.gt c = some z0 ∧ z0.dead? = false ∧ (z.ro = false → z0.ro = false) := by
      intro c z hz hd
      rw [hget] at hz
      by_cases e : c = b
      · subst e; exact ⟨x, hx, hxd, fun _ => hro⟩
      · rw [if_neg e] at hz; exact ⟨z, hz, hd, id⟩
    obtain ⟨z0, a1, a2, a3⟩ := fix c z hz hd
    obtain ⟨z0', b1, b2, b3⟩ := fix c' z' hz' hd'
    exact hr.inj c c' z0 z0' q q' a1 b1 a2 b2 (hrw.imp a3 b3) hq hq' hne
  · obtain ⟨c, z, q, hz, hzr, hq, rfl⟩ := ho
    rw [hget] at hz
    by_cases e : c = b
    · subst e; exact ⟨c, x, q, hx, hxd, hq, rfl⟩
    · rw [if_neg e] at hz; exact ⟨c, z, q, hz, hzr, hq, rfl⟩
  · obtain ⟨c, z, q, hz, hzr, hq, rfl⟩ := ho
    rw [hget] at hz
    by_cases e : c = b
    · subst e; exact ⟨c, x, q, hx, fixed_of_ro hro, hq, rfl⟩
    · rw [if_neg e] at hz; exact ⟨c, z, q, hz, hzr, hq, rfl⟩

def Pls.up (ρ : Pls) (b : Nat) (p : Pl) : Pls := fun c => if c = b then some p else ρ c
theorem Pls.le_up {ρ : Pls} {b : Nat} {p : Pl} (hb : ρ b = none) : ρ.le (ρ.up b p) := by
  intro c q hc
  unfold Pls.up
  by_cases e : c = b
  · subst e; rw [hb] at hc; cases hc
  · rw [if_neg e]; exact hc
theorem Pls.up_same (ρ : Pls) (b : Nat) (p : Pl) : (ρ.up b p) b = some p := if_pos rfl

/-- ONE BLOCK MORE, under a number that none bears, at a place where none lies. -/
theorem HR.add (hr : HR P keep ρ h w) {p : Pl} {y : Blk} {n : Nat} (hb0 : ρ b = none) (hg : h.bs.gt b = none) (hn : h.next ≤ n) (hbn : b < n)
    (hfree : ∀ c z q, h.bs.gt c = some z → z.dead? = false → ρ c = some q → q.blk ≠ p.blk)
    (hw : ∀ c z q, h.bs.gt c = some z → z.dead? = false → ρ c = some q → w'.heap[q.blk]? = w.heap[q.blk]?)
    (hb : BR P keep (ρ.up b p) b y w') : HR P keep (ρ.up b p) ⟨h.bs.up (some y) b, n⟩ w' := by
  have hget : ∀ c, (h.bs.up (some y) b).gt c = if c = b then some y else h.bs.gt c := fun c => Tr.gt_up _ _ _ _
  have hle : ρ.le (ρ.up b p) := Pls.le_up hb0
  have hold : ∀ c q, c ≠ b → (ρ.up b p) c = some q → ρ c = some q := fun c q e hc => by unfold Pls.up at hc; rwa [if_neg e] at hc
  refine ⟨fun c q hc => ?_, fun c z hz => ?_, fun c z hz => ?_, fun c c' z z' q q' hz hz' hd hd' hrw hq hq' hne => ?_⟩
  · by_cases e : c = b
    · subst e; exact hbn
    · exact Nat.lt_of_lt_of_le (hr.dom _ _ (hold _ _ e hc)) hn
  · simp only [hget] at hz
    by_cases e : c = b
    · subst e; exact hbn
    · rw [if_neg e] at hz; exact Nat.lt_of_lt_of_le (hr.has _ _ hz) hn
  · simp only [hget] at hz
    by_cases e : c = b
    · subst e; rw [if_pos rfl] at hz; cases hz; exact hb
    · rw [if_neg e] at hz
      exact ((hr.blk c z hz).frame fun q hd hq => hw c z q hz hd hq).mono hle
  · simp only [hget] at hz hz'
    by_cases e : c = b
    · subst e
      have e' : c' ≠ c := fun e => hne e.symm
      rw [if_neg e'] at hz'
      rw [Pls.up_same] at hq; cases hq
      exact fun e => hfree c' z' q' hz' hd' (hold _ _ e' hq') e.symm
    · rw [if_neg e] at hz
      by_cases e' : c' = b
      · subst e'
        rw [Pls.up_same] at hq'; cases hq'
        exact hfree c z q hz hd (hold _ _ e hq)
      · rw [if_neg e'] at hz'
        exact hr.inj c c' z z' q q' hz hz' hd hd' hrw (hold _ _ e hq) (hold _ _ e' hq') hne

theorem HR.fresh (hr : HR P keep ρ h w) (hb : h.next ≤ b) : ρ b = none ∧ h.bs.gt b = none := by
  constructor
  · cases hc : ρ b with
    | none => rfl
    | some p => have := hr.dom b p hc; omega
  · cases hc : h.bs.gt b with
    | none => rfl
    | some x => have := hr.has b x hc; omega

/-- A NEW BLOCK of the model's under a new number. -/
theorem HR.push (hr : HR P keep ρ h w) {o : Obj} {y : Blk} {sz n : Nat} (hid : h.next ≤ b) (hbn : b < n)
    (hos : w'.os = w.os) (hout : w'.output = w.output) (hheap : w'.heap = w.heap.push o)
    (hb : BR P keep (ρ.up b ⟨w.heap.size, 0, sz⟩) b y w') : Post P keep ρ h w (ρ.up b ⟨w.heap.size, 0, sz⟩) ⟨h.bs.up (some y) b, n⟩ w' := by
  obtain ⟨hb0, hg⟩ := hr.fresh hid
  have hn : h.next ≤ n := by omega
  have hold : ∀ k, k < w.heap.size → w'.heap[k]? = w.heap[k]? := fun k hk => by rw [hheap]; exact Array.getElem?_push_lt hk |>.trans (Array.getElem?_eq_getElem hk).symm
  have hpl : ∀ c z q, h.bs.gt c = some z → z.dead? = false → ρ c = some q → q.blk < w.heap.size := fun c z q hz hd hq => by
    obtain ⟨p, hp, hlt⟩ := (hr.blk c z hz).place hd
    rw [hq] at hp; cases hp; exact hlt
  refine ⟨Pls.le_up hb0, hr.add hb0 hg hn hbn (fun c z q hz hd hq e => ?_) (fun c z q hz hd hq => hold _ (hpl c z q hz hd hq)) hb, ⟨hos, hout, by rw [hheap]; simp, fun k hk _ => hold k hk⟩, fun k hk ho => ?_, hn, fun c p hc hlt => ?_, fun k hk ho => ?_⟩
  · have := hpl c z q hz hd hq; simp only at e; omega
  · obtain ⟨c, z, q, hz, hzr, hq, rfl⟩ := ho
    simp only [Tr.gt_up] at hz
    by_cases e : c = b
    · subst e; rw [Pls.up_same] at hq; cases hq; simp at hk
    · rw [if_neg e] at hz
      unfold Pls.up at hq; rw [if_neg e] at hq
      exact ⟨c, z, q, hz, hzr, hq, rfl⟩
  · unfold Pls.up at hc
    rwa [if_neg (by omega)] at hc
  · obtain ⟨c, z, q, hz, hzr, hq, rfl⟩ := ho
    simp only [Tr.gt_up] at hz
    by_cases e : c = b
    · subst e; rw [Pls.up_same] at hq; cases hq; simp at hk
    · rw [if_neg e] at hz
      unfold Pls.up at hq; rw [if_neg e] at hq
      exact ⟨c, z, q, hz, hzr, hq, rfl⟩

/-- The world's count of draws has no part in it. -/
theorem Post.drew (hp : Post P keep ρ h w σ h' w') : Post P keep ρ h w σ h' w'.drew := by
  refine ⟨hp.le, hp.hr.frame fun _ _ _ _ _ _ => rfl, ⟨hp.fr.os, hp.fr.output, hp.fr.size, hp.fr.sameW⟩, hp.own, hp.next, hp.new, hp.ownW⟩
theorem HR.drew (hr : HR P keep ρ h w) : HR P keep ρ h w.drew := hr.frame fun _ _ _ _ _ _ => rfl

/-! ### Reading -/
theorem cells_some {β : Type} {f : Tr AV → List AV → Nat → Bool → Option β} {r : β} (hc : h.cells b f = some r) : ∃ t z n ro, h.bs.gt b = some (.cells t z n ro) ∧ f t z n ro = some r := by
  unfold Heap.cells at hc
  cases hx : h.bs.gt b with
  | none => rw [hx] at hc; cases hc
  | some x =>
    rw [hx] at hc
    cases x <;> first | exact ⟨_, _, _, _, rfl, hc⟩ | cases hc
theorem theMap_some {β : Type} {f : List MEnt → Nat → Option β} {r : β} (hc : h.theMap b f = some r) : ∃ es c, h.bs.gt b = some (.map es c) ∧ f es c = some r := by
  unfold Heap.theMap at hc
  cases hx : h.bs.gt b with
  | none => rw [hx] at hc; cases hc
  | some x =>
    rw [hx] at hc
    cases x <;> first | exact ⟨_, _, rfl, hc⟩ | cases hc
theorem theIter_some {β : Type} {f : List Nat → Nat → Option β} {r : β} (hc : h.theIter b f = some r) : ∃ s c, h.bs.gt b = some (.siter s c) ∧ f s c = some r := by
  unfold Heap.theIter at hc
  cases hx : h.bs.gt b with
  | none => rw [hx] at hc; cases hc
  | some x =>
    rw [hx] at hc
    cases x <;> first | exact ⟨_, _, rfl, hc⟩ | cases hc
theorem theLoop_some {β : Type} {f : LRec → Option β} {r : β} (hc : h.theLoop b f = some r) : ∃ l, h.bs.gt b = some (.loop l) ∧ f l = some r := by
  unfold Heap.theLoop at hc
  cases hx : h.bs.gt b with
  | none => rw [hx] at hc; cases hc
  | some x =>
    rw [hx] at hc
    cases x <;> first | exact ⟨_, rfl, hc⟩ | cases hc
theorem boolRec_some {β : Type} {c : Bool} {r : Option β} {v : β} : (Bool.rec (motive := fun _ => Option β) none r c : Option β) = some v ↔ c = true ∧ r = some v := by cases c <;> simp

theorem ld_some {off n : Nat} {vs : List AV} (hl : h.ld b off n = some vs) : ∃ t z m ro, h.bs.gt b = some (.cells t z m ro) ∧ off + n ≤ m ∧ vs.length = n ∧ ∀ j, j < n → cellAt t z (off + j) = vs[j]? := by
  obtain ⟨t, z, m, ro, hb, hf⟩ := cells_some hl
  obtain ⟨hle, hf⟩ := boolRec_some.1 hf
  obtain ⟨h1, h2⟩ := loadC_some hf
  exact ⟨t, z, m, ro, hb, by simpa using hle, h1, h2⟩
theorem ld1_some {off : Nat} {v : AV} (hl : h.ld1 b off = some v) : ∃ t z m ro, h.bs.gt b = some (.cells t z m ro) ∧ off < m ∧ cellAt t z off = some v := by
  obtain ⟨t, z, m, ro, hb, hf⟩ := cells_some hl
  obtain ⟨hle, hf⟩ := boolRec_some.1 hf
  exact ⟨t, z, m, ro, hb, Nat.le_of_ble_eq_true hle, hf⟩

theorem cell_of_heap {k : Nat} {c : Array Value} {e : TypeId} {fz : Nat × Nat} (hc : w.heap[k]? = some (.cells c e fz)) (i : Nat) : w.cell? ⟨k, i, none⟩ = c[i]? := by
  simp [World.cell?, hc]

/-- A cell of a block: what lies there. -/
theorem HR.cell (hr : HR P keep ρ h w) {t : Tr AV} {z : List AV} {m i : Nat} {ro : Bool} (hb : h.bs.gt b = some (.cells t z m ro)) (hi : i < m) :
    ∃ p v cv, ρ b = some p ∧ cellAt t z i = some v ∧ v.one = true ∧ w.cell? ⟨p.blk, p.off + i, none⟩ = some cv ∧ VR ρ v cv := by
  obtain ⟨p, c, e, fz, hp, hc, _, _, hv, _⟩ := hr.blk _ _ hb
  obtain ⟨v, cv, h1, h2, h3, h4⟩ := hv i hi
  exact ⟨p, v, cv, hp, h1, h2, by rw [cell_of_heap hc, h3], h4⟩

theorem HR.ld1 (hr : HR P keep ρ h w) {off : Nat} {v : AV} (hl : h.ld1 b off = some v) :
    ∃ p cv, ρ b = some p ∧ w.cell? ⟨p.blk, p.off + off, none⟩ = some cv ∧ VR ρ v cv := by
  obtain ⟨t, z, m, ro, hb, hlt, hc⟩ := ld1_some hl
  obtain ⟨p, v', cv, hp, h1, _, h3, h4⟩ := hr.cell hb hlt
  rw [hc] at h1; cases h1
  exact ⟨p, cv, hp, h3, h4⟩

theorem HR.ld (hr : HR P keep ρ h w) {off n : Nat} {vs : List AV} (hl : h.ld b off n = some vs) :
    ∃ p cs, ρ b = some p ∧ VRs ρ vs cs ∧ cs.length = n ∧ (∀ v, v ∈ vs → v.one = true) ∧ ∀ j u, cs[j]? = some u → w.cell? ⟨p.blk, p.off + off + j, none⟩ = some u := by
  obtain ⟨t, z, m, ro, hb, hlt, hlen, hc⟩ := ld_some hl
  obtain ⟨p, c, e, fz, hp, hh, hs, hpm, hv, _⟩ := hr.blk _ _ hb
  have hrow : ∀ j, j < n → ∃ v cv, vs[j]? = some v ∧ v.one = true ∧ c[p.off + off + j]? = some cv ∧ VR ρ v cv := fun j hj => by
    obtain ⟨v, cv, h1, h2, h3, h4⟩ := hv (off + j) (by omega)
    exact ⟨v, cv, by rw [← hc j hj, h1], h2, by rw [← h3]; congr 1; omega, h4⟩
  have hsz : p.off + off + n ≤ c.size := by omega
  refine ⟨p, (c.extract (p.off + off) (p.off + off + n)).toList, hp, VRs.of_get (by simp [hlen]; omega) fun i x hx => ?_, by simp; omega, fun v hvm => ?_, fun j u hu => ?_⟩
  · have hi : i < n := by rw [← hlen]; exact (List.getElem?_eq_some_iff.1 hx).1
    obtain ⟨v, cv, h1, _, h3, h4⟩ := hrow i hi
    rw [hx] at h1; cases h1
    refine ⟨cv, ?_, h4⟩
    rw [Array.getElem?_toList, Array.getElem?_extract]
    rw [if_pos (by omega)]; exact h3
  · obtain ⟨i, hi⟩ := List.getElem?_of_mem hvm
    have hlt' : i < n := by rw [← hlen]; exact (List.getElem?_eq_some_iff.1 hi).1
    obtain ⟨v', cv, h1, h2, _⟩ := hrow i hlt'
    rw [hi] at h1; cases h1; exact h2
  · rw [Array.getElem?_toList, Array.getElem?_extract] at hu
    split at hu
    · rw [cell_of_heap hh]; exact hu
    · cases hu

theorem run_loadRun {P : Program} {w : World} {a : Addr} {cs : List Value} {n : Nat} (hn : cs.length = n) (hc : ∀ j u, cs[j]? = some u → w.cell? (a.add j) = some u) :
    (loadCells a n).run P w = .ok cs.toArray w := by
  subst hn
  exact run_loadCells_list w a cs hc

/-! ### Writing -/
/-- a row of cells written from a place on -/
def putRun (c : Array Value) (o : Nat) : List Value → Array Value
  | [] => c
  | v :: vs => putRun (c.setIfInBounds o v) (o + 1) vs
theorem putRun_size : ∀ (vs : List Value) (c : Array Value) (o : Nat), (putRun c o vs).size = c.size
  | [], _, _ => rfl
  | v :: vs, c, o => by simp [putRun, putRun_size vs]
theorem putRun_get : ∀ (vs : List Value) (c : Array Value) (o i : Nat), o + vs.length ≤ c.size → (putRun c o vs)[i]? = if o ≤ i ∧ i < o + vs.length then vs[i - o]? else c[i]?
  | [], c, o, i, _ => by rw [if_neg (by simp only [List.length_nil]; omega)]; rfl
  | v :: vs, c, o, i, h => by
    simp only [List.length_cons] at h
    rw [putRun, putRun_get vs _ _ _ (by simp; omega)]
    by_cases h1 : o + 1 ≤ i ∧ i < o + 1 + vs.length
    · rw [if_pos h1, if_pos (by simp only [List.length_cons]; omega)]
      obtain ⟨d, rfl⟩ : ∃ d, i = o + 1 + d := ⟨i - (o + 1), by omega⟩
      rw [show o + 1 + d - (o + 1) = d by omega, show o + 1 + d - o = d + 1 by omega]; simp
    · rw [if_neg h1, Array.getElem?_setIfInBounds]
      by_cases h2 : o = i
      · subst h2; rw [if_pos rfl, if_pos (by omega), if_pos (by simp only [List.length_cons]; omega)]; simp
      · rw [if_neg h2, if_neg (by simp only [List.length_cons]; omega)]

theorem setCell_heap {k o : Nat} {c : Array Value} {e : TypeId} {fz : Nat × Nat} (hc : w.heap[k]? = some (.cells c e fz)) (v : Value) :
    (w.setCell ⟨k, o, none⟩ v).heap = w.heap.setIfInBounds k (.cells (c.setIfInBounds o v) e fz) := by
  apply Array.ext_getElem?
  intro i
  simp only [World.setCell, Array.getElem?_modify, Array.getElem?_setIfInBounds]
  by_cases h : k = i
  · subst h
    have hlt : k < w.heap.size := (Array.getElem?_eq_some_iff.1 hc).1
    rw [if_pos rfl, if_pos rfl, if_pos hlt, hc]
    simp
  · rw [if_neg h, if_neg h]

theorem run_storeRun (P : Program) {k base : Nat} {e : TypeId} {fz : Nat × Nat} : ∀ (vs : List Value) (i : Nat) (w : World) (c : Array Value), w.heap[k]? = some (.cells c e fz) → base + i + vs.length ≤ c.size →
    (∀ v ∈ vs, v.oneCell' = true) → (∀ j, j < c.size → ¬ (fz.1 ≤ j ∧ j < fz.2)) →
    ∃ w', (storeCells ⟨k, base, none⟩ vs i).run P w = .ok () w' ∧ w'.os = w.os ∧ w'.output = w.output ∧ w'.heap = w.heap.setIfInBounds k (.cells (putRun c (base + i) vs) e fz)
  | [], i, w, c, hc, _, _, _ => by
    refine ⟨w, rfl, rfl, rfl, ?_⟩
    apply Array.ext_getElem?
    intro j
    rw [Array.getElem?_setIfInBounds]
    by_cases h : k = j
    · subst h; rw [if_pos rfl, if_pos (Array.getElem?_eq_some_iff.1 hc).1, hc]; rfl
    · rw [if_neg h]
  | v :: vs, i, w, c, hc, hn, h1, hf => by
    simp only [List.length_cons] at hn
    have hadd : (⟨k, base, none⟩ : Addr).add i = ⟨k, base + i, none⟩ := by unfold Addr.add; split <;> simp_all
    have hcell : w.cell? ⟨k, base + i, none⟩ = some (c[base + i]'(by omega)) := by rw [cell_of_heap hc]; exact Array.getElem?_eq_getElem _
    have hfr : w.frozen? ⟨k, base + i, none⟩ = false := by
      have := hf (base + i) (by omega)
      simp only [World.frozen?, hc]
      simpa using this
    have hsto : (store ⟨k, base + i, none⟩ v).run P w = .ok () (w.setCell ⟨k, base + i, none⟩ v) := by
      rw [run_store P w _ v .plain (h1 v (by simp)), hcell]; simp [hfr]
    have hh := setCell_heap (o := base + i) hc v
    obtain ⟨w', hr, ho, hout, hheap⟩ := run_storeRun P (base := base) vs (i + 1) (w.setCell ⟨k, base + i, none⟩ v) (c.setIfInBounds (base + i) v)
      (by rw [hh, Array.getElem?_setIfInBounds, if_pos rfl, if_pos (Array.getElem?_eq_some_iff.1 hc).1]) (by simp; omega) (fun u hu => h1 u (by simp [hu])) (by simpa using hf)
    refine ⟨w', ?_, ho, hout, ?_⟩
    · simp only [storeCells, Sem.run_bind, hadd, hsto, Result.andThen_ok]; exact hr
    · rw [hheap, hh]; simp [putRun, Nat.add_assoc]

theorem put_get (h : Heap) (b : Nat) (x : Blk) (c : Nat) : (h.put b x).bs.gt c = if c = b then some x else h.bs.gt c := Tr.gt_up _ _ _ _

/-- CELLS ARE WRITTEN, in memory and in what stands for it. -/
theorem HR.sto (hr : HR P keep ρ h w) {off : Nat} {vs : List AV} {cvs : List Value} {h' : Heap} (hs : h.sto b off vs = some h') (hv : VRs ρ vs cvs) :
    ∃ p w', ρ b = some p ∧ (storeCells ⟨p.blk, p.off + off, none⟩ cvs).run P w = .ok () w' ∧ Post P keep ρ h w ρ h' w' := by
  obtain ⟨t, z, m, ro, hb, hf⟩ := cells_some hs
  cases ro with
  | true => cases hf
  | false =>
    obtain ⟨hle, hf⟩ := boolRec_some.1 hf
    obtain ⟨hone, hf⟩ := boolRec_some.1 hf
    cases hf
    have hle : off + vs.length ≤ m := by have := Nat.le_of_ble_eq_true hle; simpa using this
    rw [allOne_eq, List.all_eq_true] at hone
    obtain ⟨p, c, e, fz, hp, hh, hsz, hpm, hval, hfz⟩ := hr.blk _ _ hb
    have hlen := hv.length
    have hcv : ∀ u ∈ cvs, u.oneCell' = true := fun u hu => by
      obtain ⟨i, hi⟩ := List.getElem?_of_mem hu
      have hlt : i < vs.length := by rw [hlen]; exact (List.getElem?_eq_some_iff.1 hi).1
      obtain ⟨u', h1, h2⟩ := hv.get i vs[i] (List.getElem?_eq_getElem hlt)
      rw [hi] at h1; cases h1
      exact h2.one (hone _ (List.getElem_mem hlt))
    have hfz' := hfz.1 rfl
    obtain ⟨w', hrun, hos, hout, hheap⟩ := run_storeRun P (k := p.blk) (base := p.off + off) cvs 0 w c hh (by omega) hcv (by rw [hsz]; exact hfz')
    have hlt : p.blk < w.heap.size := (Array.getElem?_eq_some_iff.1 hh).1
    refine ⟨p, w', hp, hrun, ?_⟩
    refine hr.write hb rfl rfl hp hos hout (by rw [hheap]; simp) (fun k hk => by rw [hheap, Array.getElem?_setIfInBounds, if_neg (fun e => hk e.symm)]) ?_
    refine ⟨p, _, e, fz, hp, by rw [hheap, Array.getElem?_setIfInBounds, if_pos rfl, if_pos hlt], by rw [putRun_size]; exact hsz, hpm, fun i hi => ?_, hfz⟩
    rw [Nat.add_zero, putRun_get _ _ _ _ (by omega)]
    by_cases hin : off ≤ i ∧ i < off + vs.length
    · obtain ⟨d, rfl⟩ : ∃ d, i = off + d := ⟨i - off, by omega⟩
      have hd : d < vs.length := by omega
      obtain ⟨u, h1, h2⟩ := hv.get d vs[d] (List.getElem?_eq_getElem hd)
      refine ⟨vs[d], u, ?_, hone _ (List.getElem_mem hd), ?_, h2⟩
      · show cellAt (fillC vs t off) z (off + d) = _
        unfold cellAt
        rw [gt_fillC, if_pos hin, show off + d - off = d by omega, List.getElem?_eq_getElem hd]
      · rw [if_pos (by omega), show p.off + (off + d) - (p.off + off) = d by omega]; exact h1
    · obtain ⟨v, cv, h1, h2, h3, h4⟩ := hval i hi
      refine ⟨v, cv, ?_, h2, ?_, h4⟩
      · show cellAt (fillC vs t off) z i = _
        unfold cellAt at h1 ⊢
        rw [gt_fillC, if_neg hin]; exact h1
      · rw [if_neg (by omega)]; exact h3

theorem st1_sto {off : Nat} {v : AV} {h' : Heap} (hs : h.st1 b off v = some h') : h.sto b off [v] = some h' := by
  obtain ⟨t, z, m, ro, hb, hf⟩ := cells_some hs
  cases ro with
  | true => cases hf
  | false =>
    obtain ⟨hle, hf⟩ := boolRec_some.1 hf
    obtain ⟨hone, hf⟩ := boolRec_some.1 hf
    cases hf
    unfold Heap.sto Heap.cells
    rw [hb]
    show (Bool.rec (motive := fun _ => Option Heap) none (Bool.rec (motive := fun _ => Option Heap) none _ (allOne [v])) (Nat.ble (off + 1) m) : Option Heap) = _
    rw [show Nat.ble (off + 1) m = true from hle, show allOne [v] = true from by rw [allOne_eq]; simpa using hone]
    rfl

/-! ### A new row of cells -/
theorem len_rowBlk (vs : List AV) : rowBlk vs = .cells (fillC vs .leaf 0) [] vs.length false := by unfold rowBlk; rw [len'_eq]

theorem BR.rowM {vs : List AV} {cvs : List Value} {k : Nat} {e : TypeId} {extra : List Value} (hv : VRs ρ vs cvs) (hone : ∀ v ∈ vs, v.one = true) {p : Pl} (hp : ρ b = some p) (h0 : p.off = 0) (hk : p.blk = k)
    (hsz : p.size = cvs.length + extra.length) {fz : Nat × Nat} (hfz : ∀ i, i < p.size → ¬ (fz.1 ≤ i ∧ i < fz.2)) (hh : w.heap[k]? = some (.cells (cvs ++ extra).toArray e fz)) {z : List AV} (hm : MarkOk z vs.length p e) : BR P keep ρ b (.cells (fillC vs .leaf 0) z (len' vs) false) w := by
  have hlen := hv.length
  rw [len'_eq]
  refine ⟨p, _, e, fz, hp, by rw [hk]; exact hh, by simp [hsz], by omega, fun i hi => ?_, fun _ => hfz, hm⟩
  obtain ⟨u, h1, h2⟩ := hv.get i vs[i] (List.getElem?_eq_getElem hi)
  refine ⟨vs[i], u, ?_, hone _ (List.getElem_mem hi), ?_, h2⟩
  · unfold cellAt
    rw [gt_fillC, if_pos (by omega), Nat.sub_zero, List.getElem?_eq_getElem hi]
  · rw [h0, Nat.zero_add]
    simp only [List.getElem?_toArray]
    rw [List.getElem?_append_left (by omega)]; exact h1

theorem BR.row {vs : List AV} {cvs : List Value} {k : Nat} {e : TypeId} {extra : List Value} (hv : VRs ρ vs cvs) (hone : ∀ v ∈ vs, v.one = true) {p : Pl} (hp : ρ b = some p) (h0 : p.off = 0) (hk : p.blk = k)
    (hsz : p.size = cvs.length + extra.length) {fz : Nat × Nat} (hfz : ∀ i, i < p.size → ¬ (fz.1 ≤ i ∧ i < fz.2)) (hh : w.heap[k]? = some (.cells (cvs ++ extra).toArray e fz)) : BR P keep ρ b (rowBlk vs) w :=
  BR.rowM hv hone hp h0 hk hsz hfz hh markOk_nil

end
end Go.Am

/-
  AM, 5: operations on values are the model's.
-/
namespace Go.Am

/-! ### eliminators -/
section
variable {β : Type} {r : β} {v : AV}
theorem eBool_some {f : Bool → Option β} (h : eBool f v = some r) : ∃ b, v = .bool b ∧ f b = some r := by cases v <;> first | exact ⟨_, rfl, h⟩ | cases h
theorem eInt_some {f : IntKind → Int → Option β} (h : eInt f v = some r) : ∃ k n, v = .int k n ∧ f k n = some r := by cases v <;> first | exact ⟨_, _, rfl, h⟩ | cases h
theorem eStr_some {f : List Nat → Option β} (h : eStr f v = some r) : ∃ s, v = .str s ∧ f s = some r := by cases v <;> first | exact ⟨_, rfl, h⟩ | cases h
theorem ePtr_some {f : Nat → Nat → Option β} (h : ePtr f v = some r) : ∃ b o, v = .ptr (some (b, o)) ∧ f b o = some r := by
  cases v with
  | ptr a => cases a with
    | none => cases h
    | some p => exact ⟨p.1, p.2, rfl, h⟩
  | _ => cases h
theorem eSlice_some {f : Option (Nat × Nat) → Nat → Nat → Option Nat → Option β} (h : eSlice f v = some r) : ∃ a n c g, v = .slice a n c g ∧ f a n c g = some r := by
  cases v <;> first | exact ⟨_, _, _, _, rfl, h⟩ | cases h
theorem eTuple_some {f : List AV → Option β} (h : eTuple f v = some r) : ∃ vs, v = .tuple vs ∧ f vs = some r := by cases v <;> first | exact ⟨_, rfl, h⟩ | cases h
theorem eFunc_some {f : Fn → List AV → List AV → Option β} (h : eFunc f v = some r) : ∃ g a b, v = .func g a b ∧ f g a b = some r := by cases v <;> first | exact ⟨_, _, _, rfl, h⟩ | cases h
theorem kEq_some {k l : IntKind} {x : Option β} (h : kEq k l x = some r) : k = l ∧ x = some r := by
  unfold kEq at h
  obtain ⟨h1, h2⟩ := boolRec_some.1 h
  refine ⟨?_, h2⟩
  cases k <;> cases l <;> first | rfl | cases h1
end

/-! ### integers -/
theorem wrap_fit {k : IntKind} {n : Nat} (h : n ≤ maxK k) : k.wrap (n : Int) = n := by
  cases k <;> simp only [maxK] at h <;>
    first
    | (rw [show IntKind.i64.wrap (n : Int) = ((n : Int) + 9223372036854775808) % 18446744073709551616 - 9223372036854775808 from IntKind.wrap_i64 _]; omega)
    | (simp only [IntKind.wrap, IntKind.bits, IntKind.signed]; simp; omega)
theorem fit_eq (k : IntKind) (n : Nat) : fit k n = some (.int k (k.wrap n)) := by
  unfold fit
  cases h : Nat.ble n (maxK k) with
  | true => show some (AV.int k (Int.ofNat n)) = _; rw [wrap_fit (Nat.le_of_ble_eq_true h)]; rfl
  | false => rfl
theorem addI_eq (k : IntKind) (a b : Int) : addI k a b = some (.int k (k.wrap (a + b))) := by
  cases a with
  | negSucc x => rfl
  | ofNat x => cases b with
    | negSucc y => rfl
    | ofNat y => show fit k (x + y) = _; rw [fit_eq]; rfl
theorem subI_eq (k : IntKind) (a b : Int) : subI k a b = some (.int k (k.wrap (a - b))) := by
  cases a with
  | negSucc x => rfl
  | ofNat x => cases b with
    | negSucc y => rfl
    | ofNat y =>
      show (Bool.rec (motive := fun _ => Option AV) _ (fit k (x - y)) (Nat.ble y x) : Option AV) = _
      cases h : Nat.ble y x with
      | true =>
        have := Nat.le_of_ble_eq_true h
        show fit k (x - y) = _
        rw [fit_eq, show ((x - y : Nat) : Int) = Int.ofNat x - Int.ofNat y by simp only [Int.ofNat_eq_natCast]; omega]
      | false => rfl
theorem mulI_eq (k : IntKind) (a b : Int) : mulI k a b = some (.int k (k.wrap (a * b))) := by
  cases a with
  | negSucc x => rfl
  | ofNat x => cases b with
    | negSucc y => rfl
    | ofNat y => show fit k (x * y) = _; rw [fit_eq]; rfl
theorem ltI_eq (a b : Int) : ltI a b = decide (a < b) := by
  cases a <;> cases b <;> simp only [ltI]
  · rw [Bool.eq_iff_iff]; simp [Nat.ble_eq]; omega
  · exact (decide_eq_false (by simp only [Int.ofNat_eq_natCast]; omega)).symm
  · exact (decide_eq_true (by simp only [Int.ofNat_eq_natCast]; omega)).symm
  · rw [Bool.eq_iff_iff]; simp [Nat.ble_eq]; omega
theorem leI_eq (a b : Int) : leI a b = decide (a ≤ b) := by
  cases a <;> cases b <;> simp only [leI]
  · rw [Bool.eq_iff_iff]; simp [Nat.ble_eq]
  · exact (decide_eq_false (by simp only [Int.ofNat_eq_natCast]; omega)).symm
  · exact (decide_eq_true (by simp only [Int.ofNat_eq_natCast]; omega)).symm
  · rw [Bool.eq_iff_iff]; simp [Nat.ble_eq]; omega
theorem eqI_eq (a b : Int) : eqI a b = (a == b) := by
  cases a <;> cases b <;> simp only [eqI]
  · rw [Bool.eq_iff_iff]; simp; omega
  · simp
  · simp
  · rw [Bool.eq_iff_iff]; simp

theorem quoI_some {k : IntKind} {a b : Int} {r : AV} (h : quoI k a b = some r) : b ≠ 0 ∧ r = .int k (k.wrap (a.tdiv b)) := by
  have slow : quoSlow k a b = some r → b ≠ 0 ∧ r = .int k (k.wrap (a.tdiv b)) := by
    intro h; unfold quoSlow wrapV at h
    split at h
    · cases h
    · rename_i hb; cases h; exact ⟨hb, rfl⟩
  cases a with
  | negSucc x => exact slow h
  | ofNat x => cases b with
    | negSucc y => exact slow h
    | ofNat y =>
      cases y with
      | zero => cases h
      | succ y =>
        have h : fit k (x / (y + 1)) = some r := h
        rw [fit_eq] at h; cases h
        exact ⟨by simp; omega, rfl⟩
theorem remI_some {k : IntKind} {a b : Int} {r : AV} (h : remI k a b = some r) : b ≠ 0 ∧ r = .int k (a.tmod b) := by
  have slow : remSlow k a b = some r → b ≠ 0 ∧ r = .int k (a.tmod b) := by
    intro h; unfold remSlow at h
    split at h
    · cases h
    · rename_i hb; cases h; exact ⟨hb, rfl⟩
  cases a with
  | negSucc x => exact slow h
  | ofNat x => cases b with
    | negSucc y => exact slow h
    | ofNat y =>
      cases y with
      | zero => cases h
      | succ y =>
        have h : some (AV.int k (Int.ofNat (x % (y + 1)))) = some r := h
        cases h
        exact ⟨by simp; omega, rfl⟩

theorem maxK_lt (k : IntKind) : maxK k < 2 ^ k.bits := by cases k <;> decide
theorem ofInt_nat {k : IntKind} {x : Nat} (h : x ≤ maxK k) : (BitVec.ofInt k.bits (Int.ofNat x)).toNat = x := by
  have := maxK_lt k
  simp only [BitVec.toNat_ofInt]
  rw [show ((2 ^ k.bits : Nat) : Int) = (2 ^ k.bits : Int) by norm_cast]
  rw [show (Int.ofNat x % (2 ^ k.bits : Int)) = ((x % 2 ^ k.bits : Nat) : Int) by simp]
  rw [Int.toNat_natCast, Nat.mod_eq_of_lt (by omega)]
theorem bitI_eq {g : Nat → Nat → Nat} {slow : IntKind → Int → Int → Option AV} {k : IntKind} {a b : Int}
    (hs : ∀ x y : Nat, x ≤ maxK k → y ≤ maxK k → slow k (Int.ofNat x) (Int.ofNat y) = some (.int k (k.wrap ((g x y : Nat) : Int)))) : bitI g slow k a b = slow k a b := by
  cases a with
  | negSucc x => rfl
  | ofNat x => cases b with
    | negSucc y => rfl
    | ofNat y =>
      show (Bool.rec (motive := fun _ => Option AV) _ (Bool.rec (motive := fun _ => Option AV) _ (fit k (g x y)) (Nat.ble y (maxK k))) (Nat.ble x (maxK k)) : Option AV) = _
      cases hx : Nat.ble x (maxK k) with
      | false => rfl
      | true => cases hy : Nat.ble y (maxK k) with
        | false => rfl
        | true => rw [hs x y (Nat.le_of_ble_eq_true hx) (Nat.le_of_ble_eq_true hy)]; exact fit_eq k _
theorem and_eq (k : IntKind) (a b : Int) : bitI Nat.land andS k a b = andS k a b :=
  bitI_eq fun x y hx hy => by unfold andS wrapV; rw [BitVec.toNat_and, ofInt_nat hx, ofInt_nat hy]; rfl
theorem or_eq (k : IntKind) (a b : Int) : bitI Nat.lor orS k a b = orS k a b :=
  bitI_eq fun x y hx hy => by unfold orS wrapV; rw [BitVec.toNat_or, ofInt_nat hx, ofInt_nat hy]; rfl
theorem xor_eq (k : IntKind) (a b : Int) : bitI Nat.xor xorS k a b = xorS k a b :=
  bitI_eq fun x y hx hy => by unfold xorS wrapV; rw [BitVec.toNat_xor, ofInt_nat hx, ofInt_nat hy]; rfl

/-! ### strings -/
theorem strEq_eq (a b : List Nat) : strEq a b = (a == b) := by
  induction a generalizing b with
  | nil => cases b <;> rfl
  | cons x a ih =>
    cases b with
    | nil => rfl
    | cons y b =>
      show (Bool.rec (motive := fun _ => Bool) false (strEq a b) (Nat.beq x y) : Bool) = _
      rw [ih, bool_rec_beq, Bool.eq_iff_iff]
      by_cases h : x = y <;> simp [h]
theorem strEq_bytes (a b : ByteArray) : strEq (a.data.toList.map (·.toNat)) (b.data.toList.map (·.toNat)) = (a.data.toList == b.data.toList) := by
  rw [strEq_eq, Bool.eq_iff_iff]
  simp only [beq_iff_eq]
  constructor
  · intro h
    exact (List.map_inj_right (fun x y h => UInt8.toNat_inj.1 h)).1 h
  · intro h; rw [h]
theorem strLt_bytes : ∀ (a b : List UInt8), strLt (a.map (·.toNat)) (b.map (·.toNat)) = Op.bytesLess a b
  | [], [] => rfl
  | [], _ :: _ => rfl
  | _ :: _, [] => rfl
  | x :: a, y :: b => by
    show (Bool.rec (motive := fun _ => Bool) (Bool.rec (motive := fun _ => Bool) false (strLt (a.map (·.toNat)) (b.map (·.toNat))) (Nat.beq x.toNat y.toNat)) true (Nat.ble (x.toNat + 1) y.toNat) : Bool) = _
    rw [strLt_bytes a b, bool_rec_beq, Op.bytesLess, Bool.eq_iff_iff]
    cases h : Nat.ble (x.toNat + 1) y.toNat with
    | true =>
      have h := Nat.le_of_ble_eq_true h
      have : x < y := UInt8.lt_iff_toNat_lt.2 (by omega)
      simp [this]
    | false =>
      have hn : ¬ x.toNat + 1 ≤ y.toNat := fun h' => by rw [Nat.ble_eq_true_of_le h'] at h; cases h
      have : ¬ x < y := fun h' => hn (UInt8.lt_iff_toNat_lt.1 h')
      by_cases e : x = y
      · subst e; simp [this]
      · have e' : ¬ x.toNat = y.toNat := fun h' => e (UInt8.toNat_inj.1 h')
        simp [this, e, e']

/-! ### what the model's runs come to -/
section
variable {P : Program} {w : World} {ρ : Pls}
theorem run_sizeT {t : TypeId} {s : Nat} (h : tSize P t = some s) : (sizeOf t).run P w = .ok s w := by
  unfold tSize at h
  cases hi : P.info? t with
  | none => rw [hi] at h; cases h
  | some i => rw [hi] at h; cases h; simp [sizeOf, typeInfo, hi]
theorem run_infoT {t : TypeId} {s : Nat} (h : tSize P t = some s) : ∃ i, (typeInfo t).run P w = .ok i w ∧ P.info? t = some i := by
  unfold tSize at h
  cases hi : P.info? t with
  | none => rw [hi] at h; cases h
  | some i => exact ⟨i, by simp [typeInfo, hi], rfl⟩
theorem run_bytesT {t : TypeId} {s : Nat} (h : tBytes P t = some s) : ∃ i, (typeInfo t).run P w = .ok i w ∧ i.bytes = s := by
  unfold tBytes at h
  cases hi : P.info? t with
  | none => rw [hi] at h; cases h
  | some i => rw [hi] at h; cases h; exact ⟨i, by simp [typeInfo, hi], rfl⟩
theorem run_zeroT {t : TypeId} {z : AV} (h : tZero P t = some z) : ∃ v, (zeroValue t).run P w = .ok v w ∧ VR ρ z v := by
  unfold tZero at h
  cases hi : P.info? t with
  | none => rw [hi] at h; cases h
  | some i =>
    rw [hi] at h
    simp only [Option.bind_some] at h
    cases hz : i.zero with
    | none => rw [hz] at h; cases h
    | some v =>
      rw [hz] at h
      exact ⟨v, by simp [zeroValue, typeInfo, hi, hz], VR.const ρ v z h⟩
theorem run_aggT {t : TypeId} {g : Bool} (h : tAgg P t = some g) : (isAgg t).run P w = .ok g w := by
  unfold tAgg at h
  cases hu : P.underlying t with
  | none => rw [hu] at h; cases h
  | some d =>
    rw [hu] at h
    cases d <;> (cases h; simp [isAgg, run_underlying hu])

theorem VR.int {k : IntKind} {n : Int} {v : Value} (h : VR ρ (.int k n) v) : v = .int k n := h
theorem VR.bool {b : Bool} {v : Value} (h : VR ρ (.bool b) v) : v = .bool b := h

theorem run_part {t : TypeId} {s : Nat} {g : Bool} {cs : List AV} {cs' : Array Value} {off : Nat} {r : AV} (hs : tSize P t = some s) (hg : tAgg P t = some g)
    (hv : VRs ρ cs cs'.toList) (hr : wrapAgg g ((cs.drop off).take s) = some r) : ∃ v, (part t cs' off).run P w = .ok v w ∧ VR ρ r v := by
  cases g with
  | true =>
    have hr : some (AV.agg ((cs.drop off).take s)) = some r := hr
    cases hr
    refine ⟨.agg (cs'.extract off (off + s)), by simp [part, run_aggT hg, run_sizeT hs], _, rfl, ?_⟩
    have := VRs.take s (VRs.drop off hv)
    have e : (cs'.extract off (off + s)).toList = (cs'.toList.drop off).take s := by
      rw [Array.toList_extract]; simp [List.extract_eq_take_drop]
    rw [e]; exact this
  | false =>
    have hr' : ∃ v, (cs.drop off).take s = [v] ∧ r = v := by
      cases e : (cs.drop off).take s with
      | nil => rw [e] at hr; cases hr
      | cons v l =>
        rw [e] at hr
        cases l with
        | nil => cases hr; exact ⟨_, rfl, rfl⟩
        | cons _ _ => cases hr
    obtain ⟨v, e, rfl⟩ := hr'
    have hget : cs[off]? = some r := by
      have := congrArg (·[0]?) e
      simp only [List.getElem?_cons_zero] at this
      rw [List.getElem?_take] at this
      split at this
      · simpa using this
      · cases this
    obtain ⟨u, h2, h3⟩ := hv.get off r hget
    refine ⟨u, ?_, h3⟩
    rw [Array.getElem?_toList] at h2
    simp [part, run_aggT hg, h2]

theorem run_eqPlain : ∀ (d : Nat) (t : TypeId) (x y : AV) (a b : Value) (r : Bool) (n : Nat), eqPlain P d t x y = some r → VR ρ x a → VR ρ y b → d ≤ n → (Op.equalIn n t a b).run P w = .ok r w
  | 0, _, _, _, _, _, _, _, h, _, _, _ => by cases h
  | d + 1, t, x, y, a, b, r, n, h, hx, hy, hn => by
    obtain ⟨n, rfl⟩ : ∃ m, n = m + 1 := ⟨n - 1, by omega⟩
    simp only [eqPlain] at h
    cases hu : P.underlying t with
    | none => rw [hu] at h; cases h
    | some dsc =>
      rw [hu] at h
      cases dsc with
      | bool =>
        simp only at h
        split at h
        · cases h; cases hx; cases hy; simp [Op.equalIn, run_underlying hu]
        · cases h
      | int k =>
        simp only at h
        split at h
        · split at h
          · rename_i hk; subst hk; cases h; cases hx; cases hy; simp [Op.equalIn, run_underlying hu, eqI_eq]
          · cases h
        · cases h
      | string =>
        simp only at h
        split at h
        · cases h
          obtain ⟨s, rfl, e1⟩ := hx
          obtain ⟨u, rfl, e2⟩ := hy
          subst e1; subst e2
          rw [run_equalIn_string w n t s u hu, strEq_bytes, ByteArray.toList_eq, ByteArray.toList_eq]
        · cases h
      | pointer e =>
        simp only at h
        split at h
        · rename_i q
          cases h; cases hx
          cases q with
          | none => cases hy; simp [Op.equalIn, run_underlying hu]
          | some q => obtain ⟨b0, o0⟩ := q; obtain ⟨p, hp, rfl⟩ := hy; simp [Op.equalIn, run_underlying hu]
        · rename_i q _
          cases h; cases hy
          cases q with
          | none => exact False.elim (by simp_all)
          | some q => obtain ⟨b0, o0⟩ := q; obtain ⟨p, hp, rfl⟩ := hx; simp [Op.equalIn, run_underlying hu]
        · rename_i q q'
          by_cases hq : q = q' ∧ (tSize P e).isSome = true
          · rw [if_pos hq] at h
            cases h
            obtain ⟨rfl, hq⟩ := hq
            obtain ⟨b0, o0⟩ := q
            obtain ⟨p, hp, rfl⟩ := hx
            obtain ⟨p', hp', rfl⟩ := hy
            rw [hp] at hp'; cases hp'
            cases hs : tSize P e with
            | none => rw [hs] at hq; cases hq
            | some k =>
              obtain ⟨i, hi, hi2⟩ := run_infoT (w := w) hs
              simp [Op.equalIn, run_underlying hu, sizeOf, typeInfo, hi2, run_sameAddr_same]
          · rw [if_neg hq] at h; cases h
        · cases h
      | interface ms =>
        simp only at h
        split at h
        · cases h; cases hx; obtain ⟨z, rfl, _⟩ := hy; simp [Op.equalIn, run_underlying hu]
        · cases h; cases hy; obtain ⟨z, rfl, _⟩ := hx; simp [Op.equalIn, run_underlying hu]
        · cases h
      | slice e =>
        simp only at h
        split at h
        · rename_i q _ _ _
          cases h
          obtain ⟨_, _, _, rfl⟩ := hx
          cases q with
          | none => obtain ⟨_, _, _, rfl⟩ := hy; simp [Op.equalIn, run_underlying hu]
          | some q => obtain ⟨b0, o0⟩ := q; obtain ⟨p, a', c', hp, rfl, _⟩ := hy; simp [Op.equalIn, run_underlying hu]
        · rename_i q _ _ _ _ _ _ hne
          cases h
          obtain ⟨_, _, _, rfl⟩ := hy
          cases q with
          | none => exact False.elim (by simp_all)
          | some q => obtain ⟨b0, o0⟩ := q; obtain ⟨p, a', c', hp, rfl, _⟩ := hx; simp [Op.equalIn, run_underlying hu]
        · cases h
      | map k e =>
        simp only at h
        split at h
        · rename_i q
          cases h; cases hx
          cases q with
          | none => cases hy; simp [Op.equalIn, run_underlying hu]
          | some q => obtain ⟨p, hp, _, rfl⟩ := hy; simp [Op.equalIn, run_underlying hu]
        · rename_i q _
          cases h; cases hy
          cases q with
          | none => exact False.elim (by simp_all)
          | some q => obtain ⟨p, hp, _, rfl⟩ := hx; simp [Op.equalIn, run_underlying hu]
        · cases h
      | func ps rs v =>
        simp only at h
        split at h
        · cases h; cases hx; cases hy; simp [Op.equalIn, run_underlying hu]
        · cases h; cases hx; obtain ⟨_, _, _, rfl, _⟩ := hy; simp [Op.equalIn, run_underlying hu]
        · cases h; cases hy; obtain ⟨_, _, _, rfl, _⟩ := hx; simp [Op.equalIn, run_underlying hu]
        · cases h
      | struct fs =>
        simp only at h
        split at h
        · rename_i xs ys
          split at h
          · cases h
          · rename_i hst
            obtain ⟨xs', rfl, hxs⟩ := hx
            obtain ⟨ys', rfl, hys⟩ := hy
            have hfs : P.fieldsOf t = fs := by unfold Program.fieldsOf; rw [hu]
            rw [run_equalIn_struct w n t xs' ys' (by rw [hfs]; exact hu) (by simpa using hst), hfs]
            have key : ∀ (l : List Field) (r : Bool), eqFields P (eqPlain P d) l xs ys = some r → (Op.eqFields n xs' ys' l).run P w = .ok r w := by
              intro l
              induction l with
              | nil => intro r h; cases h; rfl
              | cons f l ih =>
                intro r h
                simp only [eqFields] at h
                split at h
                · cases h
                · rename_i hname
                  split at h
                  · rename_i s g hs hg
                    split at h
                    · rename_i u v hu hv
                      simp only [take'_eq, drop'_eq] at hu hv
                      obtain ⟨u', ru, vu⟩ := run_part (w := w) hs hg hxs hu
                      obtain ⟨v', rv, vv⟩ := run_part (w := w) hs hg hys hv
                      split at h
                      · rename_i he
                        have := run_eqPlain d f.type u v u' v' true n he vu vv (by omega)
                        simp only [Op.eqFields, Sem.run_bind, if_pos hname, ru, rv, this, Result.andThen_ok]
                        simpa using ih r h
                      · rename_i he
                        cases hq : eqPlain P d f.type u v with
                        | none => rw [hq] at h; cases h
                        | some q =>
                          cases q with
                          | true => exact absurd hq he
                          | false =>
                            rw [hq] at h; cases h
                            have := run_eqPlain d f.type u v u' v' false n hq vu vv (by omega)
                            simp only [Op.eqFields, Sem.run_bind, if_pos hname, ru, rv, this, Result.andThen_ok]
                            simp
                    · cases h
                  · cases h
            exact key fs.toList r h
        · cases h
      | array m e =>
        simp only at h
        split at h
        · rename_i xs ys
          split at h
          · rename_i s g hs hg
            obtain ⟨xs', rfl, hxs⟩ := hx
            obtain ⟨ys', rfl, hys⟩ := hy
            have key : ∀ (k i : Nat) (r : Bool), eqElems (eqPlain P d e) s g k (xs.drop (i * s)) (ys.drop (i * s)) = some r → ∀ (f : Nat → Option Bool × Unit → Sem (ForInStep (Option Bool × Unit))),
                (∀ j st, f j st = (do
                  let x ← part e xs' (j * s)
                  let y ← part e ys' (j * s)
                  let q ← Op.equalIn n e x y
                  if (!q) = true then pure (ForInStep.done (some false, ())) else do pure (); pure (ForInStep.yield (none, ())))) →
                (forIn (List.range' i k) ((none, ()) : Option Bool × Unit) f).run P w = .ok (if r then (none, ()) else (some false, ())) w := by
              intro k
              induction k with
              | zero => intro i r h f _; cases h; simp
              | succ k ih =>
                intro i r h f hf
                simp only [eqElems] at h
                split at h
                · rename_i u v hu hv
                  simp only [take'_eq, drop'_eq, List.drop_drop] at hu hv h
                  obtain ⟨u', ru, vu⟩ := run_part (w := w) hs hg hxs hu
                  obtain ⟨v', rv, vv⟩ := run_part (w := w) hs hg hys hv
                  rw [List.range'_succ, List.forIn_cons]
                  simp only [hf, Sem.run_bind, ru, rv, Result.andThen_ok]
                  split at h
                  · rename_i he
                    rw [run_eqPlain d e u v u' v' true n he vu vv (by omega)]
                    have := ih (i + 1) r (by rw [show (i + 1) * s = i * s + s by rw [Nat.add_mul]; omega]; exact h) f hf
                    simpa using this
                  · rename_i he
                    cases hq : eqPlain P d e u v with
                    | none => rw [hq] at h; cases h
                    | some q =>
                      cases q with
                      | true => exact absurd hq he
                      | false =>
                        rw [hq] at h; cases h
                        rw [run_eqPlain d e u v u' v' false n hq vu vv (by omega)]
                        simp
                · cases h
            have := key m 0 r (by simpa using h) _ (fun _ _ => rfl)
            simp only [Op.equalIn, Sem.run_bind, run_underlying hu, Result.andThen_ok, run_sizeT hs]
            simp only [Std.Legacy.Range.forIn_eq_forIn_range', Std.Legacy.Range.size, Nat.sub_zero, Nat.add_sub_cancel, Nat.div_one]
            rw [this]
            cases r <;> simp
          · cases h
        · cases h
      | _ => cases h
end
end Go.Am

/-
  AM, 6: the operations that only compute.
-/
namespace Go.Am
section
variable {P : Program} {w : World} {ρ : Pls}

/-- the value of an operation is told, and stands for what the model's run gives; the world stays -/
def Gives (P : Program) (w : World) (ρ : Pls) (s : Sem Value) (r : AV) : Prop := ∃ v, s.run P w = .ok v w ∧ VR ρ r v

theorem eqGuard_pass {op : BinOp} {t : TypeId} {X Y : Operand} {a b : Value} (h : ∀ x y, a = .agg x → b = .agg y → P.eqGuardType P.depth t = false) (h2 : ¬ (a = .nilIface ∧ b = .nilIface)) :
    (eqGuard op t X Y a b).run P w = .ok () w := by
  unfold eqGuard
  cases op <;> try (simp; done)
  all_goals
    cases a <;> cases b <;> first
      | (simp; done)
      | (exact absurd ⟨rfl, rfl⟩ h2)
      | (have := h _ _ rfl rfl; simp [this]; done)

theorem andthen_ok {α β : Type} {x : Sem α} {f : α → Sem β} {a : α} {w' : World} (h : x.run P w = .ok a w') : (x >>= f).run P w = (f a).run P w' := by rw [Sem.run_bind, h]; rfl

theorem eqV_sound {t : TypeId} {x y : AV} {a b : Value} {r : Bool} (h : eqV P t x y = some r) (hx : VR ρ x a) (hy : VR ρ y b) {op : BinOp} {X Y : Operand} :
    (eqGuard op t X Y a b).run P w = .ok () w ∧ (binOp .eql t a b).run P w = .ok (.bool r) w ∧ (binOp .neq t a b).run P w = .ok (.bool (!r)) w := by
  have plain : ∀ (hp : eqPlain P 50 t x y = some r) (ha : ∀ k n l m, ¬ (a = .int k n ∧ b = .int l m)) (hs : ∀ s u, ¬ (a = .string s ∧ b = .string u)) (hf : ∀ k n l m, ¬ (a = .float k n ∧ b = .float l m)) (hc : ∀ k n q l m p, ¬ (a = .complex k n q ∧ b = .complex l m p)),
      (binOp .eql t a b).run P w = .ok (.bool r) w ∧ (binOp .neq t a b).run P w = .ok (.bool (!r)) w := by
    intro hp ha hs hf hc
    have he : (Op.equal t a b).run P w = .ok r w := run_eqPlain 50 t x y a b r 10000 hp hx hy (by decide)
    have e1 : binOp .eql t a b = (do pure (.bool (← Op.equal t a b))) := by
      unfold binOp
      split <;> first | rfl | (exact absurd ⟨rfl, rfl⟩ (ha _ _ _ _)) | (exact absurd ⟨rfl, rfl⟩ (hs _ _)) | (exact absurd ⟨rfl, rfl⟩ (hf _ _ _ _)) | (exact absurd ⟨rfl, rfl⟩ (hc _ _ _ _ _ _)) | contradiction
    have e2 : binOp .neq t a b = (do pure (.bool (!(← Op.equal t a b)))) := by
      unfold binOp
      split <;> first | rfl | (exact absurd ⟨rfl, rfl⟩ (ha _ _ _ _)) | (exact absurd ⟨rfl, rfl⟩ (hs _ _)) | (exact absurd ⟨rfl, rfl⟩ (hf _ _ _ _)) | (exact absurd ⟨rfl, rfl⟩ (hc _ _ _ _ _ _)) | contradiction
    rw [e1, e2, andthen_ok he, andthen_ok he]
    exact ⟨rfl, rfl⟩
  cases x with
  | int k n =>
    obtain ⟨l, m, rfl, h1⟩ := eInt_some h
    obtain ⟨ek, h2⟩ := kEq_some h1
    clear h h1
    subst ek
    cases h2; cases hx; cases hy
    refine ⟨eqGuard_pass (fun _ _ e => by cases e) (fun e => by cases e.1), ?_, ?_⟩ <;> simp [binOp, Op.intCmp, eqI_eq]
    rfl
  | str s =>
    obtain ⟨u, rfl, h⟩ := eStr_some h
    cases h
    obtain ⟨s', rfl, rfl⟩ := hx
    obtain ⟨u', rfl, rfl⟩ := hy
    refine ⟨eqGuard_pass (fun _ _ e => by cases e) (fun e => by cases e.1), ?_, ?_⟩ <;> simp [binOp, Op.stringOp, strEq_bytes, ByteArray.toList_eq]
  | bool c =>
    cases hx
    exact ⟨eqGuard_pass (fun _ _ e => by cases e) (fun e => by cases e.1), plain h (fun _ _ _ _ e => by cases e.1) (fun _ _ e => by cases e.1) (fun _ _ _ _ e => by cases e.1) (fun _ _ _ _ _ _ e => by cases e.1)⟩
  | ptr q =>
    have : ∃ q', a = .pointer q' := by
      cases q with
      | none => cases hx; exact ⟨_, rfl⟩
      | some q => obtain ⟨b0, o0⟩ := q; obtain ⟨p, _, rfl⟩ := hx; exact ⟨_, rfl⟩
    obtain ⟨q', rfl⟩ := this
    exact ⟨eqGuard_pass (fun _ _ e => by cases e) (fun e => by cases e.1), plain h (fun _ _ _ _ e => by cases e.1) (fun _ _ e => by cases e.1) (fun _ _ _ _ e => by cases e.1) (fun _ _ _ _ _ _ e => by cases e.1)⟩
  | slice q n c g =>
    have : ∃ q' n c, a = .slice q' n c := by
      cases q with
      | none => obtain ⟨_, _, _, rfl⟩ := hx; exact ⟨_, _, _, rfl⟩
      | some q => obtain ⟨b0, o0⟩ := q; obtain ⟨p, _, _, _, rfl, _⟩ := hx; exact ⟨_, _, _, rfl⟩
    obtain ⟨q', n', c', rfl⟩ := this
    exact ⟨eqGuard_pass (fun _ _ e => by cases e) (fun e => by cases e.1), plain h (fun _ _ _ _ e => by cases e.1) (fun _ _ e => by cases e.1) (fun _ _ _ _ e => by cases e.1) (fun _ _ _ _ _ _ e => by cases e.1)⟩
  | map q =>
    have : ∃ q', a = .map q' := by
      cases q with
      | none => cases hx; exact ⟨_, rfl⟩
      | some q => obtain ⟨p, _, _, rfl⟩ := hx; exact ⟨_, rfl⟩
    obtain ⟨q', rfl⟩ := this
    exact ⟨eqGuard_pass (fun _ _ e => by cases e) (fun e => by cases e.1), plain h (fun _ _ _ _ e => by cases e.1) (fun _ _ e => by cases e.1) (fun _ _ _ _ e => by cases e.1) (fun _ _ _ _ _ _ e => by cases e.1)⟩
  | func fn u v =>
    obtain ⟨_, _, _, rfl, _⟩ := hx
    exact ⟨eqGuard_pass (fun _ _ e => by cases e) (fun e => by cases e.1), plain h (fun _ _ _ _ e => by cases e.1) (fun _ _ e => by cases e.1) (fun _ _ _ _ e => by cases e.1) (fun _ _ _ _ _ _ e => by cases e.1)⟩
  | nilFunc =>
    cases hx
    exact ⟨eqGuard_pass (fun _ _ e => by cases e) (fun e => by cases e.1), plain h (fun _ _ _ _ e => by cases e.1) (fun _ _ e => by cases e.1) (fun _ _ _ _ e => by cases e.1) (fun _ _ _ _ _ _ e => by cases e.1)⟩
  | iface t' u =>
    obtain ⟨_, rfl, _⟩ := hx
    exact ⟨eqGuard_pass (fun _ _ e => by cases e) (fun e => by cases e.1), plain h (fun _ _ _ _ e => by cases e.1) (fun _ _ e => by cases e.1) (fun _ _ _ _ e => by cases e.1) (fun _ _ _ _ _ _ e => by cases e.1)⟩
  | nilIface =>
    cases hx
    refine ⟨eqGuard_pass (fun _ _ e => by cases e) (fun e => ?_), plain h (fun _ _ _ _ e => by cases e.1) (fun _ _ e => by cases e.1) (fun _ _ _ _ e => by cases e.1) (fun _ _ _ _ _ _ e => by cases e.1)⟩
    have h : eqPlain P 50 t .nilIface y = some r := h
    obtain ⟨_, rfl⟩ := e
    have hy' : y = .nilIface := by
      cases y with
      | nilIface => rfl
      | ptr q => cases q with
        | none => cases hy
        | some q => obtain ⟨_, _, e⟩ := hy; cases e
      | slice q _ _ _ => cases q with
        | none => obtain ⟨_, _, _, e⟩ := hy; cases e
        | some q => obtain ⟨_, _, _, _, e, _⟩ := hy; cases e
      | map q => cases q with
        | none => cases hy
        | some q => obtain ⟨_, _, _, e⟩ := hy; cases e
      | str s => obtain ⟨_, e, _⟩ := hy; cases e
      | func f u v => obtain ⟨_, _, _, e, _⟩ := hy; cases e
      | iface t' u => obtain ⟨_, e, _⟩ := hy; cases e
      | agg cs => obtain ⟨_, e, _⟩ := hy; cases e
      | tuple cs => obtain ⟨_, e, _⟩ := hy; cases e
      | bool b => cases hy
      | int k n => cases hy
      | nilFunc => cases hy
    subst hy'
    simp only [eqPlain] at h
    split at h <;> first | cases h | (split at h <;> first | cases h | contradiction)
  | agg cs =>
    obtain ⟨hg, h⟩ := iff'_some.1 h
    have hg : P.eqGuardType P.depth t = false := by simpa using hg
    obtain ⟨_, rfl, _⟩ := hx
    exact ⟨eqGuard_pass (fun _ _ _ _ => hg) (fun e => by cases e.1), plain h (fun _ _ _ _ e => by cases e.1) (fun _ _ e => by cases e.1) (fun _ _ _ _ e => by cases e.1) (fun _ _ _ _ _ _ e => by cases e.1)⟩
  | tuple cs => cases h

theorem bin2_sound {op : BinOp} {t : TypeId} {x y r : AV} {a b : Value} (h : bin2 P op t x y = some r) (hx : VR ρ x a) (hy : VR ρ y b) {X Y : Operand} :
    Gives P w ρ (do eqGuard op t X Y a b; binOp op t a b) r := by
  have noGuard : ∀ {op : BinOp}, op ≠ .eql → op ≠ .neq → (eqGuard op t X Y a b).run P w = .ok () w := by
    intro op h1 h2; unfold eqGuard; cases op <;> first | (simp; done) | exact absurd rfl h1 | exact absurd rfl h2
  have ints : ∀ {op : BinOp} {f : IntKind → Int → Int → Option AV}, int2 f x y = some r → op ≠ .eql → op ≠ .neq →
      (∀ k n m, f k n m = some r → ∃ v, (binOp op t (.int k n) (.int k m)).run P w = .ok v w ∧ VR ρ r v) → Gives P w ρ (do eqGuard op t X Y a b; binOp op t a b) r := by
    intro op f h h1 h2 hf
    obtain ⟨k, n, e1, g1⟩ := eInt_some h
    obtain ⟨l, m, e2, g2⟩ := eInt_some g1
    obtain ⟨e3, g3⟩ := kEq_some g2
    subst e1; subst e2; subst e3
    cases hx; cases hy
    obtain ⟨v, hv, hr⟩ := hf k n m g3
    exact ⟨v, by rw [andthen_ok (noGuard h1 h2)]; exact hv, hr⟩
  have shifts : ∀ {op : BinOp} {f : IntKind → Int → Int → Option AV}, shft f x y = some r → op ≠ .eql → op ≠ .neq →
      (∀ k n l m, f k n m = some r → ∃ v, (binOp op t (.int k n) (.int l m)).run P w = .ok v w ∧ VR ρ r v) → Gives P w ρ (do eqGuard op t X Y a b; binOp op t a b) r := by
    intro op f h h1 h2 hf
    obtain ⟨k, n, e1, g1⟩ := eInt_some h
    obtain ⟨l, m, e2, g2⟩ := eInt_some g1
    subst e1; subst e2
    cases hx; cases hy
    obtain ⟨v, hv, hr⟩ := hf k n l m g2
    exact ⟨v, by rw [andthen_ok (noGuard h1 h2)]; exact hv, hr⟩
  have cmps : ∀ {op : BinOp} {f : Int → Int → Bool} {g : List Nat → List Nat → Bool}, cmp2 f g x y = some r → op ≠ .eql → op ≠ .neq →
      (∀ k n m, (binOp op t (.int k n) (.int k m)).run P w = .ok (.bool (f n m)) w) →
      (∀ s u : ByteArray, (binOp op t (.string s) (.string u)).run P w = .ok (.bool (g (s.data.toList.map (·.toNat)) (u.data.toList.map (·.toNat)))) w) → Gives P w ρ (do eqGuard op t X Y a b; binOp op t a b) r := by
    intro op f g h h1 h2 hf hg
    cases x with
    | int k n =>
      obtain ⟨l, m, e2, g2⟩ := eInt_some h
      obtain ⟨e3, g3⟩ := kEq_some g2
      subst e2; subst e3
      cases g3; cases hx; cases hy
      exact ⟨_, by rw [andthen_ok (noGuard h1 h2)]; exact hf k n m, rfl⟩
    | str s =>
      obtain ⟨u, rfl, h⟩ := eStr_some h
      cases h
      obtain ⟨s', rfl, rfl⟩ := hx
      obtain ⟨u', rfl, rfl⟩ := hy
      exact ⟨_, by rw [andthen_ok (noGuard h1 h2)]; exact hg s' u', rfl⟩
    | _ => cases h
  cases op with
  | add =>
    cases x with
    | int k n =>
      obtain ⟨l, m, e2, g2⟩ := eInt_some h
      obtain ⟨e3, g3⟩ := kEq_some g2
      subst e2; subst e3
      rw [addI_eq] at g3; cases g3; cases hx; cases hy
      exact ⟨.int k (k.wrap (n + m)), by rw [andthen_ok (noGuard (by simp) (by simp))]; simp [binOp, Op.intArith], rfl⟩
    | str s =>
      obtain ⟨u, rfl, h⟩ := eStr_some h
      obtain ⟨s', rfl, rfl⟩ := hx
      obtain ⟨u', rfl, rfl⟩ := hy
      have h : addS (s'.data.toList.map (·.toNat)) (u'.data.toList.map (·.toNat)) = some r := h
      unfold addS at h
      obtain ⟨hle, h3⟩ := boolRec_some.1 h
      cases h3
      have hle := Nat.le_of_ble_eq_true hle
      simp only [len'_eq, List.length_map, Nat.add_eq] at hle
      refine ⟨.string (s' ++ u'), ?_, ⟨_, rfl, ?_⟩⟩
      · rw [andthen_ok (noGuard (by simp) (by simp))]
        have : ¬ (((s'.size + u'.size : Nat) : Int) > IntKind.i64.max) := by
          have e1 : s'.size = s'.data.toList.length := by rw [Array.length_toList]; rfl
          have e2 : u'.size = u'.data.toList.length := by rw [Array.length_toList]; rfl
          rw [e1, e2]
          simp only [IntKind.max, IntKind.signed, IntKind.bits]; simp; omega
        simp only [binOp, Op.stringOp, if_neg this]; rfl
      · rw [app'_eq]; simp
    | _ => cases h
  | sub => exact ints h (by simp) (by simp) fun k n m hf => ⟨.int k (k.wrap (n - m)), by simp [binOp, Op.intArith], by rw [subI_eq] at hf; cases hf; rfl⟩
  | mul => exact ints h (by simp) (by simp) fun k n m hf => ⟨.int k (k.wrap (n * m)), by simp [binOp, Op.intArith], by rw [mulI_eq] at hf; cases hf; rfl⟩
  | quo =>
    refine ints h (by simp) (by simp) fun k n m hf => ?_
    obtain ⟨h0, rfl⟩ := quoI_some hf
    exact ⟨.int k (k.wrap (n.tdiv m)), by simp [binOp, Op.intDiv, h0], rfl⟩
  | rem =>
    refine ints h (by simp) (by simp) fun k n m hf => ?_
    obtain ⟨h0, rfl⟩ := remI_some hf
    exact ⟨.int k (n.tmod m), by simp [binOp, Op.intDiv, h0], rfl⟩
  | and => exact ints h (by simp) (by simp) fun k n m hf => ⟨.int k (k.wrap (BitVec.ofInt k.bits n &&& BitVec.ofInt k.bits m).toNat), by simp [binOp, Op.intBits], by rw [and_eq] at hf; cases hf; rfl⟩
  | or => exact ints h (by simp) (by simp) fun k n m hf => ⟨.int k (k.wrap (BitVec.ofInt k.bits n ||| BitVec.ofInt k.bits m).toNat), by simp [binOp, Op.intBits], by rw [or_eq] at hf; cases hf; rfl⟩
  | xor => exact ints h (by simp) (by simp) fun k n m hf => ⟨.int k (k.wrap (BitVec.ofInt k.bits n ^^^ BitVec.ofInt k.bits m).toNat), by simp [binOp, Op.intBits], by rw [xor_eq] at hf; cases hf; rfl⟩
  | andNot => exact ints h (by simp) (by simp) fun k n m hf => ⟨.int k (k.wrap (BitVec.ofInt k.bits n &&& ~~~ BitVec.ofInt k.bits m).toNat), by simp [binOp, Op.intBits], by cases hf; rfl⟩
  | shl =>
    refine shifts h (by simp) (by simp) fun k n l m hf => ?_
    unfold shlS wrapV at hf
    split at hf
    · cases hf
    · rename_i h0; cases hf; exact ⟨.int k (k.wrap (n * 2 ^ min m.toNat k.bits)), by simp [binOp, Op.shift, h0], rfl⟩
  | shr =>
    refine shifts h (by simp) (by simp) fun k n l m hf => ?_
    unfold shrS at hf
    split at hf
    · cases hf
    · rename_i h0; cases hf; exact ⟨.int k (n.fdiv (2 ^ min m.toNat k.bits)), by simp [binOp, Op.shift, h0], rfl⟩
  | eql =>
    cases he : eqV P t x y with
    | none => simp only [bin2, eql2, he] at h; cases h
    | some q =>
      simp only [bin2, eql2, he] at h; cases h
      obtain ⟨h1, h2, _⟩ := eqV_sound (w := w) he hx hy (op := .eql) (X := X) (Y := Y)
      exact ⟨_, by rw [andthen_ok h1]; exact h2, rfl⟩
  | neq =>
    cases he : eqV P t x y with
    | none => simp only [bin2, neq2, he] at h; cases h
    | some q =>
      simp only [bin2, neq2, he, notB_eq] at h; cases h
      obtain ⟨h1, _, h2⟩ := eqV_sound (w := w) he hx hy (op := .neq) (X := X) (Y := Y)
      exact ⟨_, by rw [andthen_ok h1]; exact h2, rfl⟩
  | lss => exact cmps h (by simp) (by simp) (fun k n m => by simp [binOp, Op.intCmp, ltI_eq]) (fun s u => by simp [binOp, Op.stringOp, strLt_bytes, ByteArray.toList_eq])
  | leq => exact cmps h (by simp) (by simp) (fun k n m => by simp [binOp, Op.intCmp, leI_eq]) (fun s u => by simp [binOp, Op.stringOp, strLt_bytes, strEq_bytes, ByteArray.toList_eq])
  | gtr => exact cmps h (by simp) (by simp) (fun k n m => by simp [binOp, Op.intCmp, ltI_eq]) (fun s u => by simp [binOp, Op.stringOp, strLt_bytes, strEq_bytes, ByteArray.toList_eq])
  | geq => exact cmps h (by simp) (by simp) (fun k n m => by simp [binOp, Op.intCmp, leI_eq]) (fun s u => by simp [binOp, Op.stringOp, strLt_bytes, ByteArray.toList_eq])

theorem un1_sound {op : UnOp} {x r : AV} {a : Value} (h : un1 op x = some r) (hx : VR ρ x a) : Gives P w ρ (Op.unary op a) r := by
  cases op with
  | neg => obtain ⟨k, n, rfl, h⟩ := eInt_some h; cases h; cases hx; exact ⟨.int k (k.wrap (0 - n)), by simp [Op.unary, Op.intArith], rfl⟩
  | xor => obtain ⟨k, n, rfl, h⟩ := eInt_some h; cases h; cases hx; exact ⟨.int k (k.wrap (BitVec.ofInt k.bits (if k.signed then -1 else k.max) ^^^ BitVec.ofInt k.bits n).toNat), by simp [Op.unary, Op.intBits], rfl⟩
  | not => obtain ⟨b, rfl, h⟩ := eBool_some h; cases h; cases hx; exact ⟨.bool (!b), by simp [Op.unary], by simp [VR]⟩
  | plus => cases h

theorem conv1_sound {s d : TypeId} {x r : AV} {a : Value} (h : conv1 P s d x = some r) (hx : VR ρ x a) : Gives P w ρ (convert s d a) r := by
  unfold conv1 at h
  cases hs : P.underlying s with
  | none => rw [hs] at h; cases h
  | some ds =>
    cases hd : P.underlying d with
    | none => rw [hs, hd] at h; cases h
    | some dd =>
      rw [hs, hd] at h
      cases dd with
      | int k =>
        obtain ⟨l, n, rfl, h⟩ := eInt_some h
        have : r = .int k (k.wrap n) := by
          cases n with
          | ofNat n => have h : fit k n = some r := h; rw [fit_eq] at h; cases h; rfl
          | negSucc n => cases h; rfl
        subst this
        cases hx
        exact ⟨.int k (k.wrap n), by simp [convert, run_underlying hs, run_underlying hd, Conv.intToInt], rfl⟩
      | string =>
        obtain ⟨u, rfl, h⟩ := eStr_some h
        cases h
        obtain ⟨s', rfl, e⟩ := hx
        exact ⟨.string s', by simp [convert, run_underlying hs, run_underlying hd], ⟨s', rfl, e⟩⟩
      | _ => cases h

end
end Go.Am

/-
  AM, 7: the other operations that only compute.
-/
namespace Go.Am
section
variable {P : Program} {w : World} {ρ : Pls}

theorem toIface_sound {t : TypeId} {x r : AV} {a : Value} (h : toIface P t x = some r) (hx : VR ρ x a) : Gives P w ρ (Instr.makeInterface t a) r := by
  unfold toIface at h
  cases ht : P.underlying t with
  | none => rw [ht] at h; cases h
  | some d =>
    rw [ht] at h
    have key : h = h → (∀ ms, d ≠ .interface ms) → Gives P w ρ (Instr.makeInterface t a) (.iface t x) := by
      intro _ hn
      refine ⟨.iface t a, ?_, a, rfl, hx⟩
      unfold Instr.makeInterface
      rw [andthen_ok (run_underlying ht w)]
      cases d <;> first | rfl | exact absurd rfl (hn _)
    cases d <;> first | (cases h; done) | (cases h; exact key rfl (fun _ e => by cases e))

theorem mkFunc_sound {fn : Fn} {n : Nat} {vs : List AV} {r : AV} {first cap : Array Value} (h : mkFunc fn n vs = some r) (hn : first.size = n) (hv : VRs ρ vs (first.toList ++ cap.toList)) :
    Gives P w ρ (Instr.makeFunc fn first cap) r := by
  unfold mkFunc at h
  cases fn <;> first | (cases h; done) | skip
  rename_i f
  cases h
  rw [take'_eq, drop'_eq]
  refine ⟨_, rfl, _, _, _, rfl, rfl, ?_, ?_⟩
  · have := VRs.take n hv
    rwa [List.take_left' (by simpa using hn)] at this
  · have := VRs.drop n hv
    rwa [List.drop_left' (by simpa using hn)] at this

theorem nthTuple_sound {i : Nat} {x r : AV} {a : Value} (h : nthTuple i x = some r) (hx : VR ρ x a) : Gives P w ρ (Instr.extract a i) r := by
  obtain ⟨vs, rfl, g⟩ := eTuple_some h
  rw [nth_eq] at g
  obtain ⟨cs, rfl, hv⟩ := hx
  obtain ⟨v, h1, h2⟩ := hv.get i r g
  rw [Array.getElem?_toList] at h1
  exact ⟨v, by simp [Instr.extract, h1], h2⟩

/-! ### parts into their places -/
theorem overlay_eq : ∀ (vs cs : List AV), vs.length ≤ cs.length → overlay vs cs = vs ++ cs.drop vs.length
  | [], cs, _ => by show cs = _; simp
  | v :: vs, cs, h => by
    show v :: overlay vs (tl' cs) = _
    cases cs with
    | nil => simp at h
    | cons c cs =>
      rw [tl'_eq, overlay_eq vs _ (by simpa using h)]; simp
theorem setRun_eq (vs : List AV) : ∀ (off : Nat) (cs : List AV), off + vs.length ≤ cs.length → setRun vs off cs = cs.take off ++ (vs ++ cs.drop (off + vs.length))
  | 0, cs, h => by
    show overlay vs cs = _
    rw [overlay_eq vs cs (by omega)]; simp
  | off + 1, cs, h => by
    cases cs with
    | nil => simp at h
    | cons c cs =>
      show c :: setRun vs off cs = _
      rw [setRun_eq vs off cs (by simp at h; omega)]
      simp [show off + 1 + vs.length = off + vs.length + 1 by omega]

theorem putRun_toList : ∀ (vs : List Value) (c : Array Value) (o : Nat), o + vs.length ≤ c.size → (putRun c o vs).toList = c.toList.take o ++ (vs ++ c.toList.drop (o + vs.length)) := by
  intro vs c o h
  apply List.ext_getElem?
  intro i
  rw [Array.getElem?_toList, putRun_get _ _ _ _ h]
  by_cases h1 : i < o
  · rw [if_neg (by omega), List.getElem?_append_left (by simp; omega), List.getElem?_take, if_pos h1, Array.getElem?_toList]
  · rw [List.getElem?_append_right (by simp; omega)]
    have hl : (c.toList.take o).length = o := by simp; omega
    rw [hl]
    by_cases h2 : i < o + vs.length
    · rw [if_pos (by omega), List.getElem?_append_left (by omega)]
    · rw [if_neg (by omega), List.getElem?_append_right (by omega), List.getElem?_drop, Array.getElem?_toList]
      congr 1; omega

theorem foldl_putRun (off : Nat) : ∀ (l : List Value) (k : Nat) (cs : Array Value), (l.zipIdx k).foldl (fun cs (x : Value × Nat) => cs.setIfInBounds (off + x.2) x.1) cs = putRun cs (off + k) l
  | [], _, _ => rfl
  | v :: l, k, cs => by
    rw [List.zipIdx_cons, List.foldl_cons, foldl_putRun off l (k + 1)]
    rfl

theorem VRs.put {cs vs : List AV} {ca va : Array Value} {off : Nat} (hc : VRs ρ cs ca.toList) (hv : VRs ρ vs va.toList) (hle : off + vs.length ≤ cs.length) :
    VRs ρ (setRun vs off cs) (putRun ca off va.toList).toList := by
  have l1 := hc.length
  have l2 := hv.length
  rw [setRun_eq vs off cs hle, putRun_toList _ _ _ (by simp at l1 l2 ⊢; omega), ← l2]
  exact (hc.take off).append (hv.append (hc.drop _))

theorem fillB_sound : ∀ {pls : List (Nat × Nat)} {vs cs r : List AV} {ca : Array Value} {ps : List (Nat × Value)} {place : Nat → Option (Nat × Nat)},
    fillB pls vs cs = some r → placesOf place cs.length (ps.map (·.1)) = some pls → VRs ρ vs (ps.map (·.2)) → VRs ρ cs ca.toList →
    ∃ ra, Instr.fill place ca ps = some ra ∧ VRs ρ r ra.toList ∧ r.length = cs.length
  | [], vs, cs, r, ca, ps, place, h, hp, hv, hc => by
    cases ps with
    | nil =>
      cases vs with
      | nil => cases h; exact ⟨ca, rfl, hc, rfl⟩
      | cons _ _ => cases h
    | cons q ps =>
      simp only [List.map_cons, placesOf] at hp
      split at hp
      · split at hp <;> cases hp
      · cases hp
  | p :: pls, vs, cs, r, ca, ps, place, h, hp, hv, hc => by
    cases ps with
    | nil => cases hp
    | cons q ps =>
      obtain ⟨i, v⟩ := q
      simp only [List.map_cons, placesOf] at hp
      split at hp
      · rename_i p' ps' hpl hpls
        split at hp
        · rename_i hle
          cases hp
          obtain ⟨u, us, e, hu, hus⟩ : ∃ u us, vs = u :: us ∧ VR ρ u v ∧ VRs ρ us (ps.map (·.2)) := by
            cases vs with
            | nil => cases hv
            | cons u us => obtain ⟨v', ws, e, h1, h2⟩ := hv; cases e; exact ⟨u, us, rfl, h1, h2⟩
          subst e
          obtain ⟨hsz, h⟩ := iff'_some.1 (show iff' (Nat.beq (len' u.cells) p.2) (fillB pls us (setRun u.cells p.1 cs)) = some r from h)
          have hsz : u.cells.length = p.2 := by simpa using hsz
          have hcells := hu.cells
          have hlen := hcells.length
          have hlc := hc.length
          have hput := VRs.put hc hcells (off := p.1) (by omega)
          have hlen' : (setRun u.cells p.1 cs).length = cs.length := by rw [setRun_eq _ _ _ (by omega)]; simp; omega
          obtain ⟨ra, h1, h2, h3⟩ := fillB_sound (ps := ps) (place := place) h (by rw [hlen']; exact hpls) hus hput
          refine ⟨ra, ?_, h2, by rw [h3, hlen']⟩
          simp only [Instr.fill, hpl]
          rw [if_neg (by simp at hlen hlc ⊢; omega)]
          rw [← h1]
          congr 1
          have := foldl_putRun p.1 v.cells.toList 0 ca
          rw [Nat.add_zero] at this
          rw [← this, ← Array.foldl_toList, Array.toList_zipIdx]
        · cases hp
      · cases hp

theorem fieldPlaces_get : ∀ {fs : List Field} {pl : List (Nat × Nat)}, fieldPlaces P fs = some pl → (fs.mapM fun f => (do pure (f.offset, ← sizeOf f.type) : Sem (Nat × Nat))).run P w = .ok pl w
  | [], _, h => by cases h; rfl
  | f :: fs, pl, h => by
    simp only [fieldPlaces] at h
    split at h
    · rename_i s ps hs hps
      cases h
      rw [List.mapM_cons, Sem.run_bind, Sem.run_bind, run_sizeT hs]
      simp only [Result.andThen_ok, Sem.run_pure]
      rw [Sem.run_bind, fieldPlaces_get hps]
      rfl
    · cases h

theorem buildN_sound {t : TypeId} {vs : List AV} {r : AV} {ps : Array (Nat × Value)} (h : buildN P t (ps.toList.map (·.1)) vs = some r) (hv : VRs ρ vs (ps.toList.map (·.2))) : Gives P w ρ (Instr.build t ps) r := by
  unfold buildN at h
  cases hz : tZero P t with
  | none => rw [hz] at h; cases h
  | some z =>
    rw [hz] at h
    obtain ⟨zv, rz, vz⟩ := run_zeroT (w := w) (ρ := ρ) hz
    have hzc := vz.cells
    cases hu : P.underlying t with
    | none => rw [hu] at h; cases h
    | some d =>
      rw [hu] at h
      cases d with
      | struct fs =>
        cases hpl : fieldPlaces P fs.toList with
        | none => simp only [hpl] at h; cases h
        | some pl =>
          cases hpls : placesOf (pl[·]?) z.cells.length (ps.toList.map (·.1)) with
          | none => simp only [hpl, hpls] at h; cases h
          | some pls =>
            simp only [hpl, hpls] at h
            cases hf : fillB pls vs z.cells with
            | none => rw [hf] at h; cases h
            | some cs =>
              rw [hf] at h; cases h
              obtain ⟨ra, h1, h2, _⟩ := fillB_sound (ps := ps.toList) (place := (pl[·]?)) hf hpls hv hzc
              refine ⟨.agg ra, ?_, ra, rfl, h2⟩
              have hm := fieldPlaces_get (w := w) hpl
              simp only [Instr.build, Sem.run_bind, rz, run_underlying hu, Result.andThen_ok]
              have hm' : (fs.mapM fun f => (do pure (f.offset, ← sizeOf f.type) : Sem (Nat × Nat))).run P w = .ok pl.toArray w := by
                rw [Array.mapM_eq_mapM_toList, Sem.run_map, hm]; rfl
              rw [hm']
              simp only [Result.andThen_ok]
              rw [show (fun x => pl.toArray[x]?) = (fun x : Nat => pl[x]?) from funext fun x => by simp, h1]
              rfl
      | array n e =>
        cases hs : tSize P e with
        | none => simp only [hs] at h; cases h
        | some s =>
          cases hpls : placesOf (fun i => some (i * s, s)) z.cells.length (ps.toList.map (·.1)) with
          | none => simp only [hs, hpls] at h; cases h
          | some pls =>
            simp only [hs, hpls] at h
            cases hf : fillB pls vs z.cells with
            | none => rw [hf] at h; cases h
            | some cs =>
              rw [hf] at h; cases h
              obtain ⟨ra, h1, h2, _⟩ := fillB_sound (ps := ps.toList) hf hpls hv hzc
              refine ⟨.agg ra, ?_, ra, rfl, h2⟩
              simp only [Instr.build, Sem.run_bind, rz, run_underlying hu, Result.andThen_ok, run_sizeT hs]
              rw [h1]
              rfl
      | _ => cases h

/-! ### fields, elements -/
theorem field1_sound {t : TypeId} {f : Nat} {x r : AV} {a : Value} (h : field1 P t f x = some r) (hx : VR ρ x a) : Gives P w ρ (Instr.field t a f) r := by
  unfold field1 at h
  cases hu : P.underlying t with
  | none => rw [hu] at h; cases h
  | some d =>
    rw [hu] at h
    cases d with
    | struct fs =>
      simp only at h
      cases hf : fs[f]? with
      | none => rw [hf] at h; cases h
      | some fd =>
        rw [hf] at h
        simp only at h
        cases hs : tSize P fd.type with
        | none => rw [hs] at h; cases h
        | some s =>
          cases hg : tAgg P fd.type with
          | none => rw [hs, hg] at h; cases h
          | some g =>
            rw [hs, hg] at h
            simp only at h
            split at h
            · rename_i cs
              simp only [take'_eq, drop'_eq] at h
              obtain ⟨cs', rfl, hv⟩ := hx
              obtain ⟨v, h1, h2⟩ := run_part (w := w) hs hg hv h
              exact ⟨v, by simp [Instr.field, run_underlying hu, hf, asAgg, h1], h2⟩
            · cases h
    | _ => cases h

theorem add_addr (k o n : Nat) : (⟨k, o, none⟩ : Addr).add n = ⟨k, o + n, none⟩ := by unfold Addr.add; split <;> simp_all

theorem fieldAddr1_sound {t : TypeId} {f : Nat} {x r : AV} {a : Value} (h : fieldAddr1 P t f x = some r) (hx : VR ρ x a) : Gives P w ρ (Instr.fieldAt t a f) r := by
  unfold fieldAddr1 at h
  cases hu : P.underlying t with
  | none => rw [hu] at h; cases h
  | some d =>
    rw [hu] at h
    cases d with
    | struct fs =>
      simp only at h
      cases hf : fs[f]? with
      | none => rw [hf] at h; cases h
      | some fd =>
        rw [hf] at h
        simp only at h
        cases hs : tSize P fd.type with
        | none => rw [hs] at h; cases h
        | some s =>
          rw [hs] at h
          cases s with
          | zero => cases h
          | succ s =>
            obtain ⟨b, o, rfl, g⟩ := ePtr_some h
            cases g
            obtain ⟨p, hp, rfl⟩ := hx
            refine ⟨.pointer (some ⟨p.blk, p.off + (o + fd.offset), none⟩), ?_, p, hp, rfl⟩
            simp [Instr.fieldAt, run_underlying hu, hf, Instr.sureAddr, fieldPlace, run_sizeT hs, add_addr, Nat.add_assoc]
    | _ => cases h

theorem inRange_some {n : Nat} {j : Int} {f : Nat → Option AV} {r : AV} (h : inRange n j f = some r) : ∃ i : Nat, j = i ∧ i < n ∧ f i = some r := by
  cases j with
  | negSucc j => cases h
  | ofNat i => obtain ⟨h1, h2⟩ := boolRec_some.1 h; exact ⟨i, rfl, Nat.le_of_ble_eq_true h1, h2⟩

theorem indexAddr2_sound {t : TypeId} {x j r : AV} {a b : Value} (h : indexAddr2 P t x j = some r) (hx : VR ρ x a) (hj : VR ρ j b) : Gives P w ρ (Instr.indexAt t a b) r := by
  unfold indexAddr2 at h
  cases hu : P.underlying t with
  | none => rw [hu] at h; cases h
  | some d =>
    rw [hu] at h
    cases d with
    | array n e =>
      simp only at h
      cases hs : tSize P e with
      | none => rw [hs] at h; cases h
      | some s =>
        rw [hs] at h
        obtain ⟨k, jn, rfl, g1⟩ := eInt_some h
        obtain ⟨b0, o, rfl, g2⟩ := ePtr_some g1
        obtain ⟨i, rfl, hi, g3⟩ := inRange_some g2
        cases g3; cases hj
        obtain ⟨p, hp, rfl⟩ := hx
        refine ⟨.pointer (some ⟨p.blk, p.off + (o + i * s), none⟩), ?_, p, hp, rfl⟩
        have : (0 : Int) ≤ i ∧ (i : Int) < n := by omega
        simp [Instr.indexAt, asIntOf, run_underlying hu, Instr.sureAddr, run_sizeT hs, add_addr, Nat.add_assoc, hi]
    | slice e =>
      simp only at h
      cases hs : tSize P e with
      | none => rw [hs] at h; cases h
      | some s =>
        rw [hs] at h
        obtain ⟨k, jn, rfl, g1⟩ := eInt_some h
        obtain ⟨q, n, c, g, rfl, g2⟩ := eSlice_some g1
        cases q with
        | none => cases g2
        | some q =>
          obtain ⟨b0, o⟩ := q
          obtain ⟨i, rfl, hi, g3⟩ := inRange_some g2
          cases g3; cases hj
          obtain ⟨p, a', c', hp, rfl, hn, hc, _, _, ha⟩ := hx
          have ha := ha (by omega)
          subst ha
          refine ⟨.pointer (some ⟨p.blk, p.off + (o + i * s), none⟩), ?_, p, hp, rfl⟩
          simp [Instr.indexAt, asIntOf, run_underlying hu, run_sizeT hs, add_addr, Nat.add_assoc, hi]
    | _ => cases h

theorem byteAt_some : ∀ {s : List Nat} {i : Nat} {r : AV}, byteAt s i = some r → ∃ c, s[i]? = some c ∧ r = .int .u8 c
  | [], _, _, h => by cases h
  | c :: s, 0, _, h => by cases h; exact ⟨c, rfl, rfl⟩
  | c :: s, i + 1, r, h => by
    have h : byteAt s i = some r := h
    obtain ⟨d, h1, h2⟩ := byteAt_some h
    exact ⟨d, by simpa using h1, h2⟩

theorem index2_sound {t : TypeId} {x j r : AV} {a b : Value} (h : index2 P t x j = some r) (hx : VR ρ x a) (hj : VR ρ j b) : Gives P w ρ (Instr.index t a b) r := by
  unfold index2 at h
  cases hu : P.underlying t with
  | none => rw [hu] at h; cases h
  | some d =>
    rw [hu] at h
    cases d with
    | array n e =>
      simp only at h
      cases hs : tSize P e with
      | none => rw [hs] at h; cases h
      | some s =>
        cases hg : tAgg P e with
        | none => rw [hs, hg] at h; cases h
        | some g =>
          rw [hs, hg] at h
          obtain ⟨k, jn, rfl, g1⟩ := eInt_some h
          split at g1
          · rename_i cs
            obtain ⟨i, rfl, hi, g2⟩ := inRange_some g1
            simp only [take'_eq, drop'_eq, Nat.mul_eq] at g2
            cases hj
            obtain ⟨cs', rfl, hv⟩ := hx
            obtain ⟨v, h1, h2⟩ := run_part (w := w) hs hg hv g2
            exact ⟨v, by simp [Instr.index, asIntOf, run_underlying hu, hi, run_sizeT hs, h1], h2⟩
          · cases g1
    | string =>
      obtain ⟨k, jn, rfl, g1⟩ := eInt_some h
      obtain ⟨s, rfl, g2⟩ := eStr_some g1
      cases hj
      obtain ⟨s', rfl, rfl⟩ := hx
      cases jn with
      | negSucc j => cases g2
      | ofNat i =>
        obtain ⟨c, h1, rfl⟩ := byteAt_some g2
        rw [List.getElem?_map] at h1
        cases hb : s'.data.toList[i]? with
        | none => rw [hb] at h1; cases h1
        | some u =>
          rw [hb] at h1
          simp at h1; subst h1
          rw [Array.getElem?_toList] at hb
          have hi : i < s'.size := (Array.getElem?_eq_some_iff.1 hb).1
          have hu' : s'[i]? = some u := by
            rw [getElem?_pos s' i hi]
            have := (Array.getElem?_eq_some_iff.1 hb).2
            rw [← this]; rfl
          exact ⟨.int .u8 u.toNat, by simp [Instr.index, asIntOf, run_underlying hu, hu'], rfl⟩
    | _ => cases h

/-! ### lengths -/
theorem size_bytes (b : ByteArray) : b.size = (b.data.toList.map (·.toNat)).length := by rw [List.length_map, Array.length_toList]; rfl
theorem len1_sound {t ty : TypeId} {ts : Array TypeId} {x r : AV} {a : Value} (h : len1 P t x = some r) (hx : VR ρ x a) (ht : ts[0]? = some t) : Gives P w ρ (Builtin.len_ ts ty #[a]) r := by
  unfold len1 at h
  cases hu : P.underlying t with
  | none => rw [hu] at h; cases h
  | some d =>
    rw [hu] at h
    cases d with
    | string =>
      obtain ⟨s, rfl, g1⟩ := eStr_some h
      cases g1
      obtain ⟨s', rfl, rfl⟩ := hx
      exact ⟨.int .i64 s'.size, by simp [Builtin.len_, ht, run_underlying hu, goInt], by rw [len'_eq, size_bytes]; rfl⟩
    | array n e => cases h; exact ⟨.int .i64 n, by simp [Builtin.len_, ht, run_underlying hu, goInt], rfl⟩
    | slice e =>
      obtain ⟨q, n, c, g, rfl, g1⟩ := eSlice_some h
      cases g1
      cases q with
      | none => obtain ⟨rfl, _, _, rfl⟩ := hx; exact ⟨.int .i64 0, by simp [Builtin.len_, ht, run_underlying hu, goInt], rfl⟩
      | some q =>
        obtain ⟨b0, o⟩ := q
        obtain ⟨p, a', c', hp, rfl, _⟩ := hx
        exact ⟨.int .i64 n, by simp [Builtin.len_, ht, run_underlying hu, goInt], rfl⟩
    | pointer arr =>
      simp only at h
      cases hv : P.underlying arr with
      | none => rw [hv] at h; cases h
      | some d' =>
        rw [hv] at h
        cases d' with
        | array n e => cases h; exact ⟨.int .i64 n, by simp [Builtin.len_, ht, run_underlying hu, run_underlying hv, goInt], rfl⟩
        | _ => cases h
    | _ => cases h

theorem cap1_sound {t ty : TypeId} {ts : Array TypeId} {x r : AV} {a : Value} (h : cap1 P t x = some r) (hx : VR ρ x a) (ht : ts[0]? = some t) : Gives P w ρ (Builtin.cap_ ts ty #[a]) r := by
  unfold cap1 at h
  cases hu : P.underlying t with
  | none => rw [hu] at h; cases h
  | some d =>
    rw [hu] at h
    cases d with
    | slice e =>
      obtain ⟨q, n, c, g, rfl, g1⟩ := eSlice_some h
      cases g with
      | some g => cases g1
      | none =>
        cases g1
        cases q with
        | none => obtain ⟨rfl, rfl, _, rfl⟩ := hx; exact ⟨.int .i64 0, by simp [Builtin.cap_, ht, run_underlying hu, goInt], rfl⟩
        | some q =>
          obtain ⟨b0, o⟩ := q
          obtain ⟨p, a', c', hp, rfl, _, _, he, _⟩ := hx
          obtain rfl := he rfl
          exact ⟨.int .i64 c', by simp [Builtin.cap_, ht, run_underlying hu, goInt], rfl⟩
    | _ => cases h

theorem max2_sound {x y r : AV} {a b : Value} (h : max2 x y = some r) (hx : VR ρ x a) (hy : VR ρ y b) : Gives P w ρ (Builtin.max2 a b) r := by
  obtain ⟨k, n, rfl, g1⟩ := eInt_some h
  obtain ⟨l, m, rfl, g2⟩ := eInt_some g1
  cases g2; cases hx; cases hy
  refine ⟨.int k (if m > n then m else n), rfl, ?_⟩
  rw [ltI_eq]
  by_cases hh : n < m
  · rw [decide_eq_true hh, if_pos hh]; rfl
  · rw [decide_eq_false hh, if_neg hh]; rfl
theorem min2_sound {x y r : AV} {a b : Value} (h : min2 x y = some r) (hx : VR ρ x a) (hy : VR ρ y b) : Gives P w ρ (Builtin.min2 a b) r := by
  obtain ⟨k, n, rfl, g1⟩ := eInt_some h
  obtain ⟨l, m, rfl, g2⟩ := eInt_some g1
  cases g2; cases hx; cases hy
  refine ⟨.int k (if m < n then m else n), rfl, ?_⟩
  rw [ltI_eq]
  by_cases hh : m < n
  · rw [decide_eq_true hh, if_pos hh]; rfl
  · rw [decide_eq_false hh, if_neg hh]; rfl
theorem foldA_sound {f : AV → AV → Option AV} {g : Value → Value → Sem Value} (hf : ∀ {x y r : AV} {a b : Value}, f x y = some r → VR ρ x a → VR ρ y b → Gives P w ρ (g a b) r) :
    ∀ {ys : List AV} {x r : AV} {a : Value} {bs : List Value}, foldA f x ys = some r → VR ρ x a → VRs ρ ys bs → Gives P w ρ (bs.foldlM g a) r
  | [], x, r, a, bs, h, hx, hy => by cases hy; cases h; exact ⟨a, rfl, hx⟩
  | y :: ys, x, r, a, bs, h, hx, hy => by
    obtain ⟨b, bs', rfl, h1, h2⟩ := hy
    simp only [foldA] at h
    split at h
    · rename_i z hz
      obtain ⟨c, hc, vc⟩ := hf hz hx h1
      obtain ⟨d, hd, vd⟩ := foldA_sound hf h vc h2
      exact ⟨d, by simp [List.foldlM_cons, hc, hd], vd⟩
    · cases h
theorem max_sound {ts : Array TypeId} {ty : TypeId} {xs : List AV} {r : AV} {as : List Value} (h : folds max2 xs = some r) (hv : VRs ρ xs as) : Gives P w ρ (Builtin.max_ ts ty as.toArray) r := by
  cases xs with
  | nil => cases h
  | cons x xs => obtain ⟨v, us, rfl, h1, h2⟩ := hv; exact foldA_sound (f := max2) max2_sound h h1 h2
theorem min_sound {ts : Array TypeId} {ty : TypeId} {xs : List AV} {r : AV} {as : List Value} (h : folds min2 xs = some r) (hv : VRs ρ xs as) : Gives P w ρ (Builtin.min_ ts ty as.toArray) r := by
  cases xs with
  | nil => cases h
  | cons x xs => obtain ⟨v, us, rfl, h1, h2⟩ := hv; exact foldA_sound (f := min2) min2_sound h h1 h2

end
end Go.Am

/-
  AM, 8: slice expressions; new blocks; what is read.
-/
namespace Go.Am
section
variable {P : Program} {keep : Keeps} {w : World} {ρ : Pls} {h : Heap}

def OR (ρ : Pls) : Option AV → Option Value → Prop
  | none, v => v = none
  | some x, v => ∃ u, v = some u ∧ VR ρ x u

theorem boundV_some {d y : Nat} {x : Option AV} {x' : Option Value} {f : Nat → Option AV} {r : AV} (h : boundV d y x f = some r) (hx : OR ρ x x') :
    ∃ n, f n = some r ∧ ((x' = none ∧ x = none ∧ n = d) ∨ ∃ k, x' = some (.int k n) ∧ n ≤ y) := by
  cases x with
  | none => exact ⟨d, h, .inl ⟨hx, rfl, rfl⟩⟩
  | some v =>
    obtain ⟨u, rfl, hu⟩ := hx
    obtain ⟨k, i, rfl, g⟩ := eInt_some h
    cases i with
    | negSucc i => cases g
    | ofNat n =>
      obtain ⟨g1, g2⟩ := boolRec_some.1 g
      cases hu
      exact ⟨n, g2, .inr ⟨k, rfl, Nat.le_of_ble_eq_true g1⟩⟩

theorem run_bound {k : IntKind} {n y : Nat} {c : BoundsCode} (hn : n ≤ y) : (Instr.sliceBound (.int k n) y c).run P w = .ok n w := by
  have : (0 : Int) ≤ n ∧ (n : Int) ≤ y := by omega
  simp [Instr.sliceBound, asIntOf, hn]

/-- no third index -/
theorem run_bounds2 {isSlice : Bool} {len cap l hh : Nat} {lo hi : Option Value} (hhi : (hi = none ∧ hh = len) ∨ ∃ k, hi = some (.int k hh) ∧ hh ≤ cap)
    (hlo : (lo = none ∧ l = 0) ∨ ∃ k, lo = some (.int k l) ∧ l ≤ hh) : (Instr.sliceBounds isSlice len cap lo hi none).run P w = .ok (l, hh, cap) w := by
  rcases hhi with ⟨rfl, rfl⟩ | ⟨k, rfl, h1⟩ <;> rcases hlo with ⟨rfl, rfl⟩ | ⟨k', rfl, h2⟩
  · simp [Instr.sliceBounds]
  · simp [Instr.sliceBounds, run_bound h2]
  · simp [Instr.sliceBounds, run_bound h1]
  · simp [Instr.sliceBounds, run_bound h1, run_bound h2]
theorem run_bounds3 {len cap l hh m : Nat} {k k1 : IntKind} {lo : Option Value} (hm : m ≤ cap) (hhi : hh ≤ m)
    (hlo : (lo = none ∧ l = 0) ∨ ∃ k, lo = some (.int k l) ∧ l ≤ hh) : (Instr.sliceBounds true len cap lo (some (.int k hh)) (some (.int k1 m))).run P w = .ok (l, hh, m) w := by
  rcases hlo with ⟨rfl, rfl⟩ | ⟨k', rfl, h2⟩
  · simp [Instr.sliceBounds, run_bound hm, run_bound hhi]
  · simp [Instr.sliceBounds, run_bound hm, run_bound hhi, run_bound h2]

theorem run_slice_str {t : TypeId} {s : ByteArray} {lo hi : Option Value} {l hh m : Nat} (hu : P.underlying t = some .string) (hb : (Instr.sliceBounds false s.size s.size lo hi none).run P w = .ok (l, hh, m) w) :
    (Instr.sliceAt t (.string s) lo hi none).run P w = .ok (.string (s.extract l hh)) w := by
  simp [Instr.sliceAt, Instr.slice, run_underlying hu, hb]
theorem run_slice_sl {t e : TypeId} {size n c' l hh m : Nat} {a : Option Addr} {lo hi mx : Option Value} (hu : P.underlying t = some (.slice e)) (hs : tSize P e = some size)
    (hb : (Instr.sliceBounds true n c' lo hi mx).run P w = .ok (l, hh, m) w) : (Instr.sliceAt t (.slice a n c') lo hi mx).run P w = .ok (.slice (if m = l then a else a.map (·.add (l * size))) (hh - l) (m - l)) w := by
  simp [Instr.sliceAt, Instr.slice, run_underlying hu, hb, run_sizeT hs]
theorem run_slice_arr {t e : TypeId} {size n l hh m : Nat} {a : Addr} {lo hi mx : Option Value} (hu : P.underlying t = some (.array n e)) (hs : tSize P e = some size)
    (hb : (Instr.sliceBounds false n n lo hi mx).run P w = .ok (l, hh, m) w) : (Instr.sliceAt t (.pointer (some a)) lo hi mx).run P w = .ok (.slice (some (if m = l then a else a.add (l * size))) (hh - l) (m - l)) w := by
  simp [Instr.sliceAt, Instr.sureAddr, run_underlying hu, hb, run_sizeT hs]
theorem run_slice_ptr {t arr e : TypeId} {size n l hh m : Nat} {a : Addr} {lo hi mx : Option Value} (hu : P.underlying t = some (.pointer arr)) (hv : P.underlying arr = some (.array n e)) (hs : tSize P e = some size)
    (hb : (Instr.sliceBounds false n n lo hi mx).run P w = .ok (l, hh, m) w) : (Instr.sliceAt t (.pointer (some a)) lo hi mx).run P w = .ok (.slice (some (if m = l then a else a.add (l * size))) (hh - l) (m - l)) w := by
  simp [Instr.sliceAt, Instr.slice, asAddr, run_underlying hu, run_underlying hv, hb, run_sizeT hs]

theorem take_drop_bytes (s : ByteArray) (l hh : Nat) : ((s.extract l hh).data.toList.map (·.toNat)) = ((s.data.toList.map (·.toNat)).drop l).take (hh - l) := by
  rw [show (s.extract l hh).data = s.data.extract l hh from ByteArray.data_extract, Array.toList_extract, List.extract_eq_take_drop, List.map_take, List.map_drop]

theorem slice_str {t : TypeId} {x r : AV} {a : Value} {lo hi : Option AV} {lo' hi' : Option Value} (hu : P.underlying t = some .string)
    (h : eStr (fun s => boundV (len' s) (len' s) hi fun h => boundV 0 h lo fun l => some (.str (take' (Nat.sub h l) (drop' l s)))) x = some r) (hx : VR ρ x a) (hlo : OR ρ lo lo') (hhi : OR ρ hi hi') : Gives P w ρ (Instr.sliceAt t a lo' hi' none) r := by
  obtain ⟨s, rfl, g1⟩ := eStr_some h
  obtain ⟨s', rfl, rfl⟩ := hx
  obtain ⟨hh, g2, q1⟩ := boundV_some g1 hhi
  obtain ⟨l, g3, q2⟩ := boundV_some g2 hlo
  cases g3
  rw [len'_eq, ← size_bytes] at q1
  refine ⟨.string (s'.extract l hh), run_slice_str hu (run_bounds2 (q1.imp (fun q => ⟨q.1, q.2.2⟩) id) (q2.imp (fun q => ⟨q.1, q.2.2⟩) id)), _, rfl, ?_⟩
  rw [take'_eq, drop'_eq, take_drop_bytes]; rfl

theorem slice_sl2 {t e : TypeId} {size : Nat} {q : Option (Nat × Nat)} {n c : Nat} {g : Option Nat} {r : AV} {a : Value} {lo hi : Option AV} {lo' hi' : Option Value} (hu : P.underlying t = some (.slice e)) (hs : tSize P e = some size)
    (h : iff' (gOk g size) (boundV n c hi fun h => boundV 0 h lo fun l => some (.slice (q.map fun p => (p.1, p.2 + l * size)) (h - l) (c - l) g)) = some r)
    (hx : VR ρ (.slice q n c g) a) (hlo : OR ρ lo lo') (hhi : OR ρ hi hi') : Gives P w ρ (Instr.sliceAt t a lo' hi' none) r := by
  obtain ⟨gg, g1⟩ := iff'_some.1 h
  obtain ⟨hh, g2, q1⟩ := boundV_some g1 hhi
  obtain ⟨l, g3, q2⟩ := boundV_some g2 hlo
  have r1 : ∀ {c' : Nat}, n ≤ c' → c ≤ c' → (Instr.sliceBounds true n c' lo' hi' none).run P w = .ok (l, hh, c') w ∧ l ≤ hh ∧ hh ≤ c' := by
    intro c' h1 h2
    have hhc : hh ≤ c' := by rcases q1 with ⟨_, _, rfl⟩ | ⟨k, _, h⟩ <;> omega
    have hl : l ≤ hh := by rcases q2 with ⟨_, _, rfl⟩ | ⟨k, _, h⟩ <;> omega
    exact ⟨run_bounds2 (q1.imp (fun q => ⟨q.1, q.2.2⟩) fun ⟨k, e, h⟩ => ⟨k, e, by omega⟩) (q2.imp (fun q => ⟨q.1, q.2.2⟩) id), hl, hhc⟩
  cases q with
  | none =>
    obtain ⟨rfl, rfl, rfl, rfl⟩ := hx
    obtain ⟨r1, h1, h2⟩ := r1 (Nat.le_refl 0) (Nat.le_refl 0)
    obtain rfl : hh = 0 := by omega
    obtain rfl : l = 0 := by omega
    cases g3
    exact ⟨.slice none 0 0, run_slice_sl hu hs r1, rfl, rfl, rfl, rfl⟩
  | some q =>
    obtain ⟨b, o⟩ := q
    obtain ⟨p, a', c', hp, rfl, hn, hc, he, hes, ha⟩ := hx
    obtain ⟨r1, h1, h2⟩ := r1 hn hc
    cases g3
    refine ⟨.slice (some (if c' = l then a' else a'.add (l * size))) (hh - l) (c' - l), ?_, p, _, _, hp, rfl, by omega, by omega, fun e => by rw [he e], fun es e => ?_, fun hne => ?_⟩
    · rw [run_slice_sl hu hs r1]
      split <;> rfl
    · subst e
      have : es = size := by simpa [gOk] using gg
      subst this
      have := hes es rfl
      have hm : l * es + (c' - l) * es = c' * es := by rw [← Nat.add_mul]; congr 1; omega
      omega
    · rw [if_neg (by omega), ha (by omega), add_addr, Nat.add_assoc]

theorem slice_sl3 {t e : TypeId} {size : Nat} {q : Option (Nat × Nat)} {n c : Nat} {g : Option Nat} {r m hv : AV} {a m' hv' : Value} {lo : Option AV} {lo' : Option Value} (hu : P.underlying t = some (.slice e)) (hs : tSize P e = some size)
    (h : (boundV 0 c (some m) fun m => boundV 0 m (some hv) fun h => boundV 0 h lo fun l => some (.slice (q.map fun p => (p.1, p.2 + l * size)) (h - l) (m - l) none)) = some r)
    (hx : VR ρ (.slice q n c g) a) (hlo : OR ρ lo lo') (hhi : VR ρ hv hv') (hm : VR ρ m m') : Gives P w ρ (Instr.sliceAt t a lo' (some hv') (some m')) r := by
  obtain ⟨mm, g2, q0⟩ := boundV_some (x' := some m') h ⟨m', rfl, hm⟩
  obtain ⟨hh, g3, q1⟩ := boundV_some (x' := some hv') g2 ⟨hv', rfl, hhi⟩
  obtain ⟨l, g4, q2⟩ := boundV_some g3 hlo
  rcases q0 with ⟨q0, _⟩ | ⟨k1, q0, hmc⟩
  · cases q0
  · rcases q1 with ⟨q1, _⟩ | ⟨k2, q1, hhm⟩
    · cases q1
    · cases q0; cases q1
      have hl : l ≤ hh := by rcases q2 with ⟨_, _, rfl⟩ | ⟨k, _, h⟩ <;> omega
      have r3 : ∀ {c' : Nat}, c ≤ c' → (Instr.sliceBounds true n c' lo' (some (.int k2 hh)) (some (.int k1 mm))).run P w = .ok (l, hh, mm) w :=
        fun h => run_bounds3 (by omega) hhm (q2.imp (fun q => ⟨q.1, q.2.2⟩) id)
      cases q with
      | none =>
        obtain ⟨rfl, rfl, rfl, rfl⟩ := hx
        have r3 := r3 (Nat.le_refl 0)
        cases g4
        refine ⟨_, run_slice_sl hu hs r3, ?_⟩
        obtain rfl : mm = 0 := by omega
        obtain rfl : hh = 0 := by omega
        obtain rfl : l = 0 := by omega
        exact ⟨rfl, rfl, rfl, rfl⟩
      | some q =>
        obtain ⟨b, o⟩ := q
        obtain ⟨p, a', c', hp, rfl, hn, hc, he, hes, ha⟩ := hx
        cases g4
        refine ⟨.slice (some (if mm = l then a' else a'.add (l * size))) (hh - l) (mm - l), ?_, p, _, _, hp, rfl, by omega, Nat.le_refl _, fun _ => rfl, (fun es e => by cases e), fun hne => ?_⟩
        · rw [run_slice_sl hu hs (r3 hc)]
          split <;> rfl
        · rw [if_neg (by omega), ha (by omega), add_addr, Nat.add_assoc]

theorem slice_at {size n : Nat} {r x : AV} {a : Value} {lo hi : Option AV} {lo' hi' : Option Value} {t : TypeId}
    (run : ∀ (ad : Addr) (l hh m : Nat), (Instr.sliceBounds false n n lo' hi' none).run P w = .ok (l, hh, m) w → (Instr.sliceAt t (.pointer (some ad)) lo' hi' none).run P w = .ok (.slice (some (if m = l then ad else ad.add (l * size))) (hh - l) (m - l)) w)
    (h : ePtr (fun b o => boundV n n hi fun h => boundV 0 h lo fun l => some (.slice (some (b, o + l * size)) (h - l) (n - l) none)) x = some r)
    (hx : VR ρ x a) (hlo : OR ρ lo lo') (hhi : OR ρ hi hi') : Gives P w ρ (Instr.sliceAt t a lo' hi' none) r := by
  obtain ⟨b, o, rfl, g1⟩ := ePtr_some h
  obtain ⟨p, hp, rfl⟩ := hx
  obtain ⟨hh, g2, q1⟩ := boundV_some g1 hhi
  obtain ⟨l, g3, q2⟩ := boundV_some g2 hlo
  cases g3
  have hhc : hh ≤ n := by rcases q1 with ⟨_, _, rfl⟩ | ⟨k, _, h⟩ <;> omega
  have hl : l ≤ hh := by rcases q2 with ⟨_, _, rfl⟩ | ⟨k, _, h⟩ <;> omega
  have r1 := run_bounds2 (P := P) (w := w) (isSlice := false) (len := n) (cap := n) (l := l) (hh := hh) (lo := lo') (hi := hi') (q1.imp (fun q => ⟨q.1, q.2.2⟩) id) (q2.imp (fun q => ⟨q.1, q.2.2⟩) id)
  exact ⟨_, run _ _ _ _ r1, p, _, _, hp, rfl, by omega, Nat.le_refl _, fun _ => rfl, (fun es e => by cases e), fun hne => by rw [if_neg (by omega), add_addr, Nat.add_assoc]⟩

theorem sliceV_sound {t : TypeId} {x r : AV} {a : Value} {lo hi mx : Option AV} {lo' hi' mx' : Option Value} (h : sliceV P t x lo hi mx = some r) (hx : VR ρ x a) (hlo : OR ρ lo lo') (hhi : OR ρ hi hi') (hmx : OR ρ mx mx') :
    Gives P w ρ (Instr.sliceAt t a lo' hi' mx') r := by
  unfold sliceV at h
  cases hu : P.underlying t with
  | none => rw [hu] at h; cases h
  | some d =>
    rw [hu] at h
    cases d with
    | string =>
      cases mx with
      | some m => cases h
      | none => cases hmx; exact slice_str hu h hx hlo hhi
    | slice e =>
      simp only at h
      cases hs : tSize P e with
      | none => rw [hs] at h; cases h
      | some size =>
        rw [hs] at h
        obtain ⟨q, n, c, g, rfl, g1⟩ := eSlice_some h
        cases mx with
        | none => cases hmx; exact slice_sl2 hu hs g1 hx hlo hhi
        | some m =>
          obtain ⟨m', rfl, hm'⟩ := hmx
          cases hi with
          | none =>
            obtain ⟨mm, g2, _⟩ := boundV_some (x' := some m') g1 ⟨m', rfl, hm'⟩
            cases g2
          | some hv =>
            obtain ⟨hv', rfl, hhv⟩ := hhi
            exact slice_sl3 hu hs g1 hx hlo hhv hm'
    | array n e =>
      cases hs : tSize P e with
      | none => simp only [hs] at h; cases h
      | some size =>
        cases mx with
        | some m => simp only [hs] at h; cases h
        | none =>
          cases hmx
          simp only [hs] at h
          exact slice_at (fun ad l hh m hb => run_slice_arr hu hs hb) h hx hlo hhi
    | pointer arr =>
      simp only at h
      cases hv : P.underlying arr with
      | none => rw [hv] at h; cases h
      | some d' =>
        cases d' with
        | array n e =>
          cases mx with
          | some m => simp only [hv] at h; cases h
          | none =>
            cases hmx
            cases hs : tSize P e with
            | none => simp only [hv, hs] at h; cases h
            | some size =>
              simp only [hv, hs] at h
              exact slice_at (fun ad l hh m hb => run_slice_ptr hu hv hs hb) h hx hlo hhi
        | _ => cases mx <;> (simp only [hv] at h; cases h)
    | _ => cases h

/-! ### reading -/
theorem oneAgg {t : TypeId} (hg : tAgg P t = some false) {b off : Nat} {v : AV} (hr : HR P keep ρ h w) (hl : load1 h (.ptr (some (b, off))) = some v) {a : Value} (ha : VR ρ (.ptr (some (b, off))) a) :
    Gives P w ρ (Instr.loadAt t a) v := by
  obtain ⟨p, cv, hp, hc, hv⟩ := hr.ld1 hl
  obtain ⟨p', hp', rfl⟩ := ha
  rw [hp] at hp'; cases hp'
  exact ⟨cv, by simp [Instr.loadAt, Instr.sureAddr, loadVar, run_aggT hg, hc], hv⟩

theorem load1_sound {t : TypeId} (hg : tAgg P t = some false) {x v : AV} (hr : HR P keep ρ h w) (hl : load1 h x = some v) {a : Value} (ha : VR ρ x a) : Gives P w ρ (Instr.loadAt t a) v := by
  obtain ⟨b, off, rfl, _⟩ := ePtr_some hl
  exact oneAgg hg hr hl ha

theorem loadN_sound {t : TypeId} {s : Nat} (hs : tSize P t = some s) (hg : tAgg P t = some true) {x v : AV} (hr : HR P keep ρ h w) (hl : loadN s h x = some v) {a : Value} (ha : VR ρ x a) : Gives P w ρ (Instr.loadAt t a) v := by
  obtain ⟨b, off, rfl, g⟩ := ePtr_some hl
  cases hv : h.ld b off s with
  | none => rw [hv] at g; cases g
  | some vs =>
    rw [hv] at g; cases g
    obtain ⟨p, cs, hp, hvs, hn, _, hc⟩ := hr.ld hv
    obtain ⟨p', hp', rfl⟩ := ha
    rw [hp] at hp'; cases hp'
    have := run_loadRun (P := P) (w := w) (a := ⟨p.blk, p.off + off, none⟩) hn (fun j u hj => by rw [add_addr]; exact hc j u hj)
    exact ⟨.agg cs.toArray, by simp [Instr.loadAt, Instr.sureAddr, loadVar, run_aggT hg, run_sizeT hs, this], _, rfl, by simpa using hvs⟩

/-- the same of a result variable -/
theorem load1_var {t : TypeId} (hg : tAgg P t = some false) {x v : AV} (hr : HR P keep ρ h w) (hl : load1 h x = some v) {a : Value} (ha : VR ρ x a) : ∃ ad cv, a = .pointer (some ad) ∧ (loadVar t ad).run P w = .ok cv w ∧ VR ρ v cv := by
  obtain ⟨b, off, rfl, _⟩ := ePtr_some hl
  obtain ⟨p, cv, hp, hc, hv⟩ := hr.ld1 hl
  obtain ⟨p', hp', rfl⟩ := ha
  rw [hp] at hp'; cases hp'
  exact ⟨_, cv, rfl, by simp [loadVar, run_aggT hg, hc], hv⟩
theorem loadN_var {t : TypeId} {s : Nat} (hs : tSize P t = some s) (hg : tAgg P t = some true) {x v : AV} (hr : HR P keep ρ h w) (hl : loadN s h x = some v) {a : Value} (ha : VR ρ x a) : ∃ ad cv, a = .pointer (some ad) ∧ (loadVar t ad).run P w = .ok cv w ∧ VR ρ v cv := by
  obtain ⟨b, off, rfl, g⟩ := ePtr_some hl
  cases hv : h.ld b off s with
  | none => rw [hv] at g; cases g
  | some vs =>
    rw [hv] at g; cases g
    obtain ⟨p, cs, hp, hvs, hn, _, hc⟩ := hr.ld hv
    obtain ⟨p', hp', rfl⟩ := ha
    rw [hp] at hp'; cases hp'
    have := run_loadRun (P := P) (w := w) (a := ⟨p.blk, p.off + off, none⟩) hn (fun j u hj => by rw [add_addr]; exact hc j u hj)
    exact ⟨_, .agg cs.toArray, rfl, by simp [loadVar, run_aggT hg, run_sizeT hs, this], _, rfl, by simpa using hvs⟩

theorem lenMap_sound {t k e ty : TypeId} {ts : Array TypeId} {x r : AV} {a : Value} (hu : P.underlying t = some (.map k e)) (ht : ts[0]? = some t) (hr : HR P keep ρ h w) (hl : lenMap h x = some r) (hx : VR ρ x a) : Gives P w ρ (Builtin.len_ ts ty #[a]) r := by
  unfold lenMap at hl
  split at hl
  · cases hl; cases hx
    exact ⟨.int .i64 0, by simp [Builtin.len_, ht, run_underlying hu, goInt], rfl⟩
  · rename_i b
    obtain ⟨es, c, hb, g⟩ := theMap_some hl
    cases g
    obtain ⟨p, es', hp, h0, hh, he⟩ := hr.blk _ _ hb
    obtain ⟨p', hp', _, rfl⟩ := hx
    rw [hp] at hp'; cases hp'
    have hlen := he.length
    refine ⟨.int .i64 es'.size, by simp [Builtin.len_, ht, run_underlying hu, goInt, getObj, Sem.run, hh], ?_⟩
    rw [len'_eq, ← hlen]; simp [VR]
  · cases hl

theorem theByte_some {v : AV} {c : Nat} (h : theByte v = some c) : v = .int .u8 c ∧ c < 256 := by
  obtain ⟨k, n, rfl, g⟩ := eInt_some h
  obtain ⟨g1, g2⟩ := iff'_some.1 g
  have : k = .u8 := by cases k <;> first | rfl | cases g1
  subst this
  cases n with
  | negSucc n => cases g2
  | ofNat n =>
    obtain ⟨g3, g4⟩ := iff'_some.1 g2
    cases g4
    exact ⟨rfl, Nat.lt_succ_of_le (Nat.le_of_ble_eq_true g3)⟩
theorem bytesOf_cons (v : AV) (vs : List AV) : bytesOf (v :: vs) = ob (theByte v) fun c => ob (bytesOf vs) fun l => some (c :: l) := rfl
theorem bytesOf_sound : ∀ {vs : List AV} {l : List Nat} {cs : List Value}, bytesOf vs = some l → VRs ρ vs cs → (cs = l.map fun (n : Nat) => Value.int .u8 n) ∧ ∀ c ∈ l, c < 256
  | [], l, cs, h, hv => by cases h; cases hv; exact ⟨rfl, by simp⟩
  | v :: vs, l, cs, h, hv => by
    rw [bytesOf_cons] at h
    obtain ⟨c, hc, h⟩ := ob_some.1 h
    obtain ⟨l', hl, h⟩ := ob_some.1 h
    cases h
    obtain ⟨u, us, rfl, h1, h2⟩ := hv
    obtain ⟨rfl, hlt⟩ := theByte_some hc
    cases h1
    obtain ⟨e, he⟩ := bytesOf_sound hl h2
    refine ⟨by rw [e]; rfl, fun d hd => ?_⟩
    rcases List.mem_cons.1 hd with rfl | hd
    · exact hlt
    · exact he d hd

end
end Go.Am

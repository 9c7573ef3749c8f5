/-
  AM, 4: how the abstract memory lies in the model's: reading, writing, new blocks.
-/
import Derived.Test.YtboobbebilegnaaGreatAm3
import Derived.Laws.Cells
namespace Go.Am

def ER (ρ : Pls) (e : MEnt) (e' : MapEntry) : Prop := VR ρ e.key e'.key ∧ VR ρ e.val e'.val ∧ e'.born = e.born
def ERs (ρ : Pls) : List MEnt → List MapEntry → Prop
  | [], l => l = []
  | e :: es, l => ∃ e' es', l = e' :: es' ∧ ER ρ e e' ∧ ERs ρ es es'
theorem ERs.mono {ρ σ : Pls} (h : ρ.le σ) : ∀ {es : List MEnt} {l : List MapEntry}, ERs ρ es l → ERs σ es l
  | [], _, hl => hl
  | _ :: _, _, hl => by obtain ⟨e', es', e, ⟨h1, h2, h3⟩, h4⟩ := hl; exact ⟨e', es', e, ⟨h1.mono h, h2.mono h, h3⟩, ERs.mono h h4⟩
theorem ERs.length {ρ : Pls} : ∀ {es : List MEnt} {l : List MapEntry}, ERs ρ es l → l.length = es.length
  | [], _, hl => by cases hl; rfl
  | _ :: _, _, hl => by obtain ⟨e', es', rfl, _, h4⟩ := hl; simp [ERs.length h4]

/-- The temporaries that are kept. -/
def TR (keep : Nat → Bool) (nt : Nat) (ρ : Pls) (tm : Tr AV) (arr : Array Value) : Prop :=
  nt ≤ arr.size ∧ ∀ t v, keep t = true → tm.gt t = some v → ∃ cv, arr[t]? = some cv ∧ VR ρ v cv
theorem TR.mono {keep : Nat → Bool} {nt : Nat} {ρ σ : Pls} (h : ρ.le σ) {tm : Tr AV} {arr : Array Value} (ht : TR keep nt ρ tm arr) : TR keep nt σ tm arr :=
  ⟨ht.1, fun t v hk hv => let ⟨cv, h1, h2⟩ := ht.2 t v hk hv; ⟨cv, h1, h2.mono h⟩⟩

def SR : LState → LoopState → Prop
  | .ready, s => s = .ready
  | .busy, s => s = .busy
  | .done, s => s = .done
  | .exhausted, s => s = .exhausted

structure LR (P : Program) (keep : Keeps) (ρ : Pls) (l : LRec) (L : Loop) : Prop where
  st : SR l.st L.state
  pending : L.pending = l.pending
  tm : TR (keep l.fn) (ntOf P l.fn) ρ l.tm L.tmps
  params : L.params.toList = l.params
  assign : L.assign = l.assign
  body : L.body = l.body

/-- what a mark says: the type of the model's block, and, if that is told, that it has just these cells -/
def MarkOk (z : List AV) (n : Nat) (p : Pl) (e : TypeId) : Prop := ∀ t x, z = tyMark t x → e = t ∧ (x = true → p.off = 0 ∧ p.size = n)
theorem markOk_nil {n : Nat} {p : Pl} {e : TypeId} : MarkOk [] n p e := fun _ _ h => (by cases h)
theorem markOk_one {z : List AV} {n : Nat} {p : Pl} {e : TypeId} (hz : ∀ v ∈ z, v.one = true) : MarkOk z n p e := fun t x h => by
  subst h
  have := hz _ (List.mem_cons_self ..)
  cases this
/-- How a block lies in memory. -/
def BR (P : Program) (keep : Keeps) (ρ : Pls) (b : Nat) (x : Blk) (w : World) : Prop :=
  match x with
  | .cells t z n ro => ∃ p c e fz, ρ b = some p ∧ w.heap[p.blk]? = some (.cells c e fz) ∧ c.size = p.size ∧ p.off + n ≤ p.size ∧
      (∀ i, i < n → ∃ v cv, cellAt t z i = some v ∧ v.one = true ∧ c[p.off + i]? = some cv ∧ VR ρ v cv) ∧
      (ro = false → ∀ i, i < p.size → ¬ (fz.1 ≤ i ∧ i < fz.2)) ∧ MarkOk z n p e
  | .dead => True
  | .map es clock => ∃ p es', ρ b = some p ∧ p.off = 0 ∧ w.heap[p.blk]? = some (.map es' clock) ∧ ERs ρ es es'.toList
  | .siter s pos => ∃ p sb, ρ b = some p ∧ p.off = 0 ∧ w.heap[p.blk]? = some (.stringIter sb pos) ∧ sb.data.toList.map (·.toNat) = s
  | .loop l => ∃ p L, ρ b = some p ∧ p.off = 0 ∧ w.heap[p.blk]? = some (.loop L) ∧ LR P keep ρ l L

section
variable {P : Program} {keep : Keeps} {ρ σ : Pls} {h h' : Heap} {w w' : World} {b : Nat} {x : Blk}

theorem BR.mono (hl : ρ.le σ) (hb : BR P keep ρ b x w) : BR P keep σ b x w := by
  cases x with
  | cells t z n ro =>
    obtain ⟨p, c, e, fz, hp, hc, hs, hn, hv, hf⟩ := hb
    exact ⟨p, c, e, fz, hl _ _ hp, hc, hs, hn, fun i hi => let ⟨v, cv, h1, h2, h3, h4⟩ := hv i hi; ⟨v, cv, h1, h2, h3, h4.mono hl⟩, hf⟩
  | dead => trivial
  | map es clock => obtain ⟨p, es', hp, h0, hc, he⟩ := hb; exact ⟨p, es', hl _ _ hp, h0, hc, he.mono hl⟩
  | siter s pos => obtain ⟨p, sb, hp, r⟩ := hb; exact ⟨p, sb, hl _ _ hp, r⟩
  | loop l =>
    obtain ⟨p, L, hp, h0, hc, r⟩ := hb
    exact ⟨p, L, hl _ _ hp, h0, hc, { r with tm := r.tm.mono hl }⟩
theorem BR.place (hb : BR P keep ρ b x w) (hx : x.dead? = false) : ∃ p, ρ b = some p ∧ p.blk < w.heap.size := by
  have key : ∀ {p : Pl} {o : Obj}, w.heap[p.blk]? = some o → p.blk < w.heap.size := fun ho => (Array.getElem?_eq_some_iff.1 ho).1
  cases x with
  | cells t z n ro => obtain ⟨p, c, e, fz, hp, hc, _⟩ := hb; exact ⟨p, hp, key hc⟩
  | dead => cases hx
  | map es clock => obtain ⟨p, es', hp, h0, hc, he⟩ := hb; exact ⟨p, hp, key hc⟩
  | siter s pos => obtain ⟨p, sb, hp, _, hc, _⟩ := hb; exact ⟨p, hp, key hc⟩
  | loop l => obtain ⟨p, L, hp, h0, hc, r⟩ := hb; exact ⟨p, hp, key hc⟩
theorem BR.frame (hb : BR P keep ρ b x w) (hw : ∀ p, x.dead? = false → ρ b = some p → w'.heap[p.blk]? = w.heap[p.blk]?) : BR P keep ρ b x w' := by
  cases x with
  | cells t z n ro => obtain ⟨p, c, e, fz, hp, hc, r⟩ := hb; exact ⟨p, c, e, fz, hp, (hw p rfl hp).trans hc, r⟩
  | dead => trivial
  | map es clock => obtain ⟨p, es', hp, h0, hc, he⟩ := hb; exact ⟨p, es', hp, h0, (hw p rfl hp).trans hc, he⟩
  | siter s pos => obtain ⟨p, sb, hp, h0, hc, r⟩ := hb; exact ⟨p, sb, hp, h0, (hw p rfl hp).trans hc, r⟩
  | loop l => obtain ⟨p, L, hp, h0, hc, r⟩ := hb; exact ⟨p, L, hp, h0, (hw p rfl hp).trans hc, r⟩

/-- How the abstract memory lies in the model's. -/
structure HR (P : Program) (keep : Keeps) (ρ : Pls) (h : Heap) (w : World) : Prop where
  dom : ∀ b p, ρ b = some p → b < h.next
  has : ∀ b x, h.bs.gt b = some x → b < h.next
  blk : ∀ b x, h.bs.gt b = some x → BR P keep ρ b x w
  inj : ∀ b b' x x' p p', h.bs.gt b = some x → h.bs.gt b' = some x' → x.dead? = false → x'.dead? = false → (x.ro = false ∨ x'.ro = false) →
    ρ b = some p → ρ b' = some p' → b ≠ b' → p.blk ≠ p'.blk

/-- the model's blocks that are held -/
def Own (ρ : Pls) (h : Heap) (k : Nat) : Prop := ∃ b x p, h.bs.gt b = some x ∧ x.dead? = false ∧ ρ b = some p ∧ p.blk = k

structure Fr (ρ : Pls) (h : Heap) (w w' : World) : Prop where
  os : w'.os = w.os
  output : w'.output = w.output
  size : w.heap.size ≤ w'.heap.size
  same : ∀ k, k < w.heap.size → ¬ Own ρ h k → w'.heap[k]? = w.heap[k]?

structure Post (P : Program) (keep : Keeps) (ρ : Pls) (h : Heap) (w : World) (ρ' : Pls) (h' : Heap) (w' : World) : Prop where
  le : ρ.le ρ'
  hr : HR P keep ρ' h' w'
  fr : Fr ρ h w w'
  own : ∀ k, k < w.heap.size → Own ρ' h' k → Own ρ h k
  next : h.next ≤ h'.next
  new : ∀ b p, ρ' b = some p → b < h.next → ρ b = some p

theorem Post.refl (hr : HR P keep ρ h w) : Post P keep ρ h w ρ h w :=
  ⟨Pls.le_refl _, hr, ⟨rfl, rfl, Nat.le_refl _, fun _ _ _ => rfl⟩, fun _ _ h => h, Nat.le_refl _, fun _ _ h _ => h⟩
theorem Post.trans {ρ1 ρ2 ρ3 : Pls} {h1 h2 h3 : Heap} {w1 w2 w3 : World} (a : Post P keep ρ1 h1 w1 ρ2 h2 w2) (b : Post P keep ρ2 h2 w2 ρ3 h3 w3) : Post P keep ρ1 h1 w1 ρ3 h3 w3 :=
  ⟨Pls.le_trans a.le b.le, b.hr,
   ⟨b.fr.os.trans a.fr.os, b.fr.output.trans a.fr.output, Nat.le_trans a.fr.size b.fr.size,
    fun k hk ho => (b.fr.same k (Nat.lt_of_lt_of_le hk a.fr.size) fun h => ho (a.own k hk h)).trans (a.fr.same k hk ho)⟩,
   fun k hk h => a.own k hk (b.own k (Nat.lt_of_lt_of_le hk a.fr.size) h), Nat.le_trans a.next b.next,
   fun c p hc hlt => a.new c p (b.new c p hc (Nat.lt_of_lt_of_le hlt a.next)) hlt⟩

/-- the model's memory turns where no block lies -/
theorem HR.frame (hr : HR P keep ρ h w) (hw : ∀ b x p, h.bs.gt b = some x → x.dead? = false → ρ b = some p → w'.heap[p.blk]? = w.heap[p.blk]?) : HR P keep ρ h w' :=
  { hr with blk := fun b x hx => (hr.blk b x hx).frame fun p hd hp => hw b x p hx hd hp }

theorem dead_of_ro {x : Blk} (h : x.ro = false) : x.dead? = false := by cases x <;> first | rfl | cases h

/-- ONE BLOCK IS WRITTEN, and stays what it is. -/
theorem HR.write (hr : HR P keep ρ h w) {p : Pl} {y : Blk} (hx : h.bs.gt b = some x) (hro : x.ro = false) (hy : y.ro = false) (hp : ρ b = some p)
    (hos : w'.os = w.os) (hout : w'.output = w.output) (hsz : w'.heap.size = w.heap.size)
    (hw : ∀ k, k ≠ p.blk → w'.heap[k]? = w.heap[k]?) (hb : BR P keep ρ b y w') : Post P keep ρ h w ρ (h.put b y) w' := by
  have hget : ∀ c, (h.put b y).bs.gt c = if c = b then some y else h.bs.gt c := fun c => Tr.gt_up _ _ _ _
  have hxd := dead_of_ro hro
  have hyd := dead_of_ro hy
  refine ⟨Pls.le_refl _, ⟨hr.dom, fun c z hz => ?_, fun c z hz => ?_, fun c c' z z' q q' hz hz' hd hd' hrw hq hq' hne => ?_⟩, ⟨hos, hout, by omega, fun k _ ho => hw k fun e => ho ⟨b, x, p, hx, hxd, hp, e.symm⟩⟩, fun k _ ho => ?_, Nat.le_refl _, fun _ _ h _ => h⟩
  · rw [hget] at hz
    by_cases e : c = b
    · subst e; exact hr.has _ _ hx
    · rw [if_neg e] at hz; exact hr.has _ _ hz
  · rw [hget] at hz
    by_cases e : c = b
    · subst e; rw [if_pos rfl] at hz; cases hz; exact hb
    · rw [if_neg e] at hz
      exact (hr.blk c z hz).frame fun q hd hq => hw _ (hr.inj c b z x q p hz hx hd hxd (.inr hro) hq hp e)
  · have fix : ∀ c z, (h.put b y).bs.gt c = some z → z.dead? = false → ∃ z0, h.bs.gt c = some z0 ∧ z0.dead? = false ∧ (z.ro = false → z0.ro = false) := by
      intro c z hz hd
      rw [hget] at hz
      by_cases e : c = b
      · subst e; exact ⟨x, hx, hxd, fun _ => hro⟩
      · rw [if_neg e] at hz; exact ⟨z, hz, hd, id⟩
    obtain ⟨z0, a1, a2, a3⟩ := fix c z hz hd
    obtain ⟨z0', b1, b2, b3⟩ := fix c' z' hz' hd'
    exact hr.inj c c' z0 z0' q q' a1 b1 a2 b2 (hrw.imp a3 b3) hq hq' hne
  · obtain ⟨c, z, q, hz, hzr, hq, rfl⟩ := ho
    rw [hget] at hz
    by_cases e : c = b
    · subst e; exact ⟨c, x, q, hx, hxd, hq, rfl⟩
    · rw [if_neg e] at hz; exact ⟨c, z, q, hz, hzr, hq, rfl⟩

def Pls.up (ρ : Pls) (b : Nat) (p : Pl) : Pls := fun c => if c = b then some p else ρ c
theorem Pls.le_up {ρ : Pls} {b : Nat} {p : Pl} (hb : ρ b = none) : ρ.le (ρ.up b p) := by
  intro c q hc
  unfold Pls.up
  by_cases e : c = b
  · subst e; rw [hb] at hc; cases hc
  · rw [if_neg e]; exact hc
theorem Pls.up_same (ρ : Pls) (b : Nat) (p : Pl) : (ρ.up b p) b = some p := if_pos rfl

/-- ONE BLOCK MORE, under a number that none bears, at a place where none lies. -/
theorem HR.add (hr : HR P keep ρ h w) {p : Pl} {y : Blk} {n : Nat} (hb0 : ρ b = none) (hg : h.bs.gt b = none) (hn : h.next ≤ n) (hbn : b < n)
    (hfree : ∀ c z q, h.bs.gt c = some z → z.dead? = false → ρ c = some q → q.blk ≠ p.blk)
    (hw : ∀ c z q, h.bs.gt c = some z → z.dead? = false → ρ c = some q → w'.heap[q.blk]? = w.heap[q.blk]?)
    (hb : BR P keep (ρ.up b p) b y w') : HR P keep (ρ.up b p) ⟨h.bs.up (some y) b, n⟩ w' := by
  have hget : ∀ c, (h.bs.up (some y) b).gt c = if c = b then some y else h.bs.gt c := fun c => Tr.gt_up _ _ _ _
  have hle : ρ.le (ρ.up b p) := Pls.le_up hb0
  have hold : ∀ c q, c ≠ b → (ρ.up b p) c = some q → ρ c = some q := fun c q e hc => by unfold Pls.up at hc; rwa [if_neg e] at hc
  refine ⟨fun c q hc => ?_, fun c z hz => ?_, fun c z hz => ?_, fun c c' z z' q q' hz hz' hd hd' hrw hq hq' hne => ?_⟩
  · by_cases e : c = b
    · subst e; exact hbn
    · exact Nat.lt_of_lt_of_le (hr.dom _ _ (hold _ _ e hc)) hn
  · simp only [hget] at hz
    by_cases e : c = b
    · subst e; exact hbn
    · rw [if_neg e] at hz; exact Nat.lt_of_lt_of_le (hr.has _ _ hz) hn
  · simp only [hget] at hz
    by_cases e : c = b
    · subst e; rw [if_pos rfl] at hz; cases hz; exact hb
    · rw [if_neg e] at hz
      exact ((hr.blk c z hz).frame fun q hd hq => hw c z q hz hd hq).mono hle
  · simp only [hget] at hz hz'
    by_cases e : c = b
    · subst e
      have e' : c' ≠ c := fun e => hne e.symm
      rw [if_neg e'] at hz'
      rw [Pls.up_same] at hq; cases hq
      exact fun e => hfree c' z' q' hz' hd' (hold _ _ e' hq') e.symm
    · rw [if_neg e] at hz
      by_cases e' : c' = b
      · subst e'
        rw [Pls.up_same] at hq'; cases hq'
        exact hfree c z q hz hd (hold _ _ e hq)
      · rw [if_neg e'] at hz'
        exact hr.inj c c' z z' q q' hz hz' hd hd' hrw (hold _ _ e hq) (hold _ _ e' hq') hne

theorem HR.fresh (hr : HR P keep ρ h w) (hb : h.next ≤ b) : ρ b = none ∧ h.bs.gt b = none := by
  constructor
  · cases hc : ρ b with
    | none => rfl
    | some p => have := hr.dom b p hc; omega
  · cases hc : h.bs.gt b with
    | none => rfl
    | some x => have := hr.has b x hc; omega

/-- A NEW BLOCK of the model's under a new number. -/
theorem HR.push (hr : HR P keep ρ h w) {o : Obj} {y : Blk} {sz n : Nat} (hid : h.next ≤ b) (hbn : b < n)
    (hos : w'.os = w.os) (hout : w'.output = w.output) (hheap : w'.heap = w.heap.push o)
    (hb : BR P keep (ρ.up b ⟨w.heap.size, 0, sz⟩) b y w') : Post P keep ρ h w (ρ.up b ⟨w.heap.size, 0, sz⟩) ⟨h.bs.up (some y) b, n⟩ w' := by
  obtain ⟨hb0, hg⟩ := hr.fresh hid
  have hn : h.next ≤ n := by omega
  have hold : ∀ k, k < w.heap.size → w'.heap[k]? = w.heap[k]? := fun k hk => by rw [hheap]; exact Array.getElem?_push_lt hk |>.trans (Array.getElem?_eq_getElem hk).symm
  have hpl : ∀ c z q, h.bs.gt c = some z → z.dead? = false → ρ c = some q → q.blk < w.heap.size := fun c z q hz hd hq => by
    obtain ⟨p, hp, hlt⟩ := (hr.blk c z hz).place hd
    rw [hq] at hp; cases hp; exact hlt
  refine ⟨Pls.le_up hb0, hr.add hb0 hg hn hbn (fun c z q hz hd hq e => ?_) (fun c z q hz hd hq => hold _ (hpl c z q hz hd hq)) hb, ⟨hos, hout, by rw [hheap]; simp, fun k hk _ => hold k hk⟩, fun k hk ho => ?_, hn, fun c p hc hlt => ?_⟩
  · have := hpl c z q hz hd hq; simp only at e; omega
  · obtain ⟨c, z, q, hz, hzr, hq, rfl⟩ := ho
    simp only [Tr.gt_up] at hz
    by_cases e : c = b
    · subst e; rw [Pls.up_same] at hq; cases hq; simp at hk
    · rw [if_neg e] at hz
      unfold Pls.up at hq; rw [if_neg e] at hq
      exact ⟨c, z, q, hz, hzr, hq, rfl⟩
  · unfold Pls.up at hc
    rwa [if_neg (by omega)] at hc

/-- The world's count of draws has no part in it. -/
theorem Post.drew (hp : Post P keep ρ h w σ h' w') : Post P keep ρ h w σ h' w'.drew := by
  refine ⟨hp.le, hp.hr.frame fun _ _ _ _ _ _ => rfl, ⟨hp.fr.os, hp.fr.output, hp.fr.size, hp.fr.same⟩, hp.own, hp.next, hp.new⟩
theorem HR.drew (hr : HR P keep ρ h w) : HR P keep ρ h w.drew := hr.frame fun _ _ _ _ _ _ => rfl

/-! ### Reading -/
theorem cells_some {β : Type} {f : Tr AV → List AV → Nat → Bool → Option β} {r : β} (hc : h.cells b f = some r) : ∃ t z n ro, h.bs.gt b = some (.cells t z n ro) ∧ f t z n ro = some r := by
  unfold Heap.cells at hc
  cases hx : h.bs.gt b with
  | none => rw [hx] at hc; cases hc
  | some x =>
    rw [hx] at hc
    cases x <;> first | exact ⟨_, _, _, _, rfl, hc⟩ | cases hc
theorem theMap_some {β : Type} {f : List MEnt → Nat → Option β} {r : β} (hc : h.theMap b f = some r) : ∃ es c, h.bs.gt b = some (.map es c) ∧ f es c = some r := by
  unfold Heap.theMap at hc
  cases hx : h.bs.gt b with
  | none => rw [hx] at hc; cases hc
  | some x =>
    rw [hx] at hc
    cases x <;> first | exact ⟨_, _, rfl, hc⟩ | cases hc
theorem theIter_some {β : Type} {f : List Nat → Nat → Option β} {r : β} (hc : h.theIter b f = some r) : ∃ s c, h.bs.gt b = some (.siter s c) ∧ f s c = some r := by
  unfold Heap.theIter at hc
  cases hx : h.bs.gt b with
  | none => rw [hx] at hc; cases hc
  | some x =>
    rw [hx] at hc
    cases x <;> first | exact ⟨_, _, rfl, hc⟩ | cases hc
theorem theLoop_some {β : Type} {f : LRec → Option β} {r : β} (hc : h.theLoop b f = some r) : ∃ l, h.bs.gt b = some (.loop l) ∧ f l = some r := by
  unfold Heap.theLoop at hc
  cases hx : h.bs.gt b with
  | none => rw [hx] at hc; cases hc
  | some x =>
    rw [hx] at hc
    cases x <;> first | exact ⟨_, rfl, hc⟩ | cases hc
theorem boolRec_some {β : Type} {c : Bool} {r : Option β} {v : β} : (Bool.rec (motive := fun _ => Option β) none r c : Option β) = some v ↔ c = true ∧ r = some v := by cases c <;> simp

theorem ld_some {off n : Nat} {vs : List AV} (hl : h.ld b off n = some vs) : ∃ t z m ro, h.bs.gt b = some (.cells t z m ro) ∧ off + n ≤ m ∧ vs.length = n ∧ ∀ j, j < n → cellAt t z (off + j) = vs[j]? := by
  obtain ⟨t, z, m, ro, hb, hf⟩ := cells_some hl
  obtain ⟨hle, hf⟩ := boolRec_some.1 hf
  obtain ⟨h1, h2⟩ := loadC_some hf
  exact ⟨t, z, m, ro, hb, by simpa using hle, h1, h2⟩
theorem ld1_some {off : Nat} {v : AV} (hl : h.ld1 b off = some v) : ∃ t z m ro, h.bs.gt b = some (.cells t z m ro) ∧ off < m ∧ cellAt t z off = some v := by
  obtain ⟨t, z, m, ro, hb, hf⟩ := cells_some hl
  obtain ⟨hle, hf⟩ := boolRec_some.1 hf
  exact ⟨t, z, m, ro, hb, Nat.le_of_ble_eq_true hle, hf⟩

theorem cell_of_heap {k : Nat} {c : Array Value} {e : TypeId} {fz : Nat × Nat} (hc : w.heap[k]? = some (.cells c e fz)) (i : Nat) : w.cell? ⟨k, i, none⟩ = c[i]? := by
  simp [World.cell?, hc]

/-- A cell of a block: what lies there. -/
theorem HR.cell (hr : HR P keep ρ h w) {t : Tr AV} {z : List AV} {m i : Nat} {ro : Bool} (hb : h.bs.gt b = some (.cells t z m ro)) (hi : i < m) :
    ∃ p v cv, ρ b = some p ∧ cellAt t z i = some v ∧ v.one = true ∧ w.cell? ⟨p.blk, p.off + i, none⟩ = some cv ∧ VR ρ v cv := by
  obtain ⟨p, c, e, fz, hp, hc, _, _, hv, _⟩ := hr.blk _ _ hb
  obtain ⟨v, cv, h1, h2, h3, h4⟩ := hv i hi
  exact ⟨p, v, cv, hp, h1, h2, by rw [cell_of_heap hc, h3], h4⟩

theorem HR.ld1 (hr : HR P keep ρ h w) {off : Nat} {v : AV} (hl : h.ld1 b off = some v) :
    ∃ p cv, ρ b = some p ∧ w.cell? ⟨p.blk, p.off + off, none⟩ = some cv ∧ VR ρ v cv := by
  obtain ⟨t, z, m, ro, hb, hlt, hc⟩ := ld1_some hl
  obtain ⟨p, v', cv, hp, h1, _, h3, h4⟩ := hr.cell hb hlt
  rw [hc] at h1; cases h1
  exact ⟨p, cv, hp, h3, h4⟩

theorem HR.ld (hr : HR P keep ρ h w) {off n : Nat} {vs : List AV} (hl : h.ld b off n = some vs) :
    ∃ p cs, ρ b = some p ∧ VRs ρ vs cs ∧ cs.length = n ∧ (∀ v, v ∈ vs → v.one = true) ∧ ∀ j u, cs[j]? = some u → w.cell? ⟨p.blk, p.off + off + j, none⟩ = some u := by
  obtain ⟨t, z, m, ro, hb, hlt, hlen, hc⟩ := ld_some hl
  obtain ⟨p, c, e, fz, hp, hh, hs, hpm, hv, _⟩ := hr.blk _ _ hb
  have hrow : ∀ j, j < n → ∃ v cv, vs[j]? = some v ∧ v.one = true ∧ c[p.off + off + j]? = some cv ∧ VR ρ v cv := fun j hj => by
    obtain ⟨v, cv, h1, h2, h3, h4⟩ := hv (off + j) (by omega)
    exact ⟨v, cv, by rw [← hc j hj, h1], h2, by rw [← h3]; congr 1; omega, h4⟩
  have hsz : p.off + off + n ≤ c.size := by omega
  refine ⟨p, (c.extract (p.off + off) (p.off + off + n)).toList, hp, VRs.of_get (by simp [hlen]; omega) fun i x hx => ?_, by simp; omega, fun v hvm => ?_, fun j u hu => ?_⟩
  · have hi : i < n := by rw [← hlen]; exact (List.getElem?_eq_some_iff.1 hx).1
    obtain ⟨v, cv, h1, _, h3, h4⟩ := hrow i hi
    rw [hx] at h1; cases h1
    refine ⟨cv, ?_, h4⟩
    rw [Array.getElem?_toList, Array.getElem?_extract]
    rw [if_pos (by omega)]; exact h3
  · obtain ⟨i, hi⟩ := List.getElem?_of_mem hvm
    have hlt' : i < n := by rw [← hlen]; exact (List.getElem?_eq_some_iff.1 hi).1
    obtain ⟨v', cv, h1, h2, _⟩ := hrow i hlt'
    rw [hi] at h1; cases h1; exact h2
  · rw [Array.getElem?_toList, Array.getElem?_extract] at hu
    split at hu
    · rw [cell_of_heap hh]; exact hu
    · cases hu

theorem run_loadRun {P : Program} {w : World} {a : Addr} {cs : List Value} {n : Nat} (hn : cs.length = n) (hc : ∀ j u, cs[j]? = some u → w.cell? (a.add j) = some u) :
    (loadCells a n).run P w = .ok cs.toArray w := by
  subst hn
  exact run_loadCells_list w a cs hc

/-! ### Writing -/
/-- a row of cells written from a place on -/
def putRun (c : Array Value) (o : Nat) : List Value → Array Value
  | [] => c
  | v :: vs => putRun (c.setIfInBounds o v) (o + 1) vs
theorem putRun_size : ∀ (vs : List Value) (c : Array Value) (o : Nat), (putRun c o vs).size = c.size
  | [], _, _ => rfl
  | v :: vs, c, o => by simp [putRun, putRun_size vs]
theorem putRun_get : ∀ (vs : List Value) (c : Array Value) (o i : Nat), o + vs.length ≤ c.size → (putRun c o vs)[i]? = if o ≤ i ∧ i < o + vs.length then vs[i - o]? else c[i]?
  | [], c, o, i, _ => by rw [if_neg (by simp only [List.length_nil]; omega)]; rfl
  | v :: vs, c, o, i, h => by
    simp only [List.length_cons] at h
    rw [putRun, putRun_get vs _ _ _ (by simp; omega)]
    by_cases h1 : o + 1 ≤ i ∧ i < o + 1 + vs.length
    · rw [if_pos h1, if_pos (by simp only [List.length_cons]; omega)]
      obtain ⟨d, rfl⟩ : ∃ d, i = o + 1 + d := ⟨i - (o + 1), by omega⟩
      rw [show o + 1 + d - (o + 1) = d by omega, show o + 1 + d - o = d + 1 by omega]; simp
    · rw [if_neg h1, Array.getElem?_setIfInBounds]
      by_cases h2 : o = i
      · subst h2; rw [if_pos rfl, if_pos (by omega), if_pos (by simp only [List.length_cons]; omega)]; simp
      · rw [if_neg h2, if_neg (by simp only [List.length_cons]; omega)]

theorem setCell_heap {k o : Nat} {c : Array Value} {e : TypeId} {fz : Nat × Nat} (hc : w.heap[k]? = some (.cells c e fz)) (v : Value) :
    (w.setCell ⟨k, o, none⟩ v).heap = w.heap.setIfInBounds k (.cells (c.setIfInBounds o v) e fz) := by
  apply Array.ext_getElem?
  intro i
  simp only [World.setCell, Array.getElem?_modify, Array.getElem?_setIfInBounds]
  by_cases h : k = i
  · subst h
    have hlt : k < w.heap.size := (Array.getElem?_eq_some_iff.1 hc).1
    rw [if_pos rfl, if_pos rfl, if_pos hlt, hc]
    simp
  · rw [if_neg h, if_neg h]

theorem run_storeRun (P : Program) {k base : Nat} {e : TypeId} {fz : Nat × Nat} : ∀ (vs : List Value) (i : Nat) (w : World) (c : Array Value), w.heap[k]? = some (.cells c e fz) → base + i + vs.length ≤ c.size →
    (∀ v ∈ vs, v.oneCell' = true) → (∀ j, j < c.size → ¬ (fz.1 ≤ j ∧ j < fz.2)) →
    ∃ w', (storeCells ⟨k, base, none⟩ vs i).run P w = .ok () w' ∧ w'.os = w.os ∧ w'.output = w.output ∧ w'.heap = w.heap.setIfInBounds k (.cells (putRun c (base + i) vs) e fz)
  | [], i, w, c, hc, _, _, _ => by
    refine ⟨w, rfl, rfl, rfl, ?_⟩
    apply Array.ext_getElem?
    intro j
    rw [Array.getElem?_setIfInBounds]
    by_cases h : k = j
    · subst h; rw [if_pos rfl, if_pos (Array.getElem?_eq_some_iff.1 hc).1, hc]; rfl
    · rw [if_neg h]
  | v :: vs, i, w, c, hc, hn, h1, hf => by
    simp only [List.length_cons] at hn
    have hadd : (⟨k, base, none⟩ : Addr).add i = ⟨k, base + i, none⟩ := by unfold Addr.add; split <;> simp_all
    have hcell : w.cell? ⟨k, base + i, none⟩ = some (c[base + i]'(by omega)) := by rw [cell_of_heap hc]; exact Array.getElem?_eq_getElem _
    have hfr : w.frozen? ⟨k, base + i, none⟩ = false := by
      have := hf (base + i) (by omega)
      simp only [World.frozen?, hc]
      simpa using this
    have hsto : (store ⟨k, base + i, none⟩ v).run P w = .ok () (w.setCell ⟨k, base + i, none⟩ v) := by
      rw [run_store P w _ v .plain (h1 v (by simp)), hcell]; simp [hfr]
    have hh := setCell_heap (o := base + i) hc v
    obtain ⟨w', hr, ho, hout, hheap⟩ := run_storeRun P (base := base) vs (i + 1) (w.setCell ⟨k, base + i, none⟩ v) (c.setIfInBounds (base + i) v)
      (by rw [hh, Array.getElem?_setIfInBounds, if_pos rfl, if_pos (Array.getElem?_eq_some_iff.1 hc).1]) (by simp; omega) (fun u hu => h1 u (by simp [hu])) (by simpa using hf)
    refine ⟨w', ?_, ho, hout, ?_⟩
    · simp only [storeCells, Sem.run_bind, hadd, hsto, Result.andThen_ok]; exact hr
    · rw [hheap, hh]; simp [putRun, Nat.add_assoc]

theorem put_get (h : Heap) (b : Nat) (x : Blk) (c : Nat) : (h.put b x).bs.gt c = if c = b then some x else h.bs.gt c := Tr.gt_up _ _ _ _

/-- CELLS ARE WRITTEN, in memory and in what stands for it. -/
theorem HR.sto (hr : HR P keep ρ h w) {off : Nat} {vs : List AV} {cvs : List Value} {h' : Heap} (hs : h.sto b off vs = some h') (hv : VRs ρ vs cvs) :
    ∃ p w', ρ b = some p ∧ (storeCells ⟨p.blk, p.off + off, none⟩ cvs).run P w = .ok () w' ∧ Post P keep ρ h w ρ h' w' := by
  obtain ⟨t, z, m, ro, hb, hf⟩ := cells_some hs
  cases ro with
  | true => cases hf
  | false =>
    obtain ⟨hle, hf⟩ := boolRec_some.1 hf
    obtain ⟨hone, hf⟩ := boolRec_some.1 hf
    cases hf
    have hle : off + vs.length ≤ m := by have := Nat.le_of_ble_eq_true hle; simpa using this
    rw [allOne_eq, List.all_eq_true] at hone
    obtain ⟨p, c, e, fz, hp, hh, hsz, hpm, hval, hfz⟩ := hr.blk _ _ hb
    have hlen := hv.length
    have hcv : ∀ u ∈ cvs, u.oneCell' = true := fun u hu => by
      obtain ⟨i, hi⟩ := List.getElem?_of_mem hu
      have hlt : i < vs.length := by rw [hlen]; exact (List.getElem?_eq_some_iff.1 hi).1
      obtain ⟨u', h1, h2⟩ := hv.get i vs[i] (List.getElem?_eq_getElem hlt)
      rw [hi] at h1; cases h1
      exact h2.one (hone _ (List.getElem_mem hlt))
    have hfz' := hfz.1 rfl
    obtain ⟨w', hrun, hos, hout, hheap⟩ := run_storeRun P (k := p.blk) (base := p.off + off) cvs 0 w c hh (by omega) hcv (by rw [hsz]; exact hfz')
    have hlt : p.blk < w.heap.size := (Array.getElem?_eq_some_iff.1 hh).1
    refine ⟨p, w', hp, hrun, ?_⟩
    refine hr.write hb rfl rfl hp hos hout (by rw [hheap]; simp) (fun k hk => by rw [hheap, Array.getElem?_setIfInBounds, if_neg (fun e => hk e.symm)]) ?_
    refine ⟨p, _, e, fz, hp, by rw [hheap, Array.getElem?_setIfInBounds, if_pos rfl, if_pos hlt], by rw [putRun_size]; exact hsz, hpm, fun i hi => ?_, hfz⟩
    rw [Nat.add_zero, putRun_get _ _ _ _ (by omega)]
    by_cases hin : off ≤ i ∧ i < off + vs.length
    · obtain ⟨d, rfl⟩ : ∃ d, i = off + d := ⟨i - off, by omega⟩
      have hd : d < vs.length := by omega
      obtain ⟨u, h1, h2⟩ := hv.get d vs[d] (List.getElem?_eq_getElem hd)
      refine ⟨vs[d], u, ?_, hone _ (List.getElem_mem hd), ?_, h2⟩
      · show cellAt (fillC vs t off) z (off + d) = _
        unfold cellAt
        rw [gt_fillC, if_pos hin, show off + d - off = d by omega, List.getElem?_eq_getElem hd]
      · rw [if_pos (by omega), show p.off + (off + d) - (p.off + off) = d by omega]; exact h1
    · obtain ⟨v, cv, h1, h2, h3, h4⟩ := hval i hi
      refine ⟨v, cv, ?_, h2, ?_, h4⟩
      · show cellAt (fillC vs t off) z i = _
        unfold cellAt at h1 ⊢
        rw [gt_fillC, if_neg hin]; exact h1
      · rw [if_neg (by omega)]; exact h3

theorem st1_sto {off : Nat} {v : AV} {h' : Heap} (hs : h.st1 b off v = some h') : h.sto b off [v] = some h' := by
  obtain ⟨t, z, m, ro, hb, hf⟩ := cells_some hs
  cases ro with
  | true => cases hf
  | false =>
    obtain ⟨hle, hf⟩ := boolRec_some.1 hf
    obtain ⟨hone, hf⟩ := boolRec_some.1 hf
    cases hf
    unfold Heap.sto Heap.cells
    rw [hb]
    show (Bool.rec (motive := fun _ => Option Heap) none (Bool.rec (motive := fun _ => Option Heap) none _ (allOne [v])) (Nat.ble (off + 1) m) : Option Heap) = _
    rw [show Nat.ble (off + 1) m = true from hle, show allOne [v] = true from by rw [allOne_eq]; simpa using hone]
    rfl

/-! ### A new row of cells -/
theorem len_rowBlk (vs : List AV) : rowBlk vs = .cells (fillC vs .leaf 0) [] vs.length false := by unfold rowBlk; rw [len'_eq]

theorem BR.rowM {vs : List AV} {cvs : List Value} {k : Nat} {e : TypeId} {extra : List Value} (hv : VRs ρ vs cvs) (hone : ∀ v ∈ vs, v.one = true) {p : Pl} (hp : ρ b = some p) (h0 : p.off = 0) (hk : p.blk = k)
    (hsz : p.size = cvs.length + extra.length) {fz : Nat × Nat} (hfz : ∀ i, i < p.size → ¬ (fz.1 ≤ i ∧ i < fz.2)) (hh : w.heap[k]? = some (.cells (cvs ++ extra).toArray e fz)) {z : List AV} (hm : MarkOk z vs.length p e) : BR P keep ρ b (.cells (fillC vs .leaf 0) z (len' vs) false) w := by
  have hlen := hv.length
  rw [len'_eq]
  refine ⟨p, _, e, fz, hp, by rw [hk]; exact hh, by simp [hsz], by omega, fun i hi => ?_, fun _ => hfz, hm⟩
  obtain ⟨u, h1, h2⟩ := hv.get i vs[i] (List.getElem?_eq_getElem hi)
  refine ⟨vs[i], u, ?_, hone _ (List.getElem_mem hi), ?_, h2⟩
  · unfold cellAt
    rw [gt_fillC, if_pos (by omega), Nat.sub_zero, List.getElem?_eq_getElem hi]
  · rw [h0, Nat.zero_add]
    simp only [List.getElem?_toArray]
    rw [List.getElem?_append_left (by omega)]; exact h1

theorem BR.row {vs : List AV} {cvs : List Value} {k : Nat} {e : TypeId} {extra : List Value} (hv : VRs ρ vs cvs) (hone : ∀ v ∈ vs, v.one = true) {p : Pl} (hp : ρ b = some p) (h0 : p.off = 0) (hk : p.blk = k)
    (hsz : p.size = cvs.length + extra.length) {fz : Nat × Nat} (hfz : ∀ i, i < p.size → ¬ (fz.1 ≤ i ∧ i < fz.2)) (hh : w.heap[k]? = some (.cells (cvs ++ extra).toArray e fz)) : BR P keep ρ b (rowBlk vs) w :=
  BR.rowM hv hone hp h0 hk hsz hfz hh markOk_nil

end
end Go.Am

/-
  AM, 42: slices.Sorted(maps.Keys(m)): what it hands back, as long as each order of the keys is sorted to the same row.
-/
import Derived.Test.YtboobbebilegnaaGreatAm41
namespace Go.Am
section
variable {P : Program} {keep : Keeps}

theorem VR.plain {ρ σ : Pls} {c : AV} {v : Value} (hp : plainCell c = true) (h : VR ρ c v) : VR σ c v := by
  cases c with
  | bool b => exact h
  | int k n => exact h
  | str s => exact h
  | _ => cases hp
theorem plain_one {c : AV} (hp : plainCell c = true) : c.one = true := by cases c <;> first | rfl | cases hp

/-! ### What stands in elder places -/
mutual
theorem VR.back {ρ σ : Pls} (h : ρ.le σ) : ∀ (x : AV) (u v : Value), VR ρ x u → VR σ x v → VR ρ x v
  | .bool _, _, _, _, hv => hv
  | .int _ _, _, _, _, hv => hv
  | .str _, _, _, _, hv => hv
  | .ptr none, _, _, _, hv => hv
  | .ptr (some (_, _)), _, _, hu, hv => by
    obtain ⟨p, hp, _⟩ := hu
    obtain ⟨q, hq, e⟩ := hv
    have := h _ _ hp; rw [hq] at this; cases this
    exact ⟨p, hp, e⟩
  | .slice none _ _ _, _, _, _, hv => hv
  | .slice (some (_, _)) _ _ _, _, _, hu, hv => by
    obtain ⟨p, a, c, hp, _⟩ := hu
    obtain ⟨q, a', c', hq, r⟩ := hv
    have := h _ _ hp; rw [hq] at this; cases this
    exact ⟨p, a', c', hp, r⟩
  | .map none, _, _, _, hv => hv
  | .map (some _), _, _, hu, hv => by
    obtain ⟨p, hp, _⟩ := hu
    obtain ⟨q, hq, r⟩ := hv
    have := h _ _ hp; rw [hq] at this; cases this
    exact ⟨p, hp, r⟩
  | .func fn a b, _, _, hu, hv => by
    obtain ⟨fn1, a1, b1, _, hf1, ha1, hb1⟩ := hu
    obtain ⟨fn2, a2, b2, e, hf2, ha2, hb2⟩ := hv
    refine ⟨fn2, a2, b2, e, ?_, VRs.back h a _ _ ha1 ha2, VRs.back h b _ _ hb1 hb2⟩
    cases fn with
    | func f => exact hf2
    | yield l =>
      obtain ⟨p, hp, _⟩ := hf1
      obtain ⟨q, hq, r⟩ := hf2
      have := h _ _ hp; rw [hq] at this; cases this
      exact ⟨p, hp, r⟩
    | _ => exact hf2.elim
  | .nilFunc, _, _, _, hv => hv
  | .iface _ x, _, _, hu, hv => by
    obtain ⟨y, _, hy⟩ := hu
    obtain ⟨z, e, hz⟩ := hv
    exact ⟨z, e, VR.back h x _ _ hy hz⟩
  | .nilIface, _, _, _, hv => hv
  | .agg cs, _, _, hu, hv => by
    obtain ⟨c1, _, h1⟩ := hu
    obtain ⟨c2, e, h2⟩ := hv
    exact ⟨c2, e, VRs.back h cs _ _ h1 h2⟩
  | .tuple cs, _, _, hu, hv => by
    obtain ⟨c1, _, h1⟩ := hu
    obtain ⟨c2, e, h2⟩ := hv
    exact ⟨c2, e, VRs.back h cs _ _ h1 h2⟩
theorem VRs.back {ρ σ : Pls} (h : ρ.le σ) : ∀ (x : List AV) (u v : List Value), VRs ρ x u → VRs σ x v → VRs ρ x v
  | [], _, _, _, hv => hv
  | x :: xs, _, _, hu, hv => by
    obtain ⟨u, us, rfl, h1, h2⟩ := hu
    obtain ⟨v, vs, rfl, h3, h4⟩ := hv
    exact ⟨v, vs, rfl, VR.back h x _ _ h1 h3, VRs.back h xs _ _ h2 h4⟩
end
theorem ERs.back {ρ σ : Pls} (h : ρ.le σ) : ∀ {es : List MEnt} {l m : List MapEntry}, ERs ρ es l → ERs σ es m → ERs ρ es m
  | [], _, _, _, hm => hm
  | e :: es, _, _, hl, hm => by
    obtain ⟨x, xs, rfl, ⟨a1, a2, a3⟩, hx⟩ := hl
    obtain ⟨y, ys, rfl, ⟨b1, b2, b3⟩, hy⟩ := hm
    exact ⟨y, ys, rfl, ⟨VR.back h _ _ _ a1 b1, VR.back h _ _ _ a2 b2, b3⟩, ERs.back h hx hy⟩
theorem TR.back {kp : Nat → Bool} {nt : Nat} {ρ σ : Pls} (h : ρ.le σ) {tm : Tr AV} {a b : Array Value} (ha : TR kp nt ρ tm a) (hb : TR kp nt σ tm b) : TR kp nt ρ tm b :=
  ⟨hb.1, fun t v hk hv => by
    obtain ⟨c, _, h1⟩ := ha.2 t v hk hv
    obtain ⟨d, h2, h3⟩ := hb.2 t v hk hv
    exact ⟨d, h2, VR.back h _ _ _ h1 h3⟩⟩
theorem BR.back {ρ σ : Pls} (hl : ρ.le σ) {b : Nat} {x : Blk} {w w' : World} (ho : BR P keep ρ b x w) (hb : BR P keep σ b x w') : BR P keep ρ b x w' := by
  cases x with
  | dead => trivial
  | cells t z n ro =>
    obtain ⟨q, c', e, fz, g1, g2, g3, g4, g5, g6⟩ := hb
    obtain ⟨q0, c0, e0, fz0, k1, k2, k3, k4, k5, k6⟩ := ho
    have := hl _ _ k1; rw [g1] at this; cases this
    refine ⟨q, c', e, fz, k1, g2, g3, g4, fun i hi => ?_, g6⟩
    obtain ⟨v, cv, m1, m2, m3, m4⟩ := g5 i hi
    obtain ⟨v', cv', n1, n2, n3, n4⟩ := k5 i hi
    rw [m1] at n1; cases n1
    exact ⟨v, cv, m1, m2, m3, VR.back hl _ _ _ n4 m4⟩
  | map es clock =>
    obtain ⟨q, e1, g1, g2, g3, g4⟩ := hb
    obtain ⟨q0, e0, k1, _, _, k4⟩ := ho
    have := hl _ _ k1; rw [g1] at this; cases this
    exact ⟨q, e1, k1, g2, g3, ERs.back hl k4 g4⟩
  | siter s pos =>
    obtain ⟨q, e1, g1, r⟩ := hb
    obtain ⟨q0, e0, k1, _⟩ := ho
    have := hl _ _ k1; rw [g1] at this; cases this
    exact ⟨q, e1, k1, r⟩
  | loop l =>
    obtain ⟨q, L, g1, g2, g3, g4⟩ := hb
    obtain ⟨q0, L0, k1, _, _, k4⟩ := ho
    have := hl _ _ k1; rw [g1] at this; cases this
    exact ⟨q, L, k1, g2, g3, { g4 with tm := TR.back hl k4.tm g4.tm }⟩

/-- WHAT WAS THERE BEFORE, AND STANDS: all that is new may be let go. -/
theorem Post.old {ρ ρ' : Pls} {h h' : Heap} {w w' : World} (ha : Post P keep ρ h w ρ' h' w') (hr : HR P keep ρ h w) (hold : ∀ b, b < h.next → h'.bs.gt b = h.bs.gt b) : Post P keep ρ h w ρ h w' := by
  refine ⟨Pls.le_refl _, { hr with blk := fun c x hx => ?_ }, ha.fr, fun _ _ ho => ho, Nat.le_refl _, fun _ _ h _ => h⟩
  exact BR.back ha.le (hr.blk c x hx) (ha.hr.blk c x (by rw [hold c (hr.has _ _ hx)]; exact hx))

/-- a row of cells alone in memory -/
noncomputable def minH (cs : List AV) : Heap := ⟨Tr.leaf.up (some (.cells (fillC cs .leaf 0) [] cs.length false)) 0, 1⟩
def onePl (p : Pl) : Pls := fun b => if b = 0 then some p else none

theorem minH_get (cs : List AV) (b : Nat) : (minH cs).bs.gt b = if b = 0 then some (.cells (fillC cs .leaf 0) [] cs.length false) else none := by
  unfold minH
  rw [Tr.gt_up, Tr.gt_leaf]

theorem sub_row {ρ : Pls} {h : Heap} {w : World} {id n : Nat} {t : Tr AV} {z : List AV} {p : Pl} {cs : List AV} (hr : HR P keep ρ h w) (hb : h.bs.gt id = some (.cells t z n false)) (hp : ρ id = some p) (hn : n = cs.length) (hcell : ∀ i, i < n → cellAt t z i = cs[i]?) (hpl : ∀ c ∈ cs, plainCell c = true) :
    HR P keep (onePl p) (minH cs) w := by
  refine ⟨fun b q hq => ?_, fun b x hx => ?_, fun b x hx => ?_, fun b b' x x' q q' hx hx' _ _ _ _ _ hne => ?_⟩
  · unfold onePl at hq
    split at hq
    · rename_i e; subst e; exact Nat.zero_lt_one
    · cases hq
  · rw [minH_get] at hx
    split at hx
    · rename_i e; subst e; exact Nat.zero_lt_one
    · cases hx
  · rw [minH_get] at hx
    split at hx
    · rename_i e; subst e; cases hx
      obtain ⟨p0, c, e, fz, hp0, hc, hcs, hpm, hval, hf⟩ := hr.blk _ _ hb
      rw [hp] at hp0; cases hp0
      refine ⟨p, c, e, fz, rfl, hc, hcs, by omega, fun i hi => ?_, hf.1, markOk_nil⟩
      obtain ⟨v, cv, g1, g2, g3, g4⟩ := hval i (by omega)
      rw [hcell i (by omega)] at g1
      have hmem : v ∈ cs := List.mem_of_getElem? g1
      exact ⟨v, cv, by rw [cellAt_fill _ _ _ hi]; exact g1, g2, g3, g4.plain (hpl v hmem)⟩
    · cases hx
  · rw [minH_get] at hx hx'
    split at hx
    · split at hx'
      · rename_i e e'; exact absurd (e.trans e'.symm) hne
      · cases hx'
    · cases hx

/-- a new row, which another run has turned -/
theorem row_post {ρ ρ' ρ1 : Pls} {h h' h1 : Heap} {w w' w2 : World} {id N : Nat} {t t1 : Tr AV} {z z1 : List AV} {p : Pl} {cs ds : List AV} (ha : Post P keep ρ h w ρ' h' w') (hr : HR P keep ρ h w) (hid : h.next ≤ id) (hb : h'.bs.gt id = some (.cells t z N false)) (hp : ρ' id = some p)
    (hold : ∀ b, b < h.next → h'.bs.gt b = h.bs.gt b) (hc : Post P keep (onePl p) (minH cs) w' ρ1 h1 w2) (h1b : h1.bs.gt 0 = some (.cells t1 z1 ds.length false)) (hcell : ∀ i, i < ds.length → cellAt t1 z1 i = ds[i]?) (hpl : ∀ c ∈ ds, plainCell c = true) :
    Post P keep ρ h w (ρ.up h.next p) (h.new h.next (.cells (fillC ds .leaf 0) [] ds.length false)) w2 := by
  obtain ⟨f1, f2⟩ := hr.fresh (Nat.le_refl h.next)
  have hown1 : ∀ k, k ≠ p.blk → ¬ Own (onePl p) (minH cs) k := by
    rintro k hk ⟨b, x, q, hx, _, hq, rfl⟩
    unfold onePl at hq
    split at hq
    · cases hq; exact hk rfl
    · cases hq
  have hplt : p.blk < w'.heap.size := by
    obtain ⟨q, hq, hlt⟩ := (ha.hr.blk _ _ hb).place rfl
    rw [hp] at hq; cases hq; exact hlt
  have hownp : Own ρ' h' p.blk := ⟨id, _, p, hb, rfl, hp, rfl⟩
  have hsame : ∀ k, k < w'.heap.size → k ≠ p.blk → w2.heap[k]? = w'.heap[k]? := fun k hk hne => hc.fr.same k hk (hown1 k hne)
  have hplace : ∀ c x q, h.bs.gt c = some x → x.dead? = false → ρ c = some q → q.blk ≠ p.blk ∧ q.blk < w'.heap.size := by
    intro c x q hx hd hq
    have hlt := hr.has _ _ hx
    have hx' : h'.bs.gt c = some x := by rw [hold c hlt]; exact hx
    have hq' := ha.le _ _ hq
    refine ⟨ha.hr.inj c id x _ q p hx' hb hd rfl (.inr rfl) hq' hp (by omega), ?_⟩
    obtain ⟨q2, hq2, hlt2⟩ := (ha.hr.blk _ _ hx').place hd
    rw [hq'] at hq2; cases hq2; exact hlt2
  have ha' := ha.old hr hold
  have hk2 : w'.heap.size ≤ w2.heap.size := hc.fr.size
  refine ⟨Pls.le_up f1, ?_, ⟨hc.fr.os.trans ha.fr.os, hc.fr.output.trans ha.fr.output, Nat.le_trans ha.fr.size hk2, fun k hk ho => ?_⟩, fun k hk ho => ?_, ?_, fun b q hq hlt => ?_⟩
  · rw [new_eq (Nat.le_refl _)]
    refine ha'.hr.add f1 f2 (by omega) (by omega) (fun c x q hx hd hq => (hplace c x q hx hd hq).1) (fun c x q hx hd hq => ?_) ?_
    · obtain ⟨g1, g2⟩ := hplace c x q hx hd hq
      exact hsame _ g2 g1
    · obtain ⟨p0, c, e, fz, hp1, hcc, hcs, hpm, hval, hf⟩ := hc.hr.blk _ _ h1b
      have : ρ1 0 = some p := hc.le 0 p rfl
      rw [this] at hp1; cases hp1
      refine ⟨p, c, e, fz, Pls.up_same _ _ _, hcc, hcs, hpm, fun i hi => ?_, hf.1, markOk_nil⟩
      obtain ⟨v, cv, g1, g2, g3, g4⟩ := hval i hi
      rw [hcell i hi] at g1
      exact ⟨v, cv, by rw [cellAt_fill _ _ _ hi]; exact g1, g2, g3, g4.plain (hpl v (List.mem_of_getElem? g1))⟩
  · have h1 : k ≠ p.blk := fun e => ho (ha.own k hk (e ▸ hownp))
    exact (hsame k (Nat.lt_of_lt_of_le hk ha.fr.size) h1).trans (ha.fr.same k hk ho)
  · obtain ⟨c, x, q, hx, hd, hq, rfl⟩ := ho
    rw [new_get] at hx
    by_cases e : c = h.next
    · subst e; rw [Pls.up_same] at hq; cases hq
      exact ha.own _ hk hownp
    · rw [if_neg e] at hx
      unfold Pls.up at hq; rw [if_neg e] at hq
      exact ⟨c, x, q, hx, hd, hq, rfl⟩
  · show h.next ≤ (h.new h.next _).next
    rw [new_next]; omega
  · unfold Pls.up at hq
    rwa [if_neg (by omega)] at hq
end
end Go.Am

/-
  AM, 7: the other operations that only compute.
-/
import Derived.Test.YtboobbebilegnaaGreatAm6
namespace Go.Am
section
variable {P : Program} {w : World} {ρ : Pls}

theorem toIface_sound {t : TypeId} {x r : AV} {a : Value} (h : toIface P t x = some r) (hx : VR ρ x a) : Gives P w ρ (Instr.makeInterface t a) r := by
  unfold toIface at h
  cases ht : P.underlying t with
  | none => rw [ht] at h; cases h
  | some d =>
    rw [ht] at h
    have key : h = h → (∀ ms, d ≠ .interface ms) → Gives P w ρ (Instr.makeInterface t a) (.iface t x) := by
      intro _ hn
      refine ⟨.iface t a, ?_, a, rfl, hx⟩
      unfold Instr.makeInterface
      rw [andthen_ok (run_underlying ht w)]
      cases d <;> first | rfl | exact absurd rfl (hn _)
    cases d <;> first | (cases h; done) | (cases h; exact key rfl (fun _ e => by cases e))

theorem mkFunc_sound {fn : Fn} {n : Nat} {vs : List AV} {r : AV} {first cap : Array Value} (h : mkFunc fn n vs = some r) (hn : first.size = n) (hv : VRs ρ vs (first.toList ++ cap.toList)) :
    Gives P w ρ (Instr.makeFunc fn first cap) r := by
  unfold mkFunc at h
  cases fn <;> first | (cases h; done) | skip
  rename_i f
  cases h
  rw [take'_eq, drop'_eq]
  refine ⟨_, rfl, _, _, _, rfl, rfl, ?_, ?_⟩
  · have := VRs.take n hv
    rwa [List.take_left' (by simpa using hn)] at this
  · have := VRs.drop n hv
    rwa [List.drop_left' (by simpa using hn)] at this

theorem nthTuple_sound {i : Nat} {x r : AV} {a : Value} (h : nthTuple i x = some r) (hx : VR ρ x a) : Gives P w ρ (Instr.extract a i) r := by
  obtain ⟨vs, rfl, g⟩ := eTuple_some h
  rw [nth_eq] at g
  obtain ⟨cs, rfl, hv⟩ := hx
  obtain ⟨v, h1, h2⟩ := hv.get i r g
  rw [Array.getElem?_toList] at h1
  exact ⟨v, by simp [Instr.extract, h1], h2⟩

/-! ### parts into their places -/
theorem overlay_eq : ∀ (vs cs : List AV), vs.length ≤ cs.length → overlay vs cs = vs ++ cs.drop vs.length
  | [], cs, _ => by show cs = _; simp
  | v :: vs, cs, h => by
    show v :: overlay vs (tl' cs) = _
    cases cs with
    | nil => simp at h
    | cons c cs =>
      rw [tl'_eq, overlay_eq vs _ (by simpa using h)]; simp
theorem setRun_eq (vs : List AV) : ∀ (off : Nat) (cs : List AV), off + vs.length ≤ cs.length → setRun vs off cs = cs.take off ++ (vs ++ cs.drop (off + vs.length))
  | 0, cs, h => by
    show overlay vs cs = _
    rw [overlay_eq vs cs (by omega)]; simp
  | off + 1, cs, h => by
    cases cs with
    | nil => simp at h
    | cons c cs =>
      show c :: setRun vs off cs = _
      rw [setRun_eq vs off cs (by simp at h; omega)]
      simp [show off + 1 + vs.length = off + vs.length + 1 by omega]

theorem putRun_toList : ∀ (vs : List Value) (c : Array Value) (o : Nat), o + vs.length ≤ c.size → (putRun c o vs).toList = c.toList.take o ++ (vs ++ c.toList.drop (o + vs.length)) := by
  intro vs c o h
  apply List.ext_getElem?
  intro i
  rw [Array.getElem?_toList, putRun_get _ _ _ _ h]
  by_cases h1 : i < o
  · rw [if_neg (by omega), List.getElem?_append_left (by simp; omega), List.getElem?_take, if_pos h1, Array.getElem?_toList]
  · rw [List.getElem?_append_right (by simp; omega)]
    have hl : (c.toList.take o).length = o := by simp; omega
    rw [hl]
    by_cases h2 : i < o + vs.length
    · rw [if_pos (by omega), List.getElem?_append_left (by omega)]
    · rw [if_neg (by omega), List.getElem?_append_right (by omega), List.getElem?_drop, Array.getElem?_toList]
      congr 1; omega

theorem foldl_putRun (off : Nat) : ∀ (l : List Value) (k : Nat) (cs : Array Value), (l.zipIdx k).foldl (fun cs (x : Value × Nat) => cs.setIfInBounds (off + x.2) x.1) cs = putRun cs (off + k) l
  | [], _, _ => rfl
  | v :: l, k, cs => by
    rw [List.zipIdx_cons, List.foldl_cons, foldl_putRun off l (k + 1)]
    rfl

theorem VRs.put {cs vs : List AV} {ca va : Array Value} {off : Nat} (hc : VRs ρ cs ca.toList) (hv : VRs ρ vs va.toList) (hle : off + vs.length ≤ cs.length) :
    VRs ρ (setRun vs off cs) (putRun ca off va.toList).toList := by
  have l1 := hc.length
  have l2 := hv.length
  rw [setRun_eq vs off cs hle, putRun_toList _ _ _ (by simp at l1 l2 ⊢; omega), ← l2]
  exact (hc.take off).append (hv.append (hc.drop _))

theorem fillB_sound : ∀ {pls : List (Nat × Nat)} {vs cs r : List AV} {ca : Array Value} {ps : List (Nat × Value)} {place : Nat → Option (Nat × Nat)},
    fillB pls vs cs = some r → placesOf place cs.length (ps.map (·.1)) = some pls → VRs ρ vs (ps.map (·.2)) → VRs ρ cs ca.toList →
    ∃ ra, Instr.fill place ca ps = some ra ∧ VRs ρ r ra.toList ∧ r.length = cs.length
  | [], vs, cs, r, ca, ps, place, h, hp, hv, hc => by
    cases ps with
    | nil =>
      cases vs with
      | nil => cases h; exact ⟨ca, rfl, hc, rfl⟩
      | cons _ _ => cases h
    | cons q ps =>
      simp only [List.map_cons, placesOf] at hp
      split at hp
      · split at hp <;> cases hp
      · cases hp
  | p :: pls, vs, cs, r, ca, ps, place, h, hp, hv, hc => by
    cases ps with
    | nil => cases hp
    | cons q ps =>
      obtain ⟨i, v⟩ := q
      simp only [List.map_cons, placesOf] at hp
      split at hp
      · rename_i p' ps' hpl hpls
        split at hp
        · rename_i hle
          cases hp
          obtain ⟨u, us, e, hu, hus⟩ : ∃ u us, vs = u :: us ∧ VR ρ u v ∧ VRs ρ us (ps.map (·.2)) := by
            cases vs with
            | nil => cases hv
            | cons u us => obtain ⟨v', ws, e, h1, h2⟩ := hv; cases e; exact ⟨u, us, rfl, h1, h2⟩
          subst e
          obtain ⟨hsz, h⟩ := iff'_some.1 (show iff' (Nat.beq (len' u.cells) p.2) (fillB pls us (setRun u.cells p.1 cs)) = some r from h)
          have hsz : u.cells.length = p.2 := by simpa using hsz
          have hcells := hu.cells
          have hlen := hcells.length
          have hlc := hc.length
          have hput := VRs.put hc hcells (off := p.1) (by omega)
          have hlen' : (setRun u.cells p.1 cs).length = cs.length := by rw [setRun_eq _ _ _ (by omega)]; simp; omega
          obtain ⟨ra, h1, h2, h3⟩ := fillB_sound (ps := ps) (place := place) h (by rw [hlen']; exact hpls) hus hput
          refine ⟨ra, ?_, h2, by rw [h3, hlen']⟩
          simp only [Instr.fill, hpl]
          rw [if_neg (by simp at hlen hlc ⊢; omega)]
          rw [← h1]
          congr 1
          have := foldl_putRun p.1 v.cells.toList 0 ca
          rw [Nat.add_zero] at this
          rw [← this, ← Array.foldl_toList, Array.toList_zipIdx]
        · cases hp
      · cases hp

theorem fieldPlaces_get : ∀ {fs : List Field} {pl : List (Nat × Nat)}, fieldPlaces P fs = some pl → (fs.mapM fun f => (do pure (f.offset, ← sizeOf f.type) : Sem (Nat × Nat))).run P w = .ok pl w
  | [], _, h => by cases h; rfl
  | f :: fs, pl, h => by
    simp only [fieldPlaces] at h
    split at h
    · rename_i s ps hs hps
      cases h
      rw [List.mapM_cons, Sem.run_bind, Sem.run_bind, run_sizeT hs]
      simp only [Result.andThen_ok, Sem.run_pure]
      rw [Sem.run_bind, fieldPlaces_get hps]
      rfl
    · cases h

theorem buildN_sound {t : TypeId} {vs : List AV} {r : AV} {ps : Array (Nat × Value)} (h : buildN P t (ps.toList.map (·.1)) vs = some r) (hv : VRs ρ vs (ps.toList.map (·.2))) : Gives P w ρ (Instr.build t ps) r := by
  unfold buildN at h
  cases hz : tZero P t with
  | none => rw [hz] at h; cases h
  | some z =>
    rw [hz] at h
    obtain ⟨zv, rz, vz⟩ := run_zeroT (w := w) (ρ := ρ) hz
    have hzc := vz.cells
    cases hu : P.underlying t with
    | none => rw [hu] at h; cases h
    | some d =>
      rw [hu] at h
      cases d with
      | struct fs =>
        cases hpl : fieldPlaces P fs.toList with
        | none => simp only [hpl] at h; cases h
        | some pl =>
          cases hpls : placesOf (pl[·]?) z.cells.length (ps.toList.map (·.1)) with
          | none => simp only [hpl, hpls] at h; cases h
          | some pls =>
            simp only [hpl, hpls] at h
            cases hf : fillB pls vs z.cells with
            | none => rw [hf] at h; cases h
            | some cs =>
              rw [hf] at h; cases h
              obtain ⟨ra, h1, h2, _⟩ := fillB_sound (ps := ps.toList) (place := (pl[·]?)) hf hpls hv hzc
              refine ⟨.agg ra, ?_, ra, rfl, h2⟩
              have hm := fieldPlaces_get (w := w) hpl
              simp only [Instr.build, Sem.run_bind, rz, run_underlying hu, Result.andThen_ok]
              have hm' : (fs.mapM fun f => (do pure (f.offset, ← sizeOf f.type) : Sem (Nat × Nat))).run P w = .ok pl.toArray w := by
                rw [Array.mapM_eq_mapM_toList, Sem.run_map, hm]; rfl
              rw [hm']
              simp only [Result.andThen_ok]
              rw [show (fun x => pl.toArray[x]?) = (fun x : Nat => pl[x]?) from funext fun x => by simp, h1]
              rfl
      | array n e =>
        cases hs : tSize P e with
        | none => simp only [hs] at h; cases h
        | some s =>
          cases hpls : placesOf (fun i => some (i * s, s)) z.cells.length (ps.toList.map (·.1)) with
          | none => simp only [hs, hpls] at h; cases h
          | some pls =>
            simp only [hs, hpls] at h
            cases hf : fillB pls vs z.cells with
            | none => rw [hf] at h; cases h
            | some cs =>
              rw [hf] at h; cases h
              obtain ⟨ra, h1, h2, _⟩ := fillB_sound (ps := ps.toList) hf hpls hv hzc
              refine ⟨.agg ra, ?_, ra, rfl, h2⟩
              simp only [Instr.build, Sem.run_bind, rz, run_underlying hu, Result.andThen_ok, run_sizeT hs]
              rw [h1]
              rfl
      | _ => cases h

/-! ### fields, elements -/
theorem field1_sound {t : TypeId} {f : Nat} {x r : AV} {a : Value} (h : field1 P t f x = some r) (hx : VR ρ x a) : Gives P w ρ (Instr.field t a f) r := by
  unfold field1 at h
  cases hu : P.underlying t with
  | none => rw [hu] at h; cases h
  | some d =>
    rw [hu] at h
    cases d with
    | struct fs =>
      simp only at h
      cases hf : fs[f]? with
      | none => rw [hf] at h; cases h
      | some fd =>
        rw [hf] at h
        simp only at h
        cases hs : tSize P fd.type with
        | none => rw [hs] at h; cases h
        | some s =>
          cases hg : tAgg P fd.type with
          | none => rw [hs, hg] at h; cases h
          | some g =>
            rw [hs, hg] at h
            simp only at h
            split at h
            · rename_i cs
              simp only [take'_eq, drop'_eq] at h
              obtain ⟨cs', rfl, hv⟩ := hx
              obtain ⟨v, h1, h2⟩ := run_part (w := w) hs hg hv h
              exact ⟨v, by simp [Instr.field, run_underlying hu, hf, asAgg, h1], h2⟩
            · cases h
    | _ => cases h

theorem add_addr (k o n : Nat) : (⟨k, o, none⟩ : Addr).add n = ⟨k, o + n, none⟩ := by unfold Addr.add; split <;> simp_all

theorem fieldAddr1_sound {t : TypeId} {f : Nat} {x r : AV} {a : Value} (h : fieldAddr1 P t f x = some r) (hx : VR ρ x a) : Gives P w ρ (Instr.fieldAt t a f) r := by
  unfold fieldAddr1 at h
  cases hu : P.underlying t with
  | none => rw [hu] at h; cases h
  | some d =>
    rw [hu] at h
    cases d with
    | struct fs =>
      simp only at h
      cases hf : fs[f]? with
      | none => rw [hf] at h; cases h
      | some fd =>
        rw [hf] at h
        simp only at h
        cases hs : tSize P fd.type with
        | none => rw [hs] at h; cases h
        | some s =>
          rw [hs] at h
          cases s with
          | zero => cases h
          | succ s =>
            obtain ⟨b, o, rfl, g⟩ := ePtr_some h
            cases g
            obtain ⟨p, hp, rfl⟩ := hx
            refine ⟨.pointer (some ⟨p.blk, p.off + (o + fd.offset), none⟩), ?_, p, hp, rfl⟩
            simp [Instr.fieldAt, run_underlying hu, hf, Instr.sureAddr, fieldPlace, run_sizeT hs, add_addr, Nat.add_assoc]
    | _ => cases h

theorem inRange_some {n : Nat} {j : Int} {f : Nat → Option AV} {r : AV} (h : inRange n j f = some r) : ∃ i : Nat, j = i ∧ i < n ∧ f i = some r := by
  cases j with
  | negSucc j => cases h
  | ofNat i => obtain ⟨h1, h2⟩ := boolRec_some.1 h; exact ⟨i, rfl, Nat.le_of_ble_eq_true h1, h2⟩

theorem indexAddr2_sound {t : TypeId} {x j r : AV} {a b : Value} (h : indexAddr2 P t x j = some r) (hx : VR ρ x a) (hj : VR ρ j b) : Gives P w ρ (Instr.indexAt t a b) r := by
  unfold indexAddr2 at h
  cases hu : P.underlying t with
  | none => rw [hu] at h; cases h
  | some d =>
    rw [hu] at h
    cases d with
    | array n e =>
      simp only at h
      cases hs : tSize P e with
      | none => rw [hs] at h; cases h
      | some s =>
        rw [hs] at h
        obtain ⟨k, jn, rfl, g1⟩ := eInt_some h
        obtain ⟨b0, o, rfl, g2⟩ := ePtr_some g1
        obtain ⟨i, rfl, hi, g3⟩ := inRange_some g2
        cases g3; cases hj
        obtain ⟨p, hp, rfl⟩ := hx
        refine ⟨.pointer (some ⟨p.blk, p.off + (o + i * s), none⟩), ?_, p, hp, rfl⟩
        have : (0 : Int) ≤ i ∧ (i : Int) < n := by omega
        simp [Instr.indexAt, asIntOf, run_underlying hu, Instr.sureAddr, run_sizeT hs, add_addr, Nat.add_assoc, hi]
    | slice e =>
      simp only at h
      cases hs : tSize P e with
      | none => rw [hs] at h; cases h
      | some s =>
        rw [hs] at h
        obtain ⟨k, jn, rfl, g1⟩ := eInt_some h
        obtain ⟨q, n, c, g, rfl, g2⟩ := eSlice_some g1
        cases q with
        | none => cases g2
        | some q =>
          obtain ⟨b0, o⟩ := q
          obtain ⟨i, rfl, hi, g3⟩ := inRange_some g2
          cases g3; cases hj
          obtain ⟨p, a', c', hp, rfl, hn, hc, _, _, ha⟩ := hx
          have ha := ha (by omega)
          subst ha
          refine ⟨.pointer (some ⟨p.blk, p.off + (o + i * s), none⟩), ?_, p, hp, rfl⟩
          simp [Instr.indexAt, asIntOf, run_underlying hu, run_sizeT hs, add_addr, Nat.add_assoc, hi]
    | _ => cases h

theorem byteAt_some : ∀ {s : List Nat} {i : Nat} {r : AV}, byteAt s i = some r → ∃ c, s[i]? = some c ∧ r = .int .u8 c
  | [], _, _, h => by cases h
  | c :: s, 0, _, h => by cases h; exact ⟨c, rfl, rfl⟩
  | c :: s, i + 1, r, h => by
    have h : byteAt s i = some r := h
    obtain ⟨d, h1, h2⟩ := byteAt_some h
    exact ⟨d, by simpa using h1, h2⟩

theorem index2_sound {t : TypeId} {x j r : AV} {a b : Value} (h : index2 P t x j = some r) (hx : VR ρ x a) (hj : VR ρ j b) : Gives P w ρ (Instr.index t a b) r := by
  unfold index2 at h
  cases hu : P.underlying t with
  | none => rw [hu] at h; cases h
  | some d =>
    rw [hu] at h
    cases d with
    | array n e =>
      simp only at h
      cases hs : tSize P e with
      | none => rw [hs] at h; cases h
      | some s =>
        cases hg : tAgg P e with
        | none => rw [hs, hg] at h; cases h
        | some g =>
          rw [hs, hg] at h
          obtain ⟨k, jn, rfl, g1⟩ := eInt_some h
          split at g1
          · rename_i cs
            obtain ⟨i, rfl, hi, g2⟩ := inRange_some g1
            simp only [take'_eq, drop'_eq, Nat.mul_eq] at g2
            cases hj
            obtain ⟨cs', rfl, hv⟩ := hx
            obtain ⟨v, h1, h2⟩ := run_part (w := w) hs hg hv g2
            exact ⟨v, by simp [Instr.index, asIntOf, run_underlying hu, hi, run_sizeT hs, h1], h2⟩
          · cases g1
    | string =>
      obtain ⟨k, jn, rfl, g1⟩ := eInt_some h
      obtain ⟨s, rfl, g2⟩ := eStr_some g1
      cases hj
      obtain ⟨s', rfl, rfl⟩ := hx
      cases jn with
      | negSucc j => cases g2
      | ofNat i =>
        obtain ⟨c, h1, rfl⟩ := byteAt_some g2
        rw [List.getElem?_map] at h1
        cases hb : s'.data.toList[i]? with
        | none => rw [hb] at h1; cases h1
        | some u =>
          rw [hb] at h1
          simp at h1; subst h1
          rw [Array.getElem?_toList] at hb
          have hi : i < s'.size := (Array.getElem?_eq_some_iff.1 hb).1
          have hu' : s'[i]? = some u := by
            rw [getElem?_pos s' i hi]
            have := (Array.getElem?_eq_some_iff.1 hb).2
            rw [← this]; rfl
          exact ⟨.int .u8 u.toNat, by simp [Instr.index, asIntOf, run_underlying hu, hu'], rfl⟩
    | _ => cases h

/-! ### lengths -/
theorem size_bytes (b : ByteArray) : b.size = (b.data.toList.map (·.toNat)).length := by rw [List.length_map, Array.length_toList]; rfl
theorem len1_sound {t ty : TypeId} {ts : Array TypeId} {x r : AV} {a : Value} (h : len1 P t x = some r) (hx : VR ρ x a) (ht : ts[0]? = some t) : Gives P w ρ (Builtin.len_ ts ty #[a]) r := by
  unfold len1 at h
  cases hu : P.underlying t with
  | none => rw [hu] at h; cases h
  | some d =>
    rw [hu] at h
    cases d with
    | string =>
      obtain ⟨s, rfl, g1⟩ := eStr_some h
      cases g1
      obtain ⟨s', rfl, rfl⟩ := hx
      exact ⟨.int .i64 s'.size, by simp [Builtin.len_, ht, run_underlying hu, goInt], by rw [len'_eq, size_bytes]; rfl⟩
    | array n e => cases h; exact ⟨.int .i64 n, by simp [Builtin.len_, ht, run_underlying hu, goInt], rfl⟩
    | slice e =>
      obtain ⟨q, n, c, g, rfl, g1⟩ := eSlice_some h
      cases g1
      cases q with
      | none => obtain ⟨rfl, _, _, rfl⟩ := hx; exact ⟨.int .i64 0, by simp [Builtin.len_, ht, run_underlying hu, goInt], rfl⟩
      | some q =>
        obtain ⟨b0, o⟩ := q
        obtain ⟨p, a', c', hp, rfl, _⟩ := hx
        exact ⟨.int .i64 n, by simp [Builtin.len_, ht, run_underlying hu, goInt], rfl⟩
    | pointer arr =>
      simp only at h
      cases hv : P.underlying arr with
      | none => rw [hv] at h; cases h
      | some d' =>
        rw [hv] at h
        cases d' with
        | array n e => cases h; exact ⟨.int .i64 n, by simp [Builtin.len_, ht, run_underlying hu, run_underlying hv, goInt], rfl⟩
        | _ => cases h
    | _ => cases h

theorem cap1_sound {t ty : TypeId} {ts : Array TypeId} {x r : AV} {a : Value} (h : cap1 P t x = some r) (hx : VR ρ x a) (ht : ts[0]? = some t) : Gives P w ρ (Builtin.cap_ ts ty #[a]) r := by
  unfold cap1 at h
  cases hu : P.underlying t with
  | none => rw [hu] at h; cases h
  | some d =>
    rw [hu] at h
    cases d with
    | slice e =>
      obtain ⟨q, n, c, g, rfl, g1⟩ := eSlice_some h
      cases g with
      | some g => cases g1
      | none =>
        cases g1
        cases q with
        | none => obtain ⟨rfl, rfl, _, rfl⟩ := hx; exact ⟨.int .i64 0, by simp [Builtin.cap_, ht, run_underlying hu, goInt], rfl⟩
        | some q =>
          obtain ⟨b0, o⟩ := q
          obtain ⟨p, a', c', hp, rfl, _, _, he, _⟩ := hx
          obtain rfl := he rfl
          exact ⟨.int .i64 c', by simp [Builtin.cap_, ht, run_underlying hu, goInt], rfl⟩
    | _ => cases h

theorem max2_sound {x y r : AV} {a b : Value} (h : max2 x y = some r) (hx : VR ρ x a) (hy : VR ρ y b) : Gives P w ρ (Builtin.max2 a b) r := by
  obtain ⟨k, n, rfl, g1⟩ := eInt_some h
  obtain ⟨l, m, rfl, g2⟩ := eInt_some g1
  cases g2; cases hx; cases hy
  refine ⟨.int k (if m > n then m else n), rfl, ?_⟩
  rw [ltI_eq]
  by_cases hh : n < m
  · rw [decide_eq_true hh, if_pos hh]; rfl
  · rw [decide_eq_false hh, if_neg hh]; rfl
theorem min2_sound {x y r : AV} {a b : Value} (h : min2 x y = some r) (hx : VR ρ x a) (hy : VR ρ y b) : Gives P w ρ (Builtin.min2 a b) r := by
  obtain ⟨k, n, rfl, g1⟩ := eInt_some h
  obtain ⟨l, m, rfl, g2⟩ := eInt_some g1
  cases g2; cases hx; cases hy
  refine ⟨.int k (if m < n then m else n), rfl, ?_⟩
  rw [ltI_eq]
  by_cases hh : m < n
  · rw [decide_eq_true hh, if_pos hh]; rfl
  · rw [decide_eq_false hh, if_neg hh]; rfl
theorem foldA_sound {f : AV → AV → Option AV} {g : Value → Value → Sem Value} (hf : ∀ {x y r : AV} {a b : Value}, f x y = some r → VR ρ x a → VR ρ y b → Gives P w ρ (g a b) r) :
    ∀ {ys : List AV} {x r : AV} {a : Value} {bs : List Value}, foldA f x ys = some r → VR ρ x a → VRs ρ ys bs → Gives P w ρ (bs.foldlM g a) r
  | [], x, r, a, bs, h, hx, hy => by cases hy; cases h; exact ⟨a, rfl, hx⟩
  | y :: ys, x, r, a, bs, h, hx, hy => by
    obtain ⟨b, bs', rfl, h1, h2⟩ := hy
    simp only [foldA] at h
    split at h
    · rename_i z hz
      obtain ⟨c, hc, vc⟩ := hf hz hx h1
      obtain ⟨d, hd, vd⟩ := foldA_sound hf h vc h2
      exact ⟨d, by simp [List.foldlM_cons, hc, hd], vd⟩
    · cases h
theorem max_sound {ts : Array TypeId} {ty : TypeId} {xs : List AV} {r : AV} {as : List Value} (h : folds max2 xs = some r) (hv : VRs ρ xs as) : Gives P w ρ (Builtin.max_ ts ty as.toArray) r := by
  cases xs with
  | nil => cases h
  | cons x xs => obtain ⟨v, us, rfl, h1, h2⟩ := hv; exact foldA_sound (f := max2) max2_sound h h1 h2
theorem min_sound {ts : Array TypeId} {ty : TypeId} {xs : List AV} {r : AV} {as : List Value} (h : folds min2 xs = some r) (hv : VRs ρ xs as) : Gives P w ρ (Builtin.min_ ts ty as.toArray) r := by
  cases xs with
  | nil => cases h
  | cons x xs => obtain ⟨v, us, rfl, h1, h2⟩ := hv; exact foldA_sound (f := min2) min2_sound h h1 h2

end
end Go.Am

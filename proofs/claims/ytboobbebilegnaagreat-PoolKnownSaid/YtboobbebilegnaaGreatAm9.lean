/-
  AM, 9: new blocks.
-/
import Derived.Test.YtboobbebilegnaaGreatAm8
namespace Go.Am
section
variable {P : Program} {keep : Keeps} {w : World} {ρ : Pls} {h : Heap}

/-- the model's run makes one block, for which the abstract one stands, under whatever number -/
def Makes (P : Program) (keep : Keeps) (w : World) (ρ : Pls) (s : Sem Value) (r : Blk × (Nat → AV)) : Prop :=
  ∃ o sz v w', s.run P w = .ok v w' ∧ w'.os = w.os ∧ w'.output = w.output ∧ w'.heap = w.heap.push o ∧
    ∀ id, ρ id = none → BR P keep (ρ.up id ⟨w.heap.size, 0, sz⟩) id r.1 w' ∧ VR (ρ.up id ⟨w.heap.size, 0, sz⟩) (r.2 id) v

theorem Makes.rowM {s : Sem Value} {vs : List AV} {cs : Array Value} {e : TypeId} {f : Nat → AV} {v : Value} (hv : VRs ρ vs cs.toList) (hone : allOne vs = true)
    (hrun : s.run P w = .ok v { w with heap := w.heap.push (.cells cs e) }) (hf : ∀ σ : Pls, ∀ id, σ id = some ⟨w.heap.size, 0, cs.size⟩ → VR σ (f id) v) (x : Bool) : Makes P keep w ρ s (.cells (fillC vs .leaf 0) (tyMark e x) (len' vs) false, f) := by
  refine ⟨.cells cs e, cs.size, v, _, hrun, rfl, rfl, rfl, fun id hid => ⟨?_, hf _ _ (Pls.up_same _ _ _)⟩⟩
  rw [allOne_eq, List.all_eq_true] at hone
  refine BR.rowM (extra := []) (e := e) (hv.mono (Pls.le_up hid)) hone (Pls.up_same _ _ _) rfl rfl (by simp) (fz := (0, 0)) (fun i _ hh => by simp at hh) ?_ ?_
  · show (w.heap.push _)[w.heap.size]? = _
    simp
  · intro t y ht
    simp only [tyMark, List.cons.injEq, AV.tuple.injEq, AV.int.injEq, AV.bool.injEq, and_true, true_and] at ht
    refine ⟨by have := ht.1; exact Int.ofNat_inj.1 this, fun _ => ⟨rfl, ?_⟩⟩
    have := hv.length
    simpa using this.symm
theorem Makes.row {s : Sem Value} {vs : List AV} {cs : Array Value} {e : TypeId} {f : Nat → AV} {v : Value} (hv : VRs ρ vs cs.toList) (hone : allOne vs = true)
    (hrun : s.run P w = .ok v { w with heap := w.heap.push (.cells cs e) }) (hf : ∀ σ : Pls, ∀ id, σ id = some ⟨w.heap.size, 0, cs.size⟩ → VR σ (f id) v) : Makes P keep w ρ s (rowBlk vs, f) := by
  refine ⟨.cells cs e, cs.size, v, _, hrun, rfl, rfl, rfl, fun id hid => ⟨?_, hf _ _ (Pls.up_same _ _ _)⟩⟩
  rw [allOne_eq, List.all_eq_true] at hone
  refine BR.row (extra := []) (e := e) (hv.mono (Pls.le_up hid)) hone (Pls.up_same _ _ _) rfl rfl (by simp) (fz := (0, 0)) (fun i _ hh => by simp at hh) ?_
  show (w.heap.push _)[w.heap.size]? = _
  simp

theorem wrap_small {n : Int} (h0 : 0 ≤ n) (h1 : n < 2 ^ 40) : IntKind.i64.wrap n = n := by
  obtain ⟨k, rfl⟩ := Int.eq_ofNat_of_zero_le h0
  exact wrap_fit (show k ≤ maxK .i64 by simp only [maxK]; omega)

theorem ptrTo_VR {σ : Pls} {id n sz : Nat} (hs : σ id = some ⟨n, 0, sz⟩) : VR σ (ptrTo id) (.pointer (some ⟨n, 0, none⟩)) := ⟨_, hs, rfl⟩

theorem allocN_sound {t : TypeId} {r : Blk × (Nat → AV)} (hr : allocN P t = some r) : Makes P keep w ρ (Instr.alloc t true (.tuple #[])) r := by
  unfold allocN at hr
  cases hz : tZero P t with
  | none => rw [hz] at hr; cases hr
  | some z =>
    rw [hz] at hr
    obtain ⟨h1, h2⟩ := iff'_some.1 (show iff' (allOne z.cells) (some (.cells (fillC z.cells .leaf 0) (tyMark t true) (len' z.cells) false, ptrTo)) = some r from hr)
    cases h2
    obtain ⟨v, rz, vz⟩ := run_zeroT (w := w) (ρ := ρ) hz
    refine Makes.rowM (e := t) vz.cells h1 ?_ (fun σ id hs => ptrTo_VR hs) true
    simp [Instr.alloc, rz, newVar, newRow]

theorem box1_sound {t : TypeId} {x : AV} {a : Value} {r : Blk × (Nat → AV)} (hr : box1 x = some r) (hx : VR ρ x a) : Makes P keep w ρ (Instr.box t a) r := by
  obtain ⟨h1, h2⟩ := iff'_some.1 (show iff' (allOne x.cells) (some (rowBlk x.cells, ptrTo)) = some r from hr)
  cases h2
  refine Makes.row (e := t) hx.cells h1 ?_ (fun σ id hs => ptrTo_VR hs)
  simp [Instr.box, newVar, newRow]

theorem zeros_get {zs : List AV} {za : Array Value} (hz : VRs ρ zs za.toList) (len : Nat) : VRs ρ (List.replicate len zs).flatten ((Array.range (len * zs.length)).map (za[· % za.size]!)).toList := by
  have hl : za.size = zs.length := by have := hz.length; simpa using this.symm
  refine VRs.of_get (by simp) fun i x hx => ?_
  have hi : i < len * zs.length := by
    have := (List.getElem?_eq_some_iff.1 hx).1
    simpa using this
  have hpos : 0 < zs.length := by
    rcases Nat.eq_zero_or_pos zs.length with h | h
    · rw [h] at hi; simp at hi
    · exact h
  have hget : ∀ (n i : Nat), (List.replicate n zs).flatten[i]? = if i < n * zs.length then zs[i % zs.length]? else none := by
    intro n
    induction n with
    | zero => intro i; simp
    | succ n ih =>
      intro i
      rw [List.replicate_succ, List.flatten_cons]
      by_cases h : i < zs.length
      · rw [List.getElem?_append_left h, Nat.mod_eq_of_lt h, if_pos]
        rw [Nat.add_mul]; omega
      · rw [List.getElem?_append_right (by omega), ih]
        have : (i - zs.length) % zs.length = i % zs.length := by
          conv => rhs; rw [show i = i - zs.length + zs.length by omega, Nat.add_mod_right]
        rw [this]
        by_cases h2 : i - zs.length < n * zs.length
        · rw [if_pos h2, if_pos (by rw [Nat.add_mul]; omega)]
        · rw [if_neg h2, if_neg (by rw [Nat.add_mul]; omega)]
  rw [hget, if_pos hi] at hx
  obtain ⟨v, h1, h2⟩ := hz.get _ _ hx
  refine ⟨v, ?_, h2⟩
  rw [Array.getElem?_toList] at h1
  simp only [Array.toList_map, Array.toList_range, List.getElem?_map, List.getElem?_range hi, Option.map_some]
  rw [hl, getElem!_pos _ _ (by have := Nat.mod_lt i hpos; omega)]
  rw [Array.getElem?_eq_getElem (by have := Nat.mod_lt i hpos; omega)] at h1
  exact h1

theorem sliceTo_VR {σ : Pls} {id n sz len : Nat} (hs : σ id = some ⟨n, 0, sz⟩) : VR σ (sliceTo len id) (.slice (some ⟨n, 0, none⟩) len len) :=
  ⟨_, _, _, hs, rfl, Nat.le_refl _, Nat.le_refl _, fun _ => rfl, (fun es e => by cases e), fun _ => rfl⟩

theorem buildSliceN_sound {t : TypeId} {len : Nat} {vs : List AV} {ps : Array (Nat × Value)} {r : Blk × (Nat → AV)} (hr : buildSliceN P t len (ps.toList.map (·.1)) vs = some r) (hv : VRs ρ vs (ps.toList.map (·.2))) :
    Makes P keep w ρ (Instr.buildSlice t len ps) r := by
  unfold buildSliceN at hr
  cases hu : P.underlying t with
  | none => rw [hu] at hr; cases hr
  | some d =>
    cases d with
    | slice e =>
      cases hs : tSize P e with
      | none => simp only [hu, hs] at hr; cases hr
      | some s =>
        cases hz : tZero P e with
        | none => simp only [hu, hs, hz] at hr; cases hr
        | some z =>
          simp only [hu, hs, hz] at hr
          by_cases hc : len * s ≤ 2 ^ 24 ∧ z.cells.length = s
          · rw [if_pos hc] at hr
            cases hpls : placesOf (fun i => some (i * s, s)) (len * s) (ps.toList.map (·.1)) with
            | none => rw [hpls] at hr; cases hr
            | some pls =>
              rw [hpls] at hr
              simp only at hr
              cases hf : fillB pls vs (rep' len z.cells) with
              | none => rw [hf] at hr; cases hr
              | some cs =>
                rw [hf] at hr
                obtain ⟨h1, h2⟩ := iff'_some.1 (show iff' (allOne cs) (some (rowBlk cs, sliceTo len)) = some r from hr)
                cases h2
                obtain ⟨zv, rz, vz⟩ := run_zeroT (w := w) (ρ := ρ) hz
                have hzl : (rep' len z.cells).length = len * s := by rw [rep'_eq]; simp [hc.2]
                have key : ∀ (za : Array Value), (len * s = 0 ∨ za = zv.cells) → ∃ ra, Instr.fill (fun i => some (i * s, s)) ((Array.range (len * s)).map (za[· % za.size]!)) ps.toList = some ra ∧ VRs ρ cs ra.toList := by
                  intro za hza
                  have hzs : VRs ρ (rep' len z.cells) ((Array.range (len * s)).map (za[· % za.size]!)).toList := by
                    rcases hza with h0 | rfl
                    · rw [h0]
                      have : (rep' len z.cells) = [] := List.length_eq_zero_iff.1 (by omega)
                      rw [this]; simp [VRs]
                    · rw [rep'_eq, ← hc.2]; exact zeros_get vz.cells len
                  obtain ⟨ra, g1, g2, _⟩ := fillB_sound (ps := ps.toList) (place := fun i => some (i * s, s)) hf (by rw [hzl]; exact hpls) hv hzs
                  exact ⟨ra, g1, g2⟩
                by_cases h0 : len * s = 0
                · obtain ⟨ra, g1, g2⟩ := key #[] (.inl h0)
                  refine Makes.row (e := e) g2 h1 ?_ (fun σ id hs => sliceTo_VR hs)
                  simp only [h0] at g1
                  simp only [Instr.buildSlice, Sem.run_bind, run_underlying hu, Result.andThen_ok, run_sizeT hs]
                  rw [if_neg (by omega), if_pos h0]
                  simp only [Sem.run_pure, Result.andThen_ok, Sem.run_bind, h0, g1]
                  rfl
                · obtain ⟨ra, g1, g2⟩ := key zv.cells (.inr rfl)
                  refine Makes.row (e := e) g2 h1 ?_ (fun σ id hs => sliceTo_VR hs)
                  simp only [Instr.buildSlice, Sem.run_bind, run_underlying hu, Result.andThen_ok, run_sizeT hs]
                  rw [if_neg (by omega), if_neg h0]
                  simp only [Sem.run_pure, Result.andThen_ok, Sem.run_bind, rz, g1]
                  rfl
          · rw [if_neg hc] at hr; cases hr
    | _ => simp only [hu] at hr; cases hr

theorem makeMap_block {t : TypeId} {r : Blk × (Nat → AV)} (hr : makeMap1 P t true = some r) {s : Sem Value} (hs : s.run P w = .ok (.map (some w.heap.size)) { w with heap := w.heap.push (.map #[] 0) }) : Makes P keep w ρ s r := by
  unfold makeMap1 at hr
  split at hr
  · cases hr
    refine ⟨.map #[] 0, 0, _, _, hs, rfl, rfl, rfl, fun id hid => ⟨⟨_, #[], Pls.up_same _ _ _, rfl, ?_, rfl⟩, _, Pls.up_same _ _ _, rfl, rfl⟩⟩
    show (w.heap.push _)[w.heap.size]? = _
    simp
  · cases hr
theorem makeMap0_sound {t : TypeId} {r : Blk × (Nat → AV)} (hr : makeMap1 P t true = some r) : Makes P keep w ρ (Instr.makeMap t none) r :=
  makeMap_block hr (by simp [Instr.makeMap])
theorem makeMap1_sound {t : TypeId} {x : AV} {a : Value} {r : Blk × (Nat → AV)} (hr : eInt (fun _ _ => makeMap1 P t true) x = some r) (hx : VR ρ x a) : Makes P keep w ρ (Instr.makeMap t (some a)) r := by
  obtain ⟨k, n, rfl, g⟩ := eInt_some hr
  cases hx
  have hu : ∃ kt e, P.underlying t = some (.map kt e) := by
    unfold makeMap1 at g
    split at g
    · exact ⟨_, _, by assumption⟩
    · cases g
  obtain ⟨kt, e, hu⟩ := hu
  exact makeMap_block g (by simp [Instr.makeMap, run_underlying hu, asInt, asIntOf])

theorem makeSlice2_sound {t : TypeId} {x y : AV} {a b : Value} {r : Blk × (Nat → AV)} (hr : makeSlice2 P t x y = some r) (hx : VR ρ x a) (hy : VR ρ y b) : Makes P keep w ρ (Instr.makeSlice t a b) r := by
  unfold makeSlice2 at hr
  cases hu : P.underlying t with
  | none => rw [hu] at hr; cases hr
  | some d =>
    cases d with
    | slice e =>
      cases hs : tSize P e with
      | none => simp only [hu, hs] at hr; cases hr
      | some s =>
        cases hz : tZero P e with
        | none => simp only [hu, hs, hz] at hr; cases hr
        | some z =>
          cases hb : tBytes P e with
          | none => simp only [hu, hs, hz, hb] at hr; cases hr
          | some bs =>
            simp only [hu, hs, hz, hb] at hr
            obtain ⟨k, n, rfl, g1⟩ := eInt_some hr
            obtain ⟨k', m, rfl, g2⟩ := eInt_some g1
            split at g2
            · rename_i hc
              obtain ⟨c1, c2, c3, c4, c5, c6⟩ := hc
              cases g2
              cases hx; cases hy
              obtain ⟨zv, rz, vz⟩ := run_zeroT (w := w) (ρ := ρ) hz
              obtain ⟨inf, ri, ib⟩ := run_bytesT (w := w) hb
              have wn : IntKind.i64.wrap n = n := wrap_small (by omega) (by omega)
              have wm : IntKind.i64.wrap m = m := wrap_small (by omega) (by omega)
              have hzl : zv.cells.size = s := by have := vz.cells.length; rw [c5] at this; simpa using this.symm
              let za : Array Value := if m.toNat * s = 0 then #[] else zv.cells
              let row : Array Value := (Array.range (m.toNat * s)).map (za[· % za.size]!)
              refine ⟨.cells row e, m.toNat * s, .slice (some ⟨w.heap.size, 0, none⟩) n.toNat m.toNat, { w with heap := w.heap.push (.cells row e) }, ?_, rfl, rfl, rfl, fun id hid => ⟨?_, ?_⟩⟩
              · simp only [Instr.makeSlice, Sem.run_bind, run_underlying hu, Result.andThen_ok, asInt, asIntOf, Sem.run_pure, ri, ib, wn, wm]
                have t1 : ((m < 0 || decide ((bs : Int) * m > 2 ^ 48)) || decide (n < 0) || decide (n > m)) = false := by
                  simp only [Bool.or_eq_false_iff, decide_eq_false_iff_not]
                  refine ⟨⟨⟨by omega, by omega⟩, by omega⟩, by omega⟩
                simp only [t1]
                simp only [Bool.false_eq_true, if_false, Sem.run_bind, run_askRoom, Result.andThen_ok]
                by_cases h0 : m.toNat * s = 0
                · simp [h0, newRow, row, za, run_sizeT hs]
                · simp [h0, rz, newRow, row, za, run_sizeT hs]
              · refine ⟨⟨w.heap.size, 0, m.toNat * s⟩, row, e, (0, 0), Pls.up_same _ _ _, by show (w.heap.push _)[w.heap.size]? = _; simp, by simp [row], by simp, fun i hi => ?_, fun _ i _ hh => by simp at hh, markOk_one (fun v hv => by have := c6; rw [allOne_eq, List.all_eq_true] at this; exact this v hv)⟩
                have hpos : 0 < s := by rcases Nat.eq_zero_or_pos s with h | h; · rw [h] at hi; simp at hi
                                        · exact h
                have hm := Nat.mod_lt i hpos
                have hne : ¬ m.toNat * s = 0 := by omega
                have hlt : i % s < z.cells.length := by rw [c5]; exact hm
                obtain ⟨cv, g1, g2⟩ := vz.cells.get (i % s) z.cells[i % s] (List.getElem?_eq_getElem hlt)
                refine ⟨z.cells[i % s], cv, ?_, ?_, ?_, g2.mono (Pls.le_up hid)⟩
                · show (nth z.cells (Nat.mod i (len' z.cells))) = _
                  rw [nth_eq, len'_eq, c5]; exact List.getElem?_eq_getElem hlt
                · rw [allOne_eq, List.all_eq_true] at c6; exact c6 _ (List.getElem_mem _)
                · simp only [row, za, if_neg hne, Nat.zero_add]
                  rw [Array.getElem?_map, Array.getElem?_range, if_pos hi]
                  rw [Array.getElem?_toList] at g1
                  simp only [Option.map_some, hzl]
                  rw [getElem!_pos _ _ (by omega)]
                  rw [Array.getElem?_eq_getElem (by omega)] at g1
                  exact g1
              · exact ⟨_, _, _, Pls.up_same _ _ _, rfl, by omega, Nat.le_refl _, fun _ => rfl, (fun es e => by cases e), fun _ => by simp⟩
            · cases g2
    | _ => simp only [hu] at hr; cases hr

theorem bytesV_eq (l : List Nat) : bytesV l = l.map byteV := by
  induction l with
  | nil => rfl
  | cons c l ih => show byteV c :: bytesV l = _; rw [ih]; rfl
theorem bytesV_VRs (s : ByteArray) : VRs ρ (bytesV (s.data.toList.map (·.toNat))) (s.data.map fun b => Value.int .u8 b.toNat).toList := by
  rw [bytesV_eq]
  refine VRs.of_get (by simp) fun i x hx => ?_
  simp only [List.map_map, List.getElem?_map, Option.map_eq_some_iff] at hx
  obtain ⟨u, hu, rfl⟩ := hx
  refine ⟨.int .u8 u.toNat, ?_, rfl⟩
  rw [Array.getElem?_toList] at hu
  rw [Array.getElem?_toList, Array.getElem?_map, hu]; rfl

theorem toBytes1_sound {e : TypeId} {x : AV} {a : Value} {r : Blk × (Nat → AV)} {s d : TypeId} (hs : P.underlying s = some .string) (hd : P.underlying d = some (.slice e)) (hr : toBytes1 P e x = some r) (hx : VR ρ x a) :
    Makes P keep w ρ (convert s d a) r := by
  unfold toBytes1 at hr
  cases hu : P.underlying e with
  | none => rw [hu] at hr; cases hr
  | some de =>
    rw [hu] at hr
    have hk : de = .int .u8 := by
      cases de with
      | int k => cases k <;> first | rfl | (exfalso; cases hr)
      | _ => exfalso; cases hr
    subst hk
    · cases x with
      | str l =>
        cases hr
        obtain ⟨sb, rfl, rfl⟩ := hx
        let cap := (Question.appendCap sb.size 0 e).cut (w.tape w.drawn (.appendCap sb.size 0 e))
        let row : Array Value := (sb.data.map fun b => Value.int .u8 b.toNat) ++ Array.replicate (cap - sb.size) (.int .u8 0)
        have hcap : sb.size ≤ cap := by simp only [cap, Question.cut]; omega
        have hrow : row.size = cap := by simp only [row, Array.size_append, Array.size_map, Array.size_replicate]; have : sb.data.size = sb.size := rfl; omega
        refine ⟨.cells row e (cap, cap + 1), cap, .slice (some ⟨w.heap.size, 0, none⟩) sb.size cap, { w with heap := w.heap.push (.cells row e (cap, cap + 1)), drawn := w.drawn + 1 }, ?_, rfl, rfl, rfl, fun id hid => ⟨?_, ?_⟩⟩
        · have hf : (Question.appendCap sb.size 0 e).forced = false := rfl
          simp only [convert, Sem.run_bind, run_underlying hs, run_underlying hd, run_underlying hu, Result.andThen_ok]
          simp only [Conv.stringToBytes, Sem.run_bind, run_choose, hf, Bool.false_eq_true, if_false, Result.andThen_ok]
          simp only [newRow, Sem.run_bind, run_newObj, Result.andThen_ok, Sem.run_pure, markStringish, run_shape]
          have hsh : World.shape? { w with heap := w.heap.push (.cells row e), drawn := w.drawn + 1 } w.heap.size = some (e, cap) := by
            simp [World.shape?, hrow]
          simp only [row, cap] at hsh ⊢
          rw [hsh]
          simp only [run_freeze, Result.andThen_ok]
          congr 1
          simp only [World.freeze]
          rw [if_neg (by simp)]
          congr 1
          apply Array.ext_getElem?
          intro i
          rw [Array.getElem?_modify]
          by_cases hi : w.heap.size = i
          · subst hi; simp
          · rw [if_neg hi, Array.getElem?_push, Array.getElem?_push, if_neg (fun h => hi h.symm), if_neg (fun h => hi h.symm)]
        · have hb := bytesV_VRs (ρ := ρ.up id ⟨w.heap.size, 0, cap⟩) sb
          have hlen : sb.data.size = sb.size := rfl
          refine ⟨⟨w.heap.size, 0, cap⟩, row, e, (cap, cap + 1), Pls.up_same _ _ _, by show (w.heap.push _)[w.heap.size]? = _; simp, hrow, ?_, fun i hi => ?_, fun _ i hi hh => by simp only at hi hh; omega, markOk_nil⟩
          · simp only [len'_eq, List.length_map, Array.length_toList]; omega
          · simp only [len'_eq, List.length_map, Array.length_toList] at hi
            have hi' : i < (bytesV (sb.data.toList.map (·.toNat))).length := by rw [bytesV_eq]; simpa using hi
            obtain ⟨cv, g1, g2⟩ := hb.get i _ (List.getElem?_eq_getElem hi')
            refine ⟨_, cv, ?_, ?_, ?_, g2⟩
            · unfold cellAt
              rw [gt_fillC, if_pos (by omega), Nat.sub_zero, List.getElem?_eq_getElem hi']
            · simp only [bytesV_eq, List.getElem_map]; rfl
            · rw [Array.getElem?_toList] at g1
              simp only [row, Nat.zero_add]
              rw [Array.getElem?_append_left (by simpa using hi)]; exact g1
        · have hlen : (sb.data.toList.map (·.toNat)).length = sb.size := (size_bytes sb).symm
          rw [len'_eq, hlen]
          exact ⟨_, _, _, Pls.up_same _ _ _, rfl, hcap, hcap, (fun e => by cases e), (fun es e => by cases e; simp), fun _ => by simp⟩
      | _ => cases hr

theorem ofBytes1_sound {e : TypeId} {x r : AV} {a : Value} {s d : TypeId} (hr0 : HR P keep ρ h w) (hs : P.underlying s = some (.slice e)) (hd : P.underlying d = some .string) (hr : ofBytes1 P e x h = some r) (hx : VR ρ x a) :
    Gives P w ρ (convert s d a) r := by
  unfold ofBytes1 at hr
  cases hu : P.underlying e with
  | none => rw [hu] at hr; cases hr
  | some de =>
    rw [hu] at hr
    split at hr
    · rename_i hk
      cases hk
      split at hr
      · cases hr
        obtain ⟨_, _, _, rfl⟩ := hx
        refine ⟨.string .empty, ?_, _, rfl, rfl⟩
        simp [convert, run_underlying hs, run_underlying hd, run_underlying hu, Conv.bytesToString]
      · rename_i b off n _ _
        split at hr
        · rename_i vs hl
          cases hb : bytesOf vs with
          | none => rw [hb] at hr; cases hr
          | some l =>
            rw [hb] at hr; cases hr
            obtain ⟨p, cs, hp, hvs, hn, _, hc⟩ := hr0.ld hl
            obtain ⟨p', a', c', hp', rfl, hle, _, _, _, ha⟩ := hx
            rw [hp] at hp'; cases hp'
            obtain ⟨hcs, hlt⟩ := bytesOf_sound hb hvs
            have hrun : (loadCells a' n).run P w = .ok cs.toArray w := by
              by_cases hc0 : c' = 0
              · obtain rfl : n = 0 := by omega
                have : cs = [] := List.length_eq_zero_iff.1 hn
                subst this; rfl
              · rw [ha hc0]; exact run_loadRun hn (fun j u hj => by rw [add_addr]; exact hc j u hj)
            have key : ∀ (f : Value → ByteArray → Sem (ForInStep ByteArray)), (∀ (n : Nat) s, f (.int .u8 n) s = pure (ForInStep.yield (s.push (UInt8.ofNat n)))) →
                ∀ (l : List Nat) (s0 : ByteArray), (forIn (l.map fun (n : Nat) => Value.int .u8 n) s0 f).run P w = .ok ⟨s0.data ++ (l.map UInt8.ofNat).toArray⟩ w := by
              intro f hf l
              induction l with
              | nil => intro s0; simp
              | cons c l ih =>
                intro s0
                rw [List.map_cons, List.forIn_cons, hf]
                simp only [Sem.run_bind, Sem.run_pure, Result.andThen_ok]
                rw [ih]
                congr 2
                show s0.data.push _ ++ _ = _
                simp
            refine ⟨.string ⟨(l.map UInt8.ofNat).toArray⟩, ?_, _, rfl, ?_⟩
            · simp only [convert, Sem.run_bind, run_underlying hs, run_underlying hd, run_underlying hu, Result.andThen_ok, Conv.bytesToString, hrun]
              rw [← Array.forIn_toList]
              simp only [hcs]
              rw [key _ (fun n s => rfl) l .empty]
              simp only [Result.andThen_ok, Sem.run_pure]
              congr 2
              show (⟨#[] ++ _⟩ : ByteArray) = _
              simp
            · simp only [List.map_map]
              conv => rhs; rw [← List.map_id l]
              apply List.map_congr_left
              intro c hc
              have := hlt c hc
              simp only [Function.comp, id, UInt8.toNat_ofNat']
              omega
        · cases hr
      · cases hr
    · cases hr
end
end Go.Am

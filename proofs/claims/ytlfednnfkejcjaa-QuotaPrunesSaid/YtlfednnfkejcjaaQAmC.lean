/-
  AM, 9: new blocks.
-/
import Derived.Test.YtlfednnfkejcjaaQAmB
import Derived.Lib.OthersKept
import Derived.Laws.Append
import Derived.Lib.UnsafeStr
import Derived.Lib.Builder
import Derived.Lib.Bytealg
import Derived.KernelRfl
set_option linter.unusedVariables false
set_option linter.unusedSimpArgs false

namespace Go.Am
section
variable {P : Program} {keep : Keeps} {w : World} {ρ : Pls} {h : Heap}

/-- the model's run makes one block, for which the abstract one stands, under whatever number -/
def Makes (P : Program) (keep : Keeps) (w : World) (ρ : Pls) (s : Sem Value) (r : Blk × (Nat → AV)) : Prop :=
  ∃ o sz v w', s.run P w = .ok v w' ∧ w'.os = w.os ∧ w'.output = w.output ∧ w'.heap = w.heap.push o ∧
    ∀ id, ρ id = none → BR P keep (ρ.up id ⟨w.heap.size, 0, sz⟩) id r.1 w' ∧ VR (ρ.up id ⟨w.heap.size, 0, sz⟩) (r.2 id) v

theorem Makes.rowM {s : Sem Value} {vs : List AV} {cs : Array Value} {e : TypeId} {f : Nat → AV} {v : Value} (hv : VRs ρ vs cs.toList) (hone : allOne vs = true)
    (hrun : s.run P w = .ok v { w with heap := w.heap.push (.cells cs e) }) (hf : ∀ σ : Pls, ∀ id, σ id = some ⟨w.heap.size, 0, cs.size⟩ → VR σ (f id) v) (x : Bool) : Makes P keep w ρ s (.cells (fillC vs .leaf 0) (tyMark e x) (len' vs) false, f) := by
  refine ⟨.cells cs e, cs.size, v, _, hrun, rfl, rfl, rfl, fun id hid => ⟨?_, hf _ _ (Pls.up_same _ _ _)⟩⟩
  rw [allOne_eq, List.all_eq_true] at hone
  refine BR.rowM (extra := []) (e := e) (hv.mono (Pls.le_up hid)) hone (Pls.up_same _ _ _) rfl rfl (by simp) (fz := (0, 0)) (fun i _ hh => by simp at hh) ?_ ?_
  · show (w.heap.push _)[w.heap.size]? = _
    simp
  · intro t y ht
    simp only [tyMark, List.cons.injEq, AV.tuple.injEq, AV.int.injEq, AV.bool.injEq, and_true, true_and] at ht
    refine ⟨by have := ht.1; exact Int.ofNat_inj.1 this, fun _ => ⟨rfl, ?_⟩⟩
    have := hv.length
    simpa using this.symm
theorem Makes.row {s : Sem Value} {vs : List AV} {cs : Array Value} {e : TypeId} {f : Nat → AV} {v : Value} (hv : VRs ρ vs cs.toList) (hone : allOne vs = true)
    (hrun : s.run P w = .ok v { w with heap := w.heap.push (.cells cs e) }) (hf : ∀ σ : Pls, ∀ id, σ id = some ⟨w.heap.size, 0, cs.size⟩ → VR σ (f id) v) : Makes P keep w ρ s (rowBlk vs, f) := by
  refine ⟨.cells cs e, cs.size, v, _, hrun, rfl, rfl, rfl, fun id hid => ⟨?_, hf _ _ (Pls.up_same _ _ _)⟩⟩
  rw [allOne_eq, List.all_eq_true] at hone
  refine BR.row (extra := []) (e := e) (hv.mono (Pls.le_up hid)) hone (Pls.up_same _ _ _) rfl rfl (by simp) (fz := (0, 0)) (fun i _ hh => by simp at hh) ?_
  show (w.heap.push _)[w.heap.size]? = _
  simp

theorem wrap_small {n : Int} (h0 : 0 ≤ n) (h1 : n < 2 ^ 40) : IntKind.i64.wrap n = n := by
  obtain ⟨k, rfl⟩ := Int.eq_ofNat_of_zero_le h0
  exact wrap_fit (show k ≤ maxK .i64 by simp only [maxK]; omega)

theorem ptrTo_VR {σ : Pls} {id n sz : Nat} (hs : σ id = some ⟨n, 0, sz⟩) : VR σ (ptrTo id) (.pointer (some ⟨n, 0, none⟩)) := ⟨_, hs, rfl⟩

theorem allocN_sound {t : TypeId} {r : Blk × (Nat → AV)} (hr : allocN P t = some r) : Makes P keep w ρ (Instr.alloc t true (.tuple #[])) r := by
  unfold allocN at hr
  cases hz : tZero P t with
  | none => rw [hz] at hr; cases hr
  | some z =>
    rw [hz] at hr
    obtain ⟨h1, h2⟩ := iff'_some.1 (show iff' (allOne z.cells) (some (.cells (fillC z.cells .leaf 0) (tyMark t true) (len' z.cells) false, ptrTo)) = some r from hr)
    cases h2
    obtain ⟨v, rz, vz⟩ := run_zeroT (w := w) (ρ := ρ) hz
    refine Makes.rowM (e := t) vz.cells h1 ?_ (fun σ id hs => ptrTo_VR hs) true
    simp [Instr.alloc, rz, newVar, newRow]

theorem box1_sound {t : TypeId} {x : AV} {a : Value} {r : Blk × (Nat → AV)} (hr : box1 x = some r) (hx : VR ρ x a) : Makes P keep w ρ (Instr.box t a) r := by
  obtain ⟨h1, h2⟩ := iff'_some.1 (show iff' (allOne x.cells) (some (rowBlk x.cells, ptrTo)) = some r from hr)
  cases h2
  refine Makes.row (e := t) hx.cells h1 ?_ (fun σ id hs => ptrTo_VR hs)
  simp [Instr.box, newVar, newRow]

theorem zeros_get {zs : List AV} {za : Array Value} (hz : VRs ρ zs za.toList) (len : Nat) : VRs ρ (List.replicate len zs).flatten ((Array.range (len * zs.length)).map (za[· % za.size]!)).toList := by
  have hl : za.size = zs.length := by have := hz.length; simpa using this.symm
  refine VRs.of_get (by simp) fun i x hx => ?_
  have hi : i < len * zs.length := by
    have := (List.getElem?_eq_some_iff.1 hx).1
    simpa using this
  have hpos : 0 < zs.length := by
    rcases Nat.eq_zero_or_pos zs.length with h | h
    · rw [h] at hi; simp at hi
    · exact h
  have hget : ∀ (n i : Nat), (List.replicate n zs).flatten[i]? = if i < n * zs.length then zs[i % zs.length]? else none := by
    intro n
    induction n with
    | zero => intro i; simp
    | succ n ih =>
      intro i
      rw [List.replicate_succ, List.flatten_cons]
      by_cases h : i < zs.length
      · rw [List.getElem?_append_left h, Nat.mod_eq_of_lt h, if_pos]
        rw [Nat.add_mul]; omega
      · rw [List.getElem?_append_right (by omega), ih]
        have : (i - zs.length) % zs.length = i % zs.length := by
          conv => rhs; rw [show i = i - zs.length + zs.length by omega, Nat.add_mod_right]
        rw [this]
        by_cases h2 : i - zs.length < n * zs.length
        · rw [if_pos h2, if_pos (by rw [Nat.add_mul]; omega)]
        · rw [if_neg h2, if_neg (by rw [Nat.add_mul]; omega)]
  rw [hget, if_pos hi] at hx
  obtain ⟨v, h1, h2⟩ := hz.get _ _ hx
  refine ⟨v, ?_, h2⟩
  rw [Array.getElem?_toList] at h1
  simp only [Array.toList_map, Array.toList_range, List.getElem?_map, List.getElem?_range hi, Option.map_some]
  rw [hl, getElem!_pos _ _ (by have := Nat.mod_lt i hpos; omega)]
  rw [Array.getElem?_eq_getElem (by have := Nat.mod_lt i hpos; omega)] at h1
  exact h1

theorem sliceTo_VR {σ : Pls} {id n sz len : Nat} (hs : σ id = some ⟨n, 0, sz⟩) : VR σ (sliceTo len id) (.slice (some ⟨n, 0, none⟩) len len) :=
  ⟨_, _, _, hs, rfl, Nat.le_refl _, Nat.le_refl _, fun _ => rfl, (fun es e => by cases e), fun _ => rfl⟩

theorem buildSliceN_sound {t : TypeId} {len : Nat} {vs : List AV} {ps : Array (Nat × Value)} {r : Blk × (Nat → AV)} (hr : buildSliceN P t len (ps.toList.map (·.1)) vs = some r) (hv : VRs ρ vs (ps.toList.map (·.2))) :
    Makes P keep w ρ (Instr.buildSlice t len ps) r := by
  unfold buildSliceN at hr
  cases hu : P.underlying t with
  | none => rw [hu] at hr; cases hr
  | some d =>
    cases d with
    | slice e =>
      cases hs : tSize P e with
      | none => simp only [hu, hs] at hr; cases hr
      | some s =>
        cases hz : tZero P e with
        | none => simp only [hu, hs, hz] at hr; cases hr
        | some z =>
          simp only [hu, hs, hz] at hr
          by_cases hc : len * s ≤ 2 ^ 24 ∧ z.cells.length = s
          · rw [if_pos hc] at hr
            cases hpls : placesOf (fun i => some (i * s, s)) (len * s) (ps.toList.map (·.1)) with
            | none => rw [hpls] at hr; cases hr
            | some pls =>
              rw [hpls] at hr
              simp only at hr
              cases hf : fillB pls vs (rep' len z.cells) with
              | none => rw [hf] at hr; cases hr
              | some cs =>
                rw [hf] at hr
                obtain ⟨h1, h2⟩ := iff'_some.1 (show iff' (allOne cs) (some (rowBlk cs, sliceTo len)) = some r from hr)
                cases h2
                obtain ⟨zv, rz, vz⟩ := run_zeroT (w := w) (ρ := ρ) hz
                have hzl : (rep' len z.cells).length = len * s := by rw [rep'_eq]; simp [hc.2]
                have key : ∀ (za : Array Value), (len * s = 0 ∨ za = zv.cells) → ∃ ra, Instr.fill (fun i => some (i * s, s)) ((Array.range (len * s)).map (za[· % za.size]!)) ps.toList = some ra ∧ VRs ρ cs ra.toList := by
                  intro za hza
                  have hzs : VRs ρ (rep' len z.cells) ((Array.range (len * s)).map (za[· % za.size]!)).toList := by
                    rcases hza with h0 | rfl
                    · rw [h0]
                      have : (rep' len z.cells) = [] := List.length_eq_zero_iff.1 (by omega)
                      rw [this]; simp [VRs]
                    · rw [rep'_eq, ← hc.2]; exact zeros_get vz.cells len
                  obtain ⟨ra, g1, g2, _⟩ := fillB_sound (ps := ps.toList) (place := fun i => some (i * s, s)) hf (by rw [hzl]; exact hpls) hv hzs
                  exact ⟨ra, g1, g2⟩
                by_cases h0 : len * s = 0
                · obtain ⟨ra, g1, g2⟩ := key #[] (.inl h0)
                  refine Makes.row (e := e) g2 h1 ?_ (fun σ id hs => sliceTo_VR hs)
                  simp only [h0] at g1
                  simp only [Instr.buildSlice, Sem.run_bind, run_underlying hu, Result.andThen_ok, run_sizeT hs]
                  rw [if_neg (by omega), if_pos h0]
                  simp only [Sem.run_pure, Result.andThen_ok, Sem.run_bind, h0, g1]
                  rfl
                · obtain ⟨ra, g1, g2⟩ := key zv.cells (.inr rfl)
                  refine Makes.row (e := e) g2 h1 ?_ (fun σ id hs => sliceTo_VR hs)
                  simp only [Instr.buildSlice, Sem.run_bind, run_underlying hu, Result.andThen_ok, run_sizeT hs]
                  rw [if_neg (by omega), if_neg h0]
                  simp only [Sem.run_pure, Result.andThen_ok, Sem.run_bind, rz, g1]
                  rfl
          · rw [if_neg hc] at hr; cases hr
    | _ => simp only [hu] at hr; cases hr

theorem makeMap_block {t : TypeId} {r : Blk × (Nat → AV)} (hr : makeMap1 P t true = some r) {s : Sem Value} (hs : s.run P w = .ok (.map (some w.heap.size)) { w with heap := w.heap.push (.map #[] 0) }) : Makes P keep w ρ s r := by
  unfold makeMap1 at hr
  split at hr
  · cases hr
    refine ⟨.map #[] 0, 0, _, _, hs, rfl, rfl, rfl, fun id hid => ⟨⟨_, #[], Pls.up_same _ _ _, rfl, ?_, rfl⟩, _, Pls.up_same _ _ _, rfl, rfl⟩⟩
    show (w.heap.push _)[w.heap.size]? = _
    simp
  · cases hr
theorem makeMap0_sound {t : TypeId} {r : Blk × (Nat → AV)} (hr : makeMap1 P t true = some r) : Makes P keep w ρ (Instr.makeMap t none) r :=
  makeMap_block hr (by simp [Instr.makeMap])
theorem makeMap1_sound {t : TypeId} {x : AV} {a : Value} {r : Blk × (Nat → AV)} (hr : eInt (fun _ _ => makeMap1 P t true) x = some r) (hx : VR ρ x a) : Makes P keep w ρ (Instr.makeMap t (some a)) r := by
  obtain ⟨k, n, rfl, g⟩ := eInt_some hr
  cases hx
  have hu : ∃ kt e, P.underlying t = some (.map kt e) := by
    unfold makeMap1 at g
    split at g
    · exact ⟨_, _, by assumption⟩
    · cases g
  obtain ⟨kt, e, hu⟩ := hu
  exact makeMap_block g (by simp [Instr.makeMap, run_underlying hu, asInt, asIntOf])

theorem makeSlice2_sound {t : TypeId} {x y : AV} {a b : Value} {r : Blk × (Nat → AV)} (hr : makeSlice2 P t x y = some r) (hx : VR ρ x a) (hy : VR ρ y b) : Makes P keep w ρ (Instr.makeSlice t a b) r := by
  unfold makeSlice2 at hr
  cases hu : P.underlying t with
  | none => rw [hu] at hr; cases hr
  | some d =>
    cases d with
    | slice e =>
      cases hs : tSize P e with
      | none => simp only [hu, hs] at hr; cases hr
      | some s =>
        cases hz : tZero P e with
        | none => simp only [hu, hs, hz] at hr; cases hr
        | some z =>
          cases hb : tBytes P e with
          | none => simp only [hu, hs, hz, hb] at hr; cases hr
          | some bs =>
            simp only [hu, hs, hz, hb] at hr
            obtain ⟨k, n, rfl, g1⟩ := eInt_some hr
            obtain ⟨k', m, rfl, g2⟩ := eInt_some g1
            split at g2
            · rename_i hc
              obtain ⟨c1, c2, c3, c4, c5, c6⟩ := hc
              cases g2
              cases hx; cases hy
              obtain ⟨zv, rz, vz⟩ := run_zeroT (w := w) (ρ := ρ) hz
              obtain ⟨inf, ri, ib⟩ := run_bytesT (w := w) hb
              have wn : IntKind.i64.wrap n = n := wrap_small (by omega) (by omega)
              have wm : IntKind.i64.wrap m = m := wrap_small (by omega) (by omega)
              have hzl : zv.cells.size = s := by have := vz.cells.length; rw [c5] at this; simpa using this.symm
              let za : Array Value := if m.toNat * s = 0 then #[] else zv.cells
              let row : Array Value := (Array.range (m.toNat * s)).map (za[· % za.size]!)
              refine ⟨.cells row e, m.toNat * s, .slice (some ⟨w.heap.size, 0, none⟩) n.toNat m.toNat, { w with heap := w.heap.push (.cells row e) }, ?_, rfl, rfl, rfl, fun id hid => ⟨?_, ?_⟩⟩
              · simp only [Instr.makeSlice, Sem.run_bind, run_underlying hu, Result.andThen_ok, asInt, asIntOf, Sem.run_pure, ri, ib, wn, wm]
                have t1 : ((m < 0 || decide ((bs : Int) * m > 2 ^ 48)) || decide (n < 0) || decide (n > m)) = false := by
                  simp only [Bool.or_eq_false_iff, decide_eq_false_iff_not]
                  refine ⟨⟨⟨by omega, by omega⟩, by omega⟩, by omega⟩
                simp only [t1]
                simp only [Bool.false_eq_true, if_false, Sem.run_bind, run_askRoom, Result.andThen_ok]
                by_cases h0 : m.toNat * s = 0
                · simp [h0, newRow, row, za, run_sizeT hs]
                · simp [h0, rz, newRow, row, za, run_sizeT hs]
              · refine ⟨⟨w.heap.size, 0, m.toNat * s⟩, row, e, (0, 0), Pls.up_same _ _ _, by show (w.heap.push _)[w.heap.size]? = _; simp, by simp [row], by simp, fun i hi => ?_, fun _ i _ hh => by simp at hh, markOk_one (fun v hv => by have := c6; rw [allOne_eq, List.all_eq_true] at this; exact this v hv)⟩
                have hpos : 0 < s := by rcases Nat.eq_zero_or_pos s with h | h; · rw [h] at hi; simp at hi
                                        · exact h
                have hm := Nat.mod_lt i hpos
                have hne : ¬ m.toNat * s = 0 := by omega
                have hlt : i % s < z.cells.length := by rw [c5]; exact hm
                obtain ⟨cv, g1, g2⟩ := vz.cells.get (i % s) z.cells[i % s] (List.getElem?_eq_getElem hlt)
                refine ⟨z.cells[i % s], cv, ?_, ?_, ?_, g2.mono (Pls.le_up hid)⟩
                · show (nth z.cells (Nat.mod i (len' z.cells))) = _
                  rw [nth_eq, len'_eq, c5]; exact List.getElem?_eq_getElem hlt
                · rw [allOne_eq, List.all_eq_true] at c6; exact c6 _ (List.getElem_mem _)
                · simp only [row, za, if_neg hne, Nat.zero_add]
                  rw [Array.getElem?_map, Array.getElem?_range, if_pos hi]
                  rw [Array.getElem?_toList] at g1
                  simp only [Option.map_some, hzl]
                  rw [getElem!_pos _ _ (by omega)]
                  rw [Array.getElem?_eq_getElem (by omega)] at g1
                  exact g1
              · exact ⟨_, _, _, Pls.up_same _ _ _, rfl, by omega, Nat.le_refl _, fun _ => rfl, (fun es e => by cases e), fun _ => by simp⟩
            · cases g2
    | _ => simp only [hu] at hr; cases hr

theorem bytesV_eq (l : List Nat) : bytesV l = l.map byteV := by
  induction l with
  | nil => rfl
  | cons c l ih => show byteV c :: bytesV l = _; rw [ih]; rfl
theorem bytesV_VRs (s : ByteArray) : VRs ρ (bytesV (s.data.toList.map (·.toNat))) (s.data.map fun b => Value.int .u8 b.toNat).toList := by
  rw [bytesV_eq]
  refine VRs.of_get (by simp) fun i x hx => ?_
  simp only [List.map_map, List.getElem?_map, Option.map_eq_some_iff] at hx
  obtain ⟨u, hu, rfl⟩ := hx
  refine ⟨.int .u8 u.toNat, ?_, rfl⟩
  rw [Array.getElem?_toList] at hu
  rw [Array.getElem?_toList, Array.getElem?_map, hu]; rfl

theorem toBytes1_sound {e : TypeId} {x : AV} {a : Value} {r : Blk × (Nat → AV)} {s d : TypeId} (hs : P.underlying s = some .string) (hd : P.underlying d = some (.slice e)) (hr : toBytes1 P e x = some r) (hx : VR ρ x a) :
    Makes P keep w ρ (convert s d a) r := by
  unfold toBytes1 at hr
  cases hu : P.underlying e with
  | none => rw [hu] at hr; cases hr
  | some de =>
    rw [hu] at hr
    have hk : de = .int .u8 := by
      cases de with
      | int k => cases k <;> first | rfl | (exfalso; cases hr)
      | _ => exfalso; cases hr
    subst hk
    · cases x with
      | str l =>
        cases hr
        obtain ⟨sb, rfl, rfl⟩ := hx
        let cap := (Question.appendCap sb.size 0 e).cut (w.tape w.drawn (.appendCap sb.size 0 e))
        let row : Array Value := (sb.data.map fun b => Value.int .u8 b.toNat) ++ Array.replicate (cap - sb.size) (.int .u8 0)
        have hcap : sb.size ≤ cap := by simp only [cap, Question.cut]; omega
        have hrow : row.size = cap := by simp only [row, Array.size_append, Array.size_map, Array.size_replicate]; have : sb.data.size = sb.size := rfl; omega
        refine ⟨.cells row e (cap, cap + 1), cap, .slice (some ⟨w.heap.size, 0, none⟩) sb.size cap, { w with heap := w.heap.push (.cells row e (cap, cap + 1)), drawn := w.drawn + 1 }, ?_, rfl, rfl, rfl, fun id hid => ⟨?_, ?_⟩⟩
        · have hf : (Question.appendCap sb.size 0 e).forced = false := rfl
          simp only [convert, Sem.run_bind, run_underlying hs, run_underlying hd, run_underlying hu, Result.andThen_ok]
          simp only [Conv.stringToBytes, Sem.run_bind, run_choose, hf, Bool.false_eq_true, if_false, Result.andThen_ok]
          simp only [newRow, Sem.run_bind, run_newObj, Result.andThen_ok, Sem.run_pure, markStringish, run_shape]
          have hsh : World.shape? { w with heap := w.heap.push (.cells row e), drawn := w.drawn + 1 } w.heap.size = some (e, cap) := by
            simp [World.shape?, hrow]
          simp only [row, cap] at hsh ⊢
          rw [hsh]
          simp only [run_freeze, Result.andThen_ok]
          congr 1
          simp only [World.freeze]
          rw [if_neg (by simp)]
          congr 1
          apply Array.ext_getElem?
          intro i
          rw [Array.getElem?_modify]
          by_cases hi : w.heap.size = i
          · subst hi; simp
          · rw [if_neg hi, Array.getElem?_push, Array.getElem?_push, if_neg (fun h => hi h.symm), if_neg (fun h => hi h.symm)]
        · have hb := bytesV_VRs (ρ := ρ.up id ⟨w.heap.size, 0, cap⟩) sb
          have hlen : sb.data.size = sb.size := rfl
          refine ⟨⟨w.heap.size, 0, cap⟩, row, e, (cap, cap + 1), Pls.up_same _ _ _, by show (w.heap.push _)[w.heap.size]? = _; simp, hrow, ?_, fun i hi => ?_, fun _ i hi hh => by simp only at hi hh; omega, markOk_nil⟩
          · simp only [len'_eq, List.length_map, Array.length_toList]; omega
          · simp only [len'_eq, List.length_map, Array.length_toList] at hi
            have hi' : i < (bytesV (sb.data.toList.map (·.toNat))).length := by rw [bytesV_eq]; simpa using hi
            obtain ⟨cv, g1, g2⟩ := hb.get i _ (List.getElem?_eq_getElem hi')
            refine ⟨_, cv, ?_, ?_, ?_, g2⟩
            · unfold cellAt
              rw [gt_fillC, if_pos (by omega), Nat.sub_zero, List.getElem?_eq_getElem hi']
            · simp only [bytesV_eq, List.getElem_map]; rfl
            · rw [Array.getElem?_toList] at g1
              simp only [row, Nat.zero_add]
              rw [Array.getElem?_append_left (by simpa using hi)]; exact g1
        · have hlen : (sb.data.toList.map (·.toNat)).length = sb.size := (size_bytes sb).symm
          rw [len'_eq, hlen]
          exact ⟨_, _, _, Pls.up_same _ _ _, rfl, hcap, hcap, (fun e => by cases e), (fun es e => by cases e; simp), fun _ => by simp⟩
      | _ => cases hr

theorem ofBytes1_sound {e : TypeId} {x r : AV} {a : Value} {s d : TypeId} (hr0 : HR P keep ρ h w) (hs : P.underlying s = some (.slice e)) (hd : P.underlying d = some .string) (hr : ofBytes1 P e x h = some r) (hx : VR ρ x a) :
    Gives P w ρ (convert s d a) r := by
  unfold ofBytes1 at hr
  cases hu : P.underlying e with
  | none => rw [hu] at hr; cases hr
  | some de =>
    rw [hu] at hr
    split at hr
    · rename_i hk
      cases hk
      split at hr
      · cases hr
        obtain ⟨_, _, _, rfl⟩ := hx
        refine ⟨.string .empty, ?_, _, rfl, rfl⟩
        simp [convert, run_underlying hs, run_underlying hd, run_underlying hu, Conv.bytesToString]
      · rename_i b off n _ _
        split at hr
        · rename_i vs hl
          cases hb : bytesOf vs with
          | none => rw [hb] at hr; cases hr
          | some l =>
            rw [hb] at hr; cases hr
            obtain ⟨p, cs, hp, hvs, hn, _, hc⟩ := hr0.ld hl
            obtain ⟨p', a', c', hp', rfl, hle, _, _, _, ha⟩ := hx
            rw [hp] at hp'; cases hp'
            obtain ⟨hcs, hlt⟩ := bytesOf_sound hb hvs
            have hrun : (loadCells a' n).run P w = .ok cs.toArray w := by
              by_cases hc0 : c' = 0
              · obtain rfl : n = 0 := by omega
                have : cs = [] := List.length_eq_zero_iff.1 hn
                subst this; rfl
              · rw [ha hc0]; exact run_loadRun hn (fun j u hj => by rw [add_addr]; exact hc j u hj)
            have key : ∀ (f : Value → ByteArray → Sem (ForInStep ByteArray)), (∀ (n : Nat) s, f (.int .u8 n) s = pure (ForInStep.yield (s.push (UInt8.ofNat n)))) →
                ∀ (l : List Nat) (s0 : ByteArray), (forIn (l.map fun (n : Nat) => Value.int .u8 n) s0 f).run P w = .ok ⟨s0.data ++ (l.map UInt8.ofNat).toArray⟩ w := by
              intro f hf l
              induction l with
              | nil => intro s0; simp
              | cons c l ih =>
                intro s0
                rw [List.map_cons, List.forIn_cons, hf]
                simp only [Sem.run_bind, Sem.run_pure, Result.andThen_ok]
                rw [ih]
                congr 2
                show s0.data.push _ ++ _ = _
                simp
            refine ⟨.string ⟨(l.map UInt8.ofNat).toArray⟩, ?_, _, rfl, ?_⟩
            · simp only [convert, Sem.run_bind, run_underlying hs, run_underlying hd, run_underlying hu, Result.andThen_ok, Conv.bytesToString, hrun]
              rw [← Array.forIn_toList]
              simp only [hcs]
              rw [key _ (fun n s => rfl) l .empty]
              simp only [Result.andThen_ok, Sem.run_pure]
              congr 2
              show (⟨#[] ++ _⟩ : ByteArray) = _
              simp
            · simp only [List.map_map]
              conv => rhs; rw [← List.map_id l]
              apply List.map_congr_left
              intro c hc
              have := hlt c hc
              simp only [Function.comp, id, UInt8.toNat_ofNat']
              omega
        · cases hr
      · cases hr
    · cases hr
end
end Go.Am

/-
  AM, 10: what writes.
-/
namespace Go.Am
section
variable {P : Program} {keep : Keeps} {w : World} {ρ : Pls} {h : Heap}

/-- the model's run does what is told of memory, and gives that value -/
def Does (P : Program) (keep : Keeps) (w : World) (ρ : Pls) (h : Heap) (s : Sem Value) (r : AV) (h' : Heap) : Prop :=
  ∃ ρ' v w', s.run P w = .ok v w' ∧ VR ρ' r v ∧ Post P keep ρ h w ρ' h' w'
/-- the same of a run that gives nothing -/
def DoesU (P : Program) (keep : Keeps) (w : World) (ρ : Pls) (h : Heap) (s : Sem Unit) (h' : Heap) : Prop :=
  ∃ ρ' w', s.run P w = .ok () w' ∧ Post P keep ρ h w ρ' h' w'

theorem stAs_some {v : AV} {r : Option Heap} {q : AV × Heap} (hq : stoAs v r = some q) : ∃ h', r = some h' ∧ q = (v, h') := by
  unfold stoAs at hq
  cases r with
  | none => cases hq
  | some h' => cases hq; exact ⟨h', rfl, rfl⟩

theorem storeN_sound {t : TypeId} {s : Nat} (hs : tSize P t = some s) (hr : HR P keep ρ h w) {x v : AV} {q : AV × Heap} (hq : storeN s h x v = some q) {a b : Value} (hx : VR ρ x a) (hv : VR ρ v b) :
    q.1 = undefA ∧ DoesU P keep w ρ h (Instr.storeAt t a b) q.2 := by
  obtain ⟨bk, off, rfl, g1⟩ := ePtr_some hq
  obtain ⟨g2, g3⟩ := boolRec_some.1 g1
  cases hst : h.sto bk off v.cells with
  | none => rw [hst] at g3; cases g3
  | some h' =>
    rw [hst] at g3; cases g3
    obtain ⟨p, w', hp, hrun, hpost⟩ := hr.sto hst hv.cells
    obtain ⟨p', hp', rfl⟩ := hx
    rw [hp] at hp'; cases hp'
    refine ⟨rfl, ρ, w', ?_, hpost⟩
    have hlen := hv.cells.length
    have : b.cells.size = s := by have := Nat.eq_of_beq_eq_true g2; rw [len'_eq] at this; simp at hlen; omega
    simp only [Instr.storeAt, Instr.sureAddr, Sem.run_bind, Sem.run_pure, Result.andThen_ok, storeVar, run_sizeT hs]
    rw [if_neg (by rw [this]; simp)]
    simpa using hrun

theorem cells_one {v : AV} (h : v.one = true) : v.cells = [v] := by cases v <;> first | rfl | cases h

theorem store1_sound {t : TypeId} (hs : tSize P t = some 1) (hr : HR P keep ρ h w) {x v : AV} {q : AV × Heap} (hq : store1 h x v = some q) {a b : Value} (hx : VR ρ x a) (hv : VR ρ v b) :
    q.1 = undefA ∧ DoesU P keep w ρ h (Instr.storeAt t a b) q.2 := by
  obtain ⟨bk, off, rfl, g1⟩ := ePtr_some hq
  cases hst : h.st1 bk off v with
  | none => rw [hst] at g1; cases g1
  | some h' =>
    rw [hst] at g1; cases g1
    have hone : v.one = true := by
      obtain ⟨t, z, m, ro, hb, hf⟩ := cells_some hst
      cases ro with
      | true => cases hf
      | false => obtain ⟨_, hf⟩ := boolRec_some.1 hf; exact (boolRec_some.1 hf).1
    refine storeN_sound (s := 1) (v := v) (q := (undefA, h')) hs hr ?_ hx hv
    show (Bool.rec (motive := fun _ => Option (AV × Heap)) none (Option.rec (motive := fun _ => Option (AV × Heap)) none (fun h => some (undefA, h)) (h.sto bk off v.cells)) (Nat.beq (len' v.cells) 1) : Option (AV × Heap)) = _
    rw [cells_one hone, st1_sto hst]; rfl

/-! ### maps -/
theorem plainTy_some {t : TypeId} (h : plainTy P t = true) : (∃ k, P.underlying t = some (.int k)) ∨ P.underlying t = some .string ∨ P.underlying t = some .bool := by
  unfold plainTy at h
  split at h
  · exact .inl ⟨_, by assumption⟩
  · exact .inr (.inl (by assumption))
  · exact .inr (.inr (by assumption))
  · cases h

theorem checkKey_plain {t : TypeId} (h : plainTy P t = true) (e : Bool) (n : Nat) (v : Value) : (Instr.checkKey e (n + 1) t v).run P w = .ok () w := by
  rcases plainTy_some h with ⟨k, hu⟩ | hu | hu <;> (simp only [Instr.checkKey, Sem.run_bind, run_underlying hu, Result.andThen_ok]; rfl)

theorem checkKey_sound {t : TypeId} {k : AV} {kv : Value} (h : keyOk P t k = true) (hk : VR ρ k kv) (e : Bool) : (Instr.checkKey e 10000 t kv).run P w = .ok () w := by
  unfold keyOk at h
  cases hu : P.underlying t with
  | none => rw [hu] at h; cases h
  | some d =>
    rw [hu] at h
    cases d with
    | int kk => exact checkKey_plain (by unfold plainTy; rw [hu]) e 9999 kv
    | string => exact checkKey_plain (by unfold plainTy; rw [hu]) e 9999 kv
    | bool => exact checkKey_plain (by unfold plainTy; rw [hu]) e 9999 kv
    | struct fs =>
      simp only at h
      split at h
      · rename_i hfs
        cases k with
        | agg cs =>
          simp only [Bool.and_eq_true] at h
          obtain ⟨hoff, _⟩ := h
          obtain ⟨cs', rfl, hcs⟩ := hk
          have hlen := hcs.length
          have key : ∀ (g : Field → PUnit → Sem (ForInStep PUnit)), (∀ f s, g f s = if f.name ≠ "_" then (do let x ← part f.type cs' f.offset; Instr.checkKey e 9999 f.type x; pure (ForInStep.yield PUnit.unit)) else pure (ForInStep.yield PUnit.unit)) →
              ∀ (l : List Field), (∀ f ∈ l, plainTy P f.type = true ∧ tSize P f.type = some 1 ∧ f.offset < cs.length) → (forIn l PUnit.unit g).run P w = .ok PUnit.unit w := by
            intro g hg0 l
            induction l with
            | nil => intro _; simp
            | cons f l ih =>
              intro hl
              obtain ⟨h1, h2, h3⟩ := hl f (by simp)
              have hg : tAgg P f.type = some false := by
                unfold tAgg
                rcases plainTy_some h1 with ⟨k, hu⟩ | hu | hu <;> rw [hu]
              have hget : cs'[f.offset]? = some (cs'[f.offset]'(by simp at hlen; omega)) := Array.getElem?_eq_getElem _
              have hpart : (part f.type cs' f.offset).run P w = .ok (cs'[f.offset]'(by simp at hlen; omega)) w := by simp [part, run_aggT hg, hget]
              have ih := ih fun g hg => hl g (by simp [hg])
              rw [List.forIn_cons, hg0]
              by_cases hn : f.name ≠ "_"
              · simp only [Sem.run_bind, if_pos hn, hpart, Result.andThen_ok, checkKey_plain h1 e 9998, Sem.run_pure]
                exact ih
              · simp only [Sem.run_bind, if_neg hn, Sem.run_pure, Result.andThen_ok]
                exact ih
          have hall : ∀ f ∈ fs.toList, plainTy P f.type = true ∧ tSize P f.type = some 1 ∧ f.offset < cs.length := by
            intro f hf
            rw [Array.all_eq_true'] at hfs hoff
            have h1 := hfs f (Array.mem_toList_iff.1 hf)
            have h2 := hoff f (Array.mem_toList_iff.1 hf)
            simp only [Bool.and_eq_true, beq_iff_eq, decide_eq_true_eq] at h1 h2
            exact ⟨h1.1, h1.2, h2⟩
          have e0 : Instr.checkKey e 10000 t (.agg cs') = Instr.checkKey e (9999 + 1) t (.agg cs') := rfl
          rw [e0, Instr.checkKey, Sem.run_bind, run_underlying hu]
          simp only [Result.andThen_ok]
          rw [← Array.forIn_toList, Sem.run_bind, key _ (fun _ _ => rfl) fs.toList hall]
          rfl
        | _ => cases h
      · cases h
    | _ => cases h

/-- two keys are held against each other, as the model does when it asks -/
theorem keyEq_equal {t : TypeId} {x y : AV} {a b : Value} {r : Bool} (h : keyEq P t x y = some r) (hx : VR ρ x a) (hy : VR ρ y b) : (Op.equal t a b).run P w = .ok r w := by
  unfold keyEq at h
  cases hu : P.underlying t with
  | none => rw [hu] at h; exact run_eqPlain 50 t x y a b r 10000 h hx hy (by decide)
  | some d =>
    rw [hu] at h
    cases d with
    | int kk =>
      obtain ⟨l, n, rfl, g1⟩ := eInt_some h
      obtain ⟨m, n', rfl, g2⟩ := eInt_some g1
      obtain ⟨e3, g3⟩ := kEq_some g2
      subst e3
      cases g3; cases hx; cases hy
      rw [eqI_eq]
      exact run_equalIn_int w 9999 t l kk n n' hu
    | string =>
      obtain ⟨s, rfl, g1⟩ := eStr_some h
      obtain ⟨u, rfl, g2⟩ := eStr_some g1
      cases g2
      obtain ⟨s', rfl, rfl⟩ := hx
      obtain ⟨u', rfl, rfl⟩ := hy
      rw [strEq_bytes, ← ByteArray.toList_eq, ← ByteArray.toList_eq]
      exact run_equalIn_string w 9999 t s' u' hu
    | _ => exact run_eqPlain 50 t x y a b r 10000 h hx hy (by decide)

/-- at a kind that is told at once the model tells the same -/
theorem keyEq_now {t : TypeId} {d : TypeDesc} (hu : P.underlying t = some d) {x y : AV} {a b : Value} {r : Bool} (h : keyEq P t x y = some r) (hx : VR ρ x a) (hy : VR ρ y b) (hd : plainTy P t = true) : Instr.sameNow d a b = some r := by
  have heq : (Op.equal t a b).run P default = .ok r default := keyEq_equal h hx hy
  unfold keyEq at h
  rw [hu] at h
  rcases plainTy_some hd with ⟨k, hu'⟩ | hu' | hu' <;> (rw [hu] at hu'; cases hu')
  · obtain ⟨l, n, rfl, g1⟩ := eInt_some h
    obtain ⟨m, n', rfl, g2⟩ := eInt_some g1
    obtain ⟨e3, g3⟩ := kEq_some g2
    subst e3
    cases g3; cases hx; cases hy
    simp [Instr.sameNow, eqI_eq]
  · obtain ⟨s, rfl, g1⟩ := eStr_some h
    obtain ⟨u, rfl, g2⟩ := eStr_some g1
    cases g2
    obtain ⟨s', rfl, rfl⟩ := hx
    obtain ⟨u', rfl, rfl⟩ := hy
    simp [Instr.sameNow, strEq_bytes, beq_toListBytes, ByteArray.toList_eq]
  · have h : eqPlain P 50 t x y = some r := h
    simp only [eqPlain, hu] at h
    split at h
    · cases h; cases hx; cases hy; simp [Instr.sameNow]
    · cases h

def isWide : TypeDesc → Bool
  | .struct _ | .array _ _ | .interface _ | .pointer _ => true
  | _ => false

theorem struct_not_now {fs : Array Field} (a b : Value) : Instr.sameNow (.struct fs) a b = none := by cases a <;> cases b <;> rfl

/-- THE MODEL LOOKS A KEY UP, as it is looked up here: which place, what. -/
theorem findKey_sound {t : TypeId} {k : AV} {kv : Value} (hok : keyOk P t k = true) (hk : VR ρ k kv) : ∀ {es : List MEnt} {l : List MapEntry} {r : Option AV}, findE (keyEq P t) k es = some r → ERs ρ es l →
    ∃ o, (Instr.findKey t kv l).run P w = .ok o w ∧ (match r with
      | none => o = none ∧ ∀ e ∈ es, keyEq P t k e.key = some false
      | some v => ∃ i e e', o = some (i, e'.val) ∧ es[i]? = some e ∧ l[i]? = some e' ∧ e.val = v ∧ ER ρ e e' ∧ keyEq P t k e.key = some true ∧ ∀ j, j < i → ∀ e, es[j]? = some e → keyEq P t k e.key = some false) := by
  intro es l r h hl
  -- what is found, place by place
  have found : ∀ (es : List MEnt) (l : List MapEntry) (r : Option AV) (n : Nat), findE (keyEq P t) k es = some r → ERs ρ es l →
      ∃ o, (Instr.findAsking t kv l n).run P w = .ok o w ∧ (∀ d, P.underlying t = some d → plainTy P t = true → Instr.findNow d kv l n = some o) ∧ (match r with
        | none => o = none ∧ ∀ e ∈ es, keyEq P t k e.key = some false
        | some v => ∃ i e e', o = some (n + i, e'.val) ∧ es[i]? = some e ∧ l[i]? = some e' ∧ e.val = v ∧ ER ρ e e' ∧ keyEq P t k e.key = some true ∧ ∀ j, j < i → ∀ e, es[j]? = some e → keyEq P t k e.key = some false) := by
    intro es
    induction es with
    | nil =>
      intro l r n h hl
      cases hl; cases h
      exact ⟨none, rfl, fun _ _ _ => rfl, rfl, by simp⟩
    | cons e es ih =>
      intro l r n h hl
      obtain ⟨e', l', rfl, he, hl'⟩ := hl
      have h : (Option.rec (motive := fun _ => Option (Option AV)) none (fun b => Bool.rec (motive := fun _ => Option (Option AV)) (findE (keyEq P t) k es) (some (some e.val)) b) (keyEq P t k e.key) : Option (Option AV)) = some r := h
      cases hq : keyEq P t k e.key with
      | none => rw [hq] at h; cases h
      | some q =>
        rw [hq] at h
        have heq := keyEq_equal (w := w) hq hk he.1
        cases q with
        | true =>
          cases h
          refine ⟨some (n, e'.val), by simp [Instr.findAsking, heq], fun d hd hp => ?_, 0, e, e', by simp, rfl, rfl, rfl, he, hq, fun j hj => absurd hj (Nat.not_lt_zero _)⟩
          simp [Instr.findNow, keyEq_now hd hq hk he.1 hp]
        | false =>
          obtain ⟨o, g1, g2, g3⟩ := ih l' r (n + 1) h hl'
          refine ⟨o, by simp [Instr.findAsking, heq, g1], fun d hd hp => ?_, ?_⟩
          · simp [Instr.findNow, keyEq_now hd hq hk he.1 hp, g2 d hd hp]
          · cases r with
            | none => exact ⟨g3.1, fun e0 h0 => by rcases List.mem_cons.1 h0 with rfl | h0; exact hq; exact g3.2 e0 h0⟩
            | some v =>
              obtain ⟨i, e1, e1', q1, q2, q3, q4, q5, q6, q7⟩ := g3
              refine ⟨i + 1, e1, e1', by rw [q1, Nat.add_assoc, Nat.add_comm 1 i], by simpa using q2, by simpa using q3, q4, q5, q6, fun j hj e0 h0 => ?_⟩
              cases j with
              | zero => simp at h0; subst h0; exact hq
              | succ j => exact q7 j (by omega) e0 (by simpa using h0)
  obtain ⟨o, g1, g2, g3⟩ := found es l r 0 h hl
  refine ⟨o, ?_, ?_⟩
  · unfold keyOk at hok
    cases hu : P.underlying t with
    | none => rw [hu] at hok; cases hok
    | some d =>
      have plain : plainTy P t = true → (Instr.findKey t kv l).run P w = .ok o w := fun hp => by
        simp [Instr.findKey, run_underlying hu, g2 d hu hp]
      rw [hu] at hok
      cases d with
      | int kk => exact plain (by unfold plainTy; rw [hu])
      | string => exact plain (by unfold plainTy; rw [hu])
      | bool => exact plain (by unfold plainTy; rw [hu])
      | struct fs =>
        simp only [Instr.findKey, Sem.run_bind, run_underlying hu, Result.andThen_ok]
        cases l with
        | nil => simp [Instr.findNow]; simpa [Instr.findAsking] using g1
        | cons e' l' => simp [Instr.findNow, struct_not_now]; exact g1
      | _ => cases hok
  · cases r with
    | none => exact g3
    | some v => obtain ⟨i, e, e', q1, q⟩ := g3; exact ⟨i, e, e', by simpa using q1, q⟩

theorem run_getMap {b : Nat} {es : Array MapEntry} {c : Nat} (hh : w.heap[b]? = some (.map es c)) : (getObj b).run P w = .ok (.map es c) w := by simp [getObj, Sem.run, hh]
theorem run_setMap {b : Nat} {es : Array MapEntry} {c : Nat} (hh : w.heap[b]? = some (.map es c)) (o : Obj) : (setObj b o).run P w = .ok () { w with heap := w.heap.setIfInBounds b o } := by simp [setObj, Sem.run, hh]

theorem lookup2_sound {t : TypeId} {ok : Bool} {m k r : AV} {a b : Value} (hr : HR P keep ρ h w) (hl : lookup2 P t ok m k h = some r) (hm : VR ρ m a) (hk : VR ρ k b) : Gives P w ρ (Instr.lookup t a b ok) r := by
  unfold lookup2 at hl
  cases hu : P.underlying t with
  | none => rw [hu] at hl; cases hl
  | some d =>
    rw [hu] at hl
    cases d with
    | map kt e =>
      simp only at hl
      cases hz : tZero P e with
      | none => rw [hz] at hl; cases hl
      | some z =>
        rw [hz] at hl
        obtain ⟨hok, hl⟩ := iff'_some.1 hl
        obtain ⟨zv, rz, vz⟩ := run_zeroT (w := w) (ρ := ρ) hz
        have pair : ∀ {x : AV} {v : Value} (q : Bool), VR ρ x v → VR ρ (okPair ok x q) (if ok then .tuple #[v, .bool q] else v) := by
          intro x v q hv
          cases ok with
          | false => exact hv
          | true => exact ⟨_, rfl, v, _, rfl, hv, .bool q, [], rfl, rfl, rfl⟩
        cases m with
        | map o =>
          cases o with
          | none =>
            cases hl; cases hm
            have hf : (Instr.findKey kt b []).run P w = .ok none w := by
              obtain ⟨o, g1, g2, _⟩ := findKey_sound (w := w) hok hk (es := []) (l := []) (r := none) rfl rfl
              rw [g1, g2]
            refine ⟨_, ?_, pair false vz⟩
            simp only [Instr.lookup, Sem.run_bind, run_underlying hu, Result.andThen_ok, Sem.run_pure, checkKey_sound hok hk, hf, rz]
          | some bk =>
            obtain ⟨es, c, hb, hl⟩ := theMap_some hl
            obtain ⟨p, es', hp, h0, hh, he⟩ := hr.blk _ _ hb
            obtain ⟨p', hp', _, rfl⟩ := hm
            rw [hp] at hp'; cases hp'
            cases hf : findE (keyEq P kt) k es with
            | none => rw [hf] at hl; cases hl
            | some q =>
              rw [hf] at hl
              obtain ⟨o, g1, g2⟩ := findKey_sound (w := w) hok hk hf he
              cases q with
              | none =>
                cases hl
                obtain ⟨rfl, _⟩ := g2
                refine ⟨_, ?_, pair false vz⟩
                simp only [Instr.lookup, Sem.run_bind, run_underlying hu, Result.andThen_ok, run_getMap hh, Sem.run_pure, checkKey_sound hok hk, g1, rz]
              | some v =>
                cases hl
                obtain ⟨i, e1, e1', rfl, _, _, rfl, her, _⟩ := g2
                refine ⟨_, ?_, pair true her.2.1⟩
                simp only [Instr.lookup, Sem.run_bind, run_underlying hu, Result.andThen_ok, run_getMap hh, Sem.run_pure, checkKey_sound hok hk, g1]
        | _ => cases hl
    | _ => cases hl

end
end Go.Am

/-
  AM, 11: entries of maps are written; what goes over a string.
-/
namespace Go.Am
section
variable {P : Program} {keep : Keeps} {w : World} {ρ : Pls} {h : Heap}

mutual
theorem same_eq : ∀ (a b : AV), AV.same a b = true → a = b := by
  intro a b h
  match a, b with
  | .bool a, .bool b => simp [AV.same] at h; rw [h]
  | .int k a, .int l b => simp [AV.same] at h; rw [h.1, h.2]
  | .str a, .str b => simp [AV.same] at h; rw [h]
  | .ptr a, .ptr b => simp [AV.same] at h; rw [h]
  | .slice a n c x, .slice b m d y => simp [AV.same] at h; obtain ⟨⟨⟨h1, h2⟩, h3⟩, h4⟩ := h; rw [h1, h2, h3, h4]
  | .map a, .map b => simp [AV.same] at h; rw [h]
  | .func f a b, .func g c d => simp [AV.same] at h; obtain ⟨⟨h1, h2⟩, h3⟩ := h; rw [h1, sames_eq _ _ h2, sames_eq _ _ h3]
  | .nilFunc, .nilFunc => rfl
  | .iface t v, .iface u w => simp [AV.same] at h; rw [h.1, same_eq _ _ h.2]
  | .nilIface, .nilIface => rfl
  | .agg a, .agg b => simp [AV.same] at h; rw [sames_eq _ _ h]
  | .tuple a, .tuple b => simp [AV.same] at h; rw [sames_eq _ _ h]
  | .bool _, .int .. | .bool _, .str _ | .bool _, .ptr _ | .bool _, .slice .. | .bool _, .map _ | .bool _, .func .. | .bool _, .nilFunc | .bool _, .iface .. | .bool _, .nilIface | .bool _, .agg _ | .bool _, .tuple _
  | .int .., .bool _ | .int .., .str _ | .int .., .ptr _ | .int .., .slice .. | .int .., .map _ | .int .., .func .. | .int .., .nilFunc | .int .., .iface .. | .int .., .nilIface | .int .., .agg _ | .int .., .tuple _
  | .str _, .bool _ | .str _, .int .. | .str _, .ptr _ | .str _, .slice .. | .str _, .map _ | .str _, .func .. | .str _, .nilFunc | .str _, .iface .. | .str _, .nilIface | .str _, .agg _ | .str _, .tuple _
  | .ptr _, .bool _ | .ptr _, .int .. | .ptr _, .str _ | .ptr _, .slice .. | .ptr _, .map _ | .ptr _, .func .. | .ptr _, .nilFunc | .ptr _, .iface .. | .ptr _, .nilIface | .ptr _, .agg _ | .ptr _, .tuple _
  | .slice .., .bool _ | .slice .., .int .. | .slice .., .str _ | .slice .., .ptr _ | .slice .., .map _ | .slice .., .func .. | .slice .., .nilFunc | .slice .., .iface .. | .slice .., .nilIface | .slice .., .agg _ | .slice .., .tuple _
  | .map _, .bool _ | .map _, .int .. | .map _, .str _ | .map _, .ptr _ | .map _, .slice .. | .map _, .func .. | .map _, .nilFunc | .map _, .iface .. | .map _, .nilIface | .map _, .agg _ | .map _, .tuple _
  | .func .., .bool _ | .func .., .int .. | .func .., .str _ | .func .., .ptr _ | .func .., .slice .. | .func .., .map _ | .func .., .nilFunc | .func .., .iface .. | .func .., .nilIface | .func .., .agg _ | .func .., .tuple _
  | .nilFunc, .bool _ | .nilFunc, .int .. | .nilFunc, .str _ | .nilFunc, .ptr _ | .nilFunc, .slice .. | .nilFunc, .map _ | .nilFunc, .func .. | .nilFunc, .iface .. | .nilFunc, .nilIface | .nilFunc, .agg _ | .nilFunc, .tuple _
  | .iface .., .bool _ | .iface .., .int .. | .iface .., .str _ | .iface .., .ptr _ | .iface .., .slice .. | .iface .., .map _ | .iface .., .func .. | .iface .., .nilFunc | .iface .., .nilIface | .iface .., .agg _ | .iface .., .tuple _
  | .nilIface, .bool _ | .nilIface, .int .. | .nilIface, .str _ | .nilIface, .ptr _ | .nilIface, .slice .. | .nilIface, .map _ | .nilIface, .func .. | .nilIface, .nilFunc | .nilIface, .iface .. | .nilIface, .agg _ | .nilIface, .tuple _
  | .agg _, .bool _ | .agg _, .int .. | .agg _, .str _ | .agg _, .ptr _ | .agg _, .slice .. | .agg _, .map _ | .agg _, .func .. | .agg _, .nilFunc | .agg _, .iface .. | .agg _, .nilIface | .agg _, .tuple _
  | .tuple _, .bool _ | .tuple _, .int .. | .tuple _, .str _ | .tuple _, .ptr _ | .tuple _, .slice .. | .tuple _, .map _ | .tuple _, .func .. | .tuple _, .nilFunc | .tuple _, .iface .. | .tuple _, .nilIface | .tuple _, .agg _ => simp [AV.same] at h
theorem sames_eq : ∀ (a b : List AV), AV.sames a b = true → a = b := by
  intro a b h
  match a, b with
  | [], [] => rfl
  | a :: x, b :: y => simp [AV.sames] at h; rw [same_eq _ _ h.1, sames_eq _ _ h.2]
  | [], _ :: _ => simp [AV.sames] at h
  | _ :: _, [] => simp [AV.sames] at h
end

/-! ### plain cells -/
theorem str_inj {a b : ByteArray} (h : a.data.toList.map (·.toNat) = b.data.toList.map (·.toNat)) : a = b := by
  have h1 : a.data.toList = b.data.toList := by
    have := congrArg (List.map UInt8.ofNat) h
    simpa [Function.comp_def] using this
  cases a; cases b
  simp only at h1
  congr 1
  exact Array.toList_inj.1 h1
theorem plain_inj {c : AV} {u v : Value} (hc : plainCell c = true) (hu : VR ρ c u) (hv : VR ρ c v) : u = v := by
  cases c with
  | bool b => cases hu; cases hv; rfl
  | int k n => cases hu; cases hv; rfl
  | str s =>
    obtain ⟨a, rfl, ha⟩ := hu
    obtain ⟨b, rfl, hb⟩ := hv
    rw [str_inj (ha.trans hb.symm)]
  | _ => cases hc
theorem plains_inj : ∀ {cs : List AV} {us vs : List Value}, cs.all plainCell = true → VRs ρ cs us → VRs ρ cs vs → us = vs
  | [], us, vs, _, hu, hv => by cases hu; cases hv; rfl
  | c :: cs, us, vs, hc, hu, hv => by
    obtain ⟨u, us, rfl, hu1, hu2⟩ := hu
    obtain ⟨v, vs, rfl, hv1, hv2⟩ := hv
    simp only [List.all_cons, Bool.and_eq_true] at hc
    rw [plain_inj hc.1 hu1 hv1, plains_inj hc.2 hu2 hv2]
theorem bytes_beq' (s : ByteArray) : (s == s) = true := by
  rw [beq_toListBytes]; simp
theorem plain_same {c : AV} {u : Value} (hc : plainCell c = true) (hu : VR ρ c u) (n : Nat) : Instr.sameBits n u u = true := by
  cases c with
  | bool b => cases hu; cases n <;> simp [Instr.sameBits]
  | int k n => cases hu; cases n <;> simp [Instr.sameBits]
  | str s => obtain ⟨a, rfl, ha⟩ := hu; cases n <;> simp [Instr.sameBits, bytes_beq']
  | _ => cases hc
theorem plains_same : ∀ {cs : List AV} {us : List Value}, cs.all plainCell = true → VRs ρ cs us → ∀ n, (us.zip us).all (fun (x, y) => Instr.sameBits n x y) = true
  | [], us, _, hu, n => by cases hu; rfl
  | c :: cs, us, hc, hu, n => by
    obtain ⟨u, us, rfl, hu1, hu2⟩ := hu
    simp only [List.all_cons, Bool.and_eq_true] at hc
    simp only [List.zip_cons_cons, List.all_cons, plain_same hc.1 hu1, Bool.true_and]
    exact plains_same hc.2 hu2 n

theorem key_shape {t : TypeId} {k : AV} (h : keyOk P t k = true) : plainCell k = true ∨ ∃ cs, k = .agg cs ∧ cs.all plainCell = true := by
  unfold keyOk at h
  cases hu : P.underlying t with
  | none => rw [hu] at h; cases h
  | some d =>
    rw [hu] at h
    cases d with
    | int _ => exact .inl h
    | string => exact .inl h
    | bool => exact .inl h
    | struct fs =>
      simp only at h
      split at h
      · cases k with
        | agg cs => simp only [Bool.and_eq_true] at h; exact .inr ⟨cs, rfl, h.2⟩
        | _ => cases h
      · cases h
    | _ => cases h

/-- the same key stands for the same value, and it stays -/
theorem key_stays {t : TypeId} {k : AV} {a b : Value} (h : keyOk P t k = true) (ha : VR ρ k a) (hb : VR ρ k b) : (Instr.keyThatStays a b).run P w = .ok b w := by
  rcases key_shape h with hp | ⟨cs, rfl, hp⟩
  · rw [plain_inj hp ha hb]
    simp [Instr.keyThatStays, plain_same hp hb]
  · obtain ⟨cs', rfl, h1⟩ := ha
    obtain ⟨ds', rfl, h2⟩ := hb
    have : cs' = ds' := Array.toList_inj.1 (plains_inj hp h1 h2)
    subst this
    have hs : Instr.sameBits (9999 + 1) (.agg cs') (.agg cs') = true := by
      simp only [Instr.sameBits, beq_self_eq_true, Bool.true_and]
      exact plains_same hp h1 9999
    unfold Instr.keyThatStays
    rw [show (10000 : Nat) = 9999 + 1 from rfl, hs]
    rfl

/-! ### the entries, one changed -/
theorem ERs.get {es : List MEnt} {l : List MapEntry} : ERs ρ es l → ∀ {i : Nat} {e : MEnt}, es[i]? = some e → ∃ e', l[i]? = some e' ∧ ER ρ e e' := by
  induction es generalizing l with
  | nil => intro _ i e h; simp at h
  | cons x es ih =>
    intro hl i e h
    obtain ⟨x', l', rfl, h1, h2⟩ := hl
    cases i with
    | zero => simp at h; subst h; exact ⟨x', rfl, h1⟩
    | succ i => simpa using ih h2 (by simpa using h)
theorem ERs.set {es : List MEnt} {l : List MapEntry} : ERs ρ es l → ∀ (i : Nat) {e : MEnt} {e' : MapEntry}, ER ρ e e' → ERs ρ (es.set i e) (l.set i e') := by
  induction es generalizing l with
  | nil => intro hl i e e' _; cases hl; rfl
  | cons x es ih =>
    intro hl i e e' he
    obtain ⟨x', l', rfl, h1, h2⟩ := hl
    cases i with
    | zero => exact ⟨e', l', rfl, he, h2⟩
    | succ i => exact ⟨x', l'.set i e', rfl, h1, ih h2 i he⟩
theorem ERs.eraseIdx {es : List MEnt} {l : List MapEntry} : ERs ρ es l → ∀ (i : Nat), ERs ρ (es.eraseIdx i) (l.eraseIdx i) := by
  induction es generalizing l with
  | nil => intro hl i; cases hl; rfl
  | cons x es ih =>
    intro hl i
    obtain ⟨x', l', rfl, h1, h2⟩ := hl
    cases i with
    | zero => exact h2
    | succ i => exact ⟨x', l'.eraseIdx i, rfl, h1, ih h2 i⟩
theorem ERs.snoc {es : List MEnt} {l : List MapEntry} : ERs ρ es l → ∀ {e : MEnt} {e' : MapEntry}, ER ρ e e' → ERs ρ (es ++ [e]) (l ++ [e']) := by
  induction es generalizing l with
  | nil => intro hl e e' he; cases hl; exact ⟨e', [], rfl, he, rfl⟩
  | cons x es ih =>
    intro hl e e' he
    obtain ⟨x', l', rfl, h1, h2⟩ := hl
    exact ⟨x', l' ++ [e'], rfl, h1, ih h2 he⟩

theorem updE_spec {eq : AV → AV → Option Bool} {k v : AV} : ∀ {es : List MEnt} {r : Option (List MEnt)}, updE eq k v es = some r →
    match r with
    | none => findE eq k es = some none
    | some l => ∃ i e, es[i]? = some e ∧ k = e.key ∧ findE eq k es = some (some e.val) ∧ eq k e.key = some true ∧ (∀ j, j < i → ∀ e, es[j]? = some e → eq k e.key = some false) ∧ l = es.set i ⟨k, v, e.born⟩ := by
  intro es
  induction es with
  | nil => intro r hr; cases hr; rfl
  | cons e es ih =>
    intro r hr
    have hr : (Option.rec (motive := fun _ => Option (Option (List MEnt))) none (fun b => Bool.rec (motive := fun _ => Option (Option (List MEnt)))
      (Option.rec (motive := fun _ => Option (Option (List MEnt))) none (fun o => Option.rec (motive := fun _ => Option (Option (List MEnt))) (some none) (fun l => some (some (e :: l))) o) (updE eq k v es))
      (iff' (AV.same k e.key) (some (some (MEnt.mk k v e.born :: es)))) b) (eq k e.key) : Option (Option (List MEnt))) = some r := hr
    have hf : findE eq k (e :: es) = (Option.rec (motive := fun _ => Option (Option AV)) none (fun b => Bool.rec (motive := fun _ => Option (Option AV)) (findE eq k es) (some (some e.val)) b) (eq k e.key) : Option (Option AV)) := rfl
    cases hq : eq k e.key with
    | none => rw [hq] at hr; cases hr
    | some q =>
      rw [hq] at hr hf
      cases q with
      | true =>
        obtain ⟨h1, h2⟩ := iff'_some.1 hr
        cases h2
        exact ⟨0, e, rfl, same_eq _ _ h1, hf, hq, fun j hj => absurd hj (Nat.not_lt_zero _), rfl⟩
      | false =>
        cases hu : updE eq k v es with
        | none => rw [hu] at hr; cases hr
        | some o =>
          rw [hu] at hr
          have := ih hu
          cases o with
          | none => cases hr; exact hf.trans this
          | some l =>
            cases hr
            obtain ⟨i, e1, h1, h2, h3, h4, h5, rfl⟩ := this
            refine ⟨i + 1, e1, by simpa using h1, h2, hf.trans h3, h4, fun j hj e0 h0 => ?_, rfl⟩
            cases j with
            | zero => simp at h0; subst h0; exact hq
            | succ j => exact h5 j (by omega) e0 (by simpa using h0)

theorem delE_spec {eq : AV → AV → Option Bool} {k : AV} : ∀ {es l : List MEnt}, delE eq k es = some l →
    (findE eq k es = some none ∧ l = es) ∨ ∃ i e, es[i]? = some e ∧ findE eq k es = some (some e.val) ∧ eq k e.key = some true ∧ (∀ j, j < i → ∀ e, es[j]? = some e → eq k e.key = some false) ∧ l = es.eraseIdx i := by
  intro es
  induction es with
  | nil => intro l hl; cases hl; exact .inl ⟨rfl, rfl⟩
  | cons e es ih =>
    intro l hl
    have hl : (Option.rec (motive := fun _ => Option (List MEnt)) none (fun b => Bool.rec (motive := fun _ => Option (List MEnt)) (Option.rec (motive := fun _ => Option (List MEnt)) none (fun l => some (e :: l)) (delE eq k es)) (some es) b) (eq k e.key) : Option (List MEnt)) = some l := hl
    have hf : findE eq k (e :: es) = (Option.rec (motive := fun _ => Option (Option AV)) none (fun b => Bool.rec (motive := fun _ => Option (Option AV)) (findE eq k es) (some (some e.val)) b) (eq k e.key) : Option (Option AV)) := rfl
    cases hq : eq k e.key with
    | none => rw [hq] at hl; cases hl
    | some q =>
      rw [hq] at hl hf
      cases q with
      | true => cases hl; exact .inr ⟨0, e, rfl, hf, hq, fun j hj => absurd hj (Nat.not_lt_zero _), rfl⟩
      | false =>
        cases hd : delE eq k es with
        | none => rw [hd] at hl; cases hl
        | some l' =>
          rw [hd] at hl; cases hl
          rcases ih hd with ⟨h1, rfl⟩ | ⟨i, e1, h1, h3, h4, h5, rfl⟩
          · exact .inl ⟨hf.trans h1, rfl⟩
          · refine .inr ⟨i + 1, e1, by simpa using h1, hf.trans h3, h4, fun j hj e0 h0 => ?_, rfl⟩
            cases j with
            | zero => simp at h0; subst h0; exact hq
            | succ j => exact h5 j (by omega) e0 (by simpa using h0)

/-- the first that answers is one -/
theorem first_eq {q : MEnt → Option Bool} {es : List MEnt} {i j : Nat} {e f : MEnt} (hi : es[i]? = some e) (hj : es[j]? = some f) (he : q e = some true) (hf : q f = some true)
    (bi : ∀ k, k < i → ∀ e, es[k]? = some e → q e = some false) (bj : ∀ k, k < j → ∀ e, es[k]? = some e → q e = some false) : i = j := by
  rcases Nat.lt_trichotomy i j with hlt | heq | hlt
  · have := bj i hlt e hi; rw [he] at this; cases this
  · exact heq
  · have := bi j hlt f hj; rw [hf] at this; cases this

/-- a map's block is written -/
theorem HR.setMap (hr : HR P keep ρ h w) {bk : Nat} {es es' : List MEnt} {c c' : Nat} {l l' : Array MapEntry} (hb : h.bs.gt bk = some (.map es c)) {p : Pl} (hp : ρ bk = some p) (h0 : p.off = 0) (hh : w.heap[p.blk]? = some (.map l c))
    (he : ERs ρ es' l'.toList) : Post P keep ρ h w ρ (h.put bk (.map es' c')) { w with heap := w.heap.setIfInBounds p.blk (.map l' c') } := by
  have hlt := (Array.getElem?_eq_some_iff.1 hh).1
  refine hr.write hb rfl rfl hp rfl rfl (by simp) (fun k hk => ?_) ⟨p, l', hp, h0, ?_, he⟩
  · show (w.heap.setIfInBounds p.blk _)[k]? = _
    rw [Array.getElem?_setIfInBounds, if_neg (fun e => hk e.symm)]
  · show (w.heap.setIfInBounds p.blk _)[p.blk]? = _
    rw [Array.getElem?_setIfInBounds, if_pos rfl, if_pos hlt]

theorem modify_toList {α : Type} (a : Array α) (i : Nat) (f : α → α) {x : α} (h : a[i]? = some x) : (a.modify i f).toList = a.toList.set i (f x) := by
  apply List.ext_getElem?
  intro j
  rw [Array.getElem?_toList, Array.getElem?_modify, List.getElem?_set]
  by_cases e : i = j
  · subst e
    have hlt : i < a.toList.length := by simpa using (Array.getElem?_eq_some_iff.1 h).1
    rw [if_pos rfl, if_pos rfl, if_pos hlt, h]; rfl
  · rw [if_neg e, if_neg e, Array.getElem?_toList]
theorem erase_toList {α : Type} (a : Array α) (i : Nat) : (a.eraseIdxIfInBounds i).toList = a.toList.eraseIdx i := by
  unfold Array.eraseIdxIfInBounds
  split
  · simp
  · rename_i hn
    rw [List.eraseIdx_of_length_le (by simpa using hn)]

theorem mapUpd_sound {t : TypeId} {m k v : AV} {q : AV × Heap} (hr : HR P keep ρ h w) (hq : mapUpd P t m k v h = some q) {a b c : Value} (hm : VR ρ m a) (hk : VR ρ k b) (hv : VR ρ v c) :
    q.1 = undefA ∧ DoesU P keep w ρ h (Instr.mapUpdate t a b c) q.2 := by
  unfold mapUpd at hq
  cases hu : P.underlying t with
  | none => rw [hu] at hq; cases hq
  | some d =>
    rw [hu] at hq
    cases d with
    | map kt e =>
      obtain ⟨hok, hq⟩ := iff'_some.1 hq
      cases m with
      | map o =>
        cases o with
        | none => cases hq
        | some bk =>
          obtain ⟨es, cl, hb, hq⟩ := theMap_some hq
          obtain ⟨p, es', hp, h0, hh, he⟩ := hr.blk _ _ hb
          obtain ⟨p', hp', _, rfl⟩ := hm
          rw [hp] at hp'; cases hp'
          cases hup : updE (keyEq P kt) k v es with
          | none => rw [hup] at hq; cases hq
          | some o =>
            rw [hup] at hq
            have hs := updE_spec hup
            cases o with
            | none =>
              cases hq
              obtain ⟨o, g1, g2, _⟩ := findKey_sound (w := w) hok hk hs he
              subst g2
              refine ⟨rfl, ρ, _, ?_, hr.setMap (l' := es'.push ⟨b, c, cl⟩) (c' := cl + 1) hb hp h0 hh ?_⟩
              · simp only [Instr.mapUpdate, Sem.run_bind, run_underlying hu, Result.andThen_ok, run_getMap hh, checkKey_sound hok hk, g1, run_setMap hh]
              · rw [app'_eq, Array.toList_push]
                exact he.snoc ⟨hk, hv, rfl⟩
            | some l =>
              cases hq
              obtain ⟨i, e1, h1, hke, h3, h4, h5, rfl⟩ := hs
              obtain ⟨o, g1, i', e2, e2', rfl, g3, g4, g5, g6, g7, g8⟩ := findKey_sound (w := w) hok hk h3 he
              obtain rfl : i' = i := first_eq (q := fun e => keyEq P kt k e.key) g3 h1 g7 h4 g8 h5
              rw [h1] at g3; cases g3
              have hget : es'[i']? = some e2' := by rw [← Array.getElem?_toList]; exact g4
              have hkey : (Instr.keyThatStays e2'.key b).run P w = .ok b w := key_stays hok (by rw [hke]; exact g6.1) hk
              refine ⟨rfl, ρ, _, ?_, hr.setMap (l' := es'.modify i' fun e => { e with key := b, val := c }) (c' := cl) hb hp h0 hh ?_⟩
              · simp only [Instr.mapUpdate, Sem.run_bind, run_underlying hu, Result.andThen_ok, run_getMap hh, checkKey_sound hok hk, g1, hget, Option.map_some, Option.getD_some, hkey, run_setMap hh]
              · rw [modify_toList _ _ _ hget]
                exact he.set i' ⟨hk, hv, g6.2.2⟩
      | _ => cases hq
    | _ => cases hq

theorem mapDel_sound {t ty : TypeId} {ts : Array TypeId} {m k : AV} {q : AV × Heap} (ht : ts[0]? = some t) (hr : HR P keep ρ h w) (hq : mapDel P t m k h = some q) {a b : Value} (hm : VR ρ m a) (hk : VR ρ k b) :
    Does P keep w ρ h (Builtin.delete_ ts ty #[a, b]) q.1 q.2 := by
  unfold mapDel at hq
  cases hu : P.underlying t with
  | none => rw [hu] at hq; cases hq
  | some d =>
    rw [hu] at hq
    cases d with
    | map kt e =>
      obtain ⟨hok, hq⟩ := iff'_some.1 hq
      cases m with
      | map o =>
        cases o with
        | none =>
          cases hq; cases hm
          refine ⟨ρ, _, w, ?_, VR.undef ρ, Post.refl hr⟩
          simp only [Builtin.delete_, ht, List.getElem?_toArray, List.getElem?_cons_zero, List.getElem?_cons_succ, Sem.run_bind, run_underlying hu, Result.andThen_ok, checkKey_sound hok hk, Sem.run_pure]
          rfl
        | some bk =>
          obtain ⟨es, cl, hb, hq⟩ := theMap_some hq
          obtain ⟨p, es', hp, h0, hh, he⟩ := hr.blk _ _ hb
          obtain ⟨p', hp', _, rfl⟩ := hm
          rw [hp] at hp'; cases hp'
          cases hd : delE (keyEq P kt) k es with
          | none => rw [hd] at hq; cases hq
          | some l =>
            rw [hd] at hq; cases hq
            rcases delE_spec hd with ⟨hs, rfl⟩ | ⟨i, e1, h1, h3, h4, h5, rfl⟩
            · obtain ⟨o, g1, g2, _⟩ := findKey_sound (w := w) hok hk hs he
              subst g2
              refine ⟨ρ, _, _, ?_, VR.undef ρ, hr.setMap (l' := es') (c' := cl) hb hp h0 hh he⟩
              simp only [Builtin.delete_, ht, List.getElem?_toArray, List.getElem?_cons_zero, List.getElem?_cons_succ, Sem.run_bind, run_underlying hu, Result.andThen_ok, run_getMap hh, checkKey_sound hok hk, g1, run_setMap hh, Sem.run_pure]
              rfl
            · obtain ⟨o, g1, i', e2, e2', rfl, g3, g4, g5, g6, g7, g8⟩ := findKey_sound (w := w) hok hk h3 he
              obtain rfl : i' = i := first_eq (q := fun e => keyEq P kt k e.key) g3 h1 g7 h4 g8 h5
              refine ⟨ρ, _, _, ?_, VR.undef ρ, hr.setMap (l' := es'.eraseIdxIfInBounds i') (c' := cl) hb hp h0 hh ?_⟩
              · simp only [Builtin.delete_, ht, List.getElem?_toArray, List.getElem?_cons_zero, List.getElem?_cons_succ, Sem.run_bind, run_underlying hu, Result.andThen_ok, run_getMap hh, checkKey_sound hok hk, g1, run_setMap hh, Sem.run_pure]
                rfl
              · rw [erase_toList]; exact he.eraseIdx i'
      | _ => cases hq
    | _ => cases hq

/-! ### over a string -/
theorem new_eq {id : Nat} (hid : h.next ≤ id) (x : Blk) : h.new id x = ⟨h.bs.up (some x) id, id + 1⟩ := by
  unfold Heap.new
  rw [Nat.ble_eq_true_of_le hid]

theorem rangeS_sound {t : TypeId} {x : AV} {id : Nat} {q : AV × Heap} (hid : h.next ≤ id) (hr : HR P keep ρ h w) (hq : rangeS P t x id h = some q) {a : Value} (hx : VR ρ x a) : Does P keep w ρ h (Instr.range t a) q.1 q.2 := by
  unfold rangeS at hq
  split at hq
  · rename_i _ s hu
    cases hq
    obtain ⟨sb, rfl, hs⟩ := hx
    refine ⟨ρ.up id ⟨w.heap.size, 0, 0⟩, _, _, run_range_string w t sb hu, ⟨_, Pls.up_same _ _ _, rfl⟩, ?_⟩
    rw [new_eq hid]
    refine hr.push (o := .stringIter sb 0) hid (by omega) rfl rfl rfl ⟨_, sb, Pls.up_same _ _ _, rfl, ?_, hs⟩
    show (w.heap.push _)[w.heap.size]? = _
    simp
  · cases hq

theorem nextS_sound {ty : TypeId} {it : AV} {q : AV × Heap} (hr : HR P keep ρ h w) (hq : nextS it h = some q) {a : Value} (hx : VR ρ it a) : Does P keep w ρ h (Instr.next a true ty) q.1 q.2 := by
  unfold nextS at hq
  split at hq
  · rename_i b
    obtain ⟨s, pos, hb, hq⟩ := theIter_some hq
    obtain ⟨p, sb, hp, h0, hh, hs⟩ := hr.blk _ _ hb
    obtain ⟨p', hp', rfl⟩ := hx
    rw [hp] at hp'; cases hp'
    rw [h0]
    have hlen : sb.size = s.length := by rw [size_bytes, hs]
    have hlt := (Array.getElem?_eq_some_iff.1 hh).1
    cases hc : s[pos]? with
    | none =>
      rw [hc] at hq; cases hq
      have hge : s.length ≤ pos := List.getElem?_eq_none_iff.1 hc
      exact ⟨ρ, _, w, Lib.run_next_end_at w p.blk sb pos ty hh (by omega), ⟨_, rfl, .bool false, [], rfl, rfl, rfl⟩, Post.refl hr⟩
    | some c =>
      rw [hc] at hq
      simp only at hq
      by_cases h128 : c < 128
      · rw [if_pos h128] at hq
        cases hq
        have hpos : pos < sb.size := by rw [hlen]; exact (List.getElem?_eq_some_iff.1 hc).1
        have hcv : (sb[pos]'hpos).toNat = c := by
          rw [← hs] at hc
          simp only [List.getElem?_map, Option.map_eq_some_iff] at hc
          obtain ⟨u, h1, h2⟩ := hc
          rw [Array.getElem?_toList] at h1
          have h3 : sb.data[pos]? = some (sb[pos]'hpos) := Array.getElem?_eq_getElem hpos
          rw [h1] at h3; cases h3; exact h2
        refine ⟨ρ, _, _, Lib.run_next_ascii_at w p.blk sb pos ty hh hpos (by omega), ?_, ?_⟩
        · exact ⟨_, rfl, _, _, rfl, rfl, _, _, rfl, rfl, _, _, rfl, by rw [hcv]; rfl, rfl⟩
        · refine hr.write hb rfl rfl hp rfl rfl ?_ (fun k hk => ?_) ⟨p, sb, hp, h0, Lib.iterAt_heap w _ sb pos _ hh, hs⟩
          · simp [World.iterAt]
          · simp only [World.iterAt]
            rw [Array.getElem?_setIfInBounds, if_neg (fun e => hk e.symm)]
      · rw [if_neg h128] at hq; cases hq
  · cases hq
end
end Go.Am

/-
  AM, 12: copy, clear, append.
-/
namespace Go.Am
section
variable {P : Program} {keep : Keeps} {w : World} {ρ : Pls} {h : Heap}

theorem cell_same {w w2 : World} (hw : w2.heap = w.heap) (a : Addr) : w2.cell? a = w.cell? a := by simp only [World.cell?, hw]

theorem srcOf_sound {size : Nat} {cut : Nat → Nat} {x : AV} {r : List AV × Nat} (hr : HR P keep ρ h w) (hq : srcOf size cut x h = some r) {a : Value} (hx : VR ρ x a) (hcut : ∀ n, cut n ≤ n) :
    ∃ n cs, (Builtin.lenOf a).run P w = .ok n w ∧ r.2 = cut n ∧ (∀ w2 : World, w2.heap = w.heap → (Builtin.firstCells size (cut n) a).run P w2 = .ok cs w2) ∧ VRs ρ r.1 cs.toList := by
  cases x with
  | str l =>
    cases hq
    obtain ⟨sb, rfl, hs⟩ := hx
    have hlen : len' l = sb.size := by rw [len'_eq, size_bytes, hs]
    refine ⟨sb.size, _, rfl, by rw [hlen], fun _ _ => rfl, ?_⟩
    have := bytesV_VRs (ρ := ρ) (sb.extract 0 (cut sb.size))
    rw [take_drop_bytes, hs] at this
    rw [take'_eq, hlen]
    simpa using this
  | slice o n c g =>
    cases o with
    | none =>
      cases hq
      obtain ⟨rfl, _, _, rfl⟩ := hx
      refine ⟨0, #[], rfl, ?_, fun _ _ => rfl, rfl⟩
      have := hcut 0
      show 0 = cut 0
      omega
    | some p0 =>
      obtain ⟨bk, off⟩ := p0
      have hq : (Bool.rec (motive := fun _ => Option (List AV × Nat)) (Option.rec (motive := fun _ => Option (List AV × Nat)) none (fun vs => some (vs, cut n)) (h.ld bk off (cut n * size))) (some ([], 0)) (Nat.beq n 0) : Option (List AV × Nat)) = some r := hq
      by_cases n0 : n = 0
      · subst n0
        cases hq
        obtain ⟨p', a', c', hp', rfl, _⟩ := hx
        have h0 : cut 0 = 0 := by have := hcut 0; omega
        refine ⟨0, #[], rfl, h0.symm, fun _ _ => ?_, rfl⟩
        simp only [Builtin.firstCells, h0, Nat.zero_mul]; rfl
      rw [show Nat.beq n 0 = false from by cases n with | zero => exact absurd rfl n0 | succ n => rfl] at hq
      have hq : (Option.rec (motive := fun _ => Option (List AV × Nat)) none (fun vs => some (vs, cut n)) (h.ld bk off (cut n * size)) : Option (List AV × Nat)) = some r := hq
      cases hl : h.ld bk off (cut n * size) with
      | none => rw [hl] at hq; cases hq
      | some vs =>
        rw [hl] at hq; cases hq
        obtain ⟨p, cs, hp, hvs, hn, _, hc⟩ := hr.ld hl
        obtain ⟨p', a', c', hp', rfl, hle, _, _, _, ha⟩ := hx
        rw [hp] at hp'; cases hp'
        refine ⟨n, cs.toArray, rfl, rfl, fun w2 hw => ?_, by simpa using hvs⟩
        by_cases hc0 : c' = 0
        · obtain rfl : n = 0 := by omega
          have h0 : cut 0 = 0 := by have := hcut 0; omega
          rw [h0, Nat.zero_mul] at hn
          have : cs = [] := List.length_eq_zero_iff.1 hn
          subst this
          simp only [Builtin.firstCells, h0, Nat.zero_mul]; rfl
        · rw [ha hc0]
          exact run_loadRun hn (fun j u hj => by rw [add_addr, cell_same hw]; exact hc j u hj)
  | _ => cases hq

theorem minN_eq (a b : Nat) : minN a b = Nat.min a b := by
  unfold minN
  by_cases h : a ≤ b
  · rw [Nat.ble_eq_true_of_le h]; exact (Nat.min_eq_left h).symm
  · have : Nat.ble a b = false := by cases hb : Nat.ble a b with
      | false => rfl
      | true => exact absurd (Nat.le_of_ble_eq_true hb) h
    rw [this]; show b = Nat.min a b; exact (Nat.min_eq_right (by omega)).symm

theorem copyS_sound {t ty : TypeId} {ts : Array TypeId} {d x : AV} {q : AV × Heap} (ht : ts[0]? = some t) (hr : HR P keep ρ h w) (hq : copyS P t d x h = some q) {a b : Value} (hd : VR ρ d a) (hx : VR ρ x b) :
    Does P keep w ρ h (Builtin.copy_ ts ty #[a, b]) q.1 q.2 := by
  unfold copyS at hq
  cases hu : P.underlying t with
  | none => rw [hu] at hq; cases hq
  | some de =>
    rw [hu] at hq
    cases de with
    | slice e =>
      cases hs : tSize P e with
      | none => simp only [hs] at hq; cases hq
      | some size =>
        simp only [hs] at hq
        obtain ⟨o, len, c, g, e0, hq0⟩ := eSlice_some hq
        subst e0
        replace hq := hq0
        cases hsrc : srcOf size (fun n => minN n len) x h with
        | none => rw [hsrc] at hq; cases hq
        | some src =>
          rw [hsrc] at hq
          obtain ⟨n, cs, g1, g2, g3, g4⟩ := srcOf_sound hr hsrc hx (fun n => by rw [minN_eq]; exact Nat.min_le_left _ _)
          replace g3 := g3 w rfl
          simp only [minN_eq] at g2 g3
          cases o with
          | none =>
            cases hq
            obtain ⟨rfl, _, _, rfl⟩ := hd
            refine ⟨ρ, _, w, ?_, by rw [g2]; exact rfl, Post.refl hr⟩
            simp only [Builtin.copy_, ht, List.getElem?_toArray, List.getElem?_cons_zero, List.getElem?_cons_succ, Sem.run_bind, run_underlying hu, Result.andThen_ok, g1, run_sizeT hs, g3, Sem.run_pure]
            rfl
          | some p0 =>
            obtain ⟨bk, off⟩ := p0
            obtain ⟨h', hst, rfl⟩ := stAs_some hq
            obtain ⟨p, w', hp, hrun, hpost⟩ := hr.sto hst g4
            obtain ⟨p', a', c', hp', rfl, hle, _, _, _, ha⟩ := hd
            rw [hp] at hp'; cases hp'
            have hlen := g4.length
            by_cases hc0 : c' = 0
            · obtain rfl : len = 0 := by omega
              have hn0 : Nat.min n 0 = 0 := Nat.min_eq_right (Nat.zero_le _)
              -- nothing is copied
              have hcs : cs.toList = [] := by
                rw [hn0] at g3
                have hsz : src.1 = [] := by
                  cases x with
                  | str l =>
                    cases hsrc
                    show bytesV (take' (minN (len' l) 0) l) = []
                    rw [minN_eq, show Nat.min (len' l) 0 = 0 from Nat.min_eq_right (Nat.zero_le _)]; rfl
                  | slice o n c g =>
                    cases o with
                    | none => cases hsrc; rfl
                    | some p1 =>
                      have hsrc : (Bool.rec (motive := fun _ => Option (List AV × Nat)) (Option.rec (motive := fun _ => Option (List AV × Nat)) none (fun vs => some (vs, minN n 0)) (h.ld p1.1 p1.2 (minN n 0 * size))) (some ([], 0)) (Nat.beq n 0) : Option (List AV × Nat)) = some src := hsrc
                      by_cases n0 : n = 0
                      · subst n0; cases hsrc; rfl
                      rw [show Nat.beq n 0 = false from by cases n with | zero => exact absurd rfl n0 | succ n => rfl] at hsrc
                      have hsrc : (Option.rec (motive := fun _ => Option (List AV × Nat)) none (fun vs => some (vs, minN n 0)) (h.ld p1.1 p1.2 (minN n 0 * size)) : Option (List AV × Nat)) = some src := hsrc
                      cases hl : h.ld p1.1 p1.2 (minN n 0 * size) with
                      | none => rw [hl] at hsrc; cases hsrc
                      | some vs =>
                        rw [hl] at hsrc; cases hsrc
                        obtain ⟨_, _, _, _, _, _, hv, _⟩ := ld_some hl
                        rw [minN_eq, show Nat.min n 0 = 0 from Nat.min_eq_right (Nat.zero_le _), Nat.zero_mul] at hv
                        exact List.length_eq_zero_iff.1 hv
                  | _ => cases hsrc
                rw [hsz] at hlen
                exact List.length_eq_zero_iff.1 hlen.symm
              rw [hcs] at hrun
              cases hrun
              refine ⟨ρ, _, w, ?_, by rw [g2]; exact rfl, hpost⟩
              simp only [Builtin.copy_, ht, List.getElem?_toArray, List.getElem?_cons_zero, List.getElem?_cons_succ, Sem.run_bind, run_underlying hu, Result.andThen_ok, g1, run_sizeT hs, g3, hcs, Sem.run_pure]
              rfl
            · rw [ha hc0]
              refine ⟨ρ, _, w', ?_, by rw [g2]; exact rfl, hpost⟩
              simp only [Builtin.copy_, ht, List.getElem?_toArray, List.getElem?_cons_zero, List.getElem?_cons_succ, Sem.run_bind, run_underlying hu, Result.andThen_ok, g1, run_sizeT hs, g3, hrun, Sem.run_pure]
              rfl
    | _ => cases hq

theorem zeroCells_VRs {zs : List AV} {za : Array Value} (hz : VRs ρ zs za.toList) (len : Nat) : VRs ρ (List.replicate len zs).flatten (Builtin.zeroCells za len).toList := by
  have hl : za.size = zs.length := by have := hz.length; simpa using this.symm
  have := zeros_get hz len
  unfold Builtin.zeroCells
  rw [hl]
  rw [hl] at this
  simpa using this

theorem clearS_sound {t ty : TypeId} {ts : Array TypeId} {d : AV} {q : AV × Heap} (ht : ts[0]? = some t) (hr : HR P keep ρ h w) (hq : clearS P t d h = some q) {a : Value} (hd : VR ρ d a) :
    Does P keep w ρ h (Builtin.clear_ ts ty #[a]) q.1 q.2 := by
  unfold clearS at hq
  cases hu : P.underlying t with
  | none => rw [hu] at hq; cases hq
  | some de =>
    rw [hu] at hq
    cases de with
    | slice e =>
      cases hz : tZero P e with
      | none => simp only [hz] at hq; cases hq
      | some z =>
        simp only [hz] at hq
        obtain ⟨o, len, c, g, e0, hq0⟩ := eSlice_some hq
        subst e0
        replace hq := hq0
        obtain ⟨zv, rz, vz⟩ := run_zeroT (w := w) (ρ := ρ) hz
        cases o with
        | none =>
          cases hq
          obtain ⟨rfl, _, _, rfl⟩ := hd
          refine ⟨ρ, _, w, ?_, VR.undef ρ, Post.refl hr⟩
          simp only [Builtin.clear_, ht, List.getElem?_toArray, List.getElem?_cons_zero, Sem.run_bind, run_underlying hu, Result.andThen_ok, Sem.run_pure]
          rfl
        | some p0 =>
          obtain ⟨bk, off⟩ := p0
          obtain ⟨h', hst, rfl⟩ := stAs_some hq
          rw [rep'_eq] at hst
          obtain ⟨p, w', hp, hrun, hpost⟩ := hr.sto hst (zeroCells_VRs vz.cells len)
          obtain ⟨p', a', c', hp', rfl, hle, _, _, _, ha⟩ := hd
          rw [hp] at hp'; cases hp'
          cases len with
          | zero =>
            have h0 : (Builtin.zeroCells zv.cells 0).toList = [] := by simp [Builtin.zeroCells]
            rw [h0] at hrun; cases hrun
            refine ⟨ρ, _, w, ?_, VR.undef ρ, hpost⟩
            simp only [Builtin.clear_, ht, List.getElem?_toArray, List.getElem?_cons_zero, Sem.run_bind, run_underlying hu, Result.andThen_ok, Sem.run_pure]
            rfl
          | succ n =>
            have hc0 : c' ≠ 0 := by omega
            rw [ha hc0]
            refine ⟨ρ, _, w', ?_, VR.undef ρ, hpost⟩
            simp only [Builtin.clear_, ht, List.getElem?_toArray, List.getElem?_cons_zero, Sem.run_bind, run_underlying hu, Result.andThen_ok, rz, hrun, Sem.run_pure]
            rfl
    | map kt e =>
      cases d with
      | map o =>
        cases o with
        | none =>
          cases hq; cases hd
          refine ⟨ρ, _, w, ?_, VR.undef ρ, Post.refl hr⟩
          simp only [Builtin.clear_, ht, List.getElem?_toArray, List.getElem?_cons_zero, Sem.run_bind, run_underlying hu, Result.andThen_ok, Sem.run_pure]
          rfl
        | some bk =>
          obtain ⟨es, cl, hb, hq⟩ := theMap_some hq
          cases hq
          obtain ⟨p, es', hp, h0, hh, he⟩ := hr.blk _ _ hb
          obtain ⟨p', hp', _, rfl⟩ := hd
          rw [hp] at hp'; cases hp'
          refine ⟨ρ, _, _, ?_, VR.undef ρ, hr.setMap (l' := #[]) (c' := cl) hb hp h0 hh rfl⟩
          simp only [Builtin.clear_, ht, List.getElem?_toArray, List.getElem?_cons_zero, Sem.run_bind, run_underlying hu, Result.andThen_ok, run_getMap hh, run_setMap hh, Sem.run_pure]
          rfl
      | _ => cases hq
    | _ => cases hq
end
end Go.Am

/-
  AM, 13: append.
-/
namespace Go.Am
section
variable {P : Program} {keep : Keeps} {w : World} {ρ : Pls} {h : Heap}

theorem HR.kill (hr : HR P keep ρ h w) {b : Nat} {x : Blk} (hb : h.bs.gt b = some x) : Post P keep ρ h w ρ (h.put b .dead) w := by
  refine ⟨Pls.le_refl _, ⟨hr.dom, fun c z hz => ?_, fun c z hz => ?_, fun c c' z z' q q' hz hz' hd hd' hrw hq hq' hne => ?_⟩, ⟨rfl, rfl, Nat.le_refl _, fun _ _ _ => rfl⟩, fun k _ ho => ?_, Nat.le_refl _, fun _ _ h _ => h, fun k _ ho => ?_⟩
  · rw [put_get] at hz
    by_cases e : c = b
    · subst e; exact hr.has _ _ hb
    · rw [if_neg e] at hz; exact hr.has _ _ hz
  · rw [put_get] at hz
    by_cases e : c = b
    · rw [if_pos e] at hz; cases hz; trivial
    · rw [if_neg e] at hz; exact hr.blk _ _ hz
  · rw [put_get] at hz hz'
    by_cases e : c = b
    · rw [if_pos e] at hz; cases hz; cases hd
    · by_cases e' : c' = b
      · rw [if_pos e'] at hz'; cases hz'; cases hd'
      · rw [if_neg e] at hz; rw [if_neg e'] at hz'
        exact hr.inj c c' z z' q q' hz hz' hd hd' hrw hq hq' hne
  · obtain ⟨c, z, q, hz, hzr, hq, rfl⟩ := ho
    rw [put_get] at hz
    by_cases e : c = b
    · rw [if_pos e] at hz; cases hz; cases hzr
    · rw [if_neg e] at hz; exact ⟨c, z, q, hz, hzr, hq, rfl⟩
  · obtain ⟨c, z, q, hz, hzr, hq, rfl⟩ := ho
    rw [put_get] at hz
    by_cases e : c = b
    · rw [if_pos e] at hz; cases hz; cases hzr
    · rw [if_neg e] at hz; exact ⟨c, z, q, hz, hzr, hq, rfl⟩

/-- N cells, of which these lie in a row from a place on -/
def Row (ρ : Pls) (y : Blk) (N : Nat) (row : Array Value) (o : Nat) : Prop :=
  ∃ t z, y = .cells t z N false ∧ ∀ i, i < N → ∃ v cv, cellAt t z i = some v ∧ v.one = true ∧ row[o + i]? = some cv ∧ VR ρ v cv

/-- what the mark of a block says: this type; not just its cells -/
def BMark (y : Blk) (e : TypeId) : Prop := ∀ t z n ro, y = .cells t z n ro → ∀ k x, z = tyMark k x → e = k ∧ x = false
theorem BMark.ok {t : Tr AV} {z : List AV} {n : Nat} {ro : Bool} {e : TypeId} {p : Pl} (h : BMark (.cells t z n ro) e) : MarkOk z n p e := fun k x hz => by
  obtain ⟨a, b⟩ := h _ _ _ _ rfl k x hz
  exact ⟨a, fun hx => by rw [b] at hx; cases hx⟩
theorem tyMark_inj {k k' : Nat} {x x' : Bool} (h : tyMark k x = tyMark k' x') : k = k' ∧ x = x' := by
  simp only [tyMark, List.cons.injEq, AV.tuple.injEq, AV.int.injEq, AV.bool.injEq, and_true, true_and] at h
  exact ⟨Int.ofNat_inj.1 h.1, h.2⟩
theorem bmark_new {t : Tr AV} {n : Nat} {ro : Bool} {e : TypeId} : BMark (.cells t (tyMark e false) n ro) e := fun t' z n' ro' h k x hz => by
  cases h
  obtain ⟨a, b⟩ := tyMark_inj hz
  exact ⟨a, b.symm⟩
theorem fitsZ_mark {e k : Nat} {x : Bool} (h : fitsZ e (tyMark k x) = true) : e = k ∧ x = false := by
  have h : (Bool.rec (motive := fun _ => Bool) (Nat.beq k e) false x : Bool) = true := h
  cases x with
  | true => cases h
  | false => exact ⟨(Nat.eq_of_beq_eq_true h).symm, rfl⟩
theorem zKeep_mark {z : List AV} {k : Nat} {x : Bool} (h : zKeep z = tyMark k x) : z = tyMark k x := by
  unfold zKeep at h
  cases hm : markOf z with
  | none => rw [hm] at h; cases h
  | some p => rw [hm] at h; exact h

theorem Row.of {cs z : List AV} {cvs : List Value} {row : Array Value} {o : Nat} (hv : VRs ρ cs cvs) (hone : allOne cs = true) (hrow : ∀ i, i < cs.length → row[o + i]? = cvs[i]?) : Row ρ (.cells (fillC cs .leaf 0) z (len' cs) false) cs.length row o := by
  rw [len'_eq]
  rw [allOne_eq, List.all_eq_true] at hone
  refine ⟨_, _, rfl, fun i hi => ?_⟩
  obtain ⟨u, h1, h2⟩ := hv.get i cs[i] (List.getElem?_eq_getElem hi)
  refine ⟨cs[i], u, ?_, hone _ (List.getElem_mem hi), by rw [hrow i hi, h1], h2⟩
  unfold cellAt
  rw [gt_fillC, if_pos (by omega), Nat.sub_zero, List.getElem?_eq_getElem hi]

/-- a new row of the model's -/
theorem app_row (hr : HR P keep ρ h w) {id : Nat} (hid : h.next ≤ id) {y : Blk} {N : Nat} {row : Array Value} {e : TypeId} (hy : Row ρ y N row 0) (hmk : BMark y e) {need cap size : Nat} (hneed : need ≤ cap) (hN : N ≤ row.size) (hsz : row.size = cap * size) :
    Post P keep ρ h w (ρ.up id ⟨w.heap.size, 0, cap * size⟩) (h.new id y) (w.drew.alloc (.cells row e)) ∧
      VR (ρ.up id ⟨w.heap.size, 0, cap * size⟩) (.slice (some (id, 0)) need need (some size)) (.slice (some ⟨w.heap.size, 0, none⟩) need cap) := by
  have f1 := (hr.fresh hid).1
  refine ⟨?_, ⟨_, _, _, Pls.up_same _ _ _, rfl, hneed, hneed, (fun e => by cases e), (fun es e => by cases e; simp), fun _ => by simp⟩⟩
  rw [new_eq hid]
  obtain ⟨t, z, rfl, hv⟩ := hy
  refine hr.push (w' := w.drew.alloc (.cells row e)) (o := .cells row e) hid (by omega) rfl rfl rfl ?_
  refine ⟨_, row, e, (0, 0), Pls.up_same _ _ _, ?_, hsz, by simp only [Nat.zero_add]; omega, fun i hi => ?_, fun _ i _ hh => by simp at hh, hmk.ok⟩
  · show (w.heap.push _)[w.heap.size]? = _
    simp
  · obtain ⟨v, cv, h1, h2, h3, h4⟩ := hv i hi
    exact ⟨v, cv, h1, h2, h3, h4.mono (Pls.le_up f1)⟩

theorem run_append_in {t u e ty : TypeId} {ts : Array TypeId} {d : TypeDesc} {size : Nat} (ht : ts[0]? = some t) (hu : P.underlying t = some (.slice e)) (hs : tSize P e = some size) (ht1 : ts[1]? = some u) (hu1 : P.underlying u = some d) (hint : ∀ k, d ≠ .int k)
    {base : Option Addr} {sLen sCap n : Nat} {x : Value} {cs : Array Value} (hx : (Builtin.lenOf x).run P w = .ok n w) (hc : (Builtin.firstCells size n x).run P w = .ok cs w) (hle : sLen + n ≤ sCap)
    {w' : World} (hst : match base with | some a => (storeCells (a.add (sLen * size)) cs.toList).run P w = .ok () w' | none => w' = w) :
    (Builtin.append_ ts ty #[.slice base sLen sCap, x]).run P w = .ok (.slice base (sLen + n) sCap) w' := by
  simp only [Builtin.append_, ht, ht1, List.getElem?_toArray, List.getElem?_cons_zero, List.getElem?_cons_succ, Sem.run_bind, run_underlying hu, run_underlying hu1, Result.andThen_ok, run_sizeT hs, Sem.run_pure]
  simp only [Bool.false_eq_true, if_false, Bool.not_false, if_true, hx, Result.andThen_ok, if_pos hle, Sem.run_bind, hc]
  cases base with
  | none => simp only at hst; subst hst; rfl
  | some a => simp only [Sem.run_bind, hst, Result.andThen_ok, Sem.run_pure]

theorem run_append_out {t u e ty : TypeId} {ts : Array TypeId} {d : TypeDesc} {i : TypeInfo} {z : Value} (ht : ts[0]? = some t) (hu : P.underlying t = some (.slice e)) (hi : P.info? e = some i) (hz0 : i.zero = some z) (ht1 : ts[1]? = some u) (hu1 : P.underlying u = some d) (hint : ∀ k, d ≠ .int k)
    {base : Option Addr} {sLen sCap n : Nat} {x : Value} {co cs : Array Value} (hx : (Builtin.lenOf x).run P w = .ok n w) (hc : (Builtin.firstCells i.size n x).run P w.drew = .ok cs w.drew) (ho : (Builtin.firstCells i.size sLen (.slice base sLen sCap)).run P w.drew = .ok co w.drew)
    (hle : ¬ sLen + n ≤ sCap) (h63 : ((sLen + n : Nat) : Int) ≤ 9223372036854775807) (hfit : Builtin.nextslicecap (sLen + n) sCap * i.bytes ≤ 281474976710656) :
    (Builtin.append_ ts ty #[.slice base sLen sCap, x]).run P w =
      .ok (.slice (some ⟨w.heap.size, 0, none⟩) (sLen + n) (grownCap w (sLen + n) sCap e)) (w.drew.alloc (.cells (co ++ cs ++ Builtin.zeroCells z.cells (grownCap w (sLen + n) sCap e - (sLen + n))) e)) := by
  have h63' : ¬ (9223372036854775807 < ((sLen : Int) + (n : Int))) := by omega
  have h48' : ¬ (281474976710656 < Builtin.nextslicecap (sLen + n) sCap * i.bytes) := by omega
  simp [Builtin.append_, ht, ht1, run_underlying hu, run_underlying hu1, sizeOf, typeInfo, zeroValue, hi, hz0, hx, hle, h63', h48', Question.forced, ho, hc, newRow, grownCap]

theorem le_grownCap {need old : Nat} {e : TypeId} (h : old < need) : need ≤ grownCap w need old e := by
  unfold grownCap
  simp only [Question.cut]
  have := le_nextslicecap h
  omega

/-- onto a new block -/
theorem appNew_some {size need id : Nat} {cs z : List AV} {q : AV × Heap} (hq : appNew size need z id h cs = some q) : allOne cs = true ∧ q = (.slice (some (id, 0)) need need (some size), h.new id (.cells (fillC cs .leaf 0) z (len' cs) false)) := by
  obtain ⟨h1, h2⟩ := iff'_some.1 hq
  cases h2; exact ⟨h1, rfl⟩

/-- L cells of another block from a place on, and then these -/
def Onto (y : Blk) (tr : Tr AV) (z : List AV) (off L : Nat) (vs : List AV) : Prop :=
  ∃ t' z', y = .cells t' z' (L + vs.length) false ∧ (∀ i, i < L → cellAt t' z' i = cellAt tr z (off + i)) ∧ ∀ i, i < vs.length → cellAt t' z' (L + i) = vs[i]?

theorem Onto.row {tr : Tr AV} {z : List AV} {off L m : Nat} {vs old z0 : List AV} {ro : Bool} {bk : Nat} (hl : h.ld bk off L = some old) (hb : h.bs.gt bk = some (.cells tr z m ro)) : off + L ≤ m ∧ old.length = L ∧ Onto (.cells (fillC (old ++ vs) .leaf 0) z0 (len' (old ++ vs)) false) tr z off L vs := by
  obtain ⟨tr', z', m', ro', hb', hle, hlen, hv⟩ := ld_some hl
  rw [hb] at hb'; cases hb'
  refine ⟨hle, hlen, ?_⟩
  rw [len'_eq]
  refine ⟨fillC (old ++ vs) .leaf 0, z0, by rw [List.length_append, hlen], fun i hi => ?_, fun i hi => ?_⟩
  · rw [hv i hi]
    have hget : (old ++ vs)[i]? = some old[i] := by rw [List.getElem?_append_left (by omega)]; exact List.getElem?_eq_getElem (by omega)
    unfold cellAt
    rw [gt_fillC, if_pos (by simp only [List.length_append]; omega), Nat.sub_zero, hget, List.getElem?_eq_getElem (show i < old.length by omega)]
  · have hget : (old ++ vs)[L + i]? = some vs[i] := by rw [List.getElem?_append_right (by omega), hlen, Nat.add_sub_cancel_left]; exact List.getElem?_eq_getElem hi
    unfold cellAt
    rw [gt_fillC, if_pos (by simp only [List.length_append]; omega), Nat.sub_zero, hget, List.getElem?_eq_getElem hi]

theorem appDead_some {size need e off len n bk id : Nat} {vs : List AV} {q : AV × Heap} (hq : appDead size need e off len n vs bk id h = some q) (hn : vs.length = n * size) :
    ∃ tr z m y, h.bs.gt bk = some (.cells tr z m false) ∧ allOne vs = true ∧ off + len * size ≤ m ∧ Onto y tr z off (len * size) vs ∧ BMark y e ∧ (∀ e0, (∀ k x, z = tyMark k x → e0 = k) → BMark y e0) ∧ q = (.slice (some (id, 0)) need need (some size), (h.put bk .dead).new id y) := by
  obtain ⟨tr, z, m, ro, hb, hq1⟩ := cells_some hq
  obtain ⟨h1, hq2⟩ := iff'_some.1 hq1
  clear hq hq1
  simp only [and'_eq, notB_eq, Bool.and_eq_true, Bool.not_eq_true'] at h1
  obtain ⟨⟨rfl, hone⟩, hfit⟩ := h1
  have hfz : ∀ k x, z = tyMark k x → e = k ∧ x = false := fun k x hz => by subst hz; exact fitsZ_mark hfit
  refine ⟨tr, z, m, ?_⟩
  cases hc : and' (Nat.beq off 0) (Nat.beq (len * size) m) with
  | true =>
    have hq : (Bool.rec (motive := fun _ => Option (AV × Heap)) _ (some (.slice (some (id, 0)) need need (some size), (h.put bk .dead).new id (.cells (fillC vs tr m) z (m + n * size) false))) (and' (Nat.beq off 0) (Nat.beq (len * size) m)) : Option (AV × Heap)) = some q := hq2
    rw [hc] at hq
    simp only [and'_eq, Bool.and_eq_true] at hc
    obtain ⟨h0, hm⟩ := hc
    obtain rfl := Nat.eq_of_beq_eq_true h0
    have hm := Nat.eq_of_beq_eq_true hm
    cases hq
    refine ⟨_, hb, hone, by omega, ⟨_, _, by rw [hm, hn], fun i hi => ?_, fun i hi => ?_⟩, fun t z' n' ro' hy k x hz => ?_, fun e0 h0 t z' n' ro' hy k x hz => ?_, rfl⟩
    · unfold cellAt
      rw [gt_fillC, if_neg (by omega), Nat.zero_add]
    · unfold cellAt
      rw [gt_fillC, if_pos (by omega), show len * size + i - m = i by omega, List.getElem?_eq_getElem hi]
    · cases hy; exact hfz k x hz
    · cases hy; exact ⟨h0 k x hz, (hfz k x hz).2⟩
  | false =>
    have hq : (Bool.rec (motive := fun _ => Option (AV × Heap)) (Option.rec (motive := fun _ => Option (AV × Heap)) none (fun old => appNew size need (zKeep z) id (h.put bk .dead) (app' old vs)) (h.ld bk off (len * size))) _ (and' (Nat.beq off 0) (Nat.beq (len * size) m)) : Option (AV × Heap)) = some q := hq2
    rw [hc] at hq
    cases hl : h.ld bk off (len * size) with
    | none => rw [hl] at hq; cases hq
    | some old =>
      rw [hl] at hq
      obtain ⟨_, rfl⟩ := appNew_some hq
      obtain ⟨h2, h3, h4⟩ := Onto.row (vs := vs) (z0 := zKeep z) hl hb
      refine ⟨_, hb, hone, h2, h4, fun t z' n' ro' hy k x hz => ?_, fun e0 h0 t z' n' ro' hy k x hz => ?_, by rw [app'_eq]⟩
      · cases hy; exact hfz k x (zKeep_mark hz)
      · cases hy; exact ⟨h0 k x (zKeep_mark hz), (hfz k x (zKeep_mark hz)).2⟩

/-- what lies so in memory -/
theorem Onto.lies (hr : HR P keep ρ h w) {y : Blk} {tr : Tr AV} {z : List AV} {off L m bk : Nat} {vs : List AV} {cvs : List Value} {ro : Bool} (hy : Onto y tr z off L vs) (hb : h.bs.gt bk = some (.cells tr z m ro)) (hle : off + L ≤ m)
    (hv : VRs ρ vs cvs) (hone : allOne vs = true) {p : Pl} (hp : ρ bk = some p) {row : Array Value} {o : Nat} (hold : ∀ i u, i < L → w.cell? ⟨p.blk, p.off + off + i, none⟩ = some u → row[o + i]? = some u) (hnew : ∀ i, i < vs.length → row[o + L + i]? = cvs[i]?) :
    Row ρ y (L + vs.length) row o := by
  obtain ⟨t', z', rfl, h1, h2⟩ := hy
  rw [allOne_eq, List.all_eq_true] at hone
  refine ⟨t', z', rfl, fun i hi => ?_⟩
  by_cases hlt : i < L
  · obtain ⟨p', v, cv, hp', g1, g2, g3, g4⟩ := hr.cell hb (i := off + i) (by omega)
    rw [hp] at hp'; cases hp'
    refine ⟨v, cv, by rw [h1 i hlt]; exact g1, g2, hold i cv hlt (by rw [← g3]; congr 2; omega), g4⟩
  · obtain ⟨j, rfl⟩ : ∃ j, i = L + j := ⟨i - L, by omega⟩
    have hj : j < vs.length := by omega
    obtain ⟨u, g1, g2⟩ := hv.get j vs[j] (List.getElem?_eq_getElem hj)
    refine ⟨vs[j], u, by rw [h2 j hj]; exact List.getElem?_eq_getElem hj, hone _ (List.getElem_mem hj), by rw [← Nat.add_assoc, hnew j hj, g1], g2⟩

/-- the elder block's cells, read as a row -/
theorem run_oldCells (hr : HR P keep ρ h w) {tr : Tr AV} {z : List AV} {off L m bk : Nat} {ro : Bool} (hb : h.bs.gt bk = some (.cells tr z m ro)) (hle : off + L ≤ m) {p : Pl} (hp : ρ bk = some p) :
    ∃ cs : List Value, cs.length = L ∧ (loadCells ⟨p.blk, p.off + off, none⟩ L).run P w = .ok cs.toArray w ∧ ∀ i u, i < L → w.cell? ⟨p.blk, p.off + off + i, none⟩ = some u → cs[i]? = some u := by
  obtain ⟨p', c, e, fz, hp', hh, hs, hpm, hv, _⟩ := hr.blk _ _ hb
  rw [hp] at hp'; cases hp'
  have hget : ∀ i, i < L → (c.extract (p.off + off) (p.off + off + L)).toList[i]? = c[p.off + off + i]? := fun i hi => by
    rw [Array.getElem?_toList, Array.getElem?_extract, if_pos (by omega)]
  have hlen : (c.extract (p.off + off) (p.off + off + L)).toList.length = L := by simp; omega
  refine ⟨(c.extract (p.off + off) (p.off + off + L)).toList, hlen, run_loadRun hlen (fun j u hj => ?_), fun i u hi hu => ?_⟩
  · have hjl : j < L := by rw [← hlen]; exact (List.getElem?_eq_some_iff.1 hj).1
    rw [add_addr, cell_of_heap hh, ← hget j hjl]; exact hj
  · rw [hget i hi, ← cell_of_heap hh]; exact hu

/-- the elder block is written on beyond its cells, and is another block from now on -/
theorem app_over (hr : HR P keep ρ h w) {bk id m : Nat} {tr : Tr AV} {z : List AV} (hb : h.bs.gt bk = some (.cells tr z m false)) {p : Pl} (hp : ρ bk = some p) (hid : h.next ≤ id) {w' : World} {off : Nat} {y : Blk} {N : Nat}
    {row c : Array Value} {e : TypeId} {fz : Nat × Nat} (hh : w.heap[p.blk]? = some (.cells c e fz)) (hfz : ∀ i, i < p.size → ¬ (fz.1 ≤ i ∧ i < fz.2)) (hos : w'.os = w.os) (hout : w'.output = w.output) (hheap : w'.heap = w.heap.setIfInBounds p.blk (.cells row e fz))
    (hsz : row.size = p.size) (hN : p.off + off + N ≤ p.size) (hy : Row ρ y N row (p.off + off)) (hmk : BMark y e) :
    Post P keep ρ h w (ρ.up id ⟨p.blk, p.off + off, p.size⟩) ((h.put bk .dead).new id y) w' := by
  have hk := hr.kill hb
  have hlt : p.blk < w.heap.size := (Array.getElem?_eq_some_iff.1 hh).1
  have hold : ∀ k, k ≠ p.blk → w'.heap[k]? = w.heap[k]? := fun k hne => by rw [hheap, Array.getElem?_setIfInBounds, if_neg (fun e => hne e.symm)]
  have hid' : (h.put bk .dead).next ≤ id := hid
  obtain ⟨f1, f2⟩ := hk.hr.fresh hid'
  have hother : ∀ c z q, (h.put bk .dead).bs.gt c = some z → z.dead? = false → ρ c = some q → q.blk ≠ p.blk := fun c z q hz hd hq => by
    rw [put_get] at hz
    by_cases e : c = bk
    · rw [if_pos e] at hz; cases hz; cases hd
    · rw [if_neg e] at hz
      exact hr.inj c bk z _ q p hz hb hd rfl (.inr rfl) hq hp e
  have hown : Own ρ h p.blk := ⟨bk, _, p, hb, rfl, hp, rfl⟩
  have hownW : OwnW ρ h p.blk := ⟨bk, _, p, hb, rfl, hp, rfl⟩
  rw [new_eq hid']
  obtain ⟨t', z', rfl, hv⟩ := hy
  refine ⟨Pls.le_up f1, hk.hr.add f1 f2 (by omega) (by omega) hother (fun c z q hz hd hq => hold _ (hother c z q hz hd hq)) ?_, ⟨hos, hout, by rw [hheap]; simp, fun k _ ho => hold k fun e => ho (e ▸ hownW)⟩, fun k _ ho => ?_, by show h.next ≤ id + 1; omega, fun c q hc hlt => by unfold Pls.up at hc; rwa [if_neg (by omega)] at hc, fun k _ ho => ?_⟩
  · refine ⟨_, row, e, fz, Pls.up_same _ _ _, by rw [hheap, Array.getElem?_setIfInBounds, if_pos rfl, if_pos hlt], hsz, hN, fun i hi => ?_, fun _ => hfz, hmk.ok⟩
    obtain ⟨v, cv, h1, h2, h3, h4⟩ := hv i hi
    exact ⟨v, cv, h1, h2, h3, h4.mono (Pls.le_up f1)⟩
  · obtain ⟨c, z, q, hz, hzr, hq, rfl⟩ := ho
    simp only [Tr.gt_up] at hz
    by_cases e : c = id
    · subst e; rw [Pls.up_same] at hq; cases hq; exact hown
    · rw [if_neg e] at hz
      unfold Pls.up at hq; rw [if_neg e] at hq
      exact hk.own _ ‹_› ⟨c, z, q, hz, hzr, hq, rfl⟩
  · obtain ⟨c, z, q, hz, hzr, hq, rfl⟩ := ho
    simp only [Tr.gt_up] at hz
    by_cases e : c = id
    · subst e; rw [Pls.up_same] at hq; cases hq; exact hownW
    · rw [if_neg e] at hz
      unfold Pls.up at hq; rw [if_neg e] at hq
      exact hk.ownW _ ‹_› ⟨c, z, q, hz, hzr, hq, rfl⟩

theorem tSize_info {e : TypeId} {s : Nat} (hs : tSize P e = some s) : ∃ i, P.info? e = some i ∧ i.size = s := by
  unfold tSize at hs
  cases hi : P.info? e with
  | none => rw [hi] at hs; cases hs
  | some i => rw [hi] at hs; cases hs; exact ⟨i, rfl, rfl⟩

theorem room_fits {bs need c' : Nat} (hr : room bs need = true) (hc : c' < need) : ((need : Nat) : Int) ≤ 9223372036854775807 ∧ Builtin.nextslicecap need c' * bs ≤ 281474976710656 := by
  unfold room at hr
  simp only [and'_eq, Bool.and_eq_true] at hr
  have h1 := Nat.le_of_ble_eq_true hr.1
  have h2 := Nat.le_of_ble_eq_true hr.2
  have h1 : need * bs ≤ 68719476736 := h1
  have h2 : need ≤ 68719476736 := h2
  exact ⟨by omega, growslice_fits hc (by omega)⟩

theorem appendS_sound {t u ty : TypeId} {ts : Array TypeId} {du : TypeDesc} {id : Nat} {s x : AV} {q : AV × Heap} (ht : ts[0]? = some t) (ht1 : ts[1]? = some u) (hu1 : P.underlying u = some du) (hint : ∀ k, du ≠ .int k) (hid : h.next ≤ id)
    (hr : HR P keep ρ h w) (hq : appendS P t s x id h = some q) {a b : Value} (hs : VR ρ s a) (hx : VR ρ x b) : Does P keep w ρ h (Builtin.append_ ts ty #[a, b]) q.1 q.2 := by
  unfold appendS at hq
  cases hu : P.underlying t with
  | none => rw [hu] at hq; cases hq
  | some d =>
    rw [hu] at hq
    cases d with
    | slice e =>
      cases hsz : tSize P e with
      | none => simp only [hsz] at hq; cases hq
      | some size =>
        cases size with
        | zero => simp only [hsz] at hq; cases hq
        | succ k =>
          cases hbt : tBytes P e with
          | none => simp only [hsz, hbt] at hq; cases hq
          | some bs =>
            cases hz : tZero P e with
            | none => simp only [hsz, hbt, hz, Option.map_none] at hq; cases hq
            | some z =>
              simp only [hsz, hbt, hz, Option.map_some, Option.getD_some] at hq
              cases hzl : Nat.beq (len' z.cells) (k + 1) with
              | false => rw [hzl] at hq; cases hq
              | true =>
                rw [hzl] at hq
                obtain ⟨o, len, c, g, e0, hq0⟩ := eSlice_some hq
                subst e0
                clear hq
                cases hsrc : srcOf (k + 1) (fun n => n) x h with
                | none => rw [hsrc] at hq0; cases hq0
                | some src =>
                  rw [hsrc] at hq0
                  obtain ⟨hc, hq1⟩ := iff'_some.1 hq0
                  clear hq0
                  simp only [and'_eq, Bool.and_eq_true] at hc
                  obtain ⟨hroom, hlen⟩ := hc
                  have hlen : src.1.length = src.2 * (k + 1) := by have := Nat.eq_of_beq_eq_true hlen; rw [len'_eq] at this; exact this
                  have hzl : z.cells.length = k + 1 := by have := Nat.eq_of_beq_eq_true hzl; rwa [len'_eq] at this
                  obtain ⟨n, cs, g1, g2, g3, g4⟩ := srcOf_sound hr hsrc hx (fun n => Nat.le_refl _)
                  have g3' := g3 w.drew rfl
                  replace g3 := g3 w rfl
                  rw [g2] at hlen hroom hq1
                  have hcl := g4.length
                  obtain ⟨inf, hi, his⟩ := tSize_info hsz
                  have hzv : ∃ zv, inf.zero = some zv ∧ VR ρ z zv := by
                    unfold tZero at hz
                    rw [hi] at hz
                    simp only [Option.bind_some] at hz
                    cases hiz : inf.zero with
                    | none => rw [hiz] at hz; cases hz
                    | some zv => rw [hiz] at hz; exact ⟨zv, rfl, VR.const ρ _ _ hz⟩
                  obtain ⟨zv, hiz, vz⟩ := hzv
                  have hib : inf.bytes = bs := by unfold tBytes at hbt; rw [hi] at hbt; simpa using hbt
                  have hzc : zv.cells.size = k + 1 := by have := vz.cells.length; rw [hzl] at this; simpa using this.symm
                  have hout : ∀ {base : Option Addr} {c' : Nat} {co : Array Value}, (Builtin.firstCells (k + 1) len (.slice base len c')).run P w.drew = .ok co w.drew → c' < len + n →
                      (Builtin.append_ ts ty #[.slice base len c', b]).run P w =
                        .ok (.slice (some ⟨w.heap.size, 0, none⟩) (len + n) (grownCap w (len + n) c' e)) (w.drew.alloc (.cells (co ++ cs ++ Builtin.zeroCells zv.cells (grownCap w (len + n) c' e - (len + n))) e)) := by
                    intro base c' co ho hlt
                    obtain ⟨r1, r2⟩ := room_fits hroom hlt
                    exact run_append_out ht hu hi hiz ht1 hu1 hint g1 (by rw [his]; exact g3') (by rw [his]; exact ho) (by omega) r1 (by rw [hib]; exact r2)
                  have hcs : cs.size = n * (k + 1) := by rw [← hlen]; simpa using hcl.symm
                  have hrowsz : ∀ {co : Array Value} {c' : Nat}, co.size = len * (k + 1) → c' < len + n → (co ++ cs ++ Builtin.zeroCells zv.cells (grownCap w (len + n) c' e - (len + n))).size = grownCap w (len + n) c' e * (k + 1) := by
                    intro co c' hco hlt
                    have := le_grownCap (w := w) (e := e) hlt
                    simp only [Array.size_append, hco, hcs, Builtin.zeroCells, Array.size_map, Array.size_range, hzc]
                    rw [← Nat.add_mul, ← Nat.add_mul]
                    congr 1; omega
                  cases n with
                  | zero =>
                    cases hq1
                    rw [Nat.zero_mul] at hcs
                    have hnil : cs.toList = [] := by simpa using hcs
                    have hin : ∀ {base : Option Addr} {c' : Nat}, len ≤ c' → (Builtin.append_ ts ty #[.slice base len c', b]).run P w = .ok (.slice base len c') w := by
                      intro base c' hle
                      refine run_append_in ht hu hsz ht1 hu1 hint g1 g3 (by omega) ?_
                      cases base with
                      | none => rfl
                      | some a => rw [hnil]; rfl
                    refine ⟨ρ, a, w, ?_, hs, Post.refl hr⟩
                    cases o with
                    | none => obtain ⟨rfl, rfl, _, rfl⟩ := hs; exact hin (Nat.le_refl _)
                    | some p0 => obtain ⟨p, a', c', _, rfl, h1, _⟩ := hs; exact hin h1
                  | succ n =>
                    have hq2 : appAt (k + 1) e o len c g id h src.1 (n + 1) = some q := hq1
                    clear hq1
                    cases o with
                    | none =>
                      obtain ⟨rfl, rfl, _, rfl⟩ := hs
                      obtain ⟨_, hq3⟩ := iff'_some.1 (show iff' (Nat.beq 0 0) (appNew (k + 1) (n + 1) (tyMark e false) id h src.1) = some q from hq2)
                      obtain ⟨hone, rfl⟩ := appNew_some hq3
                      have hgc := le_grownCap (w := w) (e := e) (show 0 < 0 + (n + 1) by omega)
                      obtain ⟨hpost, hval⟩ := app_row (e := e) hr hid (y := .cells (fillC src.1 .leaf 0) (tyMark e false) (len' src.1) false) (N := src.1.length) (row := #[] ++ cs ++ Builtin.zeroCells zv.cells (grownCap w (0 + (n + 1)) 0 e - (0 + (n + 1)))) (need := 0 + (n + 1)) (cap := grownCap w (0 + (n + 1)) 0 e) (size := k + 1)
                        (Row.of g4 hone fun i hi => by
                          have : i < cs.size := by have := hcl; simp at this; omega
                          simp only [Array.empty_append, Nat.zero_add, Array.getElem?_append_left this, Array.getElem?_toList]) bmark_new hgc (by simp only [Array.size_append, hcs, hlen]; simp) (hrowsz (by simp) (by omega))
                      refine ⟨_, _, _, hout rfl (by omega), ?_, hpost⟩
                      simpa using hval
                    | some p0 =>
                      obtain ⟨bk, off⟩ := p0
                      obtain ⟨p, a', c', hp, rfl, hle, hcle, hg, hes, ha⟩ := hs
                      have hold : ∀ {tr : Tr AV} {zz : List AV} {m : Nat} {ro : Bool}, h.bs.gt bk = some (.cells tr zz m ro) → off + len * (k + 1) ≤ m →
                          ∃ co : Array Value, (Builtin.firstCells (k + 1) len (.slice (some a') len c')).run P w.drew = .ok co w.drew ∧ co.size = len * (k + 1) ∧ ∀ i u, i < len * (k + 1) → w.cell? ⟨p.blk, p.off + off + i, none⟩ = some u → co[i]? = some u := by
                        intro tr zz m ro hb hm
                        obtain ⟨co, o1, o2, o3⟩ := run_oldCells (w := w.drew) hr.drew hb hm hp
                        refine ⟨co.toArray, ?_, by simpa using o1, fun i u hi hu => by simpa using o3 i u hi hu⟩
                        by_cases hc0 : c' = 0
                        · obtain rfl : len = 0 := by omega
                          rw [Nat.zero_mul] at o1
                          obtain rfl : co = [] := List.length_eq_zero_iff.1 o1
                          simp only [Builtin.firstCells, Nat.zero_mul]; rfl
                        · rw [ha hc0]; exact o2
                      have hnewrow : ∀ (co rest : Array Value) (i : Nat), co.size = len * (k + 1) → i < src.1.length → (co ++ cs ++ rest)[0 + len * (k + 1) + i]? = cs.toList[i]? := by
                        intro co rest i hco hi
                        have : i < cs.size := by omega
                        rw [Array.getElem?_append_left (by simp only [Array.size_append]; omega), Array.getElem?_append_right (by omega), Array.getElem?_toList]
                        congr 1; omega
                      have holdrow : ∀ (co rest : Array Value) (i : Nat) (u : Value), co.size = len * (k + 1) → i < len * (k + 1) → co[i]? = some u → (co ++ cs ++ rest)[0 + i]? = some u := by
                        intro co rest i u hco hi hu
                        rw [Array.getElem?_append_left (by simp only [Array.size_append]; omega), Array.getElem?_append_left (by omega), Nat.zero_add]
                        exact hu
                      have hmul : (len + (n + 1)) * (k + 1) = len * (k + 1) + (n + 1) * (k + 1) := Nat.add_mul _ _ _
                      have hq2 : (Bool.rec (motive := fun _ => Option (AV × Heap))
                          (Option.rec (motive := fun _ => Option (AV × Heap))
                            (Option.rec (motive := fun _ => Option (AV × Heap)) none (fun old => appNew (k + 1) (len + (n + 1)) (tyMark e false) id h (app' old src.1)) (h.ld bk off (len * (k + 1))))
                            (fun es => iff' (Nat.beq es (k + 1)) (appDead (k + 1) (len + (n + 1)) e off len (n + 1) src.1 bk id h)) g)
                          (stoAs (.slice (some (bk, off)) (len + (n + 1)) c g) (h.sto bk (off + len * (k + 1)) src.1)) (Nat.ble (len + (n + 1)) c) : Option (AV × Heap)) = some q := hq2
                      cases hbl : Nat.ble (len + (n + 1)) c with
                      | true =>
                        rw [hbl] at hq2
                        obtain ⟨h', hst, rfl⟩ := stAs_some hq2
                        have hle2 := Nat.le_of_ble_eq_true hbl
                        obtain ⟨p', w', hp', hrun, hpost⟩ := hr.sto hst g4
                        rw [hp] at hp'; cases hp'
                        have ha' := ha (by omega)
                        subst ha'
                        refine ⟨ρ, _, w', run_append_in ht hu hsz ht1 hu1 hint g1 g3 (by omega) (w' := w') ?_, ⟨p, _, c', hp, rfl, by omega, hcle, hg, hes, ha⟩, hpost⟩
                        simp only [add_addr]
                        rw [Nat.add_assoc]; exact hrun
                      | false =>
                        rw [hbl] at hq2
                        cases g with
                        | none =>
                          have hcc := hg rfl
                          have hlt : c' < len + (n + 1) := by
                            rcases Nat.lt_or_ge c' (len + (n + 1)) with h1 | h1
                            · exact h1
                            · rw [hcc] at h1; rw [Nat.ble_eq_true_of_le h1] at hbl; cases hbl
                          cases hl : h.ld bk off (len * (k + 1)) with
                          | none => rw [hl] at hq2; cases hq2
                          | some old =>
                            rw [hl] at hq2
                            obtain ⟨hone2, rfl⟩ := appNew_some hq2
                            obtain ⟨tr, zz, m, ro, hb, _⟩ := ld_some hl
                            obtain ⟨hm, hol, honto⟩ := Onto.row (vs := src.1) (z0 := tyMark e false) hl hb
                            obtain ⟨co, o1, o2, o3⟩ := hold hb hm
                            have hone : allOne src.1 = true := by
                              rw [allOne_eq, app'_eq, List.all_append, Bool.and_eq_true] at hone2
                              rw [allOne_eq]; exact hone2.2
                            have hrow : Row ρ (.cells (fillC (old ++ src.1) .leaf 0) (tyMark e false) (len' (old ++ src.1)) false) (len * (k + 1) + src.1.length) (co ++ cs ++ Builtin.zeroCells zv.cells (grownCap w (len + (n + 1)) c' e - (len + (n + 1)))) 0 :=
                              honto.lies hr hb hm g4 hone hp (fun i u hi hu => holdrow co _ i u o2 hi (o3 i u hi hu)) (fun i hi => hnewrow co _ i o2 hi)
                            obtain ⟨hpost, hval⟩ := app_row (e := e) hr hid hrow bmark_new (need := len + (n + 1)) (cap := grownCap w (len + (n + 1)) c' e) (size := k + 1) (le_grownCap hlt)
                              (by simp only [Array.size_append, o2, hcs, hlen]; omega) (hrowsz o2 hlt)
                            refine ⟨_, _, _, hout o1 hlt, hval, ?_⟩
                            rw [app'_eq]; exact hpost
                        | some es =>
                          obtain ⟨he, hq3⟩ := iff'_some.1 (show iff' (Nat.beq es (k + 1)) (appDead (k + 1) (len + (n + 1)) e off len (n + 1) src.1 bk id h) = some q from hq2)
                          obtain rfl := Nat.eq_of_beq_eq_true he
                          obtain ⟨tr, zz, m, y, hb, hone, hm, honto, hbm, hbm0, rfl⟩ := appDead_some hq3 hlen
                          have hcap := hes _ rfl
                          by_cases hin : len + (n + 1) ≤ c'
                          · obtain ⟨p', ca, ce, fz, hp', hh, hsz', hpm, hval, hfz⟩ := hr.blk _ _ hb
                            rw [hp] at hp'; cases hp'
                            have ha' := ha (by omega)
                            subst ha'
                            have hmul2 : (len + (n + 1)) * (k + 1) ≤ c' * (k + 1) := Nat.mul_le_mul_right _ hin
                            have hone' : ∀ u ∈ cs.toList, u.oneCell' = true := fun u hu => by
                              obtain ⟨i, hi⟩ := List.getElem?_of_mem hu
                              have hlt : i < src.1.length := by rw [hcl]; exact (List.getElem?_eq_some_iff.1 hi).1
                              obtain ⟨u', h1, h2⟩ := g4.get i src.1[i] (List.getElem?_eq_getElem hlt)
                              rw [hi] at h1; cases h1
                              rw [allOne_eq, List.all_eq_true] at hone
                              exact h2.one (hone _ (List.getElem_mem hlt))
                            obtain ⟨w', hrun, hos, hou, hheap⟩ := run_storeRun P (k := p.blk) (base := p.off + off + len * (k + 1)) cs.toList 0 w ca hh (by rw [← hcl, hlen, hsz']; omega) hone' (by rw [hsz']; exact hfz.1 rfl)
                            rw [Nat.add_zero] at hheap
                            have hsum : p.off + off + len * (k + 1) + cs.toList.length ≤ ca.size := by rw [← hcl, hlen, hsz']; omega
                            have hrow : Row ρ y (len * (k + 1) + src.1.length) (putRun ca (p.off + off + len * (k + 1)) cs.toList) (p.off + off) := by
                              refine honto.lies hr hb hm g4 hone hp (fun i u hi hu => ?_) (fun i hi => ?_)
                              · rw [putRun_get _ _ _ _ hsum, if_neg (by omega), ← cell_of_heap hh]; exact hu
                              · rw [putRun_get _ _ _ _ hsum, if_pos (by omega)]
                                congr 1; omega
                            refine ⟨_, _, w', run_append_in ht hu hsz ht1 hu1 hint g1 g3 hin (w' := w') ?_, ?_, app_over hr hb hp hid hh (hfz.1 rfl) hos hou hheap (by rw [putRun_size, hsz']) (by rw [hlen]; omega) hrow (hbm0 _ fun k x hz => (hfz.2 k x hz).1)⟩
                            · simp only [add_addr]; exact hrun
                            · exact ⟨_, _, c', Pls.up_same _ _ _, rfl, hin, hin, (fun e => by cases e), (fun es e => by cases e; exact hcap), fun _ => rfl⟩
                          · have hlt : c' < len + (n + 1) := by omega
                            obtain ⟨co, o1, o2, o3⟩ := hold hb hm
                            have hk := hr.kill hb
                            have hrow : Row ρ y (len * (k + 1) + src.1.length) (co ++ cs ++ Builtin.zeroCells zv.cells (grownCap w (len + (n + 1)) c' e - (len + (n + 1)))) 0 :=
                              honto.lies hr hb hm g4 hone hp (fun i u hi hu => holdrow co _ i u o2 hi (o3 i u hi hu)) (fun i hi => hnewrow co _ i o2 hi)
                            obtain ⟨hpost, hval⟩ := app_row (e := e) hk.hr (id := id) hid hrow hbm (need := len + (n + 1)) (cap := grownCap w (len + (n + 1)) c' e) (size := k + 1) (le_grownCap hlt)
                              (by simp only [Array.size_append, o2, hcs, hlen]; omega) (hrowsz o2 hlt)
                            exact ⟨_, _, _, hout o1 hlt, hval, hk.trans hpost⟩
    | _ => cases hq
end
end Go.Am

/-
  AM, 13b: unsafe.String and its kin; a pointer made unsafe and back; functions without a Go text.
-/
namespace Go.Am
section
variable {P : Program} {keep : Keeps} {w : World} {ρ : Pls} {h : Heap}

theorem markOf_some {z : List AV} {t : Nat} {x : Bool} (hz : markOf z = some (t, x)) : z = tyMark t x := by
  unfold markOf at hz
  split at hz
  · cases hz; rfl
  · cases hz

theorem sliceData_sound {v r : AV} {a : Value} {ts : Array TypeId} {ty : TypeId} (hr : sliceData v = some r) (hv : VR ρ v a) : Gives P w ρ (Builtin.unsafeSliceData_ ts ty #[a]) r := by
  cases v with
  | slice o n c g =>
    cases o with
    | none =>
      cases hr
      obtain ⟨rfl, rfl, _, rfl⟩ := hv
      exact ⟨_, rfl, rfl⟩
    | some p0 =>
      obtain ⟨b, o⟩ := p0
      simp only [sliceData] at hr
      split at hr
      · cases hr
      · rename_i hne
        cases hr
        obtain ⟨p, a', c', hp, rfl, h1, h2, _, _, h5⟩ := hv
        have hc : c' ≠ 0 := by omega
        refine ⟨_, Lib.run_unsafeSliceData_row w ts ty a' n c' hc, p, hp, ?_⟩
        rw [h5 hc]
  | _ => cases hr

/-- the model marks cells as ones that stay -/
theorem HR.freeze (hr : HR P keep ρ h w) {b : Nat} {t : Tr AV} {z : List AV} {m : Nat} {ro : Bool} (hb : h.bs.gt b = some (.cells t z m ro)) (hmk : (markOf z).isNone = false) {p : Pl} (hp : ρ b = some p) (o n : Nat) :
    Post P keep ρ h w ρ (h.put b (.cells t z m true)) (w.freeze ⟨p.blk, o, none⟩ n) := by
  have hos : (w.freeze ⟨p.blk, o, none⟩ n).os = w.os := by unfold World.freeze; split <;> rfl
  have hout : (w.freeze ⟨p.blk, o, none⟩ n).output = w.output := by unfold World.freeze; split <;> rfl
  have hsz : (w.freeze ⟨p.blk, o, none⟩ n).heap.size = w.heap.size := by unfold World.freeze; split <;> simp
  have hsame : ∀ k, k ≠ p.blk → (w.freeze ⟨p.blk, o, none⟩ n).heap[k]? = w.heap[k]? := fun k hk => by
    unfold World.freeze
    split
    · rfl
    · simp only [Array.getElem?_modify]
      rw [if_neg (fun e => hk e.symm)]
  have hcells : ∀ c e fz, w.heap[p.blk]? = some (.cells c e fz) → ∃ fz', (w.freeze ⟨p.blk, o, none⟩ n).heap[p.blk]? = some (.cells c e fz') := fun c e fz hc => by
    unfold World.freeze
    split
    · exact ⟨fz, hc⟩
    · refine ⟨if fz.1 == fz.2 then (o, o + n) else (min fz.1 o, max fz.2 (o + n)), ?_⟩
      simp only [Array.getElem?_modify, if_pos, hc, Option.map_some]
  have hget : ∀ c, (h.put b (.cells t z m true)).bs.gt c = if c = b then some (.cells t z m true) else h.bs.gt c := fun c => Tr.gt_up _ _ _ _
  have hbr := hr.blk _ _ hb
  obtain ⟨p0, c, e, fz, hp0, hc, hcs, hn, hv, hf⟩ := hbr
  rw [hp] at hp0; cases hp0
  have hlt : p.blk < w.heap.size := (Array.getElem?_eq_some_iff.1 hc).1
  have hown : Own ρ h p.blk := ⟨b, _, p, hb, rfl, hp, rfl⟩
  have hfx : ∀ r, (Blk.cells t z m r).fixed = false := fun r => by show (r && (markOf z).isNone) = false; rw [hmk, Bool.and_false]
  have hownW : OwnW ρ h p.blk := ⟨b, _, p, hb, hfx _, hp, rfl⟩
  refine ⟨Pls.le_refl _, ⟨hr.dom, fun c' x hx => ?_, fun c' x hx => ?_, fun c1 c2 x1 x2 q1 q2 h1 h2 d1 d2 hro hq1 hq2 hne => ?_⟩, ⟨hos, hout, by omega, fun k _ ho => hsame k fun e => ho (e ▸ hownW)⟩, fun k _ ho => ?_, Nat.le_refl _, fun _ _ h _ => h, fun k _ ho => ?_⟩
  · rw [hget] at hx
    by_cases e : c' = b
    · subst e; exact hr.has _ _ hb
    · rw [if_neg e] at hx; exact hr.has _ _ hx
  · rw [hget] at hx
    by_cases e1 : c' = b
    · subst e1
      rw [if_pos rfl] at hx; cases hx
      obtain ⟨fz', hfz'⟩ := hcells c e fz hc
      exact ⟨p, c, e, fz', hp, hfz', hcs, hn, hv, (fun e => by cases e), hf.2⟩
    · rw [if_neg e1] at hx
      by_cases hq : ∃ q, ρ c' = some q ∧ q.blk = p.blk ∧ x.dead? = false
      · obtain ⟨q, hq1, hq2, hq3⟩ := hq
        -- another block at the same place: both may be read only
        have hxro : x.ro = true := by
          cases hx2 : x.ro with
          | true => rfl
          | false => exact absurd hq2 (hr.inj c' b x _ q p hx hb hq3 rfl (.inl hx2) hq1 hp e1)
        have hbx := hr.blk _ _ hx
        cases x with
        | cells t1 z1 m1 ro1 =>
          obtain ⟨p1, c1, e1', fz1, hp1, hc1, g1, g2, g3, g4⟩ := hbx
          rw [hq1] at hp1; cases hp1
          rw [hq2, hc] at hc1; cases hc1
          obtain ⟨fz', hfz'⟩ := hcells c e fz hc
          exact ⟨q, c, e, fz', hq1, by rw [hq2]; exact hfz', g1, g2, g3, (fun e => by cases (show ro1 = true from hxro).symm.trans e), g4.2⟩
        | dead => cases hq3
        | map _ _ => cases hxro
        | siter _ _ => cases hxro
        | loop _ => cases hxro
      · exact (hr.blk _ _ hx).frame fun q hd hqq => hsame _ fun e => hq ⟨q, hqq, e, hd⟩
  · have fix : ∀ c0 x0, (h.put b (.cells t z m true)).bs.gt c0 = some x0 → x0.dead? = false → ∃ x', h.bs.gt c0 = some x' ∧ x'.dead? = false ∧ (x0.ro = false → x'.ro = false) := by
      intro c0 x0 hx0 hd0
      rw [hget] at hx0
      by_cases e : c0 = b
      · subst e; rw [if_pos rfl] at hx0; cases hx0; exact ⟨_, hb, rfl, fun e => by cases e⟩
      · rw [if_neg e] at hx0; exact ⟨x0, hx0, hd0, id⟩
    obtain ⟨y1, a1, a2, a3⟩ := fix _ _ h1 d1
    obtain ⟨y2, b1, b2, b3⟩ := fix _ _ h2 d2
    exact hr.inj c1 c2 y1 y2 q1 q2 a1 b1 a2 b2 (hro.imp a3 b3) hq1 hq2 hne
  · obtain ⟨c0, x0, q, hx, hd, hq, rfl⟩ := ho
    rw [hget] at hx
    by_cases e : c0 = b
    · subst e; rw [hp] at hq; cases hq; exact hown
    · rw [if_neg e] at hx; exact ⟨c0, x0, q, hx, hd, hq, rfl⟩
  · obtain ⟨c0, x0, q, hx, hd, hq, rfl⟩ := ho
    rw [hget] at hx
    by_cases e : c0 = b
    · subst e; rw [hp] at hq; cases hq; exact hownW
    · rw [if_neg e] at hx; exact ⟨c0, x0, q, hx, hd, hq, rfl⟩

theorem rowAt_off {fits : TypeId → Bool} {d e count off n : Nat} (hc : P.cellsOf e = 1) (hf : fits e = true) (hn : off + n ≤ count) : Go.rowAt P fits (d + 1) e count off n = true := by
  simp only [Go.rowAt, hc]
  simp [hf, Nat.mod_one, hn]
theorem liesAt_off {e count off n : Nat} (hc : P.cellsOf e = 1) (hn : off + n ≤ count) : liesAt P P.depth e count off e n = true := by
  have hd : P.depth = (2 * (P.types.size + Made.depth) + 1) + 1 := rfl
  rw [hd]
  simp only [liesAt, Bool.or_eq_true]
  left
  rw [hd]
  exact rowAt_off hc (by simp [sameLayout]) hn

theorem byteVal {v : AV} {c : Nat} (hv : theByte v = some c) : v = .int .u8 (Int.ofNat c) ∧ c ≤ 255 := by
  obtain ⟨k, n, rfl, h1⟩ := eInt_some hv
  obtain ⟨h2, h3⟩ := iff'_some.1 h1
  have hk : k = .u8 := by cases k <;> first | rfl | cases h2
  subst hk
  cases n with
  | ofNat m =>
    obtain ⟨h4, h5⟩ := iff'_some.1 (show iff' (Nat.ble m 255) (some m) = some c from h3)
    cases h5
    exact ⟨rfl, Nat.le_of_ble_eq_true h4⟩
  | negSucc m => cases h3
theorem bytesOf_some : ∀ {vs : List AV} {l : List Nat}, bytesOf vs = some l → ∃ bs : List UInt8, l = bs.map (·.toNat) ∧ vs = bs.map fun b => .int .u8 (b.toNat : Int)
  | [], l, h => by cases h; exact ⟨[], rfl, rfl⟩
  | v :: vs, l, h => by
    have h : ob (theByte v) (fun c => ob (bytesOf vs) fun l => some (c :: l)) = some l := h
    obtain ⟨c, h1, h2⟩ := ob_some.1 h
    obtain ⟨l', h3, h4⟩ := ob_some.1 h2
    cases h4
    obtain ⟨rfl, hc⟩ := byteVal h1
    obtain ⟨bs, rfl, rfl⟩ := bytesOf_some h3
    refine ⟨UInt8.ofNat c :: bs, ?_, ?_⟩
    · simp only [List.map_cons, List.cons.injEq, and_true]
      rw [UInt8.toNat_ofNat']; omega
    · simp only [List.map_cons, List.cons.injEq, and_true]
      rw [UInt8.toNat_ofNat', Nat.mod_eq_of_lt (by omega)]; rfl

theorem strAt_sound {t e ty : TypeId} {ts : Array TypeId} (ht : ts[0]? = some t) (hu : P.underlying t = some (.pointer e)) (hs : tSize P e = some 1) (hr : HR P keep ρ h w) {x n : AV} {q : AV × Heap} (hq : strAt e h x n = some q) {a b : Value} (hx : VR ρ x a) (hn : VR ρ n b) :
    Does P keep w ρ h (Builtin.unsafeString_ ts ty #[a, b]) q.1 q.2 := by
  obtain ⟨k, n, rfl, h1⟩ := eInt_some hq
  cases hn
  have hmax : IntKind.i64.max = 9223372036854775807 := rfl
  have hdef : ∀ (p : Option Addr) (n : Int), (Builtin.unsafeString_ ts ty #[.pointer p, .int k n]) =
      (do
        let n ← asInt (.int k n)
        let some pt := ts[0]? | stuck "unsafe.String: no argument types"
        if n < 0 then runtimePanic (.error "unsafe.String: len out of range")
        if n > IntKind.i64.max then unsupported (.unsafePointer "String: a length above the largest int")
        match p with
        | none =>
          if n = 0 then pure (.string .empty)
          else runtimePanic (.error "unsafe.String: ptr is nil and len is not zero")
        | some a =>
          if n = 0 then pure (.string .empty)
          else if ← variablesAt a (← elemOf pt) n.toNat then do
            let s ← loadBytes a .empty n.toNat
            freeze a n.toNat
            pure (.string s)
          else unsupported (.unsafePointer "String: not so many bytes at ptr")) := fun p n => rfl
  cases n with
  | negSucc n => cases h1
  | ofNat n =>
    cases n with
    | zero =>
      cases x with
      | ptr p =>
        cases h1
        have : ∃ p', a = .pointer p' := by
          cases p with
          | none => cases hx; exact ⟨_, rfl⟩
          | some p => obtain ⟨b0, o0⟩ := p; obtain ⟨p', _, rfl⟩ := hx; exact ⟨_, rfl⟩
        obtain ⟨p', rfl⟩ := this
        refine ⟨ρ, .string .empty, w, ?_, ⟨.empty, rfl, rfl⟩, Post.refl hr⟩
        rw [hdef]
        cases p' <;> simp [asInt, asIntOf, hmax, ht]
      | _ => cases h1
    | succ n =>
      obtain ⟨bk, o, rfl, h2⟩ := ePtr_some h1
      obtain ⟨h3, h4⟩ := iff'_some.1 h2
      have h3 : n + 1 ≤ 1099511627776 := Nat.le_of_ble_eq_true h3
      obtain ⟨tr, z, m, ro, hb, h5⟩ := cells_some h4
      cases hmk : markOf z with
      | none => simp only [hmk] at h5; cases h5
      | some ex =>
        obtain ⟨e', x'⟩ := ex
        simp only [hmk] at h5
        split at h5
        · rename_i he
          subst he
          obtain ⟨h6, h7⟩ := iff'_some.1 h5
          have h6 := Nat.le_of_ble_eq_true h6
          have h6 : o + (n + 1) ≤ m := h6
          obtain ⟨vs, h8, h9⟩ := ob_some.1 h7
          obtain ⟨l, h10, h11⟩ := ob_some.1 h9
          cases h11
          obtain ⟨bs, rfl, rfl⟩ := bytesOf_some h10
          obtain ⟨hlen, hget⟩ := loadC_some h8
          rw [List.length_map] at hlen
          obtain ⟨p, hp, rfl⟩ := hx
          obtain ⟨p0, c, e0, fz, hp0, hc, hcs, hpm, hval, hf⟩ := hr.blk _ _ hb
          rw [hp] at hp0; cases hp0
          obtain ⟨rfl, _⟩ := hf.2 _ _ (markOf_some hmk)
          have hcell : ∀ j (x : UInt8), bs[j]? = some x → w.cell? ((⟨p.blk, p.off + o, none⟩ : Addr).add j) = some (.int .u8 x.toNat) := fun j x hj => by
            have hjl : j < bs.length := (List.getElem?_eq_some_iff.1 hj).1
            obtain ⟨v, cv, g1, g2, g3, g4⟩ := hval (o + j) (by omega)
            rw [hget j (by omega), List.getElem?_map, hj] at g1
            cases g1
            rw [add_addr, cell_of_heap hc, Nat.add_assoc, g3]
            exact congrArg some g4
          have hsh : w.shape? p.blk = some (e0, p.size) := by simp [World.shape?, hc, hcs]
          have hce : P.cellsOf e0 = 1 := by
            unfold tSize at hs
            simp only [Program.cellsOf]
            cases hi : P.info? e0 with
            | none => rw [hi] at hs; cases hs
            | some i => rw [hi] at hs; simpa using hs
          have hlies := liesAt_off (P := P) (e := e0) (count := p.size / P.cellsOf e0) (off := p.off + o) (n := n + 1) hce (by rw [hce, Nat.div_one]; omega)
          have hno : o + (n + 1) ≤ p.size - p.off := by omega
          have hlb := Lib.run_loadBytes (P := P) w bs ⟨p.blk, p.off + o, none⟩ .empty hcell
          rw [hlen] at hlb
          refine ⟨ρ, .string ⟨bs.toArray⟩, w.freeze ⟨p.blk, p.off + o, none⟩ (n + 1), ?_, ⟨_, rfl, by simp⟩, hr.freeze hb (by rw [hmk]; rfl) hp _ _⟩
          rw [hdef]
          have hneg : ¬ (Int.ofNat (n + 1)) < 0 := by simp only [Int.ofNat_eq_natCast]; omega
          have h63 : ¬ (9223372036854775807 : Int) < Int.ofNat (n + 1) := by simp only [Int.ofNat_eq_natCast]; omega
          have hne : ¬ (Int.ofNat (n + 1)) = 0 := by simp only [Int.ofNat_eq_natCast]; omega
          have ht' : (Int.ofNat (n + 1)).toNat = n + 1 := rfl
          simp only [asInt, asIntOf, Sem.run_bind, Sem.run_pure, Result.andThen_ok, ht, hmax, hneg, h63, hne, if_false, ht', variablesAt, elemOf, run_underlying hu]
          simp [hsh, hlies, hlb]
        · cases h5

/-! ### Pointers made unsafe and back -/
theorem toUnsafe_sound {s d t : TypeId} (hsu : P.underlying s = some (.pointer t)) (hdu : P.underlying d = some .unsafePointer) (hr : HR P keep ρ h w) {v r : AV} (hf : toUnsafe P t h v = some r) {a : Value} (hv : VR ρ v a) : Gives P w ρ (convert s d a) r := by
  unfold toUnsafe at hf
  split at hf
  · rename_i n b o hsz
    obtain ⟨tr, z, m, ro, hb, h1⟩ := cells_some hf
    obtain ⟨h2, h3⟩ := iff'_some.1 h1
    cases h3
    have h2 : o < m := Nat.le_of_ble_eq_true h2
    have hv' := hv
    obtain ⟨p, hp, rfl⟩ := hv
    obtain ⟨p0, c, e0, fz, hp0, hc, hcs, hpm, hval, hf⟩ := hr.blk _ _ hb
    rw [hp] at hp0; cases hp0
    obtain ⟨i, hi, his⟩ := tSize_info hsz
    exact ⟨_, Lib.run_to_unsafe w ⟨p.blk, p.off + o, none⟩ hsu hdu hi (by omega) (e := e0) (cells := p.size) (by simp [World.shape?, hc, hcs]) (by show p.off + o < p.size; omega), hv'⟩
  · rename_i n hsz
    cases hf
    cases hv
    refine ⟨.pointer none, ?_, rfl⟩
    simp [convert, run_underlying hsu, run_underlying hdu, Conv.unsafePointer]
  · cases hf

theorem fromUnsafe_sound {s d u : TypeId} (hsu : P.underlying s = some .unsafePointer) (hdu : P.underlying d = some (.pointer u)) (hr : HR P keep ρ h w) {v r : AV} (hf : fromUnsafe P u h v = some r) {a : Value} (hv : VR ρ v a) : Gives P w ρ (convert s d a) r := by
  unfold fromUnsafe at hf
  split at hf
  · cases hf
    cases hv
    refine ⟨.pointer none, ?_, rfl⟩
    simp [convert, run_underlying hsu, run_underlying hdu, Conv.unsafePointer]
  · rename_i b o
    obtain ⟨tr, z, m, ro, hb, h1⟩ := cells_some hf
    split at h1
    · rename_i e hmk
      split at h1
      · rename_i hl
        cases h1
        rw [Bool.and_eq_true] at hl
        have hv' := hv
        obtain ⟨p, hp, rfl⟩ := hv
        obtain ⟨p0, c, e0, fz, hp0, hc, hcs, hpm, hval, hf⟩ := hr.blk _ _ hb
        rw [hp] at hp0; cases hp0
        obtain ⟨rfl, hx⟩ := hf.2 _ _ (markOf_some hmk)
        obtain ⟨h0, hsz⟩ := hx rfl
        cases hi : P.info? u with
        | none => rw [hi] at hl; cases hl.1
        | some i =>
          refine ⟨_, Lib.run_from_unsafe w ⟨p.blk, p.off + o, none⟩ hsu hdu hi (e := e0) (cells := p.size) (by simp [World.shape?, hc, hcs]) ?_, hv'⟩
          show liesAt P P.depth e0 (p.size / P.cellsOf e0) (p.off + o) u 1 = true
          rw [h0, hsz, Nat.zero_add]; exact hl.2
      · cases h1
    · cases h1
  · cases hf

/-! ### Functions without a Go text -/
theorem find_noEscape (fn : Func) (h : fn.name = "internal/abi.NoEscape") (ho : fn.origin = "") : Extern.findNext fn = none ∧ Extern.find fn = some Extern.AbiNoEscape.same := by
  cases fn
  simp only at h ho
  subst h ho
  exact ⟨by kernel_rfl, by kernel_rfl⟩
theorem find_indexByte (fn : Func) (h : fn.name = "internal/bytealg.IndexByteString") (ho : fn.origin = "") : Extern.findNext fn = none ∧ Extern.find fn = some Extern.BytealgIndexByte.indexByte := by
  cases fn
  simp only at h ho
  subst h ho
  exact ⟨by kernel_rfl, by kernel_rfl⟩
end
end Go.Am

/-
  AM, 16: every operation that is compiled.
-/
import Derived.Test.YtboobbebilegnaaGreatAm15
namespace Go.Am
section
variable {P : Program} {keep : Keeps} {find : Nat → Option Opd}
theorem VRs.cons_inv {ρ : Pls} {u : AV} {us : List AV} {l : List Value} (hv : VRs ρ (u :: us) l) : ∃ v t, l = v :: t ∧ VR ρ u v ∧ VRs ρ us t := hv

theorem run_ext {w : World} {k : FuncId} {fn : Func} {args : Array Value} {e : Array Value → Sem Value} (hf : P.funcs[k]? = some fn) (hb : fn.body = none) (hn : (fn.name == "runtime.NumGoroutine") = false) (h1 : Extern.findNext fn = none) (h2 : Extern.find fn = some e) {v : Value} (hr : (e args).run P w = .ok v w) :
    (callFunc k args).run P w = .ok (.value v) w := by
  unfold callFunc
  simp only [program, Sem.run_bind]
  show ((match P.funcs[k]? with
    | none => stuck "call: no such function"
    | some fn => _ : Sem Next)).run P w = _
  rw [hf]
  simp only [hn, hb, Option.isNone_none, Bool.false_eq_true, if_false, if_true, Sem.run_bind, h1, h2]
  show Result.andThen (Sem.run P (mark (Mark.extern k)) w) _ = _
  simp [mark, Sem.run, hr]
theorem extOf_1 {k : FuncId} (h : extOf P k = 1) : ∃ fn, P.funcs[k]? = some fn ∧ fn.body = none ∧ fn.name = "internal/abi.NoEscape" ∧ fn.origin = "" := by
  unfold extOf at h
  split at h
  · rename_i fn hf
    split at h
    · rename_i hb
      rw [Bool.and_eq_true, Option.isNone_iff_eq_none, decide_eq_true_eq] at hb
      split at h
      · exact ⟨fn, hf, hb.1, ‹_›, hb.2⟩
      · split at h <;> cases h
    · cases h
  · cases h
theorem extOf_2 {k : FuncId} (h : extOf P k = 2) : ∃ fn, P.funcs[k]? = some fn ∧ fn.body = none ∧ fn.name = "internal/bytealg.IndexByteString" ∧ fn.origin = "" := by
  unfold extOf at h
  split at h
  · rename_i fn hf
    split at h
    · rename_i hb
      rw [Bool.and_eq_true, Option.isNone_iff_eq_none, decide_eq_true_eq] at hb
      split at h
      · cases h
      · split at h
        · exact ⟨fn, hf, hb.1, ‹_›, hb.2⟩
        · cases h
    · cases h
  · cases h
theorem indexByte_lo (c : UInt8) : ∀ (l : List UInt8), -1 ≤ Lib.indexByte l c
  | [] => by simp [Lib.indexByte]
  | x :: l => by
    have := indexByte_lo c l
    unfold Lib.indexByte
    split
    · decide
    · split
      · decide
      · omega
theorem findB_eq (c : UInt8) : ∀ (l : List UInt8) (i : Nat), findB c.toNat (l.map (·.toNat)) i = .int .i64 (if Lib.indexByte l c == -1 then -1 else (i : Int) + Lib.indexByte l c)
  | [], i => rfl
  | x :: l, i => by
    have ih := findB_eq c l (i + 1)
    have hlo := indexByte_lo c l
    show (Bool.rec (motive := fun _ => AV) (findB c.toNat (l.map (·.toNat)) (i + 1)) (.int .i64 (Int.ofNat i)) (Nat.beq x.toNat c.toNat) : AV) = _
    rw [bool_rec_beq]
    unfold Lib.indexByte
    by_cases h : x.toNat = c.toNat
    · have hx : x = c := UInt8.toNat_inj.1 h
      subst hx
      simp
    · rw [if_neg h, ih]
      have hx : ¬ x = c := fun e => h (by rw [e])
      have h0 : (x == c) = false := by simpa using hx
      simp only [h0, Bool.false_eq_true, if_false]
      by_cases h2 : Lib.indexByte l c == -1
      · simp [h2]
      · have h2' : ¬ Lib.indexByte l c = -1 := by simpa using h2
        have h3 : ¬ (Lib.indexByte l c + 1 == -1) = true := by simp; omega
        rw [if_neg h2, if_neg h2, if_neg h3]
        congr 1; push_cast; omega
theorem indexByte2_sound {w : World} {ρ : Pls} {s c r : AV} {a b : Value} (hf : indexByte2 s c = some r) (hs : VR ρ s a) (hc : VR ρ c b) : ∃ v, (Extern.BytealgIndexByte.indexByte #[a, b]).run P w = .ok v w ∧ VR ρ r v := by
  obtain ⟨l, rfl, h1⟩ := eStr_some hf
  obtain ⟨k, h2, h3⟩ := ob_some.1 h1
  cases h3
  obtain ⟨rfl, hk⟩ := byteVal h2
  obtain ⟨sb, rfl, rfl⟩ := hs
  cases hc
  refine ⟨_, Lib.run_indexByteString sb _ w, ?_⟩
  have hk' : (UInt8.ofNat k).toNat = k := by rw [UInt8.toNat_ofNat']; omega
  have := findB_eq (UInt8.ofNat k) sb.data.toList 0
  rw [hk'] at this
  rw [this]
  have e : (Int.ofNat k).toNat.toUInt8 = UInt8.ofNat k := rfl
  rw [e]
  show Value.int .i64 _ = Value.int .i64 _
  congr 1
  have hlo := indexByte_lo (UInt8.ofNat k) sb.data.toList
  split
  · rename_i h; simpa using h
  · simp

theorem compOp_good (o : Oper) : Good P keep find o (compOp P find o.op) := by
  obtain ⟨dst, op, ty, pos, after, guard⟩ := o
  cases op with
  | move x =>
    simp only [compOp]
    cases hx : Am.resolve find x with
    | none => trivial
    | some y => intro loc vs tm ρ h w a hr he v hv; exact ⟨a.eval x, rfl, resolve_sound he hx hv⟩
  | assign x =>
    simp only [compOp]
    cases hx : Am.resolve find x with
    | none => trivial
    | some y => intro loc vs tm ρ h w a hr he v hv; exact ⟨a.eval x, rfl, resolve_sound he hx hv⟩
  | pick c x y =>
    simp only [compOp]
    cases hc : Am.resolve find c with
    | none => trivial
    | some c' =>
      cases hx : Am.resolve find x with
      | none => trivial
      | some x' =>
        cases hy : Am.resolve find y with
        | none => trivial
        | some y' =>
          intro loc vs tm ρ h w a hr he t r h1 h2
          have e1 := VR.bool (resolve_sound he hc h1)
          cases t with
          | true =>
            simp only [if_true] at h2
            refine ⟨a.eval x, ?_, resolve_sound he hx h2⟩
            simp only [execOp, e1, asBool, Sem.run_bind, Sem.run_pure, Result.andThen_ok, if_true]
          | false =>
            simp only [Bool.false_eq_true, if_false] at h2
            refine ⟨a.eval y, ?_, resolve_sound he hy h2⟩
            simp only [execOp, e1, asBool, Sem.run_bind, Sem.run_pure, Result.andThen_ok, Bool.false_eq_true, if_false]
  | alloc t =>
    intro loc vs tm ρ h w a hr he us r _ hf
    exact makesN (allocN_sound hf)
  | box t x =>
    exact good_al fun w ρ a us r hv hf => by
      obtain ⟨u, rfl, h1⟩ := l1_some hf
      obtain ⟨v, e1, h2⟩ := hv.one
      simp only [List.map_cons, List.map_nil, List.cons.injEq, and_true] at e1
      subst e1
      exact makesN (box1_sound h1 h2)
  | build t ps =>
    exact good_pn fun w ρ a us r hv hf => by
      have e := map_toList_pair ps a.eval
      exact givesN (buildN_sound (ps := ps.map fun (i, x) => (i, a.eval x)) (by rw [e.1]; exact hf) (by rw [e.2]; exact hv))
  | buildSlice t n ps =>
    exact good_al fun w ρ a us r hv hf => by
      have e := map_toList_pair ps a.eval
      have hb : Makes P keep w ρ (Instr.buildSlice t n (ps.map fun (i, x) => (i, a.eval x))) r := by
        apply buildSliceN_sound
        · rw [e.1]; exact hf
        · rw [e.2]; exact hv
      have hm := makesN hb
      exact hm
  | insert t m k x =>
    exact good_ef fun w ρ h a us id q hr hid hv hf => by
      obtain ⟨u1, u2, u3, rfl, h1⟩ := l3_some hf
      obtain ⟨v1, t1, e1, h2, h3⟩ := hv.cons_inv
      obtain ⟨v2, t2, e2, h4, h5⟩ := h3.cons_inv
      obtain ⟨v3, e3, h6⟩ := h5.one
      subst e3 e2
      simp only [List.map_cons, List.map_nil, List.cons.injEq, and_true] at e1
      obtain ⟨rfl, rfl, rfl⟩ := e1
      obtain ⟨h7, h8⟩ := mapUpd_sound hr h1 h2 h4 h6
      rw [h7]; exact doesU h8
  | load t x =>
    simp only [compOp]
    cases hx : Am.resolve find x with
    | none => trivial
    | some y =>
      cases hs : tSize P t with
      | none => trivial
      | some s =>
        cases hg : tAgg P t with
        | none => trivial
        | some g =>
          cases g with
          | false => intro loc vs tm ρ h w a hr he v r hv hf; exact givesN (load1_sound hg hr hf (resolve_sound he hx hv))
          | true => intro loc vs tm ρ h w a hr he v r hv hf; exact givesN (loadN_sound hs hg hr hf (resolve_sound he hx hv))
  | store t x y =>
    simp only [compOp]
    cases hx : Am.resolve find x with
    | none => trivial
    | some x' =>
      cases hy : Am.resolve find y with
      | none => trivial
      | some y' =>
        cases hs : tSize P t with
        | none => trivial
        | some s =>
          cases hg : tAgg P t with
          | none => match s with | 0 | 1 | _ + 2 => trivial
          | some g =>
            have many : ∀ loc vs tm ρ h w a, HR P keep ρ h w → EnvOk find loc vs tm ρ a → ∀ us (id : Nat) q, h.next ≤ id → gets [x', y'] loc vs tm = some us → l2 (storeN s h) us = some q → DoesN P keep w ρ h (execOp a.eval ⟨dst, .store t x y, ty, pos, after, guard⟩) q.1 q.2 := by
              intro loc vs tm ρ h w a hr he us id q _ hg hf
              obtain ⟨u1, u2, rfl, h1⟩ := l2_some hf
              rw [gets_cons] at hg
              obtain ⟨v, g1, g2⟩ := ob_some.1 hg
              obtain ⟨us', g3, g4⟩ := ob_some.1 g2
              rw [gets_cons] at g3
              obtain ⟨v', g5, g6⟩ := ob_some.1 g3
              cases g6; cases g4
              obtain ⟨h7, h8⟩ := storeN_sound hs hr h1 (resolve_sound he hx g1) (resolve_sound he hy g5)
              rw [h7]; exact doesU h8
            match s, g with
            | 1, false =>
              intro loc vs tm ρ h w a hr he p v q hp hv hf
              obtain ⟨h7, h8⟩ := store1_sound hs hr hf (resolve_sound he hx hp) (resolve_sound he hy hv)
              rw [h7]; exact doesU h8
            | 0, false => trivial
            | _ + 2, false => trivial
            | 0, true => exact many
            | 1, true => exact many
            | _ + 2, true => exact many
  | nilCheck x => exact good_on1 fun w ρ a v r hv hf => notNil_sound hv hf
  | binOp op t x y u =>
    exact good_on2 fun w ρ a v u r hv hu hf => givesN (bin2_sound hf hv hu)
  | unOp op t x => exact good_on1 fun w ρ a v r hv hf => givesN (un1_sound hf hv)
  | convert s d x =>
    simp only [compOp]
    split
    · rename_i e hs hd
      exact good_al fun w ρ a us r hv hf => by
        obtain ⟨u, rfl, h1⟩ := l1_some hf
        obtain ⟨v, e1, h2⟩ := hv.one
        simp only [List.map_cons, List.map_nil, List.cons.injEq, and_true] at e1
        subst e1
        exact makesN (toBytes1_sound hs hd h1 h2)
    · rename_i e hs hd
      exact good_rd fun w ρ h a us r hr hv hf => by
        obtain ⟨u, rfl, h1⟩ := l1_some hf
        obtain ⟨v, e1, h2⟩ := hv.one
        simp only [List.map_cons, List.map_nil, List.cons.injEq, and_true] at e1
        subst e1
        exact givesN (ofBytes1_sound hr hs hd h1 h2)
    · rename_i t hs hd
      exact good_rd fun w ρ h a us r hr hv hf => by
        obtain ⟨u, rfl, h1⟩ := l1_some hf
        obtain ⟨v, e1, h2⟩ := hv.one
        simp only [List.map_cons, List.map_nil, List.cons.injEq, and_true] at e1
        subst e1
        exact givesN (toUnsafe_sound hs hd hr h1 h2)
    · rename_i u hs hd
      exact good_rd fun w ρ h a us r hr hv hf => by
        obtain ⟨u, rfl, h1⟩ := l1_some hf
        obtain ⟨v, e1, h2⟩ := hv.one
        simp only [List.map_cons, List.map_nil, List.cons.injEq, and_true] at e1
        subst e1
        exact givesN (fromUnsafe_sound hs hd hr h1 h2)
    · exact good_on1 fun w ρ a v r hv hf => givesN (conv1_sound hf hv)
  | makeInterface t x => exact good_on1 fun w ρ a v r hv hf => givesN (toIface_sound hf hv)
  | makeFunc fn first cap =>
    exact good_pn fun w ρ a us r hv hf => givesN (mkFunc_sound (first := first.map a.eval) (cap := cap.map a.eval) hf (by simp) (by simpa using hv))
  | makeMap t r0 =>
    cases r0 with
    | none =>
      intro loc vs tm ρ h w a hr he us r _ hf
      exact makesN (makeMap0_sound hf)
    | some x =>
      exact good_al fun w ρ a us r hv hf => by
        obtain ⟨u, rfl, h1⟩ := l1_some hf
        obtain ⟨v, e1, h2⟩ := hv.one
        simp only [List.map_cons, List.map_nil, List.cons.injEq, and_true] at e1
        subst e1
        exact makesN (makeMap1_sound h1 h2)
  | makeSlice t l c =>
    exact good_al fun w ρ a us r hv hf => by
      obtain ⟨u, u', rfl, h1⟩ := l2_some hf
      obtain ⟨v, v', e1, h2, h3⟩ := hv.two
      simp only [List.map_cons, List.map_nil, List.cons.injEq, and_true] at e1
      obtain ⟨rfl, rfl⟩ := e1
      exact makesN (makeSlice2_sound h1 h2 h3)
  | slice t x lo hi mx =>
    exact good_pn fun w ρ a us r hv hf => by
      obtain ⟨u, us', e0, hv1, hv2⟩ : ∃ u us', us = u :: us' ∧ VR ρ u (a.eval x) ∧ VRs ρ us' ((lo.toList ++ (hi.toList ++ mx.toList)).map a.eval) := by
        cases us with
        | nil => cases hv
        | cons u us' =>
          obtain ⟨v, t1, e1, h2, h3⟩ := hv.cons_inv
          simp only [List.map_cons, List.cons.injEq] at e1
          obtain ⟨rfl, rfl⟩ := e1
          exact ⟨u, us', rfl, h2, h3⟩
      subst e0
      refine givesN (?_ : Gives P w ρ (Instr.sliceAt t (a.eval x) (lo.map a.eval) (hi.map a.eval) (mx.map a.eval)) r)
      have hnone : OR ρ none ((none : Option Operand).map a.eval) := rfl
      have hsome : ∀ {u : AV} {y : Operand}, VR ρ u (a.eval y) → OR ρ (some u) ((some y).map a.eval) := fun h => ⟨_, rfl, h⟩
      unfold sliceN at hf
      cases lo <;> cases hi <;> cases mx <;> simp only [Option.isSome_none, Option.isSome_some] at hf
      · obtain ⟨_, e, h1⟩ := l1_some hf
        cases e
        exact sliceV_sound h1 hv1 hnone hnone hnone
      · cases hf
      · obtain ⟨_, b, e, h1⟩ := l2_some hf
        cases e
        obtain ⟨v, e1, h2⟩ := hv2.one
        simp at e1; subst e1
        exact sliceV_sound h1 hv1 hnone (hsome h2) hnone
      · obtain ⟨_, b, c, e, h1⟩ := l3_some hf
        cases e
        obtain ⟨v, v', e1, h2, h3⟩ := hv2.two
        simp at e1; obtain ⟨rfl, rfl⟩ := e1
        exact sliceV_sound h1 hv1 hnone (hsome h2) (hsome h3)
      · obtain ⟨_, b, e, h1⟩ := l2_some hf
        cases e
        obtain ⟨v, e1, h2⟩ := hv2.one
        simp at e1; subst e1
        exact sliceV_sound h1 hv1 (hsome h2) hnone hnone
      · cases hf
      · obtain ⟨_, b, c, e, h1⟩ := l3_some hf
        cases e
        obtain ⟨v, v', e1, h2, h3⟩ := hv2.two
        simp at e1; obtain ⟨rfl, rfl⟩ := e1
        exact sliceV_sound h1 hv1 (hsome h2) (hsome h3) hnone
      · obtain ⟨_, b, c, d, e, h1⟩ := l4_some hf
        cases e
        obtain ⟨v, t1, e1, h2, h3⟩ := hv2.cons_inv
        obtain ⟨v', v'', e2, h4, h5⟩ := h3.two
        subst e2
        simp at e1; obtain ⟨rfl, rfl, rfl⟩ := e1
        exact sliceV_sound h1 hv1 (hsome h2) (hsome h4) (hsome h5)
  | fieldAddr t x f => exact good_on1 fun w ρ a v r hv hf => givesN (fieldAddr1_sound hf hv)
  | field t x f => exact good_on1 fun w ρ a v r hv hf => givesN (field1_sound hf hv)
  | indexAddr t x i => exact good_on2 fun w ρ a v u r hv hu hf => givesN (indexAddr2_sound hf hv hu)
  | index t x i => exact good_on2 fun w ρ a v u r hv hu hf => givesN (index2_sound hf hv hu)
  | lookup t m k ok =>
    exact good_rd fun w ρ h a us r hr hv hf => by
      obtain ⟨u, u', rfl, h1⟩ := l2_some hf
      obtain ⟨v, v', e1, h2, h3⟩ := hv.two
      simp only [List.map_cons, List.map_nil, List.cons.injEq, and_true] at e1
      obtain ⟨rfl, rfl⟩ := e1
      exact givesN (lookup2_sound hr h1 h2 h3)
  | mapUpdate t m k x =>
    exact good_ef fun w ρ h a us id q hr hid hv hf => by
      obtain ⟨u1, u2, u3, rfl, h1⟩ := l3_some hf
      obtain ⟨v1, t1, e1, h2, h3⟩ := hv.cons_inv
      obtain ⟨v2, t2, e2, h4, h5⟩ := h3.cons_inv
      obtain ⟨v3, e3, h6⟩ := h5.one
      subst e3 e2
      simp only [List.map_cons, List.map_nil, List.cons.injEq, and_true] at e1
      obtain ⟨rfl, rfl, rfl⟩ := e1
      obtain ⟨h7, h8⟩ := mapUpd_sound hr h1 h2 h4 h6
      rw [h7]; exact doesU h8
  | range t x =>
    exact good_ef fun w ρ h a us id q hr hid hv hf => by
      obtain ⟨u, rfl, h1⟩ := l1_some hf
      obtain ⟨v, e1, h2⟩ := hv.one
      simp only [List.map_cons, List.map_nil, List.cons.injEq, and_true] at e1
      subst e1
      exact doesN (rangeS_sound hid hr h1 h2)
  | next it isString =>
    cases isString with
    | false => trivial
    | true =>
      exact good_ef fun w ρ h a us id q hr hid hv hf => by
        obtain ⟨u, rfl, h1⟩ := l1_some hf
        obtain ⟨v, e1, h2⟩ := hv.one
        simp only [List.map_cons, List.map_nil, List.cons.injEq, and_true] at e1
        subst e1
        exact doesN (nextS_sound hr h1 h2)
  | extract t i => exact good_on1 fun w ρ a v r hv hf => givesN (nthTuple_sound hf hv)
  | call c =>
    obtain ⟨callee, args, ts⟩ := c
    cases callee with
    | builtin b => exact builtin_good b args ts
    | invoke r m => trivial
    | value f =>
      have generic : Good P keep find ⟨dst, .call ⟨.value f, args, ts⟩, ty, pos, after, guard⟩ (match Am.resolve find f, resolves find args.toList with | some g, some xs => .cl g xs | _, _ => .bad) := by
        cases hf : Am.resolve find f with
        | none => trivial
        | some g =>
          cases hx : resolves find args.toList with
          | none => trivial
          | some xs => exact ⟨f, args, ts, rfl, hf, hx⟩
      cases f with
      | func k =>
        simp only [compOp]
        split
        · rename_i hk
          obtain ⟨fn, h1, h2, h3, h4⟩ := extOf_1 hk
          obtain ⟨h5, h6⟩ := find_noEscape fn h3 h4
          exact good_pn fun w ρ a us r hv hf => by
            obtain ⟨u, rfl, h7⟩ := l1_some hf
            cases h7
            obtain ⟨v, e1, h8⟩ := hv.one
            refine ⟨v, ?_, h8⟩
            have e2 := args_one e1
            simp only [execOp, Go.resolve, Act.eval, Deferred.ofValue, Sem.run_bind, Sem.run_pure, Result.andThen_ok, invoke]
            rw [e2]
            simp only [Array.append_empty, Array.empty_append]
            exact run_ext h1 h2 (by rw [h3]; decide) h5 h6 rfl
        · rename_i hk
          obtain ⟨fn, h1, h2, h3, h4⟩ := extOf_2 hk
          obtain ⟨h5, h6⟩ := find_indexByte fn h3 h4
          exact good_pn fun w ρ a us r hv hf => by
            obtain ⟨u, u', rfl, h7⟩ := l2_some hf
            obtain ⟨v, v', e1, h8, h9⟩ := hv.two
            obtain ⟨x, h10, h11⟩ := indexByte2_sound (P := P) (w := w) h7 h8 h9
            refine ⟨x, ?_, h11⟩
            have e2 := args_two e1
            simp only [execOp, Go.resolve, Act.eval, Deferred.ofValue, Sem.run_bind, Sem.run_pure, Result.andThen_ok, invoke]
            rw [e2]
            simp only [Array.append_empty, Array.empty_append]
            exact run_ext h1 h2 (by rw [h3]; decide) h5 h6 h10
        · cases hx : resolves find args.toList with
          | none => trivial
          | some xs => exact ⟨.func k, args, ts, rfl, rfl, hx⟩
      | tmp t =>
      simp only [compOp]
      exact generic
      | const t =>
      simp only [compOp]
      exact generic
      | global t =>
      simp only [compOp]
      exact generic
/-
      cases hf : Am.resolve find f with
      | none => trivial
      | some g =>
        cases hx : resolves find args.toList with
        | none => trivial
        | some xs => exact ⟨f, args, ts, rfl, hf, hx⟩
-/
  | _ => trivial
end
end Go.Am

/-
  AM, 5: operations on values are the model's.
-/
import Derived.Test.YtboobbebilegnaaGreatAm4
import Derived.LaidEqlPtr
import Derived.Laws.Strings
import Derived.Laws.StructEq
namespace Go.Am

/-! ### eliminators -/
section
variable {β : Type} {r : β} {v : AV}
theorem eBool_some {f : Bool → Option β} (h : eBool f v = some r) : ∃ b, v = .bool b ∧ f b = some r := by cases v <;> first | exact ⟨_, rfl, h⟩ | cases h
theorem eInt_some {f : IntKind → Int → Option β} (h : eInt f v = some r) : ∃ k n, v = .int k n ∧ f k n = some r := by cases v <;> first | exact ⟨_, _, rfl, h⟩ | cases h
theorem eStr_some {f : List Nat → Option β} (h : eStr f v = some r) : ∃ s, v = .str s ∧ f s = some r := by cases v <;> first | exact ⟨_, rfl, h⟩ | cases h
theorem ePtr_some {f : Nat → Nat → Option β} (h : ePtr f v = some r) : ∃ b o, v = .ptr (some (b, o)) ∧ f b o = some r := by
  cases v with
  | ptr a => cases a with
    | none => cases h
    | some p => exact ⟨p.1, p.2, rfl, h⟩
  | _ => cases h
theorem eSlice_some {f : Option (Nat × Nat) → Nat → Nat → Option Nat → Option β} (h : eSlice f v = some r) : ∃ a n c g, v = .slice a n c g ∧ f a n c g = some r := by
  cases v <;> first | exact ⟨_, _, _, _, rfl, h⟩ | cases h
theorem eTuple_some {f : List AV → Option β} (h : eTuple f v = some r) : ∃ vs, v = .tuple vs ∧ f vs = some r := by cases v <;> first | exact ⟨_, rfl, h⟩ | cases h
theorem eFunc_some {f : Fn → List AV → List AV → Option β} (h : eFunc f v = some r) : ∃ g a b, v = .func g a b ∧ f g a b = some r := by cases v <;> first | exact ⟨_, _, _, rfl, h⟩ | cases h
theorem kEq_some {k l : IntKind} {x : Option β} (h : kEq k l x = some r) : k = l ∧ x = some r := by
  unfold kEq at h
  obtain ⟨h1, h2⟩ := boolRec_some.1 h
  refine ⟨?_, h2⟩
  cases k <;> cases l <;> first | rfl | cases h1
end

/-! ### integers -/
theorem wrap_fit {k : IntKind} {n : Nat} (h : n ≤ maxK k) : k.wrap (n : Int) = n := by
  cases k <;> simp only [maxK] at h <;>
    first
    | (rw [show IntKind.i64.wrap (n : Int) = ((n : Int) + 9223372036854775808) % 18446744073709551616 - 9223372036854775808 from IntKind.wrap_i64 _]; omega)
    | (simp only [IntKind.wrap, IntKind.bits, IntKind.signed]; simp; omega)
theorem fit_eq (k : IntKind) (n : Nat) : fit k n = some (.int k (k.wrap n)) := by
  unfold fit
  cases h : Nat.ble n (maxK k) with
  | true => show some (AV.int k (Int.ofNat n)) = _; rw [wrap_fit (Nat.le_of_ble_eq_true h)]; rfl
  | false => rfl
theorem addI_eq (k : IntKind) (a b : Int) : addI k a b = some (.int k (k.wrap (a + b))) := by
  cases a with
  | negSucc x => rfl
  | ofNat x => cases b with
    | negSucc y => rfl
    | ofNat y => show fit k (x + y) = _; rw [fit_eq]; rfl
theorem subI_eq (k : IntKind) (a b : Int) : subI k a b = some (.int k (k.wrap (a - b))) := by
  cases a with
  | negSucc x => rfl
  | ofNat x => cases b with
    | negSucc y => rfl
    | ofNat y =>
      show (Bool.rec (motive := fun _ => Option AV) _ (fit k (x - y)) (Nat.ble y x) : Option AV) = _
      cases h : Nat.ble y x with
      | true =>
        have := Nat.le_of_ble_eq_true h
        show fit k (x - y) = _
        rw [fit_eq, show ((x - y : Nat) : Int) = Int.ofNat x - Int.ofNat y by simp only [Int.ofNat_eq_natCast]; omega]
      | false => rfl
theorem mulI_eq (k : IntKind) (a b : Int) : mulI k a b = some (.int k (k.wrap (a * b))) := by
  cases a with
  | negSucc x => rfl
  | ofNat x => cases b with
    | negSucc y => rfl
    | ofNat y => show fit k (x * y) = _; rw [fit_eq]; rfl
theorem ltI_eq (a b : Int) : ltI a b = decide (a < b) := by
  cases a <;> cases b <;> simp only [ltI]
  · rw [Bool.eq_iff_iff]; simp [Nat.ble_eq]; omega
  · exact (decide_eq_false (by simp only [Int.ofNat_eq_natCast]; omega)).symm
  · exact (decide_eq_true (by simp only [Int.ofNat_eq_natCast]; omega)).symm
  · rw [Bool.eq_iff_iff]; simp [Nat.ble_eq]; omega
theorem leI_eq (a b : Int) : leI a b = decide (a ≤ b) := by
  cases a <;> cases b <;> simp only [leI]
  · rw [Bool.eq_iff_iff]; simp [Nat.ble_eq]
  · exact (decide_eq_false (by simp only [Int.ofNat_eq_natCast]; omega)).symm
  · exact (decide_eq_true (by simp only [Int.ofNat_eq_natCast]; omega)).symm
  · rw [Bool.eq_iff_iff]; simp [Nat.ble_eq]; omega
theorem eqI_eq (a b : Int) : eqI a b = (a == b) := by
  cases a <;> cases b <;> simp only [eqI]
  · rw [Bool.eq_iff_iff]; simp; omega
  · simp
  · simp
  · rw [Bool.eq_iff_iff]; simp

theorem quoI_some {k : IntKind} {a b : Int} {r : AV} (h : quoI k a b = some r) : b ≠ 0 ∧ r = .int k (k.wrap (a.tdiv b)) := by
  have slow : quoSlow k a b = some r → b ≠ 0 ∧ r = .int k (k.wrap (a.tdiv b)) := by
    intro h; unfold quoSlow wrapV at h
    split at h
    · cases h
    · rename_i hb; cases h; exact ⟨hb, rfl⟩
  cases a with
  | negSucc x => exact slow h
  | ofNat x => cases b with
    | negSucc y => exact slow h
    | ofNat y =>
      cases y with
      | zero => cases h
      | succ y =>
        have h : fit k (x / (y + 1)) = some r := h
        rw [fit_eq] at h; cases h
        exact ⟨by simp; omega, rfl⟩
theorem remI_some {k : IntKind} {a b : Int} {r : AV} (h : remI k a b = some r) : b ≠ 0 ∧ r = .int k (a.tmod b) := by
  have slow : remSlow k a b = some r → b ≠ 0 ∧ r = .int k (a.tmod b) := by
    intro h; unfold remSlow at h
    split at h
    · cases h
    · rename_i hb; cases h; exact ⟨hb, rfl⟩
  cases a with
  | negSucc x => exact slow h
  | ofNat x => cases b with
    | negSucc y => exact slow h
    | ofNat y =>
      cases y with
      | zero => cases h
      | succ y =>
        have h : some (AV.int k (Int.ofNat (x % (y + 1)))) = some r := h
        cases h
        exact ⟨by simp; omega, rfl⟩

theorem maxK_lt (k : IntKind) : maxK k < 2 ^ k.bits := by cases k <;> decide
theorem ofInt_nat {k : IntKind} {x : Nat} (h : x ≤ maxK k) : (BitVec.ofInt k.bits (Int.ofNat x)).toNat = x := by
  have := maxK_lt k
  simp only [BitVec.toNat_ofInt]
  rw [show ((2 ^ k.bits : Nat) : Int) = (2 ^ k.bits : Int) by norm_cast]
  rw [show (Int.ofNat x % (2 ^ k.bits : Int)) = ((x % 2 ^ k.bits : Nat) : Int) by simp]
  rw [Int.toNat_natCast, Nat.mod_eq_of_lt (by omega)]
theorem bitI_eq {g : Nat → Nat → Nat} {slow : IntKind → Int → Int → Option AV} {k : IntKind} {a b : Int}
    (hs : ∀ x y : Nat, x ≤ maxK k → y ≤ maxK k → slow k (Int.ofNat x) (Int.ofNat y) = some (.int k (k.wrap ((g x y : Nat) : Int)))) : bitI g slow k a b = slow k a b := by
  cases a with
  | negSucc x => rfl
  | ofNat x => cases b with
    | negSucc y => rfl
    | ofNat y =>
      show (Bool.rec (motive := fun _ => Option AV) _ (Bool.rec (motive := fun _ => Option AV) _ (fit k (g x y)) (Nat.ble y (maxK k))) (Nat.ble x (maxK k)) : Option AV) = _
      cases hx : Nat.ble x (maxK k) with
      | false => rfl
      | true => cases hy : Nat.ble y (maxK k) with
        | false => rfl
        | true => rw [hs x y (Nat.le_of_ble_eq_true hx) (Nat.le_of_ble_eq_true hy)]; exact fit_eq k _
theorem and_eq (k : IntKind) (a b : Int) : bitI Nat.land andS k a b = andS k a b :=
  bitI_eq fun x y hx hy => by unfold andS wrapV; rw [BitVec.toNat_and, ofInt_nat hx, ofInt_nat hy]; rfl
theorem or_eq (k : IntKind) (a b : Int) : bitI Nat.lor orS k a b = orS k a b :=
  bitI_eq fun x y hx hy => by unfold orS wrapV; rw [BitVec.toNat_or, ofInt_nat hx, ofInt_nat hy]; rfl
theorem xor_eq (k : IntKind) (a b : Int) : bitI Nat.xor xorS k a b = xorS k a b :=
  bitI_eq fun x y hx hy => by unfold xorS wrapV; rw [BitVec.toNat_xor, ofInt_nat hx, ofInt_nat hy]; rfl

/-! ### strings -/
theorem strEq_eq (a b : List Nat) : strEq a b = (a == b) := by
  induction a generalizing b with
  | nil => cases b <;> rfl
  | cons x a ih =>
    cases b with
    | nil => rfl
    | cons y b =>
      show (Bool.rec (motive := fun _ => Bool) false (strEq a b) (Nat.beq x y) : Bool) = _
      rw [ih, bool_rec_beq, Bool.eq_iff_iff]
      by_cases h : x = y <;> simp [h]
theorem strEq_bytes (a b : ByteArray) : strEq (a.data.toList.map (·.toNat)) (b.data.toList.map (·.toNat)) = (a.data.toList == b.data.toList) := by
  rw [strEq_eq, Bool.eq_iff_iff]
  simp only [beq_iff_eq]
  constructor
  · intro h
    exact (List.map_inj_right (fun x y h => UInt8.toNat_inj.1 h)).1 h
  · intro h; rw [h]
theorem strLt_bytes : ∀ (a b : List UInt8), strLt (a.map (·.toNat)) (b.map (·.toNat)) = Op.bytesLess a b
  | [], [] => rfl
  | [], _ :: _ => rfl
  | _ :: _, [] => rfl
  | x :: a, y :: b => by
    show (Bool.rec (motive := fun _ => Bool) (Bool.rec (motive := fun _ => Bool) false (strLt (a.map (·.toNat)) (b.map (·.toNat))) (Nat.beq x.toNat y.toNat)) true (Nat.ble (x.toNat + 1) y.toNat) : Bool) = _
    rw [strLt_bytes a b, bool_rec_beq, Op.bytesLess, Bool.eq_iff_iff]
    cases h : Nat.ble (x.toNat + 1) y.toNat with
    | true =>
      have h := Nat.le_of_ble_eq_true h
      have : x < y := UInt8.lt_iff_toNat_lt.2 (by omega)
      simp [this]
    | false =>
      have hn : ¬ x.toNat + 1 ≤ y.toNat := fun h' => by rw [Nat.ble_eq_true_of_le h'] at h; cases h
      have : ¬ x < y := fun h' => hn (UInt8.lt_iff_toNat_lt.1 h')
      by_cases e : x = y
      · subst e; simp [this]
      · have e' : ¬ x.toNat = y.toNat := fun h' => e (UInt8.toNat_inj.1 h')
        simp [this, e, e']

/-! ### what the model's runs come to -/
section
variable {P : Program} {w : World} {ρ : Pls}
theorem run_sizeT {t : TypeId} {s : Nat} (h : tSize P t = some s) : (sizeOf t).run P w = .ok s w := by
  unfold tSize at h
  cases hi : P.info? t with
  | none => rw [hi] at h; cases h
  | some i => rw [hi] at h; cases h; simp [sizeOf, typeInfo, hi]
theorem run_infoT {t : TypeId} {s : Nat} (h : tSize P t = some s) : ∃ i, (typeInfo t).run P w = .ok i w ∧ P.info? t = some i := by
  unfold tSize at h
  cases hi : P.info? t with
  | none => rw [hi] at h; cases h
  | some i => exact ⟨i, by simp [typeInfo, hi], rfl⟩
theorem run_bytesT {t : TypeId} {s : Nat} (h : tBytes P t = some s) : ∃ i, (typeInfo t).run P w = .ok i w ∧ i.bytes = s := by
  unfold tBytes at h
  cases hi : P.info? t with
  | none => rw [hi] at h; cases h
  | some i => rw [hi] at h; cases h; exact ⟨i, by simp [typeInfo, hi], rfl⟩
theorem run_zeroT {t : TypeId} {z : AV} (h : tZero P t = some z) : ∃ v, (zeroValue t).run P w = .ok v w ∧ VR ρ z v := by
  unfold tZero at h
  cases hi : P.info? t with
  | none => rw [hi] at h; cases h
  | some i =>
    rw [hi] at h
    simp only [Option.bind_some] at h
    cases hz : i.zero with
    | none => rw [hz] at h; cases h
    | some v =>
      rw [hz] at h
      exact ⟨v, by simp [zeroValue, typeInfo, hi, hz], VR.const ρ v z h⟩
theorem run_aggT {t : TypeId} {g : Bool} (h : tAgg P t = some g) : (isAgg t).run P w = .ok g w := by
  unfold tAgg at h
  cases hu : P.underlying t with
  | none => rw [hu] at h; cases h
  | some d =>
    rw [hu] at h
    cases d <;> (cases h; simp [isAgg, run_underlying hu])

theorem VR.int {k : IntKind} {n : Int} {v : Value} (h : VR ρ (.int k n) v) : v = .int k n := h
theorem VR.bool {b : Bool} {v : Value} (h : VR ρ (.bool b) v) : v = .bool b := h

theorem run_part {t : TypeId} {s : Nat} {g : Bool} {cs : List AV} {cs' : Array Value} {off : Nat} {r : AV} (hs : tSize P t = some s) (hg : tAgg P t = some g)
    (hv : VRs ρ cs cs'.toList) (hr : wrapAgg g ((cs.drop off).take s) = some r) : ∃ v, (part t cs' off).run P w = .ok v w ∧ VR ρ r v := by
  cases g with
  | true =>
    have hr : some (AV.agg ((cs.drop off).take s)) = some r := hr
    cases hr
    refine ⟨.agg (cs'.extract off (off + s)), by simp [part, run_aggT hg, run_sizeT hs], _, rfl, ?_⟩
    have := VRs.take s (VRs.drop off hv)
    have e : (cs'.extract off (off + s)).toList = (cs'.toList.drop off).take s := by
      rw [Array.toList_extract]; simp [List.extract_eq_take_drop]
    rw [e]; exact this
  | false =>
    have hr' : ∃ v, (cs.drop off).take s = [v] ∧ r = v := by
      cases e : (cs.drop off).take s with
      | nil => rw [e] at hr; cases hr
      | cons v l =>
        rw [e] at hr
        cases l with
        | nil => cases hr; exact ⟨_, rfl, rfl⟩
        | cons _ _ => cases hr
    obtain ⟨v, e, rfl⟩ := hr'
    have hget : cs[off]? = some r := by
      have := congrArg (·[0]?) e
      simp only [List.getElem?_cons_zero] at this
      rw [List.getElem?_take] at this
      split at this
      · simpa using this
      · cases this
    obtain ⟨u, h2, h3⟩ := hv.get off r hget
    refine ⟨u, ?_, h3⟩
    rw [Array.getElem?_toList] at h2
    simp [part, run_aggT hg, h2]

theorem run_eqPlain : ∀ (d : Nat) (t : TypeId) (x y : AV) (a b : Value) (r : Bool) (n : Nat), eqPlain P d t x y = some r → VR ρ x a → VR ρ y b → d ≤ n → (Op.equalIn n t a b).run P w = .ok r w
  | 0, _, _, _, _, _, _, _, h, _, _, _ => by cases h
  | d + 1, t, x, y, a, b, r, n, h, hx, hy, hn => by
    obtain ⟨n, rfl⟩ : ∃ m, n = m + 1 := ⟨n - 1, by omega⟩
    simp only [eqPlain] at h
    cases hu : P.underlying t with
    | none => rw [hu] at h; cases h
    | some dsc =>
      rw [hu] at h
      cases dsc with
      | bool =>
        simp only at h
        split at h
        · cases h; cases hx; cases hy; simp [Op.equalIn, run_underlying hu]
        · cases h
      | int k =>
        simp only at h
        split at h
        · split at h
          · rename_i hk; subst hk; cases h; cases hx; cases hy; simp [Op.equalIn, run_underlying hu, eqI_eq]
          · cases h
        · cases h
      | string =>
        simp only at h
        split at h
        · cases h
          obtain ⟨s, rfl, e1⟩ := hx
          obtain ⟨u, rfl, e2⟩ := hy
          subst e1; subst e2
          rw [run_equalIn_string w n t s u hu, strEq_bytes, ByteArray.toList_eq, ByteArray.toList_eq]
        · cases h
      | pointer e =>
        simp only at h
        split at h
        · rename_i q
          cases h; cases hx
          cases q with
          | none => cases hy; simp [Op.equalIn, run_underlying hu]
          | some q => obtain ⟨b0, o0⟩ := q; obtain ⟨p, hp, rfl⟩ := hy; simp [Op.equalIn, run_underlying hu]
        · rename_i q _
          cases h; cases hy
          cases q with
          | none => exact False.elim (by simp_all)
          | some q => obtain ⟨b0, o0⟩ := q; obtain ⟨p, hp, rfl⟩ := hx; simp [Op.equalIn, run_underlying hu]
        · rename_i q q'
          by_cases hq : q = q' ∧ (tSize P e).isSome = true
          · rw [if_pos hq] at h
            cases h
            obtain ⟨rfl, hq⟩ := hq
            obtain ⟨b0, o0⟩ := q
            obtain ⟨p, hp, rfl⟩ := hx
            obtain ⟨p', hp', rfl⟩ := hy
            rw [hp] at hp'; cases hp'
            cases hs : tSize P e with
            | none => rw [hs] at hq; cases hq
            | some k =>
              obtain ⟨i, hi, hi2⟩ := run_infoT (w := w) hs
              simp [Op.equalIn, run_underlying hu, sizeOf, typeInfo, hi2, run_sameAddr_same]
          · rw [if_neg hq] at h; cases h
        · cases h
      | interface ms =>
        simp only at h
        split at h
        · cases h; cases hx; obtain ⟨z, rfl, _⟩ := hy; simp [Op.equalIn, run_underlying hu]
        · cases h; cases hy; obtain ⟨z, rfl, _⟩ := hx; simp [Op.equalIn, run_underlying hu]
        · cases h
      | slice e =>
        simp only at h
        split at h
        · rename_i q _ _ _
          cases h
          obtain ⟨_, _, _, rfl⟩ := hx
          cases q with
          | none => obtain ⟨_, _, _, rfl⟩ := hy; simp [Op.equalIn, run_underlying hu]
          | some q => obtain ⟨b0, o0⟩ := q; obtain ⟨p, a', c', hp, rfl, _⟩ := hy; simp [Op.equalIn, run_underlying hu]
        · rename_i q _ _ _ _ _ _ hne
          cases h
          obtain ⟨_, _, _, rfl⟩ := hy
          cases q with
          | none => exact False.elim (by simp_all)
          | some q => obtain ⟨b0, o0⟩ := q; obtain ⟨p, a', c', hp, rfl, _⟩ := hx; simp [Op.equalIn, run_underlying hu]
        · cases h
      | map k e =>
        simp only at h
        split at h
        · rename_i q
          cases h; cases hx
          cases q with
          | none => cases hy; simp [Op.equalIn, run_underlying hu]
          | some q => obtain ⟨p, hp, _, rfl⟩ := hy; simp [Op.equalIn, run_underlying hu]
        · rename_i q _
          cases h; cases hy
          cases q with
          | none => exact False.elim (by simp_all)
          | some q => obtain ⟨p, hp, _, rfl⟩ := hx; simp [Op.equalIn, run_underlying hu]
        · cases h
      | func ps rs v =>
        simp only at h
        split at h
        · cases h; cases hx; cases hy; simp [Op.equalIn, run_underlying hu]
        · cases h; cases hx; obtain ⟨_, _, _, rfl, _⟩ := hy; simp [Op.equalIn, run_underlying hu]
        · cases h; cases hy; obtain ⟨_, _, _, rfl, _⟩ := hx; simp [Op.equalIn, run_underlying hu]
        · cases h
      | struct fs =>
        simp only at h
        split at h
        · rename_i xs ys
          split at h
          · cases h
          · rename_i hst
            obtain ⟨xs', rfl, hxs⟩ := hx
            obtain ⟨ys', rfl, hys⟩ := hy
            have hfs : P.fieldsOf t = fs := by unfold Program.fieldsOf; rw [hu]
            rw [run_equalIn_struct w n t xs' ys' (by rw [hfs]; exact hu) (by simpa using hst), hfs]
            have key : ∀ (l : List Field) (r : Bool), eqFields P (eqPlain P d) l xs ys = some r → (Op.eqFields n xs' ys' l).run P w = .ok r w := by
              intro l
              induction l with
              | nil => intro r h; cases h; rfl
              | cons f l ih =>
                intro r h
                simp only [eqFields] at h
                split at h
                · cases h
                · rename_i hname
                  split at h
                  · rename_i s g hs hg
                    split at h
                    · rename_i u v hu hv
                      simp only [take'_eq, drop'_eq] at hu hv
                      obtain ⟨u', ru, vu⟩ := run_part (w := w) hs hg hxs hu
                      obtain ⟨v', rv, vv⟩ := run_part (w := w) hs hg hys hv
                      split at h
                      · rename_i he
                        have := run_eqPlain d f.type u v u' v' true n he vu vv (by omega)
                        simp only [Op.eqFields, Sem.run_bind, if_pos hname, ru, rv, this, Result.andThen_ok]
                        simpa using ih r h
                      · rename_i he
                        cases hq : eqPlain P d f.type u v with
                        | none => rw [hq] at h; cases h
                        | some q =>
                          cases q with
                          | true => exact absurd hq he
                          | false =>
                            rw [hq] at h; cases h
                            have := run_eqPlain d f.type u v u' v' false n hq vu vv (by omega)
                            simp only [Op.eqFields, Sem.run_bind, if_pos hname, ru, rv, this, Result.andThen_ok]
                            simp
                    · cases h
                  · cases h
            exact key fs.toList r h
        · cases h
      | array m e =>
        simp only at h
        split at h
        · rename_i xs ys
          split at h
          · rename_i s g hs hg
            obtain ⟨xs', rfl, hxs⟩ := hx
            obtain ⟨ys', rfl, hys⟩ := hy
            have key : ∀ (k i : Nat) (r : Bool), eqElems (eqPlain P d e) s g k (xs.drop (i * s)) (ys.drop (i * s)) = some r → ∀ (f : Nat → Option Bool × Unit → Sem (ForInStep (Option Bool × Unit))),
                (∀ j st, f j st = (do
                  let x ← part e xs' (j * s)
                  let y ← part e ys' (j * s)
                  let q ← Op.equalIn n e x y
                  if (!q) = true then pure (ForInStep.done (some false, ())) else do pure (); pure (ForInStep.yield (none, ())))) →
                (forIn (List.range' i k) ((none, ()) : Option Bool × Unit) f).run P w = .ok (if r then (none, ()) else (some false, ())) w := by
              intro k
              induction k with
              | zero => intro i r h f _; cases h; simp
              | succ k ih =>
                intro i r h f hf
                simp only [eqElems] at h
                split at h
                · rename_i u v hu hv
                  simp only [take'_eq, drop'_eq, List.drop_drop] at hu hv h
                  obtain ⟨u', ru, vu⟩ := run_part (w := w) hs hg hxs hu
                  obtain ⟨v', rv, vv⟩ := run_part (w := w) hs hg hys hv
                  rw [List.range'_succ, List.forIn_cons]
                  simp only [hf, Sem.run_bind, ru, rv, Result.andThen_ok]
                  split at h
                  · rename_i he
                    rw [run_eqPlain d e u v u' v' true n he vu vv (by omega)]
                    have := ih (i + 1) r (by rw [show (i + 1) * s = i * s + s by rw [Nat.add_mul]; omega]; exact h) f hf
                    simpa using this
                  · rename_i he
                    cases hq : eqPlain P d e u v with
                    | none => rw [hq] at h; cases h
                    | some q =>
                      cases q with
                      | true => exact absurd hq he
                      | false =>
                        rw [hq] at h; cases h
                        rw [run_eqPlain d e u v u' v' false n hq vu vv (by omega)]
                        simp
                · cases h
            have := key m 0 r (by simpa using h) _ (fun _ _ => rfl)
            simp only [Op.equalIn, Sem.run_bind, run_underlying hu, Result.andThen_ok, run_sizeT hs]
            simp only [Std.Legacy.Range.forIn_eq_forIn_range', Std.Legacy.Range.size, Nat.sub_zero, Nat.add_sub_cancel, Nat.div_one]
            rw [this]
            cases r <;> simp
          · cases h
        · cases h
      | _ => cases h
end
end Go.Am

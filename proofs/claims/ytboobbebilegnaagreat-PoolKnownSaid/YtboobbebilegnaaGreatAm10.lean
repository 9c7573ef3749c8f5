/-
  AM, 10: what writes.
-/
import Derived.Test.YtboobbebilegnaaGreatAm9
namespace Go.Am
section
variable {P : Program} {keep : Keeps} {w : World} {ρ : Pls} {h : Heap}

/-- the model's run does what is told of memory, and gives that value -/
def Does (P : Program) (keep : Keeps) (w : World) (ρ : Pls) (h : Heap) (s : Sem Value) (r : AV) (h' : Heap) : Prop :=
  ∃ ρ' v w', s.run P w = .ok v w' ∧ VR ρ' r v ∧ Post P keep ρ h w ρ' h' w'
/-- the same of a run that gives nothing -/
def DoesU (P : Program) (keep : Keeps) (w : World) (ρ : Pls) (h : Heap) (s : Sem Unit) (h' : Heap) : Prop :=
  ∃ ρ' w', s.run P w = .ok () w' ∧ Post P keep ρ h w ρ' h' w'

theorem stAs_some {v : AV} {r : Option Heap} {q : AV × Heap} (hq : stoAs v r = some q) : ∃ h', r = some h' ∧ q = (v, h') := by
  unfold stoAs at hq
  cases r with
  | none => cases hq
  | some h' => cases hq; exact ⟨h', rfl, rfl⟩

theorem storeN_sound {t : TypeId} {s : Nat} (hs : tSize P t = some s) (hr : HR P keep ρ h w) {x v : AV} {q : AV × Heap} (hq : storeN s h x v = some q) {a b : Value} (hx : VR ρ x a) (hv : VR ρ v b) :
    q.1 = undefA ∧ DoesU P keep w ρ h (Instr.storeAt t a b) q.2 := by
  obtain ⟨bk, off, rfl, g1⟩ := ePtr_some hq
  obtain ⟨g2, g3⟩ := boolRec_some.1 g1
  cases hst : h.sto bk off v.cells with
  | none => rw [hst] at g3; cases g3
  | some h' =>
    rw [hst] at g3; cases g3
    obtain ⟨p, w', hp, hrun, hpost⟩ := hr.sto hst hv.cells
    obtain ⟨p', hp', rfl⟩ := hx
    rw [hp] at hp'; cases hp'
    refine ⟨rfl, ρ, w', ?_, hpost⟩
    have hlen := hv.cells.length
    have : b.cells.size = s := by have := Nat.eq_of_beq_eq_true g2; rw [len'_eq] at this; simp at hlen; omega
    simp only [Instr.storeAt, Instr.sureAddr, Sem.run_bind, Sem.run_pure, Result.andThen_ok, storeVar, run_sizeT hs]
    rw [if_neg (by rw [this]; simp)]
    simpa using hrun

theorem cells_one {v : AV} (h : v.one = true) : v.cells = [v] := by cases v <;> first | rfl | cases h

theorem store1_sound {t : TypeId} (hs : tSize P t = some 1) (hr : HR P keep ρ h w) {x v : AV} {q : AV × Heap} (hq : store1 h x v = some q) {a b : Value} (hx : VR ρ x a) (hv : VR ρ v b) :
    q.1 = undefA ∧ DoesU P keep w ρ h (Instr.storeAt t a b) q.2 := by
  obtain ⟨bk, off, rfl, g1⟩ := ePtr_some hq
  cases hst : h.st1 bk off v with
  | none => rw [hst] at g1; cases g1
  | some h' =>
    rw [hst] at g1; cases g1
    have hone : v.one = true := by
      obtain ⟨t, z, m, ro, hb, hf⟩ := cells_some hst
      cases ro with
      | true => cases hf
      | false => obtain ⟨_, hf⟩ := boolRec_some.1 hf; exact (boolRec_some.1 hf).1
    refine storeN_sound (s := 1) (v := v) (q := (undefA, h')) hs hr ?_ hx hv
    show (Bool.rec (motive := fun _ => Option (AV × Heap)) none (Option.rec (motive := fun _ => Option (AV × Heap)) none (fun h => some (undefA, h)) (h.sto bk off v.cells)) (Nat.beq (len' v.cells) 1) : Option (AV × Heap)) = _
    rw [cells_one hone, st1_sto hst]; rfl

/-! ### maps -/
theorem plainTy_some {t : TypeId} (h : plainTy P t = true) : (∃ k, P.underlying t = some (.int k)) ∨ P.underlying t = some .string ∨ P.underlying t = some .bool := by
  unfold plainTy at h
  split at h
  · exact .inl ⟨_, by assumption⟩
  · exact .inr (.inl (by assumption))
  · exact .inr (.inr (by assumption))
  · cases h

theorem checkKey_plain {t : TypeId} (h : plainTy P t = true) (e : Bool) (n : Nat) (v : Value) : (Instr.checkKey e (n + 1) t v).run P w = .ok () w := by
  rcases plainTy_some h with ⟨k, hu⟩ | hu | hu <;> (simp only [Instr.checkKey, Sem.run_bind, run_underlying hu, Result.andThen_ok]; rfl)

theorem checkKey_sound {t : TypeId} {k : AV} {kv : Value} (h : keyOk P t k = true) (hk : VR ρ k kv) (e : Bool) : (Instr.checkKey e 10000 t kv).run P w = .ok () w := by
  unfold keyOk at h
  cases hu : P.underlying t with
  | none => rw [hu] at h; cases h
  | some d =>
    rw [hu] at h
    cases d with
    | int kk => exact checkKey_plain (by unfold plainTy; rw [hu]) e 9999 kv
    | string => exact checkKey_plain (by unfold plainTy; rw [hu]) e 9999 kv
    | bool => exact checkKey_plain (by unfold plainTy; rw [hu]) e 9999 kv
    | struct fs =>
      simp only at h
      split at h
      · rename_i hfs
        cases k with
        | agg cs =>
          simp only [Bool.and_eq_true] at h
          obtain ⟨hoff, _⟩ := h
          obtain ⟨cs', rfl, hcs⟩ := hk
          have hlen := hcs.length
          have key : ∀ (g : Field → PUnit → Sem (ForInStep PUnit)), (∀ f s, g f s = if f.name ≠ "_" then (do let x ← part f.type cs' f.offset; Instr.checkKey e 9999 f.type x; pure (ForInStep.yield PUnit.unit)) else pure (ForInStep.yield PUnit.unit)) →
              ∀ (l : List Field), (∀ f ∈ l, plainTy P f.type = true ∧ tSize P f.type = some 1 ∧ f.offset < cs.length) → (forIn l PUnit.unit g).run P w = .ok PUnit.unit w := by
            intro g hg0 l
            induction l with
            | nil => intro _; simp
            | cons f l ih =>
              intro hl
              obtain ⟨h1, h2, h3⟩ := hl f (by simp)
              have hg : tAgg P f.type = some false := by
                unfold tAgg
                rcases plainTy_some h1 with ⟨k, hu⟩ | hu | hu <;> rw [hu]
              have hget : cs'[f.offset]? = some (cs'[f.offset]'(by simp at hlen; omega)) := Array.getElem?_eq_getElem _
              have hpart : (part f.type cs' f.offset).run P w = .ok (cs'[f.offset]'(by simp at hlen; omega)) w := by simp [part, run_aggT hg, hget]
              have ih := ih fun g hg => hl g (by simp [hg])
              rw [List.forIn_cons, hg0]
              by_cases hn : f.name ≠ "_"
              · simp only [Sem.run_bind, if_pos hn, hpart, Result.andThen_ok, checkKey_plain h1 e 9998, Sem.run_pure]
                exact ih
              · simp only [Sem.run_bind, if_neg hn, Sem.run_pure, Result.andThen_ok]
                exact ih
          have hall : ∀ f ∈ fs.toList, plainTy P f.type = true ∧ tSize P f.type = some 1 ∧ f.offset < cs.length := by
            intro f hf
            rw [Array.all_eq_true'] at hfs hoff
            have h1 := hfs f (Array.mem_toList_iff.1 hf)
            have h2 := hoff f (Array.mem_toList_iff.1 hf)
            simp only [Bool.and_eq_true, beq_iff_eq, decide_eq_true_eq] at h1 h2
            exact ⟨h1.1, h1.2, h2⟩
          have e0 : Instr.checkKey e 10000 t (.agg cs') = Instr.checkKey e (9999 + 1) t (.agg cs') := rfl
          rw [e0, Instr.checkKey, Sem.run_bind, run_underlying hu]
          simp only [Result.andThen_ok]
          rw [← Array.forIn_toList, Sem.run_bind, key _ (fun _ _ => rfl) fs.toList hall]
          rfl
        | _ => cases h
      · cases h
    | _ => cases h

/-- two keys are held against each other, as the model does when it asks -/
theorem keyEq_equal {t : TypeId} {x y : AV} {a b : Value} {r : Bool} (h : keyEq P t x y = some r) (hx : VR ρ x a) (hy : VR ρ y b) : (Op.equal t a b).run P w = .ok r w := by
  unfold keyEq at h
  cases hu : P.underlying t with
  | none => rw [hu] at h; exact run_eqPlain 50 t x y a b r 10000 h hx hy (by decide)
  | some d =>
    rw [hu] at h
    cases d with
    | int kk =>
      obtain ⟨l, n, rfl, g1⟩ := eInt_some h
      obtain ⟨m, n', rfl, g2⟩ := eInt_some g1
      obtain ⟨e3, g3⟩ := kEq_some g2
      subst e3
      cases g3; cases hx; cases hy
      rw [eqI_eq]
      exact run_equalIn_int w 9999 t l kk n n' hu
    | string =>
      obtain ⟨s, rfl, g1⟩ := eStr_some h
      obtain ⟨u, rfl, g2⟩ := eStr_some g1
      cases g2
      obtain ⟨s', rfl, rfl⟩ := hx
      obtain ⟨u', rfl, rfl⟩ := hy
      rw [strEq_bytes, ← ByteArray.toList_eq, ← ByteArray.toList_eq]
      exact run_equalIn_string w 9999 t s' u' hu
    | _ => exact run_eqPlain 50 t x y a b r 10000 h hx hy (by decide)

/-- at a kind that is told at once the model tells the same -/
theorem keyEq_now {t : TypeId} {d : TypeDesc} (hu : P.underlying t = some d) {x y : AV} {a b : Value} {r : Bool} (h : keyEq P t x y = some r) (hx : VR ρ x a) (hy : VR ρ y b) (hd : plainTy P t = true) : Instr.sameNow d a b = some r := by
  have heq : (Op.equal t a b).run P default = .ok r default := keyEq_equal h hx hy
  unfold keyEq at h
  rw [hu] at h
  rcases plainTy_some hd with ⟨k, hu'⟩ | hu' | hu' <;> (rw [hu] at hu'; cases hu')
  · obtain ⟨l, n, rfl, g1⟩ := eInt_some h
    obtain ⟨m, n', rfl, g2⟩ := eInt_some g1
    obtain ⟨e3, g3⟩ := kEq_some g2
    subst e3
    cases g3; cases hx; cases hy
    simp [Instr.sameNow, eqI_eq]
  · obtain ⟨s, rfl, g1⟩ := eStr_some h
    obtain ⟨u, rfl, g2⟩ := eStr_some g1
    cases g2
    obtain ⟨s', rfl, rfl⟩ := hx
    obtain ⟨u', rfl, rfl⟩ := hy
    simp [Instr.sameNow, strEq_bytes, beq_toListBytes, ByteArray.toList_eq]
  · have h : eqPlain P 50 t x y = some r := h
    simp only [eqPlain, hu] at h
    split at h
    · cases h; cases hx; cases hy; simp [Instr.sameNow]
    · cases h

def isWide : TypeDesc → Bool
  | .struct _ | .array _ _ | .interface _ | .pointer _ => true
  | _ => false

theorem struct_not_now {fs : Array Field} (a b : Value) : Instr.sameNow (.struct fs) a b = none := by cases a <;> cases b <;> rfl

/-- THE MODEL LOOKS A KEY UP, as it is looked up here: which place, what. -/
theorem findKey_sound {t : TypeId} {k : AV} {kv : Value} (hok : keyOk P t k = true) (hk : VR ρ k kv) : ∀ {es : List MEnt} {l : List MapEntry} {r : Option AV}, findE (keyEq P t) k es = some r → ERs ρ es l →
    ∃ o, (Instr.findKey t kv l).run P w = .ok o w ∧ (match r with
      | none => o = none ∧ ∀ e ∈ es, keyEq P t k e.key = some false
      | some v => ∃ i e e', o = some (i, e'.val) ∧ es[i]? = some e ∧ l[i]? = some e' ∧ e.val = v ∧ ER ρ e e' ∧ keyEq P t k e.key = some true ∧ ∀ j, j < i → ∀ e, es[j]? = some e → keyEq P t k e.key = some false) := by
  intro es l r h hl
  -- what is found, place by place
  have found : ∀ (es : List MEnt) (l : List MapEntry) (r : Option AV) (n : Nat), findE (keyEq P t) k es = some r → ERs ρ es l →
      ∃ o, (Instr.findAsking t kv l n).run P w = .ok o w ∧ (∀ d, P.underlying t = some d → plainTy P t = true → Instr.findNow d kv l n = some o) ∧ (match r with
        | none => o = none ∧ ∀ e ∈ es, keyEq P t k e.key = some false
        | some v => ∃ i e e', o = some (n + i, e'.val) ∧ es[i]? = some e ∧ l[i]? = some e' ∧ e.val = v ∧ ER ρ e e' ∧ keyEq P t k e.key = some true ∧ ∀ j, j < i → ∀ e, es[j]? = some e → keyEq P t k e.key = some false) := by
    intro es
    induction es with
    | nil =>
      intro l r n h hl
      cases hl; cases h
      exact ⟨none, rfl, fun _ _ _ => rfl, rfl, by simp⟩
    | cons e es ih =>
      intro l r n h hl
      obtain ⟨e', l', rfl, he, hl'⟩ := hl
      have h : (Option.rec (motive := fun _ => Option (Option AV)) none (fun b => Bool.rec (motive := fun _ => Option (Option AV)) (findE (keyEq P t) k es) (some (some e.val)) b) (keyEq P t k e.key) : Option (Option AV)) = some r := h
      cases hq : keyEq P t k e.key with
      | none => rw [hq] at h; cases h
      | some q =>
        rw [hq] at h
        have heq := keyEq_equal (w := w) hq hk he.1
        cases q with
        | true =>
          cases h
          refine ⟨some (n, e'.val), by simp [Instr.findAsking, heq], fun d hd hp => ?_, 0, e, e', by simp, rfl, rfl, rfl, he, hq, fun j hj => absurd hj (Nat.not_lt_zero _)⟩
          simp [Instr.findNow, keyEq_now hd hq hk he.1 hp]
        | false =>
          obtain ⟨o, g1, g2, g3⟩ := ih l' r (n + 1) h hl'
          refine ⟨o, by simp [Instr.findAsking, heq, g1], fun d hd hp => ?_, ?_⟩
          · simp [Instr.findNow, keyEq_now hd hq hk he.1 hp, g2 d hd hp]
          · cases r with
            | none => exact ⟨g3.1, fun e0 h0 => by rcases List.mem_cons.1 h0 with rfl | h0; exact hq; exact g3.2 e0 h0⟩
            | some v =>
              obtain ⟨i, e1, e1', q1, q2, q3, q4, q5, q6, q7⟩ := g3
              refine ⟨i + 1, e1, e1', by rw [q1, Nat.add_assoc, Nat.add_comm 1 i], by simpa using q2, by simpa using q3, q4, q5, q6, fun j hj e0 h0 => ?_⟩
              cases j with
              | zero => simp at h0; subst h0; exact hq
              | succ j => exact q7 j (by omega) e0 (by simpa using h0)
  obtain ⟨o, g1, g2, g3⟩ := found es l r 0 h hl
  refine ⟨o, ?_, ?_⟩
  · unfold keyOk at hok
    cases hu : P.underlying t with
    | none => rw [hu] at hok; cases hok
    | some d =>
      have plain : plainTy P t = true → (Instr.findKey t kv l).run P w = .ok o w := fun hp => by
        simp [Instr.findKey, run_underlying hu, g2 d hu hp]
      rw [hu] at hok
      cases d with
      | int kk => exact plain (by unfold plainTy; rw [hu])
      | string => exact plain (by unfold plainTy; rw [hu])
      | bool => exact plain (by unfold plainTy; rw [hu])
      | struct fs =>
        simp only [Instr.findKey, Sem.run_bind, run_underlying hu, Result.andThen_ok]
        cases l with
        | nil => simp [Instr.findNow]; simpa [Instr.findAsking] using g1
        | cons e' l' => simp [Instr.findNow, struct_not_now]; exact g1
      | _ => cases hok
  · cases r with
    | none => exact g3
    | some v => obtain ⟨i, e, e', q1, q⟩ := g3; exact ⟨i, e, e', by simpa using q1, q⟩

theorem run_getMap {b : Nat} {es : Array MapEntry} {c : Nat} (hh : w.heap[b]? = some (.map es c)) : (getObj b).run P w = .ok (.map es c) w := by simp [getObj, Sem.run, hh]
theorem run_setMap {b : Nat} {es : Array MapEntry} {c : Nat} (hh : w.heap[b]? = some (.map es c)) (o : Obj) : (setObj b o).run P w = .ok () { w with heap := w.heap.setIfInBounds b o } := by simp [setObj, Sem.run, hh]

theorem lookup2_sound {t : TypeId} {ok : Bool} {m k r : AV} {a b : Value} (hr : HR P keep ρ h w) (hl : lookup2 P t ok m k h = some r) (hm : VR ρ m a) (hk : VR ρ k b) : Gives P w ρ (Instr.lookup t a b ok) r := by
  unfold lookup2 at hl
  cases hu : P.underlying t with
  | none => rw [hu] at hl; cases hl
  | some d =>
    rw [hu] at hl
    cases d with
    | map kt e =>
      simp only at hl
      cases hz : tZero P e with
      | none => rw [hz] at hl; cases hl
      | some z =>
        rw [hz] at hl
        obtain ⟨hok, hl⟩ := iff'_some.1 hl
        obtain ⟨zv, rz, vz⟩ := run_zeroT (w := w) (ρ := ρ) hz
        have pair : ∀ {x : AV} {v : Value} (q : Bool), VR ρ x v → VR ρ (okPair ok x q) (if ok then .tuple #[v, .bool q] else v) := by
          intro x v q hv
          cases ok with
          | false => exact hv
          | true => exact ⟨_, rfl, v, _, rfl, hv, .bool q, [], rfl, rfl, rfl⟩
        cases m with
        | map o =>
          cases o with
          | none =>
            cases hl; cases hm
            have hf : (Instr.findKey kt b []).run P w = .ok none w := by
              obtain ⟨o, g1, g2, _⟩ := findKey_sound (w := w) hok hk (es := []) (l := []) (r := none) rfl rfl
              rw [g1, g2]
            refine ⟨_, ?_, pair false vz⟩
            simp only [Instr.lookup, Sem.run_bind, run_underlying hu, Result.andThen_ok, Sem.run_pure, checkKey_sound hok hk, hf, rz]
          | some bk =>
            obtain ⟨es, c, hb, hl⟩ := theMap_some hl
            obtain ⟨p, es', hp, h0, hh, he⟩ := hr.blk _ _ hb
            obtain ⟨p', hp', _, rfl⟩ := hm
            rw [hp] at hp'; cases hp'
            cases hf : findE (keyEq P kt) k es with
            | none => rw [hf] at hl; cases hl
            | some q =>
              rw [hf] at hl
              obtain ⟨o, g1, g2⟩ := findKey_sound (w := w) hok hk hf he
              cases q with
              | none =>
                cases hl
                obtain ⟨rfl, _⟩ := g2
                refine ⟨_, ?_, pair false vz⟩
                simp only [Instr.lookup, Sem.run_bind, run_underlying hu, Result.andThen_ok, run_getMap hh, Sem.run_pure, checkKey_sound hok hk, g1, rz]
              | some v =>
                cases hl
                obtain ⟨i, e1, e1', rfl, _, _, rfl, her, _⟩ := g2
                refine ⟨_, ?_, pair true her.2.1⟩
                simp only [Instr.lookup, Sem.run_bind, run_underlying hu, Result.andThen_ok, run_getMap hh, Sem.run_pure, checkKey_sound hok hk, g1]
        | _ => cases hl
    | _ => cases hl

end
end Go.Am

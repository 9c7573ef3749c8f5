/-
  AM, 6: the operations that only compute.
-/
import Derived.Test.YtboobbebilegnaaGreatAm5
namespace Go.Am
section
variable {P : Program} {w : World} {ρ : Pls}

/-- the value of an operation is told, and stands for what the model's run gives; the world stays -/
def Gives (P : Program) (w : World) (ρ : Pls) (s : Sem Value) (r : AV) : Prop := ∃ v, s.run P w = .ok v w ∧ VR ρ r v

theorem eqGuard_pass {op : BinOp} {t : TypeId} {X Y : Operand} {a b : Value} (h : ∀ x y, a = .agg x → b = .agg y → P.eqGuardType P.depth t = false) (h2 : ¬ (a = .nilIface ∧ b = .nilIface)) :
    (eqGuard op t X Y a b).run P w = .ok () w := by
  unfold eqGuard
  cases op <;> try (simp; done)
  all_goals
    cases a <;> cases b <;> first
      | (simp; done)
      | (exact absurd ⟨rfl, rfl⟩ h2)
      | (have := h _ _ rfl rfl; simp [this]; done)

theorem andthen_ok {α β : Type} {x : Sem α} {f : α → Sem β} {a : α} {w' : World} (h : x.run P w = .ok a w') : (x >>= f).run P w = (f a).run P w' := by rw [Sem.run_bind, h]; rfl

theorem eqV_sound {t : TypeId} {x y : AV} {a b : Value} {r : Bool} (h : eqV P t x y = some r) (hx : VR ρ x a) (hy : VR ρ y b) {op : BinOp} {X Y : Operand} :
    (eqGuard op t X Y a b).run P w = .ok () w ∧ (binOp .eql t a b).run P w = .ok (.bool r) w ∧ (binOp .neq t a b).run P w = .ok (.bool (!r)) w := by
  have plain : ∀ (hp : eqPlain P 50 t x y = some r) (ha : ∀ k n l m, ¬ (a = .int k n ∧ b = .int l m)) (hs : ∀ s u, ¬ (a = .string s ∧ b = .string u)) (hf : ∀ k n l m, ¬ (a = .float k n ∧ b = .float l m)) (hc : ∀ k n q l m p, ¬ (a = .complex k n q ∧ b = .complex l m p)),
      (binOp .eql t a b).run P w = .ok (.bool r) w ∧ (binOp .neq t a b).run P w = .ok (.bool (!r)) w := by
    intro hp ha hs hf hc
    have he : (Op.equal t a b).run P w = .ok r w := run_eqPlain 50 t x y a b r 10000 hp hx hy (by decide)
    have e1 : binOp .eql t a b = (do pure (.bool (← Op.equal t a b))) := by
      unfold binOp
      split <;> first | rfl | (exact absurd ⟨rfl, rfl⟩ (ha _ _ _ _)) | (exact absurd ⟨rfl, rfl⟩ (hs _ _)) | (exact absurd ⟨rfl, rfl⟩ (hf _ _ _ _)) | (exact absurd ⟨rfl, rfl⟩ (hc _ _ _ _ _ _)) | contradiction
    have e2 : binOp .neq t a b = (do pure (.bool (!(← Op.equal t a b)))) := by
      unfold binOp
      split <;> first | rfl | (exact absurd ⟨rfl, rfl⟩ (ha _ _ _ _)) | (exact absurd ⟨rfl, rfl⟩ (hs _ _)) | (exact absurd ⟨rfl, rfl⟩ (hf _ _ _ _)) | (exact absurd ⟨rfl, rfl⟩ (hc _ _ _ _ _ _)) | contradiction
    rw [e1, e2, andthen_ok he, andthen_ok he]
    exact ⟨rfl, rfl⟩
  cases x with
  | int k n =>
    obtain ⟨l, m, rfl, h1⟩ := eInt_some h
    obtain ⟨ek, h2⟩ := kEq_some h1
    clear h h1
    subst ek
    cases h2; cases hx; cases hy
    refine ⟨eqGuard_pass (fun _ _ e => by cases e) (fun e => by cases e.1), ?_, ?_⟩ <;> simp [binOp, Op.intCmp, eqI_eq]
    rfl
  | str s =>
    obtain ⟨u, rfl, h⟩ := eStr_some h
    cases h
    obtain ⟨s', rfl, rfl⟩ := hx
    obtain ⟨u', rfl, rfl⟩ := hy
    refine ⟨eqGuard_pass (fun _ _ e => by cases e) (fun e => by cases e.1), ?_, ?_⟩ <;> simp [binOp, Op.stringOp, strEq_bytes, ByteArray.toList_eq]
  | bool c =>
    cases hx
    exact ⟨eqGuard_pass (fun _ _ e => by cases e) (fun e => by cases e.1), plain h (fun _ _ _ _ e => by cases e.1) (fun _ _ e => by cases e.1) (fun _ _ _ _ e => by cases e.1) (fun _ _ _ _ _ _ e => by cases e.1)⟩
  | ptr q =>
    have : ∃ q', a = .pointer q' := by
      cases q with
      | none => cases hx; exact ⟨_, rfl⟩
      | some q => obtain ⟨b0, o0⟩ := q; obtain ⟨p, _, rfl⟩ := hx; exact ⟨_, rfl⟩
    obtain ⟨q', rfl⟩ := this
    exact ⟨eqGuard_pass (fun _ _ e => by cases e) (fun e => by cases e.1), plain h (fun _ _ _ _ e => by cases e.1) (fun _ _ e => by cases e.1) (fun _ _ _ _ e => by cases e.1) (fun _ _ _ _ _ _ e => by cases e.1)⟩
  | slice q n c g =>
    have : ∃ q' n c, a = .slice q' n c := by
      cases q with
      | none => obtain ⟨_, _, _, rfl⟩ := hx; exact ⟨_, _, _, rfl⟩
      | some q => obtain ⟨b0, o0⟩ := q; obtain ⟨p, _, _, _, rfl, _⟩ := hx; exact ⟨_, _, _, rfl⟩
    obtain ⟨q', n', c', rfl⟩ := this
    exact ⟨eqGuard_pass (fun _ _ e => by cases e) (fun e => by cases e.1), plain h (fun _ _ _ _ e => by cases e.1) (fun _ _ e => by cases e.1) (fun _ _ _ _ e => by cases e.1) (fun _ _ _ _ _ _ e => by cases e.1)⟩
  | map q =>
    have : ∃ q', a = .map q' := by
      cases q with
      | none => cases hx; exact ⟨_, rfl⟩
      | some q => obtain ⟨p, _, _, rfl⟩ := hx; exact ⟨_, rfl⟩
    obtain ⟨q', rfl⟩ := this
    exact ⟨eqGuard_pass (fun _ _ e => by cases e) (fun e => by cases e.1), plain h (fun _ _ _ _ e => by cases e.1) (fun _ _ e => by cases e.1) (fun _ _ _ _ e => by cases e.1) (fun _ _ _ _ _ _ e => by cases e.1)⟩
  | func fn u v =>
    obtain ⟨_, _, _, rfl, _⟩ := hx
    exact ⟨eqGuard_pass (fun _ _ e => by cases e) (fun e => by cases e.1), plain h (fun _ _ _ _ e => by cases e.1) (fun _ _ e => by cases e.1) (fun _ _ _ _ e => by cases e.1) (fun _ _ _ _ _ _ e => by cases e.1)⟩
  | nilFunc =>
    cases hx
    exact ⟨eqGuard_pass (fun _ _ e => by cases e) (fun e => by cases e.1), plain h (fun _ _ _ _ e => by cases e.1) (fun _ _ e => by cases e.1) (fun _ _ _ _ e => by cases e.1) (fun _ _ _ _ _ _ e => by cases e.1)⟩
  | iface t' u =>
    obtain ⟨_, rfl, _⟩ := hx
    exact ⟨eqGuard_pass (fun _ _ e => by cases e) (fun e => by cases e.1), plain h (fun _ _ _ _ e => by cases e.1) (fun _ _ e => by cases e.1) (fun _ _ _ _ e => by cases e.1) (fun _ _ _ _ _ _ e => by cases e.1)⟩
  | nilIface =>
    cases hx
    refine ⟨eqGuard_pass (fun _ _ e => by cases e) (fun e => ?_), plain h (fun _ _ _ _ e => by cases e.1) (fun _ _ e => by cases e.1) (fun _ _ _ _ e => by cases e.1) (fun _ _ _ _ _ _ e => by cases e.1)⟩
    have h : eqPlain P 50 t .nilIface y = some r := h
    obtain ⟨_, rfl⟩ := e
    have hy' : y = .nilIface := by
      cases y with
      | nilIface => rfl
      | ptr q => cases q with
        | none => cases hy
        | some q => obtain ⟨_, _, e⟩ := hy; cases e
      | slice q _ _ _ => cases q with
        | none => obtain ⟨_, _, _, e⟩ := hy; cases e
        | some q => obtain ⟨_, _, _, _, e, _⟩ := hy; cases e
      | map q => cases q with
        | none => cases hy
        | some q => obtain ⟨_, _, _, e⟩ := hy; cases e
      | str s => obtain ⟨_, e, _⟩ := hy; cases e
      | func f u v => obtain ⟨_, _, _, e, _⟩ := hy; cases e
      | iface t' u => obtain ⟨_, e, _⟩ := hy; cases e
      | agg cs => obtain ⟨_, e, _⟩ := hy; cases e
      | tuple cs => obtain ⟨_, e, _⟩ := hy; cases e
      | bool b => cases hy
      | int k n => cases hy
      | nilFunc => cases hy
    subst hy'
    simp only [eqPlain] at h
    split at h <;> first | cases h | (split at h <;> first | cases h | contradiction)
  | agg cs =>
    obtain ⟨hg, h⟩ := iff'_some.1 h
    have hg : P.eqGuardType P.depth t = false := by simpa using hg
    obtain ⟨_, rfl, _⟩ := hx
    exact ⟨eqGuard_pass (fun _ _ _ _ => hg) (fun e => by cases e.1), plain h (fun _ _ _ _ e => by cases e.1) (fun _ _ e => by cases e.1) (fun _ _ _ _ e => by cases e.1) (fun _ _ _ _ _ _ e => by cases e.1)⟩
  | tuple cs => cases h

theorem bin2_sound {op : BinOp} {t : TypeId} {x y r : AV} {a b : Value} (h : bin2 P op t x y = some r) (hx : VR ρ x a) (hy : VR ρ y b) {X Y : Operand} :
    Gives P w ρ (do eqGuard op t X Y a b; binOp op t a b) r := by
  have noGuard : ∀ {op : BinOp}, op ≠ .eql → op ≠ .neq → (eqGuard op t X Y a b).run P w = .ok () w := by
    intro op h1 h2; unfold eqGuard; cases op <;> first | (simp; done) | exact absurd rfl h1 | exact absurd rfl h2
  have ints : ∀ {op : BinOp} {f : IntKind → Int → Int → Option AV}, int2 f x y = some r → op ≠ .eql → op ≠ .neq →
      (∀ k n m, f k n m = some r → ∃ v, (binOp op t (.int k n) (.int k m)).run P w = .ok v w ∧ VR ρ r v) → Gives P w ρ (do eqGuard op t X Y a b; binOp op t a b) r := by
    intro op f h h1 h2 hf
    obtain ⟨k, n, e1, g1⟩ := eInt_some h
    obtain ⟨l, m, e2, g2⟩ := eInt_some g1
    obtain ⟨e3, g3⟩ := kEq_some g2
    subst e1; subst e2; subst e3
    cases hx; cases hy
    obtain ⟨v, hv, hr⟩ := hf k n m g3
    exact ⟨v, by rw [andthen_ok (noGuard h1 h2)]; exact hv, hr⟩
  have shifts : ∀ {op : BinOp} {f : IntKind → Int → Int → Option AV}, shft f x y = some r → op ≠ .eql → op ≠ .neq →
      (∀ k n l m, f k n m = some r → ∃ v, (binOp op t (.int k n) (.int l m)).run P w = .ok v w ∧ VR ρ r v) → Gives P w ρ (do eqGuard op t X Y a b; binOp op t a b) r := by
    intro op f h h1 h2 hf
    obtain ⟨k, n, e1, g1⟩ := eInt_some h
    obtain ⟨l, m, e2, g2⟩ := eInt_some g1
    subst e1; subst e2
    cases hx; cases hy
    obtain ⟨v, hv, hr⟩ := hf k n l m g2
    exact ⟨v, by rw [andthen_ok (noGuard h1 h2)]; exact hv, hr⟩
  have cmps : ∀ {op : BinOp} {f : Int → Int → Bool} {g : List Nat → List Nat → Bool}, cmp2 f g x y = some r → op ≠ .eql → op ≠ .neq →
      (∀ k n m, (binOp op t (.int k n) (.int k m)).run P w = .ok (.bool (f n m)) w) →
      (∀ s u : ByteArray, (binOp op t (.string s) (.string u)).run P w = .ok (.bool (g (s.data.toList.map (·.toNat)) (u.data.toList.map (·.toNat)))) w) → Gives P w ρ (do eqGuard op t X Y a b; binOp op t a b) r := by
    intro op f g h h1 h2 hf hg
    cases x with
    | int k n =>
      obtain ⟨l, m, e2, g2⟩ := eInt_some h
      obtain ⟨e3, g3⟩ := kEq_some g2
      subst e2; subst e3
      cases g3; cases hx; cases hy
      exact ⟨_, by rw [andthen_ok (noGuard h1 h2)]; exact hf k n m, rfl⟩
    | str s =>
      obtain ⟨u, rfl, h⟩ := eStr_some h
      cases h
      obtain ⟨s', rfl, rfl⟩ := hx
      obtain ⟨u', rfl, rfl⟩ := hy
      exact ⟨_, by rw [andthen_ok (noGuard h1 h2)]; exact hg s' u', rfl⟩
    | _ => cases h
  cases op with
  | add =>
    cases x with
    | int k n =>
      obtain ⟨l, m, e2, g2⟩ := eInt_some h
      obtain ⟨e3, g3⟩ := kEq_some g2
      subst e2; subst e3
      rw [addI_eq] at g3; cases g3; cases hx; cases hy
      exact ⟨.int k (k.wrap (n + m)), by rw [andthen_ok (noGuard (by simp) (by simp))]; simp [binOp, Op.intArith], rfl⟩
    | str s =>
      obtain ⟨u, rfl, h⟩ := eStr_some h
      obtain ⟨s', rfl, rfl⟩ := hx
      obtain ⟨u', rfl, rfl⟩ := hy
      have h : addS (s'.data.toList.map (·.toNat)) (u'.data.toList.map (·.toNat)) = some r := h
      unfold addS at h
      obtain ⟨hle, h3⟩ := boolRec_some.1 h
      cases h3
      have hle := Nat.le_of_ble_eq_true hle
      simp only [len'_eq, List.length_map, Nat.add_eq] at hle
      refine ⟨.string (s' ++ u'), ?_, ⟨_, rfl, ?_⟩⟩
      · rw [andthen_ok (noGuard (by simp) (by simp))]
        have : ¬ (((s'.size + u'.size : Nat) : Int) > IntKind.i64.max) := by
          have e1 : s'.size = s'.data.toList.length := by rw [Array.length_toList]; rfl
          have e2 : u'.size = u'.data.toList.length := by rw [Array.length_toList]; rfl
          rw [e1, e2]
          simp only [IntKind.max, IntKind.signed, IntKind.bits]; simp; omega
        simp only [binOp, Op.stringOp, if_neg this]; rfl
      · rw [app'_eq]; simp
    | _ => cases h
  | sub => exact ints h (by simp) (by simp) fun k n m hf => ⟨.int k (k.wrap (n - m)), by simp [binOp, Op.intArith], by rw [subI_eq] at hf; cases hf; rfl⟩
  | mul => exact ints h (by simp) (by simp) fun k n m hf => ⟨.int k (k.wrap (n * m)), by simp [binOp, Op.intArith], by rw [mulI_eq] at hf; cases hf; rfl⟩
  | quo =>
    refine ints h (by simp) (by simp) fun k n m hf => ?_
    obtain ⟨h0, rfl⟩ := quoI_some hf
    exact ⟨.int k (k.wrap (n.tdiv m)), by simp [binOp, Op.intDiv, h0], rfl⟩
  | rem =>
    refine ints h (by simp) (by simp) fun k n m hf => ?_
    obtain ⟨h0, rfl⟩ := remI_some hf
    exact ⟨.int k (n.tmod m), by simp [binOp, Op.intDiv, h0], rfl⟩
  | and => exact ints h (by simp) (by simp) fun k n m hf => ⟨.int k (k.wrap (BitVec.ofInt k.bits n &&& BitVec.ofInt k.bits m).toNat), by simp [binOp, Op.intBits], by rw [and_eq] at hf; cases hf; rfl⟩
  | or => exact ints h (by simp) (by simp) fun k n m hf => ⟨.int k (k.wrap (BitVec.ofInt k.bits n ||| BitVec.ofInt k.bits m).toNat), by simp [binOp, Op.intBits], by rw [or_eq] at hf; cases hf; rfl⟩
  | xor => exact ints h (by simp) (by simp) fun k n m hf => ⟨.int k (k.wrap (BitVec.ofInt k.bits n ^^^ BitVec.ofInt k.bits m).toNat), by simp [binOp, Op.intBits], by rw [xor_eq] at hf; cases hf; rfl⟩
  | andNot => exact ints h (by simp) (by simp) fun k n m hf => ⟨.int k (k.wrap (BitVec.ofInt k.bits n &&& ~~~ BitVec.ofInt k.bits m).toNat), by simp [binOp, Op.intBits], by cases hf; rfl⟩
  | shl =>
    refine shifts h (by simp) (by simp) fun k n l m hf => ?_
    unfold shlS wrapV at hf
    split at hf
    · cases hf
    · rename_i h0; cases hf; exact ⟨.int k (k.wrap (n * 2 ^ min m.toNat k.bits)), by simp [binOp, Op.shift, h0], rfl⟩
  | shr =>
    refine shifts h (by simp) (by simp) fun k n l m hf => ?_
    unfold shrS at hf
    split at hf
    · cases hf
    · rename_i h0; cases hf; exact ⟨.int k (n.fdiv (2 ^ min m.toNat k.bits)), by simp [binOp, Op.shift, h0], rfl⟩
  | eql =>
    cases he : eqV P t x y with
    | none => simp only [bin2, eql2, he] at h; cases h
    | some q =>
      simp only [bin2, eql2, he] at h; cases h
      obtain ⟨h1, h2, _⟩ := eqV_sound (w := w) he hx hy (op := .eql) (X := X) (Y := Y)
      exact ⟨_, by rw [andthen_ok h1]; exact h2, rfl⟩
  | neq =>
    cases he : eqV P t x y with
    | none => simp only [bin2, neq2, he] at h; cases h
    | some q =>
      simp only [bin2, neq2, he, notB_eq] at h; cases h
      obtain ⟨h1, _, h2⟩ := eqV_sound (w := w) he hx hy (op := .neq) (X := X) (Y := Y)
      exact ⟨_, by rw [andthen_ok h1]; exact h2, rfl⟩
  | lss => exact cmps h (by simp) (by simp) (fun k n m => by simp [binOp, Op.intCmp, ltI_eq]) (fun s u => by simp [binOp, Op.stringOp, strLt_bytes, ByteArray.toList_eq])
  | leq => exact cmps h (by simp) (by simp) (fun k n m => by simp [binOp, Op.intCmp, leI_eq]) (fun s u => by simp [binOp, Op.stringOp, strLt_bytes, strEq_bytes, ByteArray.toList_eq])
  | gtr => exact cmps h (by simp) (by simp) (fun k n m => by simp [binOp, Op.intCmp, ltI_eq]) (fun s u => by simp [binOp, Op.stringOp, strLt_bytes, strEq_bytes, ByteArray.toList_eq])
  | geq => exact cmps h (by simp) (by simp) (fun k n m => by simp [binOp, Op.intCmp, leI_eq]) (fun s u => by simp [binOp, Op.stringOp, strLt_bytes, ByteArray.toList_eq])

theorem un1_sound {op : UnOp} {x r : AV} {a : Value} (h : un1 op x = some r) (hx : VR ρ x a) : Gives P w ρ (Op.unary op a) r := by
  cases op with
  | neg => obtain ⟨k, n, rfl, h⟩ := eInt_some h; cases h; cases hx; exact ⟨.int k (k.wrap (0 - n)), by simp [Op.unary, Op.intArith], rfl⟩
  | xor => obtain ⟨k, n, rfl, h⟩ := eInt_some h; cases h; cases hx; exact ⟨.int k (k.wrap (BitVec.ofInt k.bits (if k.signed then -1 else k.max) ^^^ BitVec.ofInt k.bits n).toNat), by simp [Op.unary, Op.intBits], rfl⟩
  | not => obtain ⟨b, rfl, h⟩ := eBool_some h; cases h; cases hx; exact ⟨.bool (!b), by simp [Op.unary], by simp [VR]⟩
  | plus => cases h

theorem conv1_sound {s d : TypeId} {x r : AV} {a : Value} (h : conv1 P s d x = some r) (hx : VR ρ x a) : Gives P w ρ (convert s d a) r := by
  unfold conv1 at h
  cases hs : P.underlying s with
  | none => rw [hs] at h; cases h
  | some ds =>
    cases hd : P.underlying d with
    | none => rw [hs, hd] at h; cases h
    | some dd =>
      rw [hs, hd] at h
      cases dd with
      | int k =>
        obtain ⟨l, n, rfl, h⟩ := eInt_some h
        have : r = .int k (k.wrap n) := by
          cases n with
          | ofNat n => have h : fit k n = some r := h; rw [fit_eq] at h; cases h; rfl
          | negSucc n => cases h; rfl
        subst this
        cases hx
        exact ⟨.int k (k.wrap n), by simp [convert, run_underlying hs, run_underlying hd, Conv.intToInt], rfl⟩
      | string =>
        obtain ⟨u, rfl, h⟩ := eStr_some h
        cases h
        obtain ⟨s', rfl, e⟩ := hx
        exact ⟨.string s', by simp [convert, run_underlying hs, run_underlying hd], ⟨s', rfl, e⟩⟩
      | _ => cases h

end
end Go.Am

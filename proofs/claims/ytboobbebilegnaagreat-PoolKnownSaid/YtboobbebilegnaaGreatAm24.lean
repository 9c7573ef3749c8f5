/-
  AM, 24: one operation of a region that draws its order.
-/
import Derived.Test.YtboobbebilegnaaGreatAm23
import Derived.OrdersIn
namespace Go.Am
section
variable {P : Program} {keep : Keeps} {w : World} {ρ : Pls} {h : Heap} {kp : Nat → Bool} {nt : Nat} {ops : Array Oper} {i : Nat}

theorem compD1_ok (hb : (compD1 P kp nt ops i).i.isBad = false) : ∃ o, ops[i]? = some o ∧ okDst nt o.dst = true ∧ (compD1 P kp nt ops i).i = compOp P (findN kp ops o i) o.op ∧
    (((compD1 P kp nt ops i).g = none ∧ o.guard = none) ∨ ∃ j want d c, o.guard = some (j, want) ∧ (ops[j]?).bind (·.dst) = some d ∧ findN kp ops o i d = some c ∧ (compD1 P kp nt ops i).g = some (c, want)) := by
  unfold compD1 at hb ⊢
  cases ho : ops[i]? with
  | none => rw [ho] at hb; cases hb
  | some o =>
    rw [ho] at hb
    simp only at hb ⊢
    cases hd : okDst nt o.dst with
    | false => rw [hd] at hb; cases hb
    | true =>
      rw [hd] at hb
      simp only [if_true] at hb ⊢
      refine ⟨o, rfl, hd, ?_⟩
      cases hg : o.guard with
      | none => exact ⟨rfl, .inl ⟨rfl, rfl⟩⟩
      | some jw =>
        obtain ⟨j, want⟩ := jw
        rw [hg] at hb
        simp only [compG] at hb ⊢
        cases hdd : (ops[j]?).bind (·.dst) with
        | none => rw [hdd] at hb; cases hb
        | some d =>
          rw [hdd] at hb
          simp only at hb ⊢
          cases hc : findN kp ops o i d with
          | none => rw [hc] at hb; cases hb
          | some c => exact ⟨rfl, .inr ⟨j, want, d, c, rfl, hdd, hc, rfl⟩⟩

variable {vs tm : Tr AV} {a : Act} {ro : Option Nat} {Q : Exit → Act → World → Prop} {K : Act → World → Prop} {o : Oper}

theorem wpOpIn_wanted (ho : ops[i]? = some o) (hw : Region.wanted o (yielded ops a.tmps) = true) (h : o.wpIn (fen ro) 0 P a w K Q) : wpOpIn (fen ro) 0 P ops Q i K a w := by
  unfold wpOpIn; rw [ho]; simp only [hw, if_true]; exact h
theorem wpOpIn_not (ho : ops[i]? = some o) (hw : Region.wanted o (yielded ops a.tmps) = false) (h : K (a.put o.dst undef) w) : wpOpIn (fen ro) 0 P ops Q i K a w := by
  unfold wpOpIn; rw [ho]; simp only [hw, Bool.false_eq_true, if_false]; exact ⟨fun _ _ => trivial, h⟩

theorem notDefer {find : Nat → Option Opd} (hb : (compOp P find o.op).isBad = false) : ∀ c, o.op ≠ .defer c := by
  intro c e; rw [e] at hb; cases hb

/-- the guard's word -/
theorem guard_word (hb : (compD1 P kp nt ops i).i.isBad = false) (ho : ops[i]? = some o) (he : EnvOk (findN kp ops o i) [] vs tm ρ a) :
    ((compD1 P kp nt ops i).g = none ∧ Region.wanted o (yielded ops a.tmps) = true) ∨ ∃ c want, (compD1 P kp nt ops i).g = some (c, want) ∧ ∀ v, c.get [] vs tm = some v → Region.wanted o (yielded ops a.tmps) = wanted want v := by
  obtain ⟨o', ho', _, _, hg⟩ := compD1_ok hb
  rw [ho] at ho'; cases ho'
  rcases hg with ⟨h1, h2⟩ | ⟨j, want, d, c, h1, h2, h3, h4⟩
  · exact .inl ⟨h1, by simp [Region.wanted, h2]⟩
  · exact .inr ⟨c, want, h4, fun v hv => wanted_sound he h1 h2 h3 hv⟩

theorem quiet_step (hr : HR P keep ρ h w) (hb : (compD1 P kp nt ops i).i.isBad = false) (ho : ops[i]? = some o) (he : EnvOk (findN kp ops o i) [] vs tm ρ a) (hal : (compD1 P kp nt ops i).i.allocs = false) {id : Nat} {u : AV}
    (hq : (compD1 P kp nt ops i).quiet vs tm id h = some u) (hK : ∀ v, VR ρ u v → K (a.put o.dst v) w) : wpOpIn (fen ro) 0 P ops Q i K a w := by
  obtain ⟨o', ho', _, hi, _⟩ := compD1_ok hb
  rw [ho] at ho'; cases ho'
  have hgood := compOp_good (P := P) (keep := keep) (find := findN kp ops o i) o
  have run : (compD1 P kp nt ops i).i.quiet vs tm id h = some u → o.wpIn (fen ro) 0 P a w K Q := by
    intro hq
    rw [hi] at hq hal hb
    obtain ⟨v, h1, h2⟩ := quiet_gives hgood hal hr he hq
    refine ⟨fun _ _ => trivial, ?_⟩
    rw [Oper.semAt_eq _ _ _ (notDefer hb), h1]
    exact hK v h2
  cases hd : compD1 P kp nt ops i with
  | mk g x =>
    rcases guard_word hb ho he with ⟨h1, h2⟩ | ⟨c, want, h1, h2⟩
    · rw [hd] at h1 hq run
      simp only at h1; subst h1
      exact wpOpIn_wanted ho h2 (run hq)
    · rw [hd] at h1 hq run
      simp only at h1; subst h1
      obtain ⟨v, g1, g2⟩ := ob_some.1 (show ob (c.get [] vs tm) (fun v => Bool.rec (motive := fun _ => Option AV) (some undefA) (x.quiet vs tm id h) (wanted want v)) = some u from hq)
      have hw := h2 v g1
      cases hwv : wanted want v with
      | true => rw [hwv] at g2 hw; exact wpOpIn_wanted ho hw (run g2)
      | false => rw [hwv] at g2 hw; cases g2; exact wpOpIn_not ho hw (hK undef (VR.undef ρ))

theorem alloc_step (hr : HR P keep ρ h w) (hb : (compD1 P kp nt ops i).i.isBad = false) (ho : ops[i]? = some o) (he : EnvOk (findN kp ops o i) [] vs tm ρ a) (hal : (compD1 P kp nt ops i).i.allocs = true) {id : Nat} {u : AV}
    (hq : (compD1 P kp nt ops i).quiet vs tm id h = some u) (hid : ρ id = none) (hK0 : (compD1 P kp nt ops i).blk vs tm = some none → ∀ v, VR ρ u v → K (a.put o.dst v) w)
    (hK1 : ∀ y v w' ob' sz, (compD1 P kp nt ops i).blk vs tm = some (some y) → w'.os = w.os → w'.output = w.output → w'.heap = w.heap.push ob' → BR P keep (ρ.up id ⟨w.heap.size, 0, sz⟩) id y w' → VR (ρ.up id ⟨w.heap.size, 0, sz⟩) u v → K (a.put o.dst v) w') :
    wpOpIn (fen ro) 0 P ops Q i K a w := by
  obtain ⟨o', ho', _, hi, _⟩ := compD1_ok hb
  rw [ho] at ho'; cases ho'
  have hgood := compOp_good (P := P) (keep := keep) (find := findN kp ops o i) o
  cases hd : compD1 P kp nt ops i with
  | mk g x =>
    rw [hd] at hi hal
    cases x with
    | al f xs =>
      simp only at hi
      rw [← hi] at hgood
      have run : ∀ {us : List AV} {r : Blk × (Nat → AV)}, gets xs [] vs tm = some us → f us = some r → r.2 id = u → (compD1 P kp nt ops i).blk vs tm = some (some r.1) → o.wpIn (fen ro) 0 P a w K Q := by
        intro us r h1 h2 h3 h4
        obtain ⟨ob', sz, v, w', g1, g2, g3, g4, g5⟩ := hgood [] vs tm ρ h w a hr he us r h1 h2
        obtain ⟨g6, g7⟩ := g5 id hid
        refine ⟨fun _ _ => trivial, ?_⟩
        rw [Oper.semAt_eq _ _ _ (notDefer (by rw [← hi]; rfl)), g1]
        rw [h3] at g7
        exact hK1 r.1 v w' ob' sz h4 g2 g3 g4 g6 g7
      rcases guard_word hb ho he with ⟨h1, h2⟩ | ⟨c, want, h1, h2⟩
      · rw [hd] at h1 hq
        simp only at h1; subst h1
        obtain ⟨us, g1, g2⟩ := ob_some.1 (show ob (gets xs [] vs tm) (fun us => ob (f us) fun r => some (r.2 id)) = some u from hq)
        obtain ⟨r, g3, g4⟩ := ob_some.1 g2
        refine wpOpIn_wanted ho h2 (run g1 g3 (Option.some.inj g4) ?_)
        rw [hd]
        exact ob_some.2 ⟨us, g1, ob_some.2 ⟨r, g3, rfl⟩⟩
      · rw [hd] at h1 hq
        simp only at h1; subst h1
        obtain ⟨v, g1, g2⟩ := ob_some.1 (show ob (c.get [] vs tm) (fun v => Bool.rec (motive := fun _ => Option AV) (some undefA) (ob (gets xs [] vs tm) (fun us => ob (f us) fun r => some (r.2 id))) (wanted want v)) = some u from hq)
        have hw := h2 v g1
        cases hwv : wanted want v with
        | true =>
          rw [hwv] at g2 hw
          obtain ⟨us, g3, g4⟩ := ob_some.1 (show ob (gets xs [] vs tm) (fun us => ob (f us) fun r => some (r.2 id)) = some u from g2)
          obtain ⟨r, g5, g6⟩ := ob_some.1 g4
          refine wpOpIn_wanted ho hw (run g3 g5 (Option.some.inj g6) ?_)
          rw [hd]
          show ob (c.get [] vs tm) (fun v => Bool.rec (motive := fun _ => Option (Option Blk)) (some none) (ob (gets xs [] vs tm) fun us => ob (f us) fun r => some (some r.1)) (wanted want v)) = _
          rw [g1]
          show (Bool.rec (motive := fun _ => Option (Option Blk)) (some none) (ob (gets xs [] vs tm) fun us => ob (f us) fun r => some (some r.1)) (wanted want v) : Option (Option Blk)) = _
          rw [hwv]
          exact ob_some.2 ⟨us, g3, ob_some.2 ⟨r, g5, rfl⟩⟩
        | false =>
          rw [hwv] at g2 hw; cases g2
          refine wpOpIn_not ho hw (hK0 ?_ undef (VR.undef ρ))
          rw [hd]
          show ob (c.get [] vs tm) (fun v => Bool.rec (motive := fun _ => Option (Option Blk)) (some none) (ob (gets xs [] vs tm) fun us => ob (f us) fun r => some (some r.1)) (wanted want v)) = _
          rw [g1]
          show (Bool.rec (motive := fun _ => Option (Option Blk)) (some none) (ob (gets xs [] vs tm) fun us => ob (f us) fun r => some (some r.1)) (wanted want v) : Option (Option Blk)) = _
          rw [hwv]
    | _ => cases hal

theorem act_step {call : CallFn} (hn : NamesOk P) (hc : CallOk P keep call) (hr : HR P keep ρ h w) (hb : (compD1 P kp nt ops i).i.isBad = false) (ho : ops[i]? = some o) (he : EnvOk (findN kp ops o i) [] vs tm ρ a) {id : Nat} {r : AV × Heap} (hid : h.next ≤ id)
    (hq : (compD1 P kp nt ops i).ev [] vs tm call id h = some r) (hK : ∀ ρ' v w', VR ρ' r.1 v → Post P keep ρ h w ρ' r.2 w' → K (a.put o.dst v) w') : wpOpIn (fen ro) 0 P ops Q i K a w := by
  obtain ⟨o', ho', _, hi, _⟩ := compD1_ok hb
  rw [ho] at ho'; cases ho'
  cases hd : compD1 P kp nt ops i with
  | mk g x =>
    rw [hd] at hi hq
    simp only at hi; subst hi
    rcases guard_word hb ho he with ⟨h1, h2⟩ | ⟨c, want, h1, h2⟩
    · rw [hd] at h1
      simp only at h1; subst h1
      exact wpOpIn_wanted ho h2 (step_sound hn hc hr he hid hq hK)
    · rw [hd] at h1
      simp only at h1; subst h1
      obtain ⟨v, g1, g2⟩ := ob_some.1 (show ob (c.get [] vs tm) (fun v => Bool.rec (motive := fun _ => Res) (some (undefA, h)) ((compOp P (findN kp ops o i) o.op).ev [] vs tm call id h) (wanted want v)) = some r from hq)
      have hw := h2 v g1
      cases hwv : wanted want v with
      | true => rw [hwv] at g2 hw; exact wpOpIn_wanted ho hw (step_sound hn hc hr he hid g2 hK)
      | false => rw [hwv] at g2 hw; cases g2; exact wpOpIn_not ho hw (hK ρ undef w (VR.undef ρ) (Post.refl hr))
end
end Go.Am

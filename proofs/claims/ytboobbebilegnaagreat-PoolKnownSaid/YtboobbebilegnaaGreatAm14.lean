/-
  AM, 14: single operations: what is compiled is what the model does.
-/
import Derived.Test.YtboobbebilegnaaGreatAm13b
namespace Go.Am

/-- what the operands are told to hold, they hold -/
def EnvOk (find : Nat → Option Opd) (loc : List AV) (vs tm : Tr AV) (ρ : Pls) (a : Act) : Prop :=
  ∀ t x v, find t = some x → x.get loc vs tm = some v → VR ρ v (a.tmps.getD t undef)

section
variable {P : Program} {keep : Keeps} {w : World} {ρ : Pls} {h : Heap} {find : Nat → Option Opd} {loc : List AV} {vs tm : Tr AV} {a : Act}

theorem resolve_sound (he : EnvOk find loc vs tm ρ a) {x : Operand} {o : Opd} {v : AV} (hx : Am.resolve find x = some o) (hg : o.get loc vs tm = some v) : VR ρ v (a.eval x) := by
  cases x with
  | tmp t => exact he t o v hx hg
  | const c =>
    simp only [Am.resolve, Option.map_eq_some_iff] at hx
    obtain ⟨u, h1, rfl⟩ := hx
    cases hg
    exact VR.const ρ _ _ h1
  | global g => cases hx
  | func f => cases hx; cases hg; exact ⟨_, _, _, rfl, rfl, rfl, rfl⟩

theorem gets_cons (x : Opd) (xs : List Opd) : gets (x :: xs) loc vs tm = ob (x.get loc vs tm) fun v => ob (gets xs loc vs tm) fun us => some (v :: us) := rfl
theorem resolves_sound (he : EnvOk find loc vs tm ρ a) : ∀ {xs : List Operand} {os : List Opd} {us : List AV}, resolves find xs = some os → gets os loc vs tm = some us → VRs ρ us (xs.map a.eval)
  | [], os, us, hx, hg => by cases hx; cases hg; rfl
  | x :: xs, os, us, hx, hg => by
    simp only [resolves] at hx
    split at hx
    · rename_i o os' h1 h2
      cases hx
      rw [gets_cons] at hg
      obtain ⟨v, g1, g2⟩ := ob_some.1 hg
      obtain ⟨us', g3, g4⟩ := ob_some.1 g2
      cases g4
      exact ⟨_, _, rfl, resolve_sound he h1 g1, resolves_sound he h2 g3⟩
    · cases hx

def GivesN (P : Program) (w : World) (ρ : Pls) (s : Sem Next) (r : AV) : Prop := ∃ v, s.run P w = .ok (.value v) w ∧ VR ρ r v
def MakesN (P : Program) (keep : Keeps) (w : World) (ρ : Pls) (s : Sem Next) (r : Blk × (Nat → AV)) : Prop :=
  ∃ o sz v w', s.run P w = .ok (.value v) w' ∧ w'.os = w.os ∧ w'.output = w.output ∧ w'.heap = w.heap.push o ∧
    ∀ id, ρ id = none → BR P keep (ρ.up id ⟨w.heap.size, 0, sz⟩) id r.1 w' ∧ VR (ρ.up id ⟨w.heap.size, 0, sz⟩) (r.2 id) v
def DoesN (P : Program) (keep : Keeps) (w : World) (ρ : Pls) (h : Heap) (s : Sem Next) (r : AV) (h' : Heap) : Prop :=
  ∃ ρ' nx v w', s.run P w = .ok nx w' ∧ (nx = .value v ∨ nx = .skip ∧ v = undef) ∧ VR ρ' r v ∧ Post P keep ρ h w ρ' h' w'

theorem givesN {s : Sem Value} {r : AV} (hg : Gives P w ρ s r) : GivesN P w ρ (do pure (.value (← s))) r := by
  obtain ⟨v, h1, h2⟩ := hg
  exact ⟨v, by rw [andthen_ok h1]; rfl, h2⟩
theorem makesN {s : Sem Value} {r : Blk × (Nat → AV)} (hg : Makes P keep w ρ s r) : MakesN P keep w ρ (do pure (.value (← s))) r := by
  obtain ⟨o, sz, v, w', h1, h2⟩ := hg
  exact ⟨o, sz, v, w', by rw [andthen_ok h1]; rfl, h2⟩
theorem doesN {s : Sem Value} {r : AV} {h' : Heap} (hg : Does P keep w ρ h s r h') : DoesN P keep w ρ h (do pure (.value (← s))) r h' := by
  obtain ⟨ρ', v, w', h1, h2⟩ := hg
  exact ⟨ρ', _, v, w', by rw [andthen_ok h1]; rfl, .inl rfl, h2⟩
theorem doesU {s : Sem Unit} {h' : Heap} (hg : DoesU P keep w ρ h s h') : DoesN P keep w ρ h (do s; pure .skip) undefA h' := by
  obtain ⟨ρ', w', h1, h2⟩ := hg
  exact ⟨ρ', _, undef, w', by rw [andthen_ok h1]; rfl, .inr ⟨rfl, rfl⟩, VR.undef _, h2⟩

/-- what an instruction has to be, to stand for an operation -/
def Good (P : Program) (keep : Keeps) (find : Nat → Option Opd) (o : Oper) (i : Ins) : Prop :=
  match i with
  | .cl g xs => ∃ g0 args ts, o.op = .call ⟨.value g0, args, ts⟩ ∧ Am.resolve find g0 = some g ∧ resolves find args.toList = some xs
  | .bad => True
  | i => ∀ loc vs tm ρ h w a, HR P keep ρ h w → EnvOk find loc vs tm ρ a →
    match i with
    | .mv x => ∀ v, x.get loc vs tm = some v → GivesN P w ρ (execOp a.eval o) v
    | .p1 f x => ∀ v r, x.get loc vs tm = some v → f v = some r → GivesN P w ρ (execOp a.eval o) r
    | .p2 f x y => ∀ v u r, x.get loc vs tm = some v → y.get loc vs tm = some u → f v u = some r → GivesN P w ρ (execOp a.eval o) r
    | .pick c x y => ∀ t r, c.get loc vs tm = some (.bool t) → (if t then x.get loc vs tm else y.get loc vs tm) = some r → GivesN P w ρ (execOp a.eval o) r
    | .pn f xs => ∀ us r, gets xs loc vs tm = some us → f us = some r → GivesN P w ρ (execOp a.eval o) r
    | .ld1 x => ∀ v r, x.get loc vs tm = some v → load1 h v = some r → GivesN P w ρ (execOp a.eval o) r
    | .ldn s x => ∀ v r, x.get loc vs tm = some v → loadN s h v = some r → GivesN P w ρ (execOp a.eval o) r
    | .rd f xs => ∀ us r, gets xs loc vs tm = some us → f us h = some r → GivesN P w ρ (execOp a.eval o) r
    | .al f xs => ∀ us r, gets xs loc vs tm = some us → f us = some r → MakesN P keep w ρ (execOp a.eval o) r
    | .st1 x y => ∀ p v q, x.get loc vs tm = some p → y.get loc vs tm = some v → store1 h p v = some q → DoesN P keep w ρ h (execOp a.eval o) q.1 q.2
    | .ef f xs => ∀ us id q, h.next ≤ id → gets xs loc vs tm = some us → f us id h = some q → DoesN P keep w ρ h (execOp a.eval o) q.1 q.2
    | _ => True

theorem l1_some {β : Type} {f : AV → Option β} {us : List AV} {r : β} (hl : l1 f us = some r) : ∃ u, us = [u] ∧ f u = some r := by
  match us with
  | [] => cases hl
  | [u] => exact ⟨u, rfl, hl⟩
  | u :: v :: t => cases hl
theorem l2_some {β : Type} {f : AV → AV → Option β} {us : List AV} {r : β} (hl : l2 f us = some r) : ∃ u v, us = [u, v] ∧ f u v = some r := by
  match us with
  | [] => cases hl
  | u :: t => obtain ⟨v, rfl, h⟩ := l1_some (show l1 (f u) t = some r from hl); exact ⟨u, v, rfl, h⟩
theorem l3_some {β : Type} {f : AV → AV → AV → Option β} {us : List AV} {r : β} (hl : l3 f us = some r) : ∃ u v x, us = [u, v, x] ∧ f u v x = some r := by
  match us with
  | [] => cases hl
  | u :: t => obtain ⟨v, x, rfl, h⟩ := l2_some (show l2 (f u) t = some r from hl); exact ⟨u, v, x, rfl, h⟩
theorem l4_some {β : Type} {f : AV → AV → AV → AV → Option β} {us : List AV} {r : β} (hl : l4 f us = some r) : ∃ u v x y, us = [u, v, x, y] ∧ f u v x y = some r := by
  match us with
  | [] => cases hl
  | u :: t => obtain ⟨v, x, y, rfl, h⟩ := l3_some (show l3 (f u) t = some r from hl); exact ⟨u, v, x, y, rfl, h⟩

theorem VRs.one {u : AV} {l : List Value} (hv : VRs ρ [u] l) : ∃ v, l = [v] ∧ VR ρ u v := by obtain ⟨v, t, rfl, h1, rfl⟩ := hv; exact ⟨v, rfl, h1⟩
theorem VRs.two {u u' : AV} {l : List Value} (hv : VRs ρ [u, u'] l) : ∃ v v', l = [v, v'] ∧ VR ρ u v ∧ VR ρ u' v' := by
  obtain ⟨v, t, rfl, h1, h2⟩ := hv; obtain ⟨v', rfl, h3⟩ := VRs.one h2; exact ⟨v, v', rfl, h1, h3⟩

theorem good_on1 {o : Oper} {f : AV → Option AV} {x : Operand} (hs : ∀ (w : World) (ρ : Pls) (a : Act) (v r : AV), VR ρ v (a.eval x) → f v = some r → GivesN P w ρ (execOp a.eval o) r) : Good P keep find o (on1 f (Am.resolve find x)) := by
  cases hx : Am.resolve find x with
  | none => trivial
  | some y => intro loc vs tm ρ h w a hr he v r hv hf; exact hs w ρ a v r (resolve_sound he hx hv) hf
theorem good_on2 {o : Oper} {f : AV → AV → Option AV} {x y : Operand} (hs : ∀ (w : World) (ρ : Pls) (a : Act) (v u r : AV), VR ρ v (a.eval x) → VR ρ u (a.eval y) → f v u = some r → GivesN P w ρ (execOp a.eval o) r) : Good P keep find o (on2 f (Am.resolve find x) (Am.resolve find y)) := by
  cases hx : Am.resolve find x with
  | none => trivial
  | some x' =>
    cases hy : Am.resolve find y with
    | none => trivial
    | some y' => intro loc vs tm ρ h w a hr he v u r hv hu hf; exact hs w ρ a v u r (resolve_sound he hx hv) (resolve_sound he hy hu) hf
theorem good_pn {o : Oper} {f : List AV → Option AV} {xs : List Operand} (hs : ∀ (w : World) (ρ : Pls) (a : Act) (us : List AV) (r : AV), VRs ρ us (xs.map a.eval) → f us = some r → GivesN P w ρ (execOp a.eval o) r) : Good P keep find o (onN (.pn f) (resolves find xs)) := by
  cases hx : resolves find xs with
  | none => trivial
  | some y => intro loc vs tm ρ h w a hr he us r hv hf; exact hs w ρ a us r (resolves_sound he hx hv) hf
theorem good_rd {o : Oper} {f : List AV → Heap → Option AV} {xs : List Operand} (hs : ∀ (w : World) (ρ : Pls) (h : Heap) (a : Act) (us : List AV) (r : AV), HR P keep ρ h w → VRs ρ us (xs.map a.eval) → f us h = some r → GivesN P w ρ (execOp a.eval o) r) : Good P keep find o (onN (.rd f) (resolves find xs)) := by
  cases hx : resolves find xs with
  | none => trivial
  | some y => intro loc vs tm ρ h w a hr he us r hv hf; exact hs w ρ h a us r hr (resolves_sound he hx hv) hf
theorem good_al {o : Oper} {f : List AV → Option (Blk × (Nat → AV))} {xs : List Operand} (hs : ∀ (w : World) (ρ : Pls) (a : Act) (us : List AV) (r : Blk × (Nat → AV)), VRs ρ us (xs.map a.eval) → f us = some r → MakesN P keep w ρ (execOp a.eval o) r) : Good P keep find o (onN (.al f) (resolves find xs)) := by
  cases hx : resolves find xs with
  | none => trivial
  | some y => intro loc vs tm ρ h w a hr he us r hv hf; exact hs w ρ a us r (resolves_sound he hx hv) hf
theorem good_ef {o : Oper} {f : List AV → Nat → Heap → Option (AV × Heap)} {xs : List Operand} (hs : ∀ (w : World) (ρ : Pls) (h : Heap) (a : Act) (us : List AV) (id : Nat) (q : AV × Heap), HR P keep ρ h w → h.next ≤ id → VRs ρ us (xs.map a.eval) → f us id h = some q → DoesN P keep w ρ h (execOp a.eval o) q.1 q.2) : Good P keep find o (onN (.ef f) (resolves find xs)) := by
  cases hx : resolves find xs with
  | none => trivial
  | some y => intro loc vs tm ρ h w a hr he us id q hid hv hf; exact hs w ρ h a us id q hr hid (resolves_sound he hx hv) hf

theorem notNil_sound {dst : Option Tmp} {ty : TypeId} {pos : String} {after : Array Edge} {guard : Option (Nat × Bool)} {x : Operand} {v r : AV} (hv : VR ρ v (a.eval x)) (hn : notNil v = some r) : GivesN P w ρ (execOp a.eval ⟨dst, .nilCheck x, ty, pos, after, guard⟩) r := by
  cases v with
  | ptr o =>
    cases o with
    | none => cases hn
    | some p =>
      cases hn
      have hv' := hv
      obtain ⟨p', hp, e⟩ := hv
      exact ⟨a.eval x, by simp only [execOp, e, Sem.run_pure], hv'⟩
  | func f b c =>
    have hv' := hv
    obtain ⟨fn', a', b', e, hf, ha, hb⟩ := hv
    cases f with
    | func g => cases hn; cases hf; exact ⟨a.eval x, by simp only [execOp, e, Sem.run_pure], hv'⟩
    | yield l => cases hn; obtain ⟨p, _, _, rfl⟩ := hf; exact ⟨a.eval x, by simp only [execOp, e, Sem.run_pure], hv'⟩
    | _ => cases hn
  | slice o n c g =>
    cases hn
    have hv' := hv
    cases o with
    | none => obtain ⟨_, _, _, e⟩ := hv; exact ⟨a.eval x, by simp only [execOp, e, Sem.run_pure], hv'⟩
    | some p => obtain ⟨_, _, _, _, e, _⟩ := hv; exact ⟨a.eval x, by simp only [execOp, e, Sem.run_pure], hv'⟩
  | map o =>
    cases hn
    have hv' := hv
    cases o with
    | none => exact ⟨a.eval x, by simp only [execOp, show a.eval x = _ from hv, Sem.run_pure], hv'⟩
    | some p => obtain ⟨_, _, _, e⟩ := hv; exact ⟨a.eval x, by simp only [execOp, e, Sem.run_pure], hv'⟩
  | _ => cases hn
end
end Go.Am

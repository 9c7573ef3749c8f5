/-
  AM, 30: code.
-/
import Derived.Test.YtboobbebilegnaaGreatAm29
namespace Go.Am
section
variable {P : Program} {keep : Keeps} {w w' : World} {ρ ρ' : Pls} {h h' : Heap}

/-- one call that is put off -/
def DvR (ρ : Pls) (v : AV) (d : Deferred) : Prop := ∃ (i : FuncId) (fa ca as : List AV) (cap : Array Value),
  v = .tuple (.func (.func i) fa ca :: as) ∧ d.target = .fn (.func i) cap ∧ VRs ρ ca cap.toList ∧ VRs ρ (fa ++ as) d.args.toList
/-- the calls that are put off, marks of loops among them -/
def DfR (ρ : Pls) : List AV → List Deferred → Prop
  | l, [] => l = []
  | l, d :: ds => (∃ r, d.target = .collected r ∧ DfR ρ l ds) ∨ ∃ v l', l = v :: l' ∧ DvR ρ v d ∧ DfR ρ l' ds
theorem DvR.mono (hl : ρ.le ρ') {v : AV} {d : Deferred} (h : DvR ρ v d) : DvR ρ' v d := by
  obtain ⟨i, fa, ca, as, cap, h1, h2, h3, h4⟩ := h
  exact ⟨i, fa, ca, as, cap, h1, h2, h3.mono hl, h4.mono hl⟩
theorem DfR.mono (hl : ρ.le ρ') : ∀ {ds : List Deferred} {l : List AV}, DfR ρ l ds → DfR ρ' l ds
  | [], _, h => h
  | _ :: _, _, .inl ⟨r, h1, h2⟩ => .inl ⟨r, h1, DfR.mono hl h2⟩
  | _ :: _, _, .inr ⟨v, l', h1, h2, h3⟩ => .inr ⟨v, l', h1, h2.mono hl, DfR.mono hl h3⟩

/-- from where on the marks lie; what all is that is put off, if that does not turn -/
structure DP where
  base : Nat
  pd : Option (List Deferred)

/-- the calls that are put off: marks of blocks that nobody holds and that hold nothing, and those that are told -/
def DefOk (n0 : DP) (ρ : Pls) (h : Heap) (l : List AV) (ds : List Deferred) (w : World) : Prop :=
  ((∀ d ∈ ds, ∀ r, d.target = .collected r → n0.base ≤ r ∧ w.heap[r]? = some (.deferred (some [])) ∧ ¬ Own ρ h r) ∧
  ds.Pairwise fun d e => ∀ r s, d.target = .collected r → e.target = .collected s → r ≠ s) ∧ DfR ρ l ds ∧ ∀ ds0, n0.pd = some ds0 → ds = ds0

theorem DefOk.post {n0 : DP} {l : List AV} {ds : List Deferred} (hd : DefOk n0 ρ h l ds w) (hp : Post P keep ρ h w ρ' h' w') : DefOk n0 ρ' h' l ds w' := by
  refine ⟨⟨fun d hm r h1 => ?_, hd.1.2⟩, hd.2.1.mono hp.le, hd.2.2⟩
  obtain ⟨h2, h3, h4⟩ := hd.1.1 d hm r h1
  have hlt := (Array.getElem?_eq_some_iff.1 h3).1
  exact ⟨h2, (hp.fr.same r hlt h4).trans h3, fun ho => h4 (hp.own r hlt ho)⟩

/-- an object more, which nobody holds -/
theorem Post.grow (hr : HR P keep ρ h w) {o : Obj} (hos : w'.os = w.os) (hout : w'.output = w.output) (hheap : w'.heap = w.heap.push o) : Post P keep ρ h w ρ h w' := by
  refine ⟨Pls.le_refl _, hr.frame fun b x p hx hd hp => ?_, ⟨hos, hout, by rw [hheap]; simp, fun k hk _ => ?_⟩, fun _ _ h => h, Nat.le_refl _, fun _ _ h _ => h⟩
  · obtain ⟨q, hq, hlt⟩ := (hr.blk b x hx).place hd
    rw [hp] at hq; cases hq
    rw [hheap, Array.getElem?_push, if_neg (by omega)]
  · rw [hheap, Array.getElem?_push, if_neg (by omega)]

/-- in which round -/
def RoR (ρ : Pls) : Option Nat → Option Nat → Prop
  | none, m => m = none
  | some l, m => ∃ p, ρ l = some p ∧ p.off = 0 ∧ m = some p.blk
theorem RoR.mono (hl : ρ.le ρ') {ro rom : Option Nat} (h : RoR ρ ro rom) : RoR ρ' ro rom := by
  cases ro with
  | none => exact h
  | some l => obtain ⟨p, h1, h2⟩ := h; exact ⟨p, hl _ _ h1, h2⟩

def exOf : Ex → Exit
  | .normal => .normal
  | .ret => .ret
  | .exit id => .exit id
  | .goto l => .goto l

/-- what is asked of the code that comes next -/
def Goes (P : Program) (keep : Keeps) (f : FuncId) (n0 : DP) (ρ : Pls) (h : Heap) (w : World) (e : Exit) (s' : St) (Q : Exit → Act → World → Prop) : Prop :=
  ∀ ρ' a' w', Post P keep ρ h w ρ' s'.hp w' → TR (keep f) (ntOf P f) ρ' s'.tm a'.tmps → DefOk n0 ρ' s'.hp (putOff s'.tm (ntOf P f)) a'.defers w' → Q e a' w'

/-- the code's run does what is told -/
def Does2 (P : Program) (keep : Keeps) (f : FuncId) (ro : Option Nat) (c : Code) (x : St → XR) : Prop :=
  ∀ s r, x s = some r → ∀ n0 ρ a w rom Q, RoR ρ ro rom → HR P keep ρ s.hp w → TR (keep f) (ntOf P f) ρ s.tm a.tmps → DefOk n0 ρ s.hp (putOff s.tm (ntOf P f)) a.defers w → n0.base ≤ w.heap.size → (n0.pd.isSome = true → plainC c = true) → Goes P keep f n0 ρ s.hp w (exOf r.1) r.2 Q →
    c.wpIn (fen rom) 0 P Q a w

theorem Goes.after {f : FuncId} {n0 : DP} {e : Exit} {s' : St} {Q : Exit → Act → World → Prop} (hg : Goes P keep f n0 ρ h w e s' Q) (hp : Post P keep ρ h w ρ' h' w') : Goes P keep f n0 ρ' h' w' e s' Q :=
  fun ρ2 a2 w2 hp2 ht hd => hg ρ2 a2 w2 (hp.trans hp2) ht hd

theorem cond_tmp {kp : Nat → Bool} {tm : Tr AV} {a : Act} {nt : Nat} (ht : TR kp nt ρ tm a.tmps) : EnvOk (fun t => if kp t then some (.tmp t) else none) [] .leaf tm ρ a := by
  intro t x v hx hg
  simp only at hx
  split at hx
  · rename_i hk
    cases hx
    obtain ⟨cv, h1, h2⟩ := ht.2 t v hk hg
    rw [Array.getD_eq_getD_getElem?, h1]; exact h2
  · cases hx

/-- walk on as a jump says -/
theorem jump_wp {c : Code} {e : Ex} {rom : Option Nat} {Q : Exit → Act → World → Prop} {a : Act} (hj : jumpEx c = some e) (hq : Q (exOf e) a w) : c.wpIn (fen rom) 0 P Q a w := by
  cases c with
  | ret => cases hj; exact wpIn_ret hq
  | exit id => cases hj; exact wpIn_exit hq
  | goto l => cases hj; exact wpIn_goto hq
  | _ => cases hj

theorem run_getLoop {b : Nat} {L : Loop} (hh : w.heap[b]? = some (.loop L)) : (Instr.getLoop b).run P w = .ok L w := by
  simp [Instr.getLoop, getObj, Sem.run, hh]
theorem run_setLoop {b : Nat} {L : Loop} (hh : w.heap[b]? = some (.loop L)) (o : Obj) : (setObj b o).run P w = .ok () { w with heap := w.heap.setIfInBounds b o } := by simp [setObj, Sem.run, hh]

/-- a loop's record is written -/
theorem HR.setLoop (hr : HR P keep ρ h w) {l : Nat} {r r' : LRec} {L L' : Loop} (hb : h.bs.gt l = some (.loop r)) {p : Pl} (hp : ρ l = some p) (h0 : p.off = 0) (hh : w.heap[p.blk]? = some (.loop L)) (hl : LR P keep ρ r' L') :
    Post P keep ρ h w ρ (h.put l (.loop r')) { w with heap := w.heap.setIfInBounds p.blk (.loop L') } := by
  have hlt := (Array.getElem?_eq_some_iff.1 hh).1
  refine hr.write hb rfl rfl hp rfl rfl (by simp) (fun k hk => ?_) ⟨p, L', hp, h0, ?_, hl⟩
  · show (w.heap.setIfInBounds p.blk _)[k]? = _
    rw [Array.getElem?_setIfInBounds, if_neg (fun e => hk e.symm)]
  · show (w.heap.setIfInBounds p.blk _)[p.blk]? = _
    rw [Array.getElem?_setIfInBounds, if_pos rfl, if_pos hlt]
end
end Go.Am

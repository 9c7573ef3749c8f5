/-
  AM, 36: rounds of a range over a function; every call.
-/
import Derived.Test.YtboobbebilegnaaGreatAm35
namespace Go.Am
section
variable {P : Program} {keep : Keeps} {call : CallFn} {lf : Nat}

theorem setPs_cons (nt t : Nat) (ps : List Nat) (v : AV) (vs : List AV) (tm : Tr AV) : setPs nt (t :: ps) (v :: vs) tm = iff' (Nat.ble (t + 1) nt) (setPs nt ps vs (tm.up (some v) t)) := rfl

theorem setPs_sound {kp : Nat → Bool} {nt : Nat} {ρ : Pls} : ∀ {ps : List Nat} {vs : List AV} {tm tm' : Tr AV} {cvs : List Value} {tmps : Array Value}, setPs nt ps vs tm = some tm' → VRs ρ vs cvs → TR kp nt ρ tm tmps →
    cvs.length = ps.length ∧ TR kp nt ρ tm' ((ps.zip cvs).foldl (fun tmps (x : Nat × Value) => tmps.setIfInBounds x.1 x.2) tmps)
  | [], [], tm, tm', cvs, tmps, h, hv, ht => by cases h; cases hv; exact ⟨rfl, ht⟩
  | [], v :: vs, tm, tm', cvs, tmps, h, hv, ht => by cases h
  | t :: ps, [], tm, tm', cvs, tmps, h, hv, ht => by cases h
  | t :: ps, v :: vs, tm, tm', cvs, tmps, h, hv, ht => by
    rw [setPs_cons] at h
    obtain ⟨h1, h2⟩ := iff'_some.1 h
    have hlt : t < nt := Nat.le_of_ble_eq_true h1
    obtain ⟨cv, cvs, rfl, g1, g2⟩ := hv
    have ht' : TR kp nt ρ (tm.up (some v) t) (tmps.setIfInBounds t cv) := by
      refine ⟨by simpa using ht.1, fun s u hk hg => ?_⟩
      rw [Tr.gt_up] at hg
      rw [Array.getElem?_setIfInBounds]
      by_cases e : s = t
      · subst e
        rw [if_pos rfl] at hg; cases hg
        rw [if_pos rfl, if_pos (Nat.lt_of_lt_of_le hlt ht.1)]
        exact ⟨cv, rfl, g1⟩
      · rw [if_neg e] at hg
        rw [if_neg (fun h => e h.symm)]
        exact ht.2 s u hk hg
    obtain ⟨h3, h4⟩ := setPs_sound h2 g2 ht'
    exact ⟨by simp [h3], h4⟩

theorem setPs_same {nt D : Nat} (hD : nt ≤ D) : ∀ {ps : List Nat} {vs : List AV} {tm tm' : Tr AV}, setPs nt ps vs tm = some tm' → tm'.gt D = tm.gt D
  | [], [], tm, tm', h => by cases h; rfl
  | [], v :: vs, tm, tm', h => by cases h
  | t :: ps, [], tm, tm', h => by cases h
  | t :: ps, v :: vs, tm, tm', h => by
    rw [setPs_cons] at h
    obtain ⟨h1, h2⟩ := iff'_some.1 h
    have hlt : t < nt := Nat.le_of_ble_eq_true h1
    rw [setPs_same hD h2, Tr.gt_up, if_neg (by omega)]
theorem onlyNormal_some {r : Ex × St} {g : St → Res} {q : AV × Heap} (h : onlyNormal r g = some q) : r.1 = .normal ∧ g r.2 = some q := by
  obtain ⟨e, s⟩ := r
  cases e with
  | normal => exact ⟨rfl, h⟩
  | ret => cases h
  | exit id => cases h
  | goto l => cases h

theorem callL_sound (hm : P.follows .mixedOrders = true) (hn : NamesOk P) (hc : CallOk P keep call) {l : Nat} {args : List AV} {h : Heap} {r : AV × Heap} (hr : callL P keep lf call l args h = some r)
    {ρ : Pls} {w : World} {avs : List Value} (hh : HR P keep ρ h w) (hv : VRs ρ args avs) {p : Pl} (hp : ρ l = some p) :
    ∃ f tmps assign body, (Instr.yield p.blk avs.toArray).run P w = .ok (.round p.blk f tmps assign body) w ∧ RoundIn (fen none) 0 P p.blk f tmps assign body w (Ret P keep ρ h w r) := by
  obtain ⟨b, hb, h1⟩ := theLoop_some hr
  obtain ⟨p', L, hp', h0, hL, hlr⟩ := hh.blk _ _ hb
  rw [hp] at hp'; cases hp'
  obtain ⟨tm, h2, h3⟩ := ob_some.1 h1
  obtain ⟨hck, h3⟩ := iff'_some.1 h3
  simp only [and'_eq, notB_eq, Bool.and_eq_true, Bool.not_eq_true'] at hck
  obtain ⟨hkD, hoff⟩ := hck
  have hoff : putOff tm (ntOf P b.fn) = [] := by
    rw [putOff_same (setPs_same (Nat.le_refl _) h2)]
    unfold putOff
    unfold noOff at hoff
    cases hg : b.tm.gt (ntOf P b.fn) with
    | none => rfl
    | some v => rw [hg] at hoff; cases hoff
  obtain ⟨q, h4, h5⟩ := ob_some.1 h3
  obtain ⟨hqn, h6⟩ := onlyNormal_some h5
  obtain ⟨b', hb', h7⟩ := theLoop_some h6
  obtain ⟨hlen, ht⟩ := setPs_sound h2 hv hlr.tm
  have hsize : avs.toArray.size = L.params.size := by
    have := hlr.params
    rw [← this] at hlen
    simpa using hlen
  refine ⟨L.fn, ((L.params.zip avs.toArray).foldl (fun tmps (x : Tmp × Value) => tmps.setIfInBounds x.1 x.2) L.tmps), L.assign, L.body, ?_, ?_⟩
  · simp only [Instr.yield, Sem.run_bind, run_getLoop hL, Result.andThen_ok]
    rw [if_neg (by rw [hsize]; simp)]
    rfl
  · rw [hlr.assign, hlr.body]
    have hzip : ((L.params.zip avs.toArray).foldl (fun tmps (x : Tmp × Value) => tmps.setIfInBounds x.1 x.2) L.tmps) = ((b.params.zip avs).foldl (fun tmps (x : Nat × Value) => tmps.setIfInBounds x.1 x.2) L.tmps) := by
      rw [← Array.foldl_toList, Array.toList_zip, hlr.params]
    have ht : TR (keep b.fn) (ntOf P b.fn) ρ tm ((L.params.zip avs.toArray).foldl (fun tmps (x : Tmp × Value) => tmps.setIfInBounds x.1 x.2) L.tmps) := by rw [hzip]; exact ht
    have hd0 : ∀ {ρ : Pls} {h : Heap} {w' : World}, DefOk ⟨0, none⟩ ρ h (putOff tm (ntOf P b.fn)) [] w' := ⟨⟨fun d hd => (by cases hd), List.Pairwise.nil⟩, hoff, fun ds0 e => by cases e⟩
    refine roundIn_of_wpIn (F := fen none) trivial ?_
    have hro : RoR ρ (some l) (some p.blk) := ⟨p, hp, h0, rfl⟩
    refine exec_sound hkD hm hn hc b.assign ⟨tm, h⟩ q h4 ⟨0, none⟩ ρ _ w (some p.blk) _ hro hh ht hd0 (Nat.zero_le _) (fun e => by cases e) (fun ρ1 a1 w1 hp1 ht1 hdf1 => ?_)
    rw [hqn]
    obtain ⟨p1, L1, hpl1, _, hL1, hlr1⟩ := hp1.hr.blk _ _ hb'
    have e1 : p1 = p := by have := hp1.le _ _ hp; rw [hpl1] at this; exact Option.some.inj this
    subst e1
    cases hst : b'.st with
    | ready =>
      rw [hst] at h7
      obtain ⟨q2, h8, h9⟩ := ob_some.1 h7
      have hset := hp1.hr.setLoop (r' := { b' with st := .busy }) (L' := { L1 with state := .busy }) hb' hpl1 h0 hL1 { hlr1 with st := rfl }
      have hst1 : L1.state = .ready := by have := hlr1.st; rw [hst] at this; exact this
      let w2 : World := { w1 with heap := w1.heap.setIfInBounds p1.blk (.loop { L1 with state := .busy }) }
      refine ⟨w2, ?_, ?_⟩
      · simp only [Instr.beginRound, Sem.run_bind, run_getLoop hL1, Result.andThen_ok, run_setLoop hL1, hst1]
        rfl
      · have hdef2 : DefOk ⟨0, none⟩ ρ1 (q.2.hp.put l (.loop { b' with st := .busy })) (putOff q.2.tm (ntOf P b.fn)) a1.defers w2 := hdf1.post hset
        refine exec_sound hkD hm hn hc b.body ⟨q.2.tm, q.2.hp.put l (.loop { b' with st := .busy })⟩ q2 h8 ⟨0, none⟩ ρ1 a1 w2 (some p1.blk) _ (hro.mono hp1.le) hset.hr ht1 hdef2 (Nat.zero_le _) (fun e => by cases e) (fun ρ2 a2 w3 hp2 ht2 hdf2 => ?_)
        obtain ⟨b2, hb2, h10⟩ := theLoop_some h9
        obtain ⟨p2, L2, hpl2, _, hL2, hlr2⟩ := hp2.hr.blk _ _ hb2
        have e2 : p2 = p1 := by have := hp2.le _ _ hpl1; rw [hpl2] at this; exact Option.some.inj this
        subst e2
        have fin : ∀ (jump : Option Code) (st : LState) (S : LoopState), SR st S → S = (if jump.isNone then .ready else .done) → r = (.bool jump.isNone, q2.2.hp.put l (.loop { b2 with st := st, pending := jump })) →
            ∃ v w', (Instr.endRound p2.blk jump).run P w3 = .ok v w' ∧ Ret P keep ρ h w r (.returned v) w' := by
          intro jump st S hS hS2 hre
          have hset2 := hp2.hr.setLoop (r' := { b2 with st := st, pending := jump }) (L' := { L2 with state := S, pending := jump }) hb2 hpl2 h0 hL2 { hlr2 with st := hS, pending := rfl }
          let w4 : World := { w3 with heap := w3.heap.setIfInBounds p2.blk (.loop { L2 with state := S, pending := jump }) }
          refine ⟨.bool jump.isNone, w4, ?_, ρ2, ?_, ?_⟩
          · simp only [Instr.endRound, Sem.run_bind, run_getLoop hL2, Result.andThen_ok, run_setLoop hL2, Sem.run_pure, ← hS2]
            rfl
          · rw [hre]; exact rfl
          · rw [hre]; exact ((hp1.trans hset).trans hp2).trans hset2
        obtain ⟨e, s2⟩ := q2
        cases hst2 : b2.st with
        | busy =>
          rw [hst2] at h10
          cases e with
          | normal => cases h10; exact fin none .ready .ready rfl rfl rfl
          | ret => cases h10; exact fin (some .ret) .done .done rfl rfl rfl
          | exit id => cases h10; exact fin (some (.exit id)) .done .done rfl rfl rfl
          | goto t => cases h10; exact fin (some (.goto t)) .done .done rfl rfl rfl
        | ready => rw [hst2] at h10; cases h10
        | done => rw [hst2] at h10; cases h10
        | exhausted => rw [hst2] at h10; cases h10
    | busy => rw [hst] at h7; cases h7
    | done => rw [hst] at h7; cases h7
    | exhausted => rw [hst] at h7; cases h7

/-- EVERY CALL. -/
theorem callN_sound {prims : Prims} (hm : P.follows .mixedOrders = true) (hn : NamesOk P) (hpr : PrimsOk P keep prims) : ∀ (n : Nat), CallOk P keep (callN P keep prims lf n) := by
  intro n
  induction n with
  | zero => intro t args h r hr; cases hr
  | succ n ih =>
    intro t args h r hr ρ w avs hh hv
    cases t with
    | fn f => exact callF_sound hm hn ih hpr (show callF P keep prims lf (callN P keep prims lf n) f args h = some r from hr) hh hv
    | loop l => exact fun p hp => callL_sound hm hn ih (show callL P keep lf (callN P keep prims lf n) l args h = some r from hr) hh hv hp

def noPrims : Prims := ⟨fun _ _ _ => none⟩
theorem noPrims_ok : PrimsOk P keep noPrims := fun _ _ _ _ h => by cases h

theorem empty_HR (w : World) : HR P keep (fun _ => none) ⟨.leaf, 0⟩ w := ⟨fun _ _ h => (by cases h), fun _ _ h => (by cases h), fun _ _ h => (by cases h), fun _ _ _ _ _ _ h => (by cases h)⟩

/-- A CALL WITHOUT ARGUMENTS, FROM NOTHING: in every world it returns that, and leaves all that was there. -/
theorem calls_of_run {prims : Prims} (hm : P.follows .mixedOrders = true) (hn : NamesOk P) (hpr : PrimsOk P keep prims) {n : Nat} {f : FuncId} {b : Bool} {h : Heap} (hr : callN P keep prims lf n (.fn f) [] ⟨.leaf, 0⟩ = some (.bool b, h)) (w : World) :
    Calls P f #[] w fun e w' => e = .returned (.bool b) ∧ w'.os = w.os ∧ w'.output = w.output ∧ ∀ k, k < w.heap.size → w'.heap[k]? = w.heap[k]? := by
  have h1 := (callN_sound (lf := lf) hm hn hpr n (.fn f) [] ⟨.leaf, 0⟩ _ hr (fun _ => none) w [] (empty_HR w) rfl).2
  refine callsIn_wide.1 (CallsIn.mono (F := Fence.wide) h1 fun e w' hR => ?_)
  cases e with
  | returned v =>
    obtain ⟨ρ', hv, hp⟩ := hR
    refine ⟨by rw [show v = .bool b from hv], hp.fr.os, hp.fr.output, fun k hk => hp.fr.same k hk ?_⟩
    rintro ⟨_, _, _, hx, _⟩
    cases hx
  | panicked chain => exact hR.elim
  | outgrown => exact hR.elim
end
end Go.Am

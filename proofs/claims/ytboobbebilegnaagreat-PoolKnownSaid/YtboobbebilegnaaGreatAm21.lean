/-
  AM, 21: instructions that do not write; more values told, the same outcome.
-/
import Derived.Test.YtboobbebilegnaaGreatAm20
namespace Go.Am
section
variable {P : Program} {keep : Keeps} {w : World} {ρ : Pls} {h : Heap}

def Sub (vs vs' : Tr AV) : Prop := ∀ j u, vs.gt j = some u → vs'.gt j = some u
theorem Sub.refl (vs : Tr AV) : Sub vs vs := fun _ _ h => h
theorem Sub.trans {a b c : Tr AV} (h1 : Sub a b) (h2 : Sub b c) : Sub a c := fun j u h => h2 j u (h1 j u h)

theorem get_mono {vs vs' tm : Tr AV} (hs : Sub vs vs') {loc : List AV} {x : Opd} {v : AV} (h : x.get loc vs tm = some v) : x.get loc vs' tm = some v := by
  cases x with
  | opi j => exact hs j v h
  | _ => exact h
theorem gets_mono {vs vs' tm : Tr AV} (hs : Sub vs vs') {loc : List AV} : ∀ {xs : List Opd} {us : List AV}, gets xs loc vs tm = some us → gets xs loc vs' tm = some us
  | [], us, h => h
  | x :: xs, us, h => by
    rw [gets_cons] at h ⊢
    obtain ⟨v, h1, h2⟩ := ob_some.1 h
    obtain ⟨us', h3, h4⟩ := ob_some.1 h2
    rw [get_mono hs h1]
    show ob (gets xs loc vs' tm) _ = _
    rw [gets_mono hs h3]
    exact h4

theorem ev_mono {vs vs' tm : Tr AV} (hs : Sub vs vs') {loc : List AV} {call : CallFn} {id : Nat} {i : Ins} {r : AV × Heap} (hi : i.ev loc vs tm call id h = some r) : i.ev loc vs' tm call id h = some r := by
  cases i with
  | mv x =>
    obtain ⟨v, h1, h2⟩ := ob_some.1 (show ob (x.get loc vs tm) (fun v => some (v, h)) = some r from hi)
    exact ob_some.2 ⟨v, get_mono hs h1, h2⟩
  | p1 f x =>
    obtain ⟨v, h1, h2⟩ := ob_some.1 (show ob (x.get loc vs tm) (fun v => ob (f v) fun r => some (r, h)) = some r from hi)
    exact ob_some.2 ⟨v, get_mono hs h1, h2⟩
  | p2 f x y =>
    obtain ⟨v, h1, h2⟩ := ob_some.1 (show ob (x.get loc vs tm) (fun v => ob (y.get loc vs tm) fun u => ob (f v u) fun r => some (r, h)) = some r from hi)
    obtain ⟨u, h3, h4⟩ := ob_some.1 h2
    exact ob_some.2 ⟨v, get_mono hs h1, ob_some.2 ⟨u, get_mono hs h3, h4⟩⟩
  | pick c x y =>
    obtain ⟨v, h1, h2⟩ := ob_some.1 (show ob (c.get loc vs tm) (fun v => eBool (fun t => ob (Bool.rec (motive := fun _ => Option AV) (y.get loc vs tm) (x.get loc vs tm) t) fun r => some (r, h)) v) = some r from hi)
    obtain ⟨t, e, h3⟩ := eBool_some h2
    subst e
    obtain ⟨s, h5, h6⟩ := ob_some.1 h3
    refine ob_some.2 ⟨_, get_mono hs h1, ?_⟩
    show ob (Bool.rec (motive := fun _ => Option AV) (y.get loc vs' tm) (x.get loc vs' tm) t) (fun r => some (r, h)) = some r
    refine ob_some.2 ⟨s, ?_, h6⟩
    cases t with
    | true => exact get_mono hs h5
    | false => exact get_mono hs h5
  | pn f xs =>
    obtain ⟨v, h1, h2⟩ := ob_some.1 (show ob (gets xs loc vs tm) (fun v => ob (f v) fun r => some (r, h)) = some r from hi)
    exact ob_some.2 ⟨v, gets_mono hs h1, h2⟩
  | ld1 x =>
    obtain ⟨v, h1, h2⟩ := ob_some.1 (show ob (x.get loc vs tm) (fun v => ob (load1 h v) fun r => some (r, h)) = some r from hi)
    exact ob_some.2 ⟨v, get_mono hs h1, h2⟩
  | ldn s x =>
    obtain ⟨v, h1, h2⟩ := ob_some.1 (show ob (x.get loc vs tm) (fun v => ob (loadN s h v) fun r => some (r, h)) = some r from hi)
    exact ob_some.2 ⟨v, get_mono hs h1, h2⟩
  | rd f xs =>
    obtain ⟨v, h1, h2⟩ := ob_some.1 (show ob (gets xs loc vs tm) (fun v => ob (f v h) fun r => some (r, h)) = some r from hi)
    exact ob_some.2 ⟨v, gets_mono hs h1, h2⟩
  | al f xs =>
    obtain ⟨v, h1, h2⟩ := ob_some.1 (show ob (gets xs loc vs tm) (fun v => ob (f v) fun r => some (r.2 id, h.new id r.1)) = some r from hi)
    exact ob_some.2 ⟨v, gets_mono hs h1, h2⟩
  | st1 x y =>
    obtain ⟨v, h1, h2⟩ := ob_some.1 (show ob (x.get loc vs tm) (fun p => ob (y.get loc vs tm) fun v => store1 h p v) = some r from hi)
    obtain ⟨u, h3, h4⟩ := ob_some.1 h2
    exact ob_some.2 ⟨v, get_mono hs h1, ob_some.2 ⟨u, get_mono hs h3, h4⟩⟩
  | ef f xs =>
    obtain ⟨v, h1, h2⟩ := ob_some.1 (show ob (gets xs loc vs tm) (fun v => f v id h) = some r from hi)
    exact ob_some.2 ⟨v, gets_mono hs h1, h2⟩
  | cl g xs =>
    obtain ⟨fv, h1, h2⟩ := ob_some.1 (show ob (g.get loc vs tm) (fun f => ob (gets xs loc vs tm) fun us => applyV call us h f) = some r from hi)
    obtain ⟨us, h3, h4⟩ := ob_some.1 h2
    exact ob_some.2 ⟨fv, get_mono hs h1, ob_some.2 ⟨us, gets_mono hs h3, h4⟩⟩
  | bad => cases hi

theorem quiet_of_ev {i : Ins} {vs tm : Tr AV} {id : Nat} (h1 : i.eff = false) (h2 : i.allocs = false) (h3 : i.isBad = false) : i.quiet vs tm id h = ob (i.ev [] vs tm (fun _ _ _ => none) id h) fun r => some r.1 := by
  cases i <;> first | rfl | (cases h1; done) | (cases h2; done) | (cases h3; done)

theorem quiet_mono {vs vs' tm : Tr AV} (hs : Sub vs vs') {id : Nat} {i : Ins} {v : AV} (hi : i.quiet vs tm id h = some v) : i.quiet vs' tm id h = some v := by
  by_cases hal : i.allocs = true
  · cases i with
    | al f xs =>
      obtain ⟨us, h1, h2⟩ := ob_some.1 (show ob (gets xs [] vs tm) (fun us => ob (f us) fun r => some (r.2 id)) = some v from hi)
      exact ob_some.2 ⟨us, gets_mono hs h1, h2⟩
    | _ => cases hal
  · by_cases he : i.eff = true
    · cases i <;> first | cases hi | cases he
    · by_cases hb : i.isBad = true
      · cases i <;> first | cases hi | cases hb
      · rw [quiet_of_ev (by simpa using he) (by simpa using hal) (by simpa using hb)] at hi ⊢
        obtain ⟨r, h1, h2⟩ := ob_some.1 hi
        exact ob_some.2 ⟨r, ev_mono hs h1, h2⟩

theorem gquiet_mono {vs vs' tm : Tr AV} (hs : Sub vs vs') {id : Nat} {x : GIns} {v : AV} (hi : x.quiet vs tm id h = some v) : x.quiet vs' tm id h = some v := by
  obtain ⟨g, i⟩ := x
  cases g with
  | none => exact quiet_mono hs hi
  | some g =>
    obtain ⟨u, h1, h2⟩ := ob_some.1 (show ob (g.1.get [] vs tm) (fun v => Bool.rec (motive := fun _ => Option AV) (some undefA) (i.quiet vs tm id h) (wanted g.2 v)) = some v from hi)
    refine ob_some.2 ⟨u, get_mono hs h1, ?_⟩
    cases hw : wanted g.2 u with
    | true => rw [hw] at h2; exact quiet_mono hs h2
    | false => rw [hw] at h2; exact h2
theorem gev_mono {vs vs' tm : Tr AV} (hs : Sub vs vs') {loc : List AV} {call : CallFn} {id : Nat} {x : GIns} {r : AV × Heap} (hi : x.ev loc vs tm call id h = some r) : x.ev loc vs' tm call id h = some r := by
  obtain ⟨g, i⟩ := x
  cases g with
  | none => exact ev_mono hs hi
  | some g =>
    obtain ⟨u, h1, h2⟩ := ob_some.1 (show ob (g.1.get loc vs tm) (fun v => Bool.rec (motive := fun _ => Res) (some (undefA, h)) (i.ev loc vs tm call id h) (wanted g.2 v)) = some r from hi)
    refine ob_some.2 ⟨u, get_mono hs h1, ?_⟩
    cases hw : wanted g.2 u with
    | true => rw [hw] at h2; exact ev_mono hs h2
    | false => rw [hw] at h2; exact h2
theorem blk_mono {vs vs' tm : Tr AV} (hs : Sub vs vs') {x : GIns} {b : Option Blk} (hi : x.blk vs tm = some b) : x.blk vs' tm = some b := by
  obtain ⟨g, i⟩ := x
  cases i with
  | al f xs =>
    have made : ∀ {b : Option Blk}, (ob (gets xs [] vs tm) fun us => ob (f us) fun r => some (some r.1)) = some b → (ob (gets xs [] vs' tm) fun us => ob (f us) fun r => some (some r.1)) = some b := by
      intro b hb
      obtain ⟨us, h1, h2⟩ := ob_some.1 hb
      exact ob_some.2 ⟨us, gets_mono hs h1, h2⟩
    cases g with
    | none => exact made hi
    | some g =>
      obtain ⟨u, h1, h2⟩ := ob_some.1 (show ob (g.1.get [] vs tm) (fun v => Bool.rec (motive := fun _ => Option (Option Blk)) (some none) (ob (gets xs [] vs tm) fun us => ob (f us) fun r => some (some r.1)) (wanted g.2 v)) = some b from hi)
      refine ob_some.2 ⟨u, get_mono hs h1, ?_⟩
      cases hw : wanted g.2 u with
      | true => rw [hw] at h2; exact made h2
      | false => rw [hw] at h2; exact h2
  | _ => cases hi

/-- what does not read is told of any memory -/
theorem quiet_indep {vs tm : Tr AV} {id : Nat} {i : Ins} {h' : Heap} {v : AV} (hn : i.reads = false) (hi : i.quiet vs tm id h = some v) : i.quiet vs tm id h' = some v := by
  cases i with
  | mv x =>
    obtain ⟨r, h1, h2⟩ := ob_some.1 (show ob (ob (x.get [] vs tm) (fun v => some (v, h))) (fun r => some r.1) = some v from hi)
    obtain ⟨u, h3, h4⟩ := ob_some.1 h1
    cases h4; cases h2
    exact ob_some.2 ⟨(u, h'), ob_some.2 ⟨u, h3, rfl⟩, rfl⟩
  | p1 f x =>
    obtain ⟨r, h1, h2⟩ := ob_some.1 (show ob (ob (x.get [] vs tm) (fun v => ob (f v) fun r => some (r, h))) (fun r => some r.1) = some v from hi)
    obtain ⟨u, h3, h4⟩ := ob_some.1 h1
    obtain ⟨u2, h5, h6⟩ := ob_some.1 h4
    cases h6; cases h2
    exact ob_some.2 ⟨(u2, h'), ob_some.2 ⟨u, h3, ob_some.2 ⟨u2, h5, rfl⟩⟩, rfl⟩
  | p2 f x y =>
    obtain ⟨r, h1, h2⟩ := ob_some.1 (show ob (ob (x.get [] vs tm) (fun v => ob (y.get [] vs tm) fun u => ob (f v u) fun r => some (r, h))) (fun r => some r.1) = some v from hi)
    obtain ⟨u, h3, h4⟩ := ob_some.1 h1
    obtain ⟨u1, h3', h4'⟩ := ob_some.1 h4
    obtain ⟨u2, h5, h6⟩ := ob_some.1 h4'
    cases h6; cases h2
    exact ob_some.2 ⟨(u2, h'), ob_some.2 ⟨u, h3, ob_some.2 ⟨u1, h3', ob_some.2 ⟨u2, h5, rfl⟩⟩⟩, rfl⟩
  | pick c x y =>
    obtain ⟨r, h1, h2⟩ := ob_some.1 (show ob (ob (c.get [] vs tm) (fun v => eBool (fun t => ob (Bool.rec (motive := fun _ => Option AV) (y.get [] vs tm) (x.get [] vs tm) t) fun r => some (r, h)) v)) (fun r => some r.1) = some v from hi)
    obtain ⟨u, h3, h4⟩ := ob_some.1 h1
    obtain ⟨t, e, h5⟩ := eBool_some h4
    subst e
    obtain ⟨s, h6, h7⟩ := ob_some.1 h5
    cases h7; cases h2
    exact ob_some.2 ⟨(s, h'), ob_some.2 ⟨_, h3, ob_some.2 ⟨s, h6, rfl⟩⟩, rfl⟩
  | pn f xs =>
    obtain ⟨r, h1, h2⟩ := ob_some.1 (show ob (ob (gets xs [] vs tm) (fun v => ob (f v) fun r => some (r, h))) (fun r => some r.1) = some v from hi)
    obtain ⟨u, h3, h4⟩ := ob_some.1 h1
    obtain ⟨u2, h5, h6⟩ := ob_some.1 h4
    cases h6; cases h2
    exact ob_some.2 ⟨(u2, h'), ob_some.2 ⟨u, h3, ob_some.2 ⟨u2, h5, rfl⟩⟩, rfl⟩
  | al f xs => exact hi
  | ld1 x => cases hn
  | ldn s x => cases hn
  | rd f xs => cases hn
  | _ => cases hi
theorem gquiet_indep {vs tm : Tr AV} {id : Nat} {x : GIns} {h' : Heap} {v : AV} (hn : x.i.reads = false) (hi : x.quiet vs tm id h = some v) : x.quiet vs tm id h' = some v := by
  obtain ⟨g, i⟩ := x
  cases g with
  | none => exact quiet_indep hn hi
  | some g =>
    obtain ⟨u, h1, h2⟩ := ob_some.1 (show ob (g.1.get [] vs tm) (fun v => Bool.rec (motive := fun _ => Option AV) (some undefA) (i.quiet vs tm id h) (wanted g.2 v)) = some v from hi)
    refine ob_some.2 ⟨u, h1, ?_⟩
    cases hw : wanted g.2 u with
    | true => rw [hw] at h2; exact quiet_indep hn h2
    | false => rw [hw] at h2; exact h2

/-- what only tells a value does that alone -/
theorem quiet_gives {find : Nat → Option Opd} {vs tm : Tr AV} {a : Act} {o : Oper} {i : Ins} {id : Nat} {v : AV} (hg : Good P keep find o i) (hal : i.allocs = false) (hr : HR P keep ρ h w) (he : EnvOk find [] vs tm ρ a) (hq : i.quiet vs tm id h = some v) :
    GivesN P w ρ (execOp a.eval o) v := by
  cases i with
  | mv x =>
    obtain ⟨r, h1, h2⟩ := ob_some.1 (show ob (ob (x.get [] vs tm) (fun v => some (v, h))) (fun r => some r.1) = some v from hq)
    obtain ⟨u, h3, h4⟩ := ob_some.1 h1
    cases h4; cases h2
    exact hg [] vs tm ρ h w a hr he _ h3
  | p1 f x =>
    obtain ⟨r, h1, h2⟩ := ob_some.1 (show ob (ob (x.get [] vs tm) (fun v => ob (f v) fun r => some (r, h))) (fun r => some r.1) = some v from hq)
    obtain ⟨u, h3, h4⟩ := ob_some.1 h1
    obtain ⟨u2, h5, h6⟩ := ob_some.1 h4
    cases h6; cases h2
    exact hg [] vs tm ρ h w a hr he _ _ h3 h5
  | p2 f x y =>
    obtain ⟨r, h1, h2⟩ := ob_some.1 (show ob (ob (x.get [] vs tm) (fun v => ob (y.get [] vs tm) fun u => ob (f v u) fun r => some (r, h))) (fun r => some r.1) = some v from hq)
    obtain ⟨u, h3, h4⟩ := ob_some.1 h1
    obtain ⟨u1, h3', h4'⟩ := ob_some.1 h4
    obtain ⟨u2, h5, h6⟩ := ob_some.1 h4'
    cases h6; cases h2
    exact hg [] vs tm ρ h w a hr he _ _ _ h3 h3' h5
  | pick c x y =>
    obtain ⟨r, h1, h2⟩ := ob_some.1 (show ob (ob (c.get [] vs tm) (fun v => eBool (fun t => ob (Bool.rec (motive := fun _ => Option AV) (y.get [] vs tm) (x.get [] vs tm) t) fun r => some (r, h)) v)) (fun r => some r.1) = some v from hq)
    obtain ⟨u, h3, h4⟩ := ob_some.1 h1
    obtain ⟨t, e, h5⟩ := eBool_some h4
    subst e
    obtain ⟨s, h6, h7⟩ := ob_some.1 h5
    cases h7; cases h2
    exact hg [] vs tm ρ h w a hr he t s h3 (by cases t <;> exact h6)
  | pn f xs =>
    obtain ⟨r, h1, h2⟩ := ob_some.1 (show ob (ob (gets xs [] vs tm) (fun v => ob (f v) fun r => some (r, h))) (fun r => some r.1) = some v from hq)
    obtain ⟨u, h3, h4⟩ := ob_some.1 h1
    obtain ⟨u2, h5, h6⟩ := ob_some.1 h4
    cases h6; cases h2
    exact hg [] vs tm ρ h w a hr he _ _ h3 h5
  | ld1 x =>
    obtain ⟨r, h1, h2⟩ := ob_some.1 (show ob (ob (x.get [] vs tm) (fun v => ob (load1 h v) fun r => some (r, h))) (fun r => some r.1) = some v from hq)
    obtain ⟨u, h3, h4⟩ := ob_some.1 h1
    obtain ⟨u2, h5, h6⟩ := ob_some.1 h4
    cases h6; cases h2
    exact hg [] vs tm ρ h w a hr he _ _ h3 h5
  | ldn s x =>
    obtain ⟨r, h1, h2⟩ := ob_some.1 (show ob (ob (x.get [] vs tm) (fun v => ob (loadN s h v) fun r => some (r, h))) (fun r => some r.1) = some v from hq)
    obtain ⟨u, h3, h4⟩ := ob_some.1 h1
    obtain ⟨u2, h5, h6⟩ := ob_some.1 h4
    cases h6; cases h2
    exact hg [] vs tm ρ h w a hr he _ _ h3 h5
  | rd f xs =>
    obtain ⟨r, h1, h2⟩ := ob_some.1 (show ob (ob (gets xs [] vs tm) (fun v => ob (f v h) fun r => some (r, h))) (fun r => some r.1) = some v from hq)
    obtain ⟨u, h3, h4⟩ := ob_some.1 h1
    obtain ⟨u2, h5, h6⟩ := ob_some.1 h4
    cases h6; cases h2
    exact hg [] vs tm ρ h w a hr he _ _ h3 h5
  | al f xs => cases hal
  | _ => cases hq
end
end Go.Am

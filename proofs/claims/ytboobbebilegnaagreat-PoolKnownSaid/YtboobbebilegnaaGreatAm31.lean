/-
  AM, 31: code: what is told of it holds.
-/
import Derived.Test.YtboobbebilegnaaGreatAm30
namespace Go.Am
section
variable {P : Program} {keep : Keeps} {call : CallFn} {lf : Nat} {f : FuncId} {ro : Option Nat}

theorem thenX_some {r : Ex × St} {g : St → XR} {q : Ex × St} (h : thenX r g = some q) : (r.1 = .normal ∧ g r.2 = some q) ∨ (r.1 ≠ .normal ∧ q = r) := by
  obtain ⟨e, s⟩ := r
  cases e with
  | normal => exact .inl ⟨rfl, h⟩
  | ret => cases h; exact .inr ⟨(by intro e; cases e), rfl⟩
  | exit id => cases h; exact .inr ⟨(by intro e; cases e), rfl⟩
  | goto l => cases h; exact .inr ⟨(by intro e; cases e), rfl⟩

theorem seq_sound {a b : Code} {ea eb : St → XR} (ha : Does2 P keep f ro a ea) (hb : Does2 P keep f ro b eb) : Does2 P keep f ro (.seq a b) (fun s => ob (ea s) fun r => thenX r eb) := by
  intro s r hr n0 ρ act w rom Q hro hh ht hd hn hpl hg
  obtain ⟨q, h1, h2⟩ := ob_some.1 hr
  refine wpIn_seq (ha s q h1 n0 ρ act w rom _ hro hh ht hd hn (fun e => by have := hpl e; simp only [plainC, Bool.and_eq_true] at this; exact this.1) fun ρ' a' w' hp ht' hd' => ?_)
  rcases thenX_some h2 with ⟨e, h3⟩ | ⟨e, rfl⟩
  · rw [e]
    exact hb q.2 r h3 n0 ρ' a' w' rom Q (hro.mono hp.le) hp.hr ht' hd' (Nat.le_trans hn hp.fr.size) (fun e => by have := hpl e; simp only [plainC, Bool.and_eq_true] at this; exact this.2) (hg.after hp)
  · have := hg ρ' a' w' hp ht' hd'
    cases hx : r.1 with
    | normal => exact absurd hx e
    | ret => rw [hx] at this; exact this
    | exit id => rw [hx] at this; exact this
    | goto l => rw [hx] at this; exact this

theorem block_sound {id : Nat} {a : Code} {ea : St → XR} (ha : Does2 P keep f ro a ea) : Does2 P keep f ro (.block id a) (fun s => ob (ea s) fun r => inBlk id r) := by
  intro s r hr n0 ρ act w rom Q hro hh ht hd hn hpl hg
  obtain ⟨q, h1, h2⟩ := ob_some.1 hr
  refine wpIn_block (ha s q h1 n0 ρ act w rom _ hro hh ht hd hn (fun e => hpl e) fun ρ' a' w' hp ht' hd' => ?_)
  obtain ⟨e, s'⟩ := q
  cases e with
  | normal => cases h2; exact hg ρ' a' w' hp ht' hd'
  | ret => cases h2; exact hg ρ' a' w' hp ht' hd'
  | goto l => cases h2; exact hg ρ' a' w' hp ht' hd'
  | exit j =>
    have h2 : (Bool.rec (motive := fun _ => XR) (some (Ex.exit j, s')) (some (.normal, s')) (Nat.beq j id) : XR) = some r := h2
    show (Exit.inBlock id Q) (.exit j) a' w'
    by_cases e : j = id
    · subst e
      rw [show Nat.beq j j = true from by simp] at h2
      cases h2
      simp only [Exit.inBlock, if_true]
      exact hg ρ' a' w' hp ht' hd'
    · rw [show Nat.beq j id = false from by cases hb : Nat.beq j id with
        | false => rfl
        | true => exact absurd (Nat.eq_of_beq_eq_true hb) e] at h2
      cases h2
      simp only [Exit.inBlock, if_neg e]
      exact hg ρ' a' w' hp ht' hd'

theorem cond_sound {c : Operand} {x : Opd} {a b : Code} {ea eb : St → XR} (hc : Am.resolve (fun t => if keep f t then some (.tmp t) else none) c = some x) (ha : Does2 P keep f ro a ea) (hb : Does2 P keep f ro b eb) :
    Does2 P keep f ro (.cond c a b) (fun s => ob (x.get [] .leaf s.tm) fun v => eBool (fun b => Bool.rec (motive := fun _ => XR) (eb s) (ea s) b) v) := by
  intro s r hr n0 ρ act w rom Q hro hh ht hd hn hpl hg
  obtain ⟨v, h1, h2⟩ := ob_some.1 hr
  obtain ⟨t, e, h3⟩ := eBool_some h2
  subst e
  have hv := resolve_sound (cond_tmp ht) hc h1
  cases t with
  | true => exact wpIn_cond_true hv (ha s r h3 n0 ρ act w rom Q hro hh ht hd hn (fun e => by have := hpl e; simp only [plainC, Bool.and_eq_true] at this; exact this.1) hg)
  | false => exact wpIn_cond_false hv (hb s r h3 n0 ρ act w rom Q hro hh ht hd hn (fun e => by have := hpl e; simp only [plainC, Bool.and_eq_true] at this; exact this.2) hg)

theorem least {p : Nat → Prop} (h : ∃ n, p n) : ∃ n, p n ∧ ∀ m, p m → n ≤ m := by
  obtain ⟨n, hn⟩ := h
  induction n using Nat.strongRecOn with
  | _ n ih =>
    by_cases hx : ∃ m, m < n ∧ p m
    · obtain ⟨m, h1, h2⟩ := hx
      exact ih m h1 h2
    · refine ⟨n, hn, fun m hm => ?_⟩
      rcases Nat.lt_or_ge m n with h1 | h1
      · exact absurd ⟨m, h1, hm⟩ hx
      · exact h1

theorem loopN_succ (body : St → XR) (n : Nat) (s : St) : loopN body (n + 1) s = ob (body s) fun r => Ex.rec (motive := fun _ => XR) (loopN body n r.2) (some r) (fun _ => some r) (fun _ => some r) r.1 := rfl

/-- how many rounds are left: the least number that is enough -/
theorem loop_sound {a : Code} {ea : St → XR} (ha : Does2 P keep f ro a ea) : Does2 P keep f ro (.loop a) (fun s => loopN ea lf s) := by
  intro s r hr n0 ρ act w rom Q hro hh ht hd hn hpl hg
  -- what holds at a round's begin
  let I : Nat → Act → World → Prop := fun n a w => ∃ s ρ, loopN ea n s = some r ∧ RoR ρ ro rom ∧ HR P keep ρ s.hp w ∧ TR (keep f) (ntOf P f) ρ s.tm a.tmps ∧ DefOk n0 ρ s.hp (putOff s.tm (ntOf P f)) a.defers w ∧ n0.base ≤ w.heap.size ∧ Goes P keep f n0 ρ s.hp w (exOf r.1) r.2 Q
  open Classical in
  let μ : Act → World → Nat := fun a w => if h : ∃ n, I n a w then (least h).choose else 0
  have hμ : ∀ n a w, I n a w → μ a w ≤ n := by
    intro n a w hI
    have hex : ∃ n, I n a w := ⟨n, hI⟩
    simp only [μ, dif_pos hex]
    exact (least hex).choose_spec.2 n hI
  refine wpIn_loop (fun a w => ∃ n, I n a w) μ ⟨lf, s, ρ, hr, hro, hh, ht, hd, hn, hg⟩ (fun a w hex => ?_)
  obtain ⟨n, hn1, hn2⟩ : ∃ n, I n a w ∧ μ a w = n := ⟨_, by simp only [μ, dif_pos hex]; exact (least hex).choose_spec.1, rfl⟩
  obtain ⟨s, ρ, h1, h2, h3, h4, h5, h6, h7⟩ := hn1
  cases n with
  | zero => cases h1
  | succ n =>
    rw [loopN_succ] at h1
    obtain ⟨q, g1, g2⟩ := ob_some.1 h1
    refine ha s q g1 n0 ρ a w rom _ h2 h3 h4 h5 h6 (fun e => hpl e) fun ρ' a' w' hp ht' hd' => ?_
    obtain ⟨e, s'⟩ := q
    cases e with
    | normal =>
      have hI : I n a' w' := ⟨s', ρ', g2, h2.mono hp.le, hp.hr, ht', hd', Nat.le_trans h6 hp.fr.size, h7.after hp⟩
      refine ⟨⟨n, hI⟩, ?_⟩
      have := hμ n a' w' hI
      omega
    | ret => cases g2; exact h7 ρ' a' w' hp ht' hd'
    | exit j => cases g2; exact h7 ρ' a' w' hp ht' hd'
    | goto j => cases g2; exact h7 ρ' a' w' hp ht' hd'
end
end Go.Am

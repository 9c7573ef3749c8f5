/-
  AM, 37: calls that are answered otherwise: functions of plain values, whose contract is known.
-/
import Derived.Test.YtboobbebilegnaaGreatAm36
import Derived.Below
namespace Go.Am
section
variable {P : Program} {keep : Keeps}

/-- the world is as it was, but for what is new -/
theorem Post.below {ρ : Pls} {h : Heap} {w w' : World} (hr : HR P keep ρ h w) (hb : RowKit.Below w.heap.size w w') : Post P keep ρ h w ρ h w' := by
  refine ⟨Pls.le_refl _, hr.frame fun b x p hx hd hp => ?_, ⟨hb.os, hb.output, hb.size, fun k hk _ => hb.block k hk⟩, fun _ _ h => h, Nat.le_refl _, fun _ _ h _ => h⟩
  obtain ⟨q, hq, hlt⟩ := (hr.blk b x hx).place hd
  rw [hp] at hq; cases hq
  exact hb.block _ hlt

theorem callsIn_none {f : FuncId} {args : Array Value} {w : World} {R : Ending → World → Prop} (h : Calls P f args w R) : CallsIn (fen none) 0 P f args w R := callsIn_wide.2 h

/-- a contract of a function of plain values -/
theorem prim_calls {f : FuncId} {avs : Array Value} {ρ : Pls} {h : Heap} {w : World} {r : AV} {v : Value} (hr : HR P keep ρ h w) (hv : VR ρ r v) (hc : Calls P f avs w fun e w' => e = .returned v ∧ RowKit.Below w.heap.size w w') :
    CallsIn (fen none) 0 P f avs w (Ret P keep ρ h w (r, h)) :=
  CallsIn.mono (F := fen none) (callsIn_none hc) fun e w' ⟨he, hb⟩ => by
    subst he
    exact ⟨ρ, hv, Post.below hr hb⟩

/-- several answers, the first one that answers -/
noncomputable def Prims.or (p q : Prims) : Prims := ⟨fun f args h => Option.rec (motive := fun _ => Option Res) (q.fn f args h) some (p.fn f args h)⟩
theorem Prims.or_ok {p q : Prims} (hp : PrimsOk P keep p) (hq : PrimsOk P keep q) : PrimsOk P keep (p.or q) := by
  intro f args h r hr
  cases hx : p.fn f args h with
  | none =>
    have : q.fn f args h = some (some r) := by
      have h1 : (Option.rec (motive := fun _ => Option Res) (q.fn f args h) some (p.fn f args h) : Option Res) = some (some r) := hr
      rw [hx] at h1; exact h1
    exact hq f args h r this
  | some y =>
    have : p.fn f args h = some (some r) := by
      have h1 : (Option.rec (motive := fun _ => Option Res) (q.fn f args h) some (p.fn f args h) : Option Res) = some (some r) := hr
      rw [hx] at h1; rw [hx]; exact h1
    exact hp f args h r this

/-! ### strings.Repeat -/
noncomputable def repeat2 (s n : AV) (h : Heap) : Res := eStr (fun l => eInt (fun k n => iff' (Nat.beq (kNo k) (nat_lit 3)) (Int.rec (motive := fun _ => Res) (fun c => iff' (and' (Nat.ble c (nat_lit 1073741824)) (Nat.ble (Nat.mul (len' l) c) (nat_lit 1073741824))) (some (.str (rep' c l), h))) (fun _ => none) n)) n) s
noncomputable def repeatP (g : FuncId) : Prims := ⟨fun f args h => Bool.rec (motive := fun _ => Option Res) none (some (l2 (fun s n => repeat2 s n h) args)) (Nat.beq f g)⟩

theorem repeatP_ok {g : FuncId} {rl : List UInt8 → Nat → List UInt8} (hrl : ∀ l c, rl l c = (List.replicate c l).flatten) (hb : ∃ fn c, P.funcs[g]? = some fn ∧ fn.body = some c)
    (hc : ∀ (s : ByteArray) (c : Nat) (w : World), c ≤ 9223372036854775807 → s.size * c ≤ 140737488355328 → Calls P g #[.string s, .int .i64 c] w fun e w' => e = .returned (.string ⟨(rl s.data.toList c).toArray⟩) ∧ RowKit.Below w.heap.size w w') : PrimsOk P keep (repeatP g) := by
  intro f args h r hr ρ w avs hh hv
  replace hr : (Bool.rec (motive := fun _ => Option Res) none (some (l2 (fun s n => repeat2 s n h) args)) (Nat.beq f g) : Option Res) = some (some r) := hr
  cases hfg : Nat.beq f g with
  | false => rw [hfg] at hr; cases hr
  | true =>
    rw [hfg] at hr
    obtain rfl := Nat.eq_of_beq_eq_true hfg
    have hr : l2 (fun s n => repeat2 s n h) args = some r := Option.some.inj hr
    obtain ⟨s, n, rfl, h1⟩ := l2_some hr
    obtain ⟨l, rfl, h2⟩ := eStr_some h1
    obtain ⟨k, n, rfl, h3⟩ := eInt_some h2
    obtain ⟨h4, h5⟩ := iff'_some.1 h3
    have hk : k = .i64 := by cases k <;> first | rfl | cases h4
    subst hk
    cases n with
    | negSucc c => cases h5
    | ofNat c =>
      obtain ⟨h6, h7⟩ := iff'_some.1 h5
      cases h7
      simp only [and'_eq, Bool.and_eq_true] at h6
      have h8 := Nat.le_of_ble_eq_true h6.1
      have h9 := Nat.le_of_ble_eq_true h6.2
      obtain ⟨v, v', e1, ⟨sb, rfl, rfl⟩, h10⟩ := hv.two
      cases h10
      subst e1
      refine ⟨hb, ?_⟩
      have h9 : (sb.data.toList.map (·.toNat)).length * c ≤ 1073741824 := by have := h9; rwa [len'_eq] at this
      have hsz : sb.size * c ≤ 140737488355328 := by
        have : sb.size = (sb.data.toList.map (·.toNat)).length := by rw [List.length_map, Array.length_toList]; rfl
        rw [this]; omega
      refine prim_calls hh ?_ (hc sb c w (by omega) hsz)
      refine ⟨_, rfl, ?_⟩
      rw [hrl, rep'_eq]
      simp [List.map_flatten, List.map_replicate]
end
end Go.Am

/-
  AM, 15: every operation that is compiled.
-/
import Derived.Test.YtboobbebilegnaaGreatAm14
namespace Go.Am
section
variable {P : Program} {keep : Keeps} {find : Nat → Option Opd}

theorem map_toList_pair (parts : Array (Nat × Operand)) (g : Operand → Value) : ((parts.map fun (i, x) => (i, g x)).toList.map (·.1)) = parts.toList.map (·.1) ∧ ((parts.map fun (i, x) => (i, g x)).toList.map (·.2)) = (parts.toList.map (·.2)).map g := by
  constructor <;> simp [Function.comp_def]

theorem args_one {args : Array Operand} {a : Act} {v : Value} (h : args.toList.map a.eval = [v]) : args.map a.eval = #[v] := by
  apply Array.toList_inj.1; simpa using h
theorem args_two {args : Array Operand} {a : Act} {v u : Value} (h : args.toList.map a.eval = [v, u]) : args.map a.eval = #[v, u] := by
  apply Array.toList_inj.1; simpa using h

theorem builtin_good {dst : Option Tmp} {ty : TypeId} {pos : String} {after : Array Edge} {guard : Option (Nat × Bool)} (b : Builtin) (args : Array Operand) (ts : Array TypeId) :
    Good P keep find ⟨dst, .call ⟨.builtin b, args, ts⟩, ty, pos, after, guard⟩ (compB P find b args ts) := by
  unfold compB
  simp only
  cases ht : ts[0]? with
  | none => trivial
  | some t =>
    simp only
    have hex : ∀ (a : Act), execOp a.eval ⟨dst, .call ⟨.builtin b, args, ts⟩, ty, pos, after, guard⟩ = (do let d ← (pure { target := .builtin b ts ty (args.map fun | .const _ => true | _ => false), args := args.map a.eval } : Sem Deferred); invoke d.target d.args) := fun a => rfl
    have run : ∀ {w : World} {a : Act} {s : Sem Value}, builtin b ts ty (args.map fun | .const _ => true | _ => false) (args.map a.eval) = (do pure (.value (← s))) → (execOp a.eval ⟨dst, .call ⟨.builtin b, args, ts⟩, ty, pos, after, guard⟩).run P w = (do pure (.value (← s)) : Sem Next).run P w := by
      intro w a s hs
      rw [hex, Sem.run_bind, Sem.run_pure, Result.andThen_ok]
      exact congrArg (fun s => s.run P w) hs
    have gv : ∀ {w : World} {ρ : Pls} {a : Act} {s : Sem Value} {r : AV}, builtin b ts ty (args.map fun | .const _ => true | _ => false) (args.map a.eval) = (do pure (.value (← s))) → Gives P w ρ s r → GivesN P w ρ (execOp a.eval ⟨dst, .call ⟨.builtin b, args, ts⟩, ty, pos, after, guard⟩) r := by
      intro w ρ a s r hs hg
      obtain ⟨v, h1, h2⟩ := givesN hg
      exact ⟨v, by rw [run hs]; exact h1, h2⟩
    have dv : ∀ {w : World} {ρ : Pls} {h : Heap} {a : Act} {s : Sem Value} {r : AV} {h' : Heap}, builtin b ts ty (args.map fun | .const _ => true | _ => false) (args.map a.eval) = (do pure (.value (← s))) → Does P keep w ρ h s r h' → DoesN P keep w ρ h (execOp a.eval ⟨dst, .call ⟨.builtin b, args, ts⟩, ty, pos, after, guard⟩) r h' := by
      intro w ρ h a s r h' hs hg
      obtain ⟨ρ', nx, v, w', h1, h2⟩ := doesN hg
      exact ⟨ρ', nx, v, w', by rw [run hs]; exact h1, h2⟩
    cases b with
    | len =>
      simp only
      split
      · rename_i k e hu
        exact good_rd fun w ρ h a us r hr hv hf => by
          obtain ⟨u, rfl, h1⟩ := l1_some hf
          obtain ⟨v, e1, h2⟩ := hv.one
          exact gv (s := Builtin.len_ ts ty #[v]) (by rw [args_one e1]; rfl) (lenMap_sound hu ht hr h1 h2)
      · exact good_pn fun w ρ a us r hv hf => by
          obtain ⟨u, rfl, h1⟩ := l1_some hf
          obtain ⟨v, e1, h2⟩ := hv.one
          exact gv (s := Builtin.len_ ts ty #[v]) (by rw [args_one e1]; rfl) (len1_sound h1 h2 ht)
    | cap =>
      exact good_pn fun w ρ a us r hv hf => by
        obtain ⟨u, rfl, h1⟩ := l1_some hf
        obtain ⟨v, e1, h2⟩ := hv.one
        exact gv (s := Builtin.cap_ ts ty #[v]) (by rw [args_one e1]; rfl) (cap1_sound h1 h2 ht)
    | max =>
      exact good_pn fun w ρ a us r hv hf => by
        refine gv (s := Builtin.max_ ts ty (args.map a.eval)) rfl ?_
        have := max_sound (P := P) (ts := ts) (ty := ty) (w := w) hf hv
        rw [show (args.toList.map a.eval).toArray = args.map a.eval from by apply Array.toList_inj.1; simp] at this
        exact this
    | min =>
      exact good_pn fun w ρ a us r hv hf => by
        refine gv (s := Builtin.min_ ts ty (args.map a.eval)) rfl ?_
        have := min_sound (P := P) (ts := ts) (ty := ty) (w := w) hf hv
        rw [show (args.toList.map a.eval).toArray = args.map a.eval from by apply Array.toList_inj.1; simp] at this
        exact this
    | append =>
      simp only
      split
      · rename_i u hu1
        have key : ∀ {d : TypeDesc}, P.underlying u = some d → (∀ k, d ≠ .int k) → Good P keep find ⟨dst, .call ⟨.builtin .append, args, ts⟩, ty, pos, after, guard⟩ (onN (.ef fun vs id h => l2 (fun s x => appendS P t s x id h) vs) (resolves find args.toList)) := by
          intro d hud hint
          exact good_ef fun w ρ h a us id q hr hid hv hf => by
            obtain ⟨s, x, rfl, h1⟩ := l2_some hf
            obtain ⟨v, v', e1, h2, h3⟩ := hv.two
            exact dv (s := Builtin.append_ ts ty #[v, v']) (by rw [args_two e1]; rfl) (appendS_sound ht hu1 hud hint hid hr h1 h2 h3)
        split
        · rename_i hud; exact key hud (by intro k e; cases e)
        · rename_i hud; exact key hud (by intro k e; cases e)
        · trivial
      · trivial
    | copy =>
      exact good_ef fun w ρ h a us id q hr hid hv hf => by
        obtain ⟨s, x, rfl, h1⟩ := l2_some hf
        obtain ⟨v, v', e1, h2, h3⟩ := hv.two
        exact dv (s := Builtin.copy_ ts ty #[v, v']) (by rw [args_two e1]; rfl) (copyS_sound ht hr h1 h2 h3)
    | delete =>
      exact good_ef fun w ρ h a us id q hr hid hv hf => by
        obtain ⟨s, x, rfl, h1⟩ := l2_some hf
        obtain ⟨v, v', e1, h2, h3⟩ := hv.two
        exact dv (s := Builtin.delete_ ts ty #[v, v']) (by rw [args_two e1]; rfl) (mapDel_sound ht hr h1 h2 h3)
    | unsafeSliceData =>
      exact good_pn fun w ρ a us r hv hf => by
        obtain ⟨u, rfl, h1⟩ := l1_some hf
        obtain ⟨v, e1, h2⟩ := hv.one
        exact gv (s := Builtin.unsafeSliceData_ ts ty #[v]) (by rw [args_one e1]; rfl) (sliceData_sound h1 h2)
    | unsafeString =>
      simp only
      split
      · rename_i e hu
        split
        · rename_i hu8 hs1
          exact good_ef fun w ρ h a us id q hr hid hv hf => by
            obtain ⟨s, x, rfl, h1⟩ := l2_some hf
            obtain ⟨v, v', e1, h2, h3⟩ := hv.two
            exact dv (s := Builtin.unsafeString_ ts ty #[v, v']) (by rw [args_two e1]; rfl) (strAt_sound ht hu hs1 hr h1 h2 h3)
        · trivial
      · trivial
    | clear =>
      exact good_ef fun w ρ h a us id q hr hid hv hf => by
        obtain ⟨s, rfl, h1⟩ := l1_some hf
        obtain ⟨v, e1, h2⟩ := hv.one
        exact dv (s := Builtin.clear_ ts ty #[v]) (by rw [args_one e1]; rfl) (clearS_sound ht hr h1 h2)
    | _ => trivial

end
end Go.Am

/-
  AM, 12: copy, clear, append.
-/
import Derived.Test.YtboobbebilegnaaGreatAm11
namespace Go.Am
section
variable {P : Program} {keep : Keeps} {w : World} {ρ : Pls} {h : Heap}

theorem cell_same {w w2 : World} (hw : w2.heap = w.heap) (a : Addr) : w2.cell? a = w.cell? a := by simp only [World.cell?, hw]

theorem srcOf_sound {size : Nat} {cut : Nat → Nat} {x : AV} {r : List AV × Nat} (hr : HR P keep ρ h w) (hq : srcOf size cut x h = some r) {a : Value} (hx : VR ρ x a) (hcut : ∀ n, cut n ≤ n) :
    ∃ n cs, (Builtin.lenOf a).run P w = .ok n w ∧ r.2 = cut n ∧ (∀ w2 : World, w2.heap = w.heap → (Builtin.firstCells size (cut n) a).run P w2 = .ok cs w2) ∧ VRs ρ r.1 cs.toList := by
  cases x with
  | str l =>
    cases hq
    obtain ⟨sb, rfl, hs⟩ := hx
    have hlen : len' l = sb.size := by rw [len'_eq, size_bytes, hs]
    refine ⟨sb.size, _, rfl, by rw [hlen], fun _ _ => rfl, ?_⟩
    have := bytesV_VRs (ρ := ρ) (sb.extract 0 (cut sb.size))
    rw [take_drop_bytes, hs] at this
    rw [take'_eq, hlen]
    simpa using this
  | slice o n c g =>
    cases o with
    | none =>
      cases hq
      obtain ⟨rfl, _, _, rfl⟩ := hx
      refine ⟨0, #[], rfl, ?_, fun _ _ => rfl, rfl⟩
      have := hcut 0
      show 0 = cut 0
      omega
    | some p0 =>
      obtain ⟨bk, off⟩ := p0
      have hq : (Option.rec (motive := fun _ => Option (List AV × Nat)) none (fun vs => some (vs, cut n)) (h.ld bk off (cut n * size)) : Option (List AV × Nat)) = some r := hq
      cases hl : h.ld bk off (cut n * size) with
      | none => rw [hl] at hq; cases hq
      | some vs =>
        rw [hl] at hq; cases hq
        obtain ⟨p, cs, hp, hvs, hn, _, hc⟩ := hr.ld hl
        obtain ⟨p', a', c', hp', rfl, hle, _, _, _, ha⟩ := hx
        rw [hp] at hp'; cases hp'
        refine ⟨n, cs.toArray, rfl, rfl, fun w2 hw => ?_, by simpa using hvs⟩
        by_cases hc0 : c' = 0
        · obtain rfl : n = 0 := by omega
          have h0 : cut 0 = 0 := by have := hcut 0; omega
          rw [h0, Nat.zero_mul] at hn
          have : cs = [] := List.length_eq_zero_iff.1 hn
          subst this
          simp only [Builtin.firstCells, h0, Nat.zero_mul]; rfl
        · rw [ha hc0]
          exact run_loadRun hn (fun j u hj => by rw [add_addr, cell_same hw]; exact hc j u hj)
  | _ => cases hq

theorem minN_eq (a b : Nat) : minN a b = Nat.min a b := by
  unfold minN
  by_cases h : a ≤ b
  · rw [Nat.ble_eq_true_of_le h]; exact (Nat.min_eq_left h).symm
  · have : Nat.ble a b = false := by cases hb : Nat.ble a b with
      | false => rfl
      | true => exact absurd (Nat.le_of_ble_eq_true hb) h
    rw [this]; show b = Nat.min a b; exact (Nat.min_eq_right (by omega)).symm

theorem copyS_sound {t ty : TypeId} {ts : Array TypeId} {d x : AV} {q : AV × Heap} (ht : ts[0]? = some t) (hr : HR P keep ρ h w) (hq : copyS P t d x h = some q) {a b : Value} (hd : VR ρ d a) (hx : VR ρ x b) :
    Does P keep w ρ h (Builtin.copy_ ts ty #[a, b]) q.1 q.2 := by
  unfold copyS at hq
  cases hu : P.underlying t with
  | none => rw [hu] at hq; cases hq
  | some de =>
    rw [hu] at hq
    cases de with
    | slice e =>
      cases hs : tSize P e with
      | none => simp only [hs] at hq; cases hq
      | some size =>
        simp only [hs] at hq
        obtain ⟨o, len, c, g, e0, hq0⟩ := eSlice_some hq
        subst e0
        replace hq := hq0
        cases hsrc : srcOf size (fun n => minN n len) x h with
        | none => rw [hsrc] at hq; cases hq
        | some src =>
          rw [hsrc] at hq
          obtain ⟨n, cs, g1, g2, g3, g4⟩ := srcOf_sound hr hsrc hx (fun n => by rw [minN_eq]; exact Nat.min_le_left _ _)
          replace g3 := g3 w rfl
          simp only [minN_eq] at g2 g3
          cases o with
          | none =>
            cases hq
            obtain ⟨rfl, _, _, rfl⟩ := hd
            refine ⟨ρ, _, w, ?_, by rw [g2]; exact rfl, Post.refl hr⟩
            simp only [Builtin.copy_, ht, List.getElem?_toArray, List.getElem?_cons_zero, List.getElem?_cons_succ, Sem.run_bind, run_underlying hu, Result.andThen_ok, g1, run_sizeT hs, g3, Sem.run_pure]
            rfl
          | some p0 =>
            obtain ⟨bk, off⟩ := p0
            obtain ⟨h', hst, rfl⟩ := stAs_some hq
            obtain ⟨p, w', hp, hrun, hpost⟩ := hr.sto hst g4
            obtain ⟨p', a', c', hp', rfl, hle, _, _, _, ha⟩ := hd
            rw [hp] at hp'; cases hp'
            have hlen := g4.length
            by_cases hc0 : c' = 0
            · obtain rfl : len = 0 := by omega
              have hn0 : Nat.min n 0 = 0 := Nat.min_eq_right (Nat.zero_le _)
              -- nothing is copied
              have hcs : cs.toList = [] := by
                rw [hn0] at g3
                have hsz : src.1 = [] := by
                  cases x with
                  | str l =>
                    cases hsrc
                    show bytesV (take' (minN (len' l) 0) l) = []
                    rw [minN_eq, show Nat.min (len' l) 0 = 0 from Nat.min_eq_right (Nat.zero_le _)]; rfl
                  | slice o n c g =>
                    cases o with
                    | none => cases hsrc; rfl
                    | some p1 =>
                      have hsrc : (Option.rec (motive := fun _ => Option (List AV × Nat)) none (fun vs => some (vs, minN n 0)) (h.ld p1.1 p1.2 (minN n 0 * size)) : Option (List AV × Nat)) = some src := hsrc
                      cases hl : h.ld p1.1 p1.2 (minN n 0 * size) with
                      | none => rw [hl] at hsrc; cases hsrc
                      | some vs =>
                        rw [hl] at hsrc; cases hsrc
                        obtain ⟨_, _, _, _, _, _, hv, _⟩ := ld_some hl
                        rw [minN_eq, show Nat.min n 0 = 0 from Nat.min_eq_right (Nat.zero_le _), Nat.zero_mul] at hv
                        exact List.length_eq_zero_iff.1 hv
                  | _ => cases hsrc
                rw [hsz] at hlen
                exact List.length_eq_zero_iff.1 hlen.symm
              rw [hcs] at hrun
              cases hrun
              refine ⟨ρ, _, w, ?_, by rw [g2]; exact rfl, hpost⟩
              simp only [Builtin.copy_, ht, List.getElem?_toArray, List.getElem?_cons_zero, List.getElem?_cons_succ, Sem.run_bind, run_underlying hu, Result.andThen_ok, g1, run_sizeT hs, g3, hcs, Sem.run_pure]
              rfl
            · rw [ha hc0]
              refine ⟨ρ, _, w', ?_, by rw [g2]; exact rfl, hpost⟩
              simp only [Builtin.copy_, ht, List.getElem?_toArray, List.getElem?_cons_zero, List.getElem?_cons_succ, Sem.run_bind, run_underlying hu, Result.andThen_ok, g1, run_sizeT hs, g3, hrun, Sem.run_pure]
              rfl
    | _ => cases hq

theorem zeroCells_VRs {zs : List AV} {za : Array Value} (hz : VRs ρ zs za.toList) (len : Nat) : VRs ρ (List.replicate len zs).flatten (Builtin.zeroCells za len).toList := by
  have hl : za.size = zs.length := by have := hz.length; simpa using this.symm
  have := zeros_get hz len
  unfold Builtin.zeroCells
  rw [hl]
  rw [hl] at this
  simpa using this

theorem clearS_sound {t ty : TypeId} {ts : Array TypeId} {d : AV} {q : AV × Heap} (ht : ts[0]? = some t) (hr : HR P keep ρ h w) (hq : clearS P t d h = some q) {a : Value} (hd : VR ρ d a) :
    Does P keep w ρ h (Builtin.clear_ ts ty #[a]) q.1 q.2 := by
  unfold clearS at hq
  cases hu : P.underlying t with
  | none => rw [hu] at hq; cases hq
  | some de =>
    rw [hu] at hq
    cases de with
    | slice e =>
      cases hz : tZero P e with
      | none => simp only [hz] at hq; cases hq
      | some z =>
        simp only [hz] at hq
        obtain ⟨o, len, c, g, e0, hq0⟩ := eSlice_some hq
        subst e0
        replace hq := hq0
        obtain ⟨zv, rz, vz⟩ := run_zeroT (w := w) (ρ := ρ) hz
        cases o with
        | none =>
          cases hq
          obtain ⟨rfl, _, _, rfl⟩ := hd
          refine ⟨ρ, _, w, ?_, VR.undef ρ, Post.refl hr⟩
          simp only [Builtin.clear_, ht, List.getElem?_toArray, List.getElem?_cons_zero, Sem.run_bind, run_underlying hu, Result.andThen_ok, Sem.run_pure]
          rfl
        | some p0 =>
          obtain ⟨bk, off⟩ := p0
          obtain ⟨h', hst, rfl⟩ := stAs_some hq
          rw [rep'_eq] at hst
          obtain ⟨p, w', hp, hrun, hpost⟩ := hr.sto hst (zeroCells_VRs vz.cells len)
          obtain ⟨p', a', c', hp', rfl, hle, _, _, _, ha⟩ := hd
          rw [hp] at hp'; cases hp'
          cases len with
          | zero =>
            have h0 : (Builtin.zeroCells zv.cells 0).toList = [] := by simp [Builtin.zeroCells]
            rw [h0] at hrun; cases hrun
            refine ⟨ρ, _, w, ?_, VR.undef ρ, hpost⟩
            simp only [Builtin.clear_, ht, List.getElem?_toArray, List.getElem?_cons_zero, Sem.run_bind, run_underlying hu, Result.andThen_ok, Sem.run_pure]
            rfl
          | succ n =>
            have hc0 : c' ≠ 0 := by omega
            rw [ha hc0]
            refine ⟨ρ, _, w', ?_, VR.undef ρ, hpost⟩
            simp only [Builtin.clear_, ht, List.getElem?_toArray, List.getElem?_cons_zero, Sem.run_bind, run_underlying hu, Result.andThen_ok, rz, hrun, Sem.run_pure]
            rfl
    | map kt e =>
      cases d with
      | map o =>
        cases o with
        | none =>
          cases hq; cases hd
          refine ⟨ρ, _, w, ?_, VR.undef ρ, Post.refl hr⟩
          simp only [Builtin.clear_, ht, List.getElem?_toArray, List.getElem?_cons_zero, Sem.run_bind, run_underlying hu, Result.andThen_ok, Sem.run_pure]
          rfl
        | some bk =>
          obtain ⟨es, cl, hb, hq⟩ := theMap_some hq
          cases hq
          obtain ⟨p, es', hp, h0, hh, he⟩ := hr.blk _ _ hb
          obtain ⟨p', hp', _, rfl⟩ := hd
          rw [hp] at hp'; cases hp'
          refine ⟨ρ, _, _, ?_, VR.undef ρ, hr.setMap (l' := #[]) (c' := cl) hb hp h0 hh rfl⟩
          simp only [Builtin.clear_, ht, List.getElem?_toArray, List.getElem?_cons_zero, Sem.run_bind, run_underlying hu, Result.andThen_ok, run_getMap hh, run_setMap hh, Sem.run_pure]
          rfl
      | _ => cases hq
    | _ => cases hq
end
end Go.Am

import Derived.Test.YtlfednnfkejcjaaDpAmB
import Derived.Laws.Append
import Derived.Lib.UnsafeStr
import Derived.Lib.Builder
import Derived.Lib.Bytealg
import Derived.KernelRfl
set_option linter.unusedVariables false
set_option linter.unusedSimpArgs false
set_option linter.constructorNameAsVariable false
set_option linter.defProp false
set_option maxRecDepth 20000

namespace Go.Am
section
variable {P : Program} {keep : Keeps} {w : World} {ρ : Pls} {h : Heap}
theorem cell_same {w w2 : World} (hw : w2.heap = w.heap) (a : Addr) : w2.cell? a = w.cell? a := by simp only [World.cell?, hw]
theorem srcOf_sound {size : Nat} {cut : Nat → Nat} {x : AV} {r : List AV × Nat} (hr : HR P keep ρ h w) (hq : srcOf size cut x h = some r) {a : Value} (hx : VR ρ x a) (hcut : ∀ n, cut n ≤ n) :
    ∃ n cs, (Builtin.lenOf a).run P w = .ok n w ∧ r.2 = cut n ∧ (∀ w2 : World, w2.heap = w.heap → (Builtin.firstCells size (cut n) a).run P w2 = .ok cs w2) ∧ VRs ρ r.1 cs.toList := by
  cases x with
  | str l =>
    cases hq
    obtain ⟨sb, rfl, hs⟩ := hx
    have hlen : len' l = sb.size := by rw [len'_eq, size_bytes, hs]
    refine ⟨sb.size, _, rfl, by rw [hlen], fun _ _ => rfl, ?_⟩
    have := bytesV_VRs (ρ := ρ) (sb.extract 0 (cut sb.size))
    rw [take_drop_bytes, hs] at this
    rw [take'_eq, hlen]
    simpa using this
  | slice o n c g =>
    cases o with
    | none =>
      cases hq
      obtain ⟨rfl, _, _, rfl⟩ := hx
      refine ⟨0, #[], rfl, ?_, fun _ _ => rfl, rfl⟩
      have := hcut 0
      show 0 = cut 0
      omega
    | some p0 =>
      obtain ⟨bk, off⟩ := p0
      have hq : (Bool.rec (motive := fun _ => Option (List AV × Nat)) (Option.rec (motive := fun _ => Option (List AV × Nat)) none (fun vs => some (vs, cut n)) (h.ld bk off (cut n * size))) (some ([], 0)) (Nat.beq n 0) : Option (List AV × Nat)) = some r := hq
      by_cases n0 : n = 0
      · subst n0
        cases hq
        obtain ⟨p', a', c', hp', rfl, _⟩ := hx
        have h0 : cut 0 = 0 := by have := hcut 0; omega
        refine ⟨0, #[], rfl, h0.symm, fun _ _ => ?_, rfl⟩
        simp only [Builtin.firstCells, h0, Nat.zero_mul]; rfl
      rw [show Nat.beq n 0 = false from by cases n with | zero => exact absurd rfl n0 | succ n => rfl] at hq
      have hq : (Option.rec (motive := fun _ => Option (List AV × Nat)) none (fun vs => some (vs, cut n)) (h.ld bk off (cut n * size)) : Option (List AV × Nat)) = some r := hq
      cases hl : h.ld bk off (cut n * size) with
      | none => rw [hl] at hq; cases hq
      | some vs =>
        rw [hl] at hq; cases hq
        obtain ⟨p, cs, hp, hvs, hn, _, hc⟩ := hr.ld hl
        obtain ⟨p', a', c', hp', rfl, hle, _, _, _, ha⟩ := hx
        rw [hp] at hp'; cases hp'
        refine ⟨n, cs.toArray, rfl, rfl, fun w2 hw => ?_, by simpa using hvs⟩
        by_cases hc0 : c' = 0
        · obtain rfl : n = 0 := by omega
          have h0 : cut 0 = 0 := by have := hcut 0; omega
          rw [h0, Nat.zero_mul] at hn
          have : cs = [] := List.length_eq_zero_iff.1 hn
          subst this
          simp only [Builtin.firstCells, h0, Nat.zero_mul]; rfl
        · rw [ha hc0]
          exact run_loadRun hn (fun j u hj => by rw [add_addr, cell_same hw]; exact hc j u hj)
  | _ => cases hq
theorem minN_eq (a b : Nat) : minN a b = Nat.min a b := by
  unfold minN
  by_cases h : a ≤ b
  · rw [Nat.ble_eq_true_of_le h]; exact (Nat.min_eq_left h).symm
  · have : Nat.ble a b = false := by cases hb : Nat.ble a b with
      | false => rfl
      | true => exact absurd (Nat.le_of_ble_eq_true hb) h
    rw [this]; show b = Nat.min a b; exact (Nat.min_eq_right (by omega)).symm
theorem copyS_sound {t ty : TypeId} {ts : Array TypeId} {d x : AV} {q : AV × Heap} (ht : ts[0]? = some t) (hr : HR P keep ρ h w) (hq : copyS P t d x h = some q) {a b : Value} (hd : VR ρ d a) (hx : VR ρ x b) :
    Does P keep w ρ h (Builtin.copy_ ts ty #[a, b]) q.1 q.2 := by
  unfold copyS at hq
  cases hu : P.underlying t with
  | none => rw [hu] at hq; cases hq
  | some de =>
    rw [hu] at hq
    cases de with
    | slice e =>
      cases hs : tSize P e with
      | none => simp only [hs] at hq; cases hq
      | some size =>
        simp only [hs] at hq
        obtain ⟨o, len, c, g, e0, hq0⟩ := eSlice_some hq
        subst e0
        replace hq := hq0
        cases hsrc : srcOf size (fun n => minN n len) x h with
        | none => rw [hsrc] at hq; cases hq
        | some src =>
          rw [hsrc] at hq
          obtain ⟨n, cs, g1, g2, g3, g4⟩ := srcOf_sound hr hsrc hx (fun n => by rw [minN_eq]; exact Nat.min_le_left _ _)
          replace g3 := g3 w rfl
          simp only [minN_eq] at g2 g3
          cases o with
          | none =>
            cases hq
            obtain ⟨rfl, _, _, rfl⟩ := hd
            refine ⟨ρ, _, w, ?_, by rw [g2]; exact rfl, Post.refl hr⟩
            simp only [Builtin.copy_, ht, List.getElem?_toArray, List.getElem?_cons_zero, List.getElem?_cons_succ, Sem.run_bind, run_underlying hu, Result.andThen_ok, g1, run_sizeT hs, g3, Sem.run_pure]
            rfl
          | some p0 =>
            obtain ⟨bk, off⟩ := p0
            obtain ⟨h', hst, rfl⟩ := stAs_some hq
            obtain ⟨p, w', hp, hrun, hpost⟩ := hr.sto hst g4
            obtain ⟨p', a', c', hp', rfl, hle, _, _, _, ha⟩ := hd
            rw [hp] at hp'; cases hp'
            have hlen := g4.length
            by_cases hc0 : c' = 0
            · obtain rfl : len = 0 := by omega
              have hn0 : Nat.min n 0 = 0 := Nat.min_eq_right (Nat.zero_le _)
              -- nothing is copied
              have hcs : cs.toList = [] := by
                rw [hn0] at g3
                have hsz : src.1 = [] := by
                  cases x with
                  | str l =>
                    cases hsrc
                    show bytesV (take' (minN (len' l) 0) l) = []
                    rw [minN_eq, show Nat.min (len' l) 0 = 0 from Nat.min_eq_right (Nat.zero_le _)]; rfl
                  | slice o n c g =>
                    cases o with
                    | none => cases hsrc; rfl
                    | some p1 =>
                      have hsrc : (Bool.rec (motive := fun _ => Option (List AV × Nat)) (Option.rec (motive := fun _ => Option (List AV × Nat)) none (fun vs => some (vs, minN n 0)) (h.ld p1.1 p1.2 (minN n 0 * size))) (some ([], 0)) (Nat.beq n 0) : Option (List AV × Nat)) = some src := hsrc
                      by_cases n0 : n = 0
                      · subst n0; cases hsrc; rfl
                      rw [show Nat.beq n 0 = false from by cases n with | zero => exact absurd rfl n0 | succ n => rfl] at hsrc
                      have hsrc : (Option.rec (motive := fun _ => Option (List AV × Nat)) none (fun vs => some (vs, minN n 0)) (h.ld p1.1 p1.2 (minN n 0 * size)) : Option (List AV × Nat)) = some src := hsrc
                      cases hl : h.ld p1.1 p1.2 (minN n 0 * size) with
                      | none => rw [hl] at hsrc; cases hsrc
                      | some vs =>
                        rw [hl] at hsrc; cases hsrc
                        obtain ⟨_, _, _, _, _, _, hv, _⟩ := ld_some hl
                        rw [minN_eq, show Nat.min n 0 = 0 from Nat.min_eq_right (Nat.zero_le _), Nat.zero_mul] at hv
                        exact List.length_eq_zero_iff.1 hv
                  | _ => cases hsrc
                rw [hsz] at hlen
                exact List.length_eq_zero_iff.1 hlen.symm
              rw [hcs] at hrun
              cases hrun
              refine ⟨ρ, _, w, ?_, by rw [g2]; exact rfl, hpost⟩
              simp only [Builtin.copy_, ht, List.getElem?_toArray, List.getElem?_cons_zero, List.getElem?_cons_succ, Sem.run_bind, run_underlying hu, Result.andThen_ok, g1, run_sizeT hs, g3, hcs, Sem.run_pure]
              rfl
            · rw [ha hc0]
              refine ⟨ρ, _, w', ?_, by rw [g2]; exact rfl, hpost⟩
              simp only [Builtin.copy_, ht, List.getElem?_toArray, List.getElem?_cons_zero, List.getElem?_cons_succ, Sem.run_bind, run_underlying hu, Result.andThen_ok, g1, run_sizeT hs, g3, hrun, Sem.run_pure]
              rfl
    | _ => cases hq
theorem zeroCells_VRs {zs : List AV} {za : Array Value} (hz : VRs ρ zs za.toList) (len : Nat) : VRs ρ (List.replicate len zs).flatten (Builtin.zeroCells za len).toList := by
  have hl : za.size = zs.length := by have := hz.length; simpa using this.symm
  have := zeros_get hz len
  unfold Builtin.zeroCells
  rw [hl]
  rw [hl] at this
  simpa using this
theorem clearS_sound {t ty : TypeId} {ts : Array TypeId} {d : AV} {q : AV × Heap} (ht : ts[0]? = some t) (hr : HR P keep ρ h w) (hq : clearS P t d h = some q) {a : Value} (hd : VR ρ d a) :
    Does P keep w ρ h (Builtin.clear_ ts ty #[a]) q.1 q.2 := by
  unfold clearS at hq
  cases hu : P.underlying t with
  | none => rw [hu] at hq; cases hq
  | some de =>
    rw [hu] at hq
    cases de with
    | slice e =>
      cases hz : tZero P e with
      | none => simp only [hz] at hq; cases hq
      | some z =>
        simp only [hz] at hq
        obtain ⟨o, len, c, g, e0, hq0⟩ := eSlice_some hq
        subst e0
        replace hq := hq0
        obtain ⟨zv, rz, vz⟩ := run_zeroT (w := w) (ρ := ρ) hz
        cases o with
        | none =>
          cases hq
          obtain ⟨rfl, _, _, rfl⟩ := hd
          refine ⟨ρ, _, w, ?_, VR.undef ρ, Post.refl hr⟩
          simp only [Builtin.clear_, ht, List.getElem?_toArray, List.getElem?_cons_zero, Sem.run_bind, run_underlying hu, Result.andThen_ok, Sem.run_pure]
          rfl
        | some p0 =>
          obtain ⟨bk, off⟩ := p0
          obtain ⟨h', hst, rfl⟩ := stAs_some hq
          rw [rep'_eq] at hst
          obtain ⟨p, w', hp, hrun, hpost⟩ := hr.sto hst (zeroCells_VRs vz.cells len)
          obtain ⟨p', a', c', hp', rfl, hle, _, _, _, ha⟩ := hd
          rw [hp] at hp'; cases hp'
          cases len with
          | zero =>
            have h0 : (Builtin.zeroCells zv.cells 0).toList = [] := by simp [Builtin.zeroCells]
            rw [h0] at hrun; cases hrun
            refine ⟨ρ, _, w, ?_, VR.undef ρ, hpost⟩
            simp only [Builtin.clear_, ht, List.getElem?_toArray, List.getElem?_cons_zero, Sem.run_bind, run_underlying hu, Result.andThen_ok, Sem.run_pure]
            rfl
          | succ n =>
            have hc0 : c' ≠ 0 := by omega
            rw [ha hc0]
            refine ⟨ρ, _, w', ?_, VR.undef ρ, hpost⟩
            simp only [Builtin.clear_, ht, List.getElem?_toArray, List.getElem?_cons_zero, Sem.run_bind, run_underlying hu, Result.andThen_ok, rz, hrun, Sem.run_pure]
            rfl
    | map kt e =>
      cases d with
      | map o =>
        cases o with
        | none =>
          cases hq; cases hd
          refine ⟨ρ, _, w, ?_, VR.undef ρ, Post.refl hr⟩
          simp only [Builtin.clear_, ht, List.getElem?_toArray, List.getElem?_cons_zero, Sem.run_bind, run_underlying hu, Result.andThen_ok, Sem.run_pure]
          rfl
        | some bk =>
          obtain ⟨es, cl, hb, hq⟩ := theMap_some hq
          cases hq
          obtain ⟨p, es', hp, h0, hh, he⟩ := hr.blk _ _ hb
          obtain ⟨p', hp', _, rfl⟩ := hd
          rw [hp] at hp'; cases hp'
          refine ⟨ρ, _, _, ?_, VR.undef ρ, hr.setMap (l' := #[]) (c' := cl) hb hp h0 hh rfl⟩
          simp only [Builtin.clear_, ht, List.getElem?_toArray, List.getElem?_cons_zero, Sem.run_bind, run_underlying hu, Result.andThen_ok, run_getMap hh, run_setMap hh, Sem.run_pure]
          rfl
      | _ => cases hq
    | _ => cases hq
end
end Go.Am

namespace Go.Am
section
variable {P : Program} {keep : Keeps} {w : World} {ρ : Pls} {h : Heap}
theorem HR.kill (hr : HR P keep ρ h w) {b : Nat} {x : Blk} (hb : h.bs.gt b = some x) : Post P keep ρ h w ρ (h.put b .dead) w := by
  refine ⟨Pls.le_refl _, ⟨hr.dom, fun c z hz => ?_, fun c z hz => ?_, fun c c' z z' q q' hz hz' hd hd' hrw hq hq' hne => ?_⟩, ⟨rfl, rfl, Nat.le_refl _, fun _ _ _ => rfl⟩, fun k _ ho => ?_, Nat.le_refl _, fun _ _ h _ => h, fun k _ ho => ?_⟩
  · rw [put_get] at hz
    by_cases e : c = b
    · subst e; exact hr.has _ _ hb
    · rw [if_neg e] at hz; exact hr.has _ _ hz
  · rw [put_get] at hz
    by_cases e : c = b
    · rw [if_pos e] at hz; cases hz; trivial
    · rw [if_neg e] at hz; exact hr.blk _ _ hz
  · rw [put_get] at hz hz'
    by_cases e : c = b
    · rw [if_pos e] at hz; cases hz; cases hd
    · by_cases e' : c' = b
      · rw [if_pos e'] at hz'; cases hz'; cases hd'
      · rw [if_neg e] at hz; rw [if_neg e'] at hz'
        exact hr.inj c c' z z' q q' hz hz' hd hd' hrw hq hq' hne
  · obtain ⟨c, z, q, hz, hzr, hq, rfl⟩ := ho
    rw [put_get] at hz
    by_cases e : c = b
    · rw [if_pos e] at hz; cases hz; cases hzr
    · rw [if_neg e] at hz; exact ⟨c, z, q, hz, hzr, hq, rfl⟩
  · obtain ⟨c, z, q, hz, hzr, hq, rfl⟩ := ho
    rw [put_get] at hz
    by_cases e : c = b
    · rw [if_pos e] at hz; cases hz; cases hzr
    · rw [if_neg e] at hz; exact ⟨c, z, q, hz, hzr, hq, rfl⟩
def Row (ρ : Pls) (y : Blk) (N : Nat) (row : Array Value) (o : Nat) : Prop :=
  ∃ t z, y = .cells t z N false ∧ ∀ i, i < N → ∃ v cv, cellAt t z i = some v ∧ v.one = true ∧ row[o + i]? = some cv ∧ VR ρ v cv
def BMark (y : Blk) (e : TypeId) : Prop := ∀ t z n ro, y = .cells t z n ro → ∀ k x, z = tyMark k x → e = k ∧ x = false
theorem BMark.ok {t : Tr AV} {z : List AV} {n : Nat} {ro : Bool} {e : TypeId} {p : Pl} (h : BMark (.cells t z n ro) e) : MarkOk z n p e := fun k x hz => by
  obtain ⟨a, b⟩ := h _ _ _ _ rfl k x hz
  exact ⟨a, fun hx => by rw [b] at hx; cases hx⟩
theorem tyMark_inj {k k' : Nat} {x x' : Bool} (h : tyMark k x = tyMark k' x') : k = k' ∧ x = x' := by
  simp only [tyMark, List.cons.injEq, AV.tuple.injEq, AV.int.injEq, AV.bool.injEq, and_true, true_and] at h
  exact ⟨Int.ofNat_inj.1 h.1, h.2⟩
theorem bmark_new {t : Tr AV} {n : Nat} {ro : Bool} {e : TypeId} : BMark (.cells t (tyMark e false) n ro) e := fun t' z n' ro' h k x hz => by
  cases h
  obtain ⟨a, b⟩ := tyMark_inj hz
  exact ⟨a, b.symm⟩
theorem fitsZ_mark {e k : Nat} {x : Bool} (h : fitsZ e (tyMark k x) = true) : e = k ∧ x = false := by
  have h : (Bool.rec (motive := fun _ => Bool) (Nat.beq k e) false x : Bool) = true := h
  cases x with
  | true => cases h
  | false => exact ⟨(Nat.eq_of_beq_eq_true h).symm, rfl⟩
theorem zKeep_mark {z : List AV} {k : Nat} {x : Bool} (h : zKeep z = tyMark k x) : z = tyMark k x := by
  unfold zKeep at h
  cases hm : markOf z with
  | none => rw [hm] at h; cases h
  | some p => rw [hm] at h; exact h
theorem Row.of {cs z : List AV} {cvs : List Value} {row : Array Value} {o : Nat} (hv : VRs ρ cs cvs) (hone : allOne cs = true) (hrow : ∀ i, i < cs.length → row[o + i]? = cvs[i]?) : Row ρ (.cells (fillC cs .leaf 0) z (len' cs) false) cs.length row o := by
  rw [len'_eq]
  rw [allOne_eq, List.all_eq_true] at hone
  refine ⟨_, _, rfl, fun i hi => ?_⟩
  obtain ⟨u, h1, h2⟩ := hv.get i cs[i] (List.getElem?_eq_getElem hi)
  refine ⟨cs[i], u, ?_, hone _ (List.getElem_mem hi), by rw [hrow i hi, h1], h2⟩
  unfold cellAt
  rw [gt_fillC, if_pos (by omega), Nat.sub_zero, List.getElem?_eq_getElem hi]
theorem app_row (hr : HR P keep ρ h w) {id : Nat} (hid : h.next ≤ id) {y : Blk} {N : Nat} {row : Array Value} {e : TypeId} (hy : Row ρ y N row 0) (hmk : BMark y e) {need cap size : Nat} (hneed : need ≤ cap) (hN : N ≤ row.size) (hsz : row.size = cap * size) :
    Post P keep ρ h w (ρ.up id ⟨w.heap.size, 0, cap * size⟩) (h.new id y) (w.drew.alloc (.cells row e)) ∧
      VR (ρ.up id ⟨w.heap.size, 0, cap * size⟩) (.slice (some (id, 0)) need need (some size)) (.slice (some ⟨w.heap.size, 0, none⟩) need cap) := by
  have f1 := (hr.fresh hid).1
  refine ⟨?_, ⟨_, _, _, Pls.up_same _ _ _, rfl, hneed, hneed, (fun e => by cases e), (fun es e => by cases e; simp), fun _ => by simp⟩⟩
  rw [new_eq hid]
  obtain ⟨t, z, rfl, hv⟩ := hy
  refine hr.push (w' := w.drew.alloc (.cells row e)) (o := .cells row e) hid (by omega) rfl rfl rfl ?_
  refine ⟨_, row, e, (0, 0), Pls.up_same _ _ _, ?_, hsz, by simp only [Nat.zero_add]; omega, fun i hi => ?_, fun _ i _ hh => by simp at hh, hmk.ok⟩
  · show (w.heap.push _)[w.heap.size]? = _
    simp
  · obtain ⟨v, cv, h1, h2, h3, h4⟩ := hv i hi
    exact ⟨v, cv, h1, h2, h3, h4.mono (Pls.le_up f1)⟩
theorem run_append_in {t u e ty : TypeId} {ts : Array TypeId} {d : TypeDesc} {size : Nat} (ht : ts[0]? = some t) (hu : P.underlying t = some (.slice e)) (hs : tSize P e = some size) (ht1 : ts[1]? = some u) (hu1 : P.underlying u = some d) (hint : ∀ k, d ≠ .int k)
    {base : Option Addr} {sLen sCap n : Nat} {x : Value} {cs : Array Value} (hx : (Builtin.lenOf x).run P w = .ok n w) (hc : (Builtin.firstCells size n x).run P w = .ok cs w) (hle : sLen + n ≤ sCap)
    {w' : World} (hst : match base with | some a => (storeCells (a.add (sLen * size)) cs.toList).run P w = .ok () w' | none => w' = w) :
    (Builtin.append_ ts ty #[.slice base sLen sCap, x]).run P w = .ok (.slice base (sLen + n) sCap) w' := by
  simp only [Builtin.append_, ht, ht1, List.getElem?_toArray, List.getElem?_cons_zero, List.getElem?_cons_succ, Sem.run_bind, run_underlying hu, run_underlying hu1, Result.andThen_ok, run_sizeT hs, Sem.run_pure]
  simp only [Bool.false_eq_true, if_false, Bool.not_false, if_true, hx, Result.andThen_ok, if_pos hle, Sem.run_bind, hc]
  cases base with
  | none => simp only at hst; subst hst; rfl
  | some a => simp only [Sem.run_bind, hst, Result.andThen_ok, Sem.run_pure]
theorem run_append_out {t u e ty : TypeId} {ts : Array TypeId} {d : TypeDesc} {i : TypeInfo} {z : Value} (ht : ts[0]? = some t) (hu : P.underlying t = some (.slice e)) (hi : P.info? e = some i) (hz0 : i.zero = some z) (ht1 : ts[1]? = some u) (hu1 : P.underlying u = some d) (hint : ∀ k, d ≠ .int k)
    {base : Option Addr} {sLen sCap n : Nat} {x : Value} {co cs : Array Value} (hx : (Builtin.lenOf x).run P w = .ok n w) (hc : (Builtin.firstCells i.size n x).run P w.drew = .ok cs w.drew) (ho : (Builtin.firstCells i.size sLen (.slice base sLen sCap)).run P w.drew = .ok co w.drew)
    (hle : ¬ sLen + n ≤ sCap) (h63 : ((sLen + n : Nat) : Int) ≤ 9223372036854775807) (hfit : Builtin.nextslicecap (sLen + n) sCap * i.bytes ≤ 281474976710656) :
    (Builtin.append_ ts ty #[.slice base sLen sCap, x]).run P w =
      .ok (.slice (some ⟨w.heap.size, 0, none⟩) (sLen + n) (grownCap w (sLen + n) sCap e)) (w.drew.alloc (.cells (co ++ cs ++ Builtin.zeroCells z.cells (grownCap w (sLen + n) sCap e - (sLen + n))) e)) := by
  have h63' : ¬ (9223372036854775807 < ((sLen : Int) + (n : Int))) := by omega
  have h48' : ¬ (281474976710656 < Builtin.nextslicecap (sLen + n) sCap * i.bytes) := by omega
  simp [Builtin.append_, ht, ht1, run_underlying hu, run_underlying hu1, sizeOf, typeInfo, zeroValue, hi, hz0, hx, hle, h63', h48', Question.forced, ho, hc, newRow, grownCap]
theorem le_grownCap {need old : Nat} {e : TypeId} (h : old < need) : need ≤ grownCap w need old e := by
  unfold grownCap
  simp only [Question.cut]
  have := le_nextslicecap h
  omega
theorem appNew_some {size need id : Nat} {cs z : List AV} {q : AV × Heap} (hq : appNew size need z id h cs = some q) : allOne cs = true ∧ q = (.slice (some (id, 0)) need need (some size), h.new id (.cells (fillC cs .leaf 0) z (len' cs) false)) := by
  obtain ⟨h1, h2⟩ := iff'_some.1 hq
  cases h2; exact ⟨h1, rfl⟩
def Onto (y : Blk) (tr : Tr AV) (z : List AV) (off L : Nat) (vs : List AV) : Prop :=
  ∃ t' z', y = .cells t' z' (L + vs.length) false ∧ (∀ i, i < L → cellAt t' z' i = cellAt tr z (off + i)) ∧ ∀ i, i < vs.length → cellAt t' z' (L + i) = vs[i]?
theorem Onto.row {tr : Tr AV} {z : List AV} {off L m : Nat} {vs old z0 : List AV} {ro : Bool} {bk : Nat} (hl : h.ld bk off L = some old) (hb : h.bs.gt bk = some (.cells tr z m ro)) : off + L ≤ m ∧ old.length = L ∧ Onto (.cells (fillC (old ++ vs) .leaf 0) z0 (len' (old ++ vs)) false) tr z off L vs := by
  obtain ⟨tr', z', m', ro', hb', hle, hlen, hv⟩ := ld_some hl
  rw [hb] at hb'; cases hb'
  refine ⟨hle, hlen, ?_⟩
  rw [len'_eq]
  refine ⟨fillC (old ++ vs) .leaf 0, z0, by rw [List.length_append, hlen], fun i hi => ?_, fun i hi => ?_⟩
  · rw [hv i hi]
    have hget : (old ++ vs)[i]? = some old[i] := by rw [List.getElem?_append_left (by omega)]; exact List.getElem?_eq_getElem (by omega)
    unfold cellAt
    rw [gt_fillC, if_pos (by simp only [List.length_append]; omega), Nat.sub_zero, hget, List.getElem?_eq_getElem (show i < old.length by omega)]
  · have hget : (old ++ vs)[L + i]? = some vs[i] := by rw [List.getElem?_append_right (by omega), hlen, Nat.add_sub_cancel_left]; exact List.getElem?_eq_getElem hi
    unfold cellAt
    rw [gt_fillC, if_pos (by simp only [List.length_append]; omega), Nat.sub_zero, hget, List.getElem?_eq_getElem hi]
theorem appDead_some {size need e off len n bk id : Nat} {vs : List AV} {q : AV × Heap} (hq : appDead size need e off len n vs bk id h = some q) (hn : vs.length = n * size) :
    ∃ tr z m y, h.bs.gt bk = some (.cells tr z m false) ∧ allOne vs = true ∧ off + len * size ≤ m ∧ Onto y tr z off (len * size) vs ∧ BMark y e ∧ (∀ e0, (∀ k x, z = tyMark k x → e0 = k) → BMark y e0) ∧ q = (.slice (some (id, 0)) need need (some size), (h.put bk .dead).new id y) := by
  obtain ⟨tr, z, m, ro, hb, hq1⟩ := cells_some hq
  obtain ⟨h1, hq2⟩ := iff'_some.1 hq1
  clear hq hq1
  simp only [and'_eq, notB_eq, Bool.and_eq_true, Bool.not_eq_true'] at h1
  obtain ⟨⟨rfl, hone⟩, hfit⟩ := h1
  have hfz : ∀ k x, z = tyMark k x → e = k ∧ x = false := fun k x hz => by subst hz; exact fitsZ_mark hfit
  refine ⟨tr, z, m, ?_⟩
  cases hc : and' (Nat.beq off 0) (Nat.beq (len * size) m) with
  | true =>
    have hq : (Bool.rec (motive := fun _ => Option (AV × Heap)) _ (some (.slice (some (id, 0)) need need (some size), (h.put bk .dead).new id (.cells (fillC vs tr m) z (m + n * size) false))) (and' (Nat.beq off 0) (Nat.beq (len * size) m)) : Option (AV × Heap)) = some q := hq2
    rw [hc] at hq
    simp only [and'_eq, Bool.and_eq_true] at hc
    obtain ⟨h0, hm⟩ := hc
    obtain rfl := Nat.eq_of_beq_eq_true h0
    have hm := Nat.eq_of_beq_eq_true hm
    cases hq
    refine ⟨_, hb, hone, by omega, ⟨_, _, by rw [hm, hn], fun i hi => ?_, fun i hi => ?_⟩, fun t z' n' ro' hy k x hz => ?_, fun e0 h0 t z' n' ro' hy k x hz => ?_, rfl⟩
    · unfold cellAt
      rw [gt_fillC, if_neg (by omega), Nat.zero_add]
    · unfold cellAt
      rw [gt_fillC, if_pos (by omega), show len * size + i - m = i by omega, List.getElem?_eq_getElem hi]
    · cases hy; exact hfz k x hz
    · cases hy; exact ⟨h0 k x hz, (hfz k x hz).2⟩
  | false =>
    have hq : (Bool.rec (motive := fun _ => Option (AV × Heap)) (Option.rec (motive := fun _ => Option (AV × Heap)) none (fun old => appNew size need (zKeep z) id (h.put bk .dead) (app' old vs)) (h.ld bk off (len * size))) _ (and' (Nat.beq off 0) (Nat.beq (len * size) m)) : Option (AV × Heap)) = some q := hq2
    rw [hc] at hq
    cases hl : h.ld bk off (len * size) with
    | none => rw [hl] at hq; cases hq
    | some old =>
      rw [hl] at hq
      obtain ⟨_, rfl⟩ := appNew_some hq
      obtain ⟨h2, h3, h4⟩ := Onto.row (vs := vs) (z0 := zKeep z) hl hb
      refine ⟨_, hb, hone, h2, h4, fun t z' n' ro' hy k x hz => ?_, fun e0 h0 t z' n' ro' hy k x hz => ?_, by rw [app'_eq]⟩
      · cases hy; exact hfz k x (zKeep_mark hz)
      · cases hy; exact ⟨h0 k x (zKeep_mark hz), (hfz k x (zKeep_mark hz)).2⟩
theorem Onto.lies (hr : HR P keep ρ h w) {y : Blk} {tr : Tr AV} {z : List AV} {off L m bk : Nat} {vs : List AV} {cvs : List Value} {ro : Bool} (hy : Onto y tr z off L vs) (hb : h.bs.gt bk = some (.cells tr z m ro)) (hle : off + L ≤ m)
    (hv : VRs ρ vs cvs) (hone : allOne vs = true) {p : Pl} (hp : ρ bk = some p) {row : Array Value} {o : Nat} (hold : ∀ i u, i < L → w.cell? ⟨p.blk, p.off + off + i, none⟩ = some u → row[o + i]? = some u) (hnew : ∀ i, i < vs.length → row[o + L + i]? = cvs[i]?) :
    Row ρ y (L + vs.length) row o := by
  obtain ⟨t', z', rfl, h1, h2⟩ := hy
  rw [allOne_eq, List.all_eq_true] at hone
  refine ⟨t', z', rfl, fun i hi => ?_⟩
  by_cases hlt : i < L
  · obtain ⟨p', v, cv, hp', g1, g2, g3, g4⟩ := hr.cell hb (i := off + i) (by omega)
    rw [hp] at hp'; cases hp'
    refine ⟨v, cv, by rw [h1 i hlt]; exact g1, g2, hold i cv hlt (by rw [← g3]; congr 2; omega), g4⟩
  · obtain ⟨j, rfl⟩ : ∃ j, i = L + j := ⟨i - L, by omega⟩
    have hj : j < vs.length := by omega
    obtain ⟨u, g1, g2⟩ := hv.get j vs[j] (List.getElem?_eq_getElem hj)
    refine ⟨vs[j], u, by rw [h2 j hj]; exact List.getElem?_eq_getElem hj, hone _ (List.getElem_mem hj), by rw [← Nat.add_assoc, hnew j hj, g1], g2⟩
theorem run_oldCells (hr : HR P keep ρ h w) {tr : Tr AV} {z : List AV} {off L m bk : Nat} {ro : Bool} (hb : h.bs.gt bk = some (.cells tr z m ro)) (hle : off + L ≤ m) {p : Pl} (hp : ρ bk = some p) :
    ∃ cs : List Value, cs.length = L ∧ (loadCells ⟨p.blk, p.off + off, none⟩ L).run P w = .ok cs.toArray w ∧ ∀ i u, i < L → w.cell? ⟨p.blk, p.off + off + i, none⟩ = some u → cs[i]? = some u := by
  obtain ⟨p', c, e, fz, hp', hh, hs, hpm, hv, _⟩ := hr.blk _ _ hb
  rw [hp] at hp'; cases hp'
  have hget : ∀ i, i < L → (c.extract (p.off + off) (p.off + off + L)).toList[i]? = c[p.off + off + i]? := fun i hi => by
    rw [Array.getElem?_toList, Array.getElem?_extract, if_pos (by omega)]
  have hlen : (c.extract (p.off + off) (p.off + off + L)).toList.length = L := by simp; omega
  refine ⟨(c.extract (p.off + off) (p.off + off + L)).toList, hlen, run_loadRun hlen (fun j u hj => ?_), fun i u hi hu => ?_⟩
  · have hjl : j < L := by rw [← hlen]; exact (List.getElem?_eq_some_iff.1 hj).1
    rw [add_addr, cell_of_heap hh, ← hget j hjl]; exact hj
  · rw [hget i hi, ← cell_of_heap hh]; exact hu
theorem app_over (hr : HR P keep ρ h w) {bk id m : Nat} {tr : Tr AV} {z : List AV} (hb : h.bs.gt bk = some (.cells tr z m false)) {p : Pl} (hp : ρ bk = some p) (hid : h.next ≤ id) {w' : World} {off : Nat} {y : Blk} {N : Nat}
    {row c : Array Value} {e : TypeId} {fz : Nat × Nat} (hh : w.heap[p.blk]? = some (.cells c e fz)) (hfz : ∀ i, i < p.size → ¬ (fz.1 ≤ i ∧ i < fz.2)) (hos : w'.os = w.os) (hout : w'.output = w.output) (hheap : w'.heap = w.heap.setIfInBounds p.blk (.cells row e fz))
    (hsz : row.size = p.size) (hN : p.off + off + N ≤ p.size) (hy : Row ρ y N row (p.off + off)) (hmk : BMark y e) :
    Post P keep ρ h w (ρ.up id ⟨p.blk, p.off + off, p.size⟩) ((h.put bk .dead).new id y) w' := by
  have hk := hr.kill hb
  have hlt : p.blk < w.heap.size := (Array.getElem?_eq_some_iff.1 hh).1
  have hold : ∀ k, k ≠ p.blk → w'.heap[k]? = w.heap[k]? := fun k hne => by rw [hheap, Array.getElem?_setIfInBounds, if_neg (fun e => hne e.symm)]
  have hid' : (h.put bk .dead).next ≤ id := hid
  obtain ⟨f1, f2⟩ := hk.hr.fresh hid'
  have hother : ∀ c z q, (h.put bk .dead).bs.gt c = some z → z.dead? = false → ρ c = some q → q.blk ≠ p.blk := fun c z q hz hd hq => by
    rw [put_get] at hz
    by_cases e : c = bk
    · rw [if_pos e] at hz; cases hz; cases hd
    · rw [if_neg e] at hz
      exact hr.inj c bk z _ q p hz hb hd rfl (.inr rfl) hq hp e
  have hown : Own ρ h p.blk := ⟨bk, _, p, hb, rfl, hp, rfl⟩
  have hownW : OwnW ρ h p.blk := ⟨bk, _, p, hb, rfl, hp, rfl⟩
  rw [new_eq hid']
  obtain ⟨t', z', rfl, hv⟩ := hy
  refine ⟨Pls.le_up f1, hk.hr.add f1 f2 (by omega) (by omega) hother (fun c z q hz hd hq => hold _ (hother c z q hz hd hq)) ?_, ⟨hos, hout, by rw [hheap]; simp, fun k _ ho => hold k fun e => ho (e ▸ hownW)⟩, fun k _ ho => ?_, by show h.next ≤ id + 1; omega, fun c q hc hlt => by unfold Pls.up at hc; rwa [if_neg (by omega)] at hc, fun k _ ho => ?_⟩
  · refine ⟨_, row, e, fz, Pls.up_same _ _ _, by rw [hheap, Array.getElem?_setIfInBounds, if_pos rfl, if_pos hlt], hsz, hN, fun i hi => ?_, fun _ => hfz, hmk.ok⟩
    obtain ⟨v, cv, h1, h2, h3, h4⟩ := hv i hi
    exact ⟨v, cv, h1, h2, h3, h4.mono (Pls.le_up f1)⟩
  · obtain ⟨c, z, q, hz, hzr, hq, rfl⟩ := ho
    simp only [Tr.gt_up] at hz
    by_cases e : c = id
    · subst e; rw [Pls.up_same] at hq; cases hq; exact hown
    · rw [if_neg e] at hz
      unfold Pls.up at hq; rw [if_neg e] at hq
      exact hk.own _ ‹_› ⟨c, z, q, hz, hzr, hq, rfl⟩
  · obtain ⟨c, z, q, hz, hzr, hq, rfl⟩ := ho
    simp only [Tr.gt_up] at hz
    by_cases e : c = id
    · subst e; rw [Pls.up_same] at hq; cases hq; exact hownW
    · rw [if_neg e] at hz
      unfold Pls.up at hq; rw [if_neg e] at hq
      exact hk.ownW _ ‹_› ⟨c, z, q, hz, hzr, hq, rfl⟩
theorem tSize_info {e : TypeId} {s : Nat} (hs : tSize P e = some s) : ∃ i, P.info? e = some i ∧ i.size = s := by
  unfold tSize at hs
  cases hi : P.info? e with
  | none => rw [hi] at hs; cases hs
  | some i => rw [hi] at hs; cases hs; exact ⟨i, rfl, rfl⟩
theorem room_fits {bs need c' : Nat} (hr : room bs need = true) (hc : c' < need) : ((need : Nat) : Int) ≤ 9223372036854775807 ∧ Builtin.nextslicecap need c' * bs ≤ 281474976710656 := by
  unfold room at hr
  simp only [and'_eq, Bool.and_eq_true] at hr
  have h1 := Nat.le_of_ble_eq_true hr.1
  have h2 := Nat.le_of_ble_eq_true hr.2
  have h1 : need * bs ≤ 68719476736 := h1
  have h2 : need ≤ 68719476736 := h2
  exact ⟨by omega, growslice_fits hc (by omega)⟩
theorem appendS_sound {t u ty : TypeId} {ts : Array TypeId} {du : TypeDesc} {id : Nat} {s x : AV} {q : AV × Heap} (ht : ts[0]? = some t) (ht1 : ts[1]? = some u) (hu1 : P.underlying u = some du) (hint : ∀ k, du ≠ .int k) (hid : h.next ≤ id)
    (hr : HR P keep ρ h w) (hq : appendS P t s x id h = some q) {a b : Value} (hs : VR ρ s a) (hx : VR ρ x b) : Does P keep w ρ h (Builtin.append_ ts ty #[a, b]) q.1 q.2 := by
  unfold appendS at hq
  cases hu : P.underlying t with
  | none => rw [hu] at hq; cases hq
  | some d =>
    rw [hu] at hq
    cases d with
    | slice e =>
      cases hsz : tSize P e with
      | none => simp only [hsz] at hq; cases hq
      | some size =>
        cases size with
        | zero => simp only [hsz] at hq; cases hq
        | succ k =>
          cases hbt : tBytes P e with
          | none => simp only [hsz, hbt] at hq; cases hq
          | some bs =>
            cases hz : tZero P e with
            | none => simp only [hsz, hbt, hz, Option.map_none] at hq; cases hq
            | some z =>
              simp only [hsz, hbt, hz, Option.map_some, Option.getD_some] at hq
              cases hzl : Nat.beq (len' z.cells) (k + 1) with
              | false => rw [hzl] at hq; cases hq
              | true =>
                rw [hzl] at hq
                obtain ⟨o, len, c, g, e0, hq0⟩ := eSlice_some hq
                subst e0
                clear hq
                cases hsrc : srcOf (k + 1) (fun n => n) x h with
                | none => rw [hsrc] at hq0; cases hq0
                | some src =>
                  rw [hsrc] at hq0
                  obtain ⟨hc, hq1⟩ := iff'_some.1 hq0
                  clear hq0
                  simp only [and'_eq, Bool.and_eq_true] at hc
                  obtain ⟨hroom, hlen⟩ := hc
                  have hlen : src.1.length = src.2 * (k + 1) := by have := Nat.eq_of_beq_eq_true hlen; rw [len'_eq] at this; exact this
                  have hzl : z.cells.length = k + 1 := by have := Nat.eq_of_beq_eq_true hzl; rwa [len'_eq] at this
                  obtain ⟨n, cs, g1, g2, g3, g4⟩ := srcOf_sound hr hsrc hx (fun n => Nat.le_refl _)
                  have g3' := g3 w.drew rfl
                  replace g3 := g3 w rfl
                  rw [g2] at hlen hroom hq1
                  have hcl := g4.length
                  obtain ⟨inf, hi, his⟩ := tSize_info hsz
                  have hzv : ∃ zv, inf.zero = some zv ∧ VR ρ z zv := by
                    unfold tZero at hz
                    rw [hi] at hz
                    simp only [Option.bind_some] at hz
                    cases hiz : inf.zero with
                    | none => rw [hiz] at hz; cases hz
                    | some zv => rw [hiz] at hz; exact ⟨zv, rfl, VR.const ρ _ _ hz⟩
                  obtain ⟨zv, hiz, vz⟩ := hzv
                  have hib : inf.bytes = bs := by unfold tBytes at hbt; rw [hi] at hbt; simpa using hbt
                  have hzc : zv.cells.size = k + 1 := by have := vz.cells.length; rw [hzl] at this; simpa using this.symm
                  have hout : ∀ {base : Option Addr} {c' : Nat} {co : Array Value}, (Builtin.firstCells (k + 1) len (.slice base len c')).run P w.drew = .ok co w.drew → c' < len + n →
                      (Builtin.append_ ts ty #[.slice base len c', b]).run P w =
                        .ok (.slice (some ⟨w.heap.size, 0, none⟩) (len + n) (grownCap w (len + n) c' e)) (w.drew.alloc (.cells (co ++ cs ++ Builtin.zeroCells zv.cells (grownCap w (len + n) c' e - (len + n))) e)) := by
                    intro base c' co ho hlt
                    obtain ⟨r1, r2⟩ := room_fits hroom hlt
                    exact run_append_out ht hu hi hiz ht1 hu1 hint g1 (by rw [his]; exact g3') (by rw [his]; exact ho) (by omega) r1 (by rw [hib]; exact r2)
                  have hcs : cs.size = n * (k + 1) := by rw [← hlen]; simpa using hcl.symm
                  have hrowsz : ∀ {co : Array Value} {c' : Nat}, co.size = len * (k + 1) → c' < len + n → (co ++ cs ++ Builtin.zeroCells zv.cells (grownCap w (len + n) c' e - (len + n))).size = grownCap w (len + n) c' e * (k + 1) := by
                    intro co c' hco hlt
                    have := le_grownCap (w := w) (e := e) hlt
                    simp only [Array.size_append, hco, hcs, Builtin.zeroCells, Array.size_map, Array.size_range, hzc]
                    rw [← Nat.add_mul, ← Nat.add_mul]
                    congr 1; omega
                  cases n with
                  | zero =>
                    cases hq1
                    rw [Nat.zero_mul] at hcs
                    have hnil : cs.toList = [] := by simpa using hcs
                    have hin : ∀ {base : Option Addr} {c' : Nat}, len ≤ c' → (Builtin.append_ ts ty #[.slice base len c', b]).run P w = .ok (.slice base len c') w := by
                      intro base c' hle
                      refine run_append_in ht hu hsz ht1 hu1 hint g1 g3 (by omega) ?_
                      cases base with
                      | none => rfl
                      | some a => rw [hnil]; rfl
                    refine ⟨ρ, a, w, ?_, hs, Post.refl hr⟩
                    cases o with
                    | none => obtain ⟨rfl, rfl, _, rfl⟩ := hs; exact hin (Nat.le_refl _)
                    | some p0 => obtain ⟨p, a', c', _, rfl, h1, _⟩ := hs; exact hin h1
                  | succ n =>
                    have hq2 : appAt (k + 1) e o len c g id h src.1 (n + 1) = some q := hq1
                    clear hq1
                    cases o with
                    | none =>
                      obtain ⟨rfl, rfl, _, rfl⟩ := hs
                      obtain ⟨_, hq3⟩ := iff'_some.1 (show iff' (Nat.beq 0 0) (appNew (k + 1) (n + 1) (tyMark e false) id h src.1) = some q from hq2)
                      obtain ⟨hone, rfl⟩ := appNew_some hq3
                      have hgc := le_grownCap (w := w) (e := e) (show 0 < 0 + (n + 1) by omega)
                      obtain ⟨hpost, hval⟩ := app_row (e := e) hr hid (y := .cells (fillC src.1 .leaf 0) (tyMark e false) (len' src.1) false) (N := src.1.length) (row := #[] ++ cs ++ Builtin.zeroCells zv.cells (grownCap w (0 + (n + 1)) 0 e - (0 + (n + 1)))) (need := 0 + (n + 1)) (cap := grownCap w (0 + (n + 1)) 0 e) (size := k + 1)
                        (Row.of g4 hone fun i hi => by
                          have : i < cs.size := by have := hcl; simp at this; omega
                          simp only [Array.empty_append, Nat.zero_add, Array.getElem?_append_left this, Array.getElem?_toList]) bmark_new hgc (by simp only [Array.size_append, hcs, hlen]; simp) (hrowsz (by simp) (by omega))
                      refine ⟨_, _, _, hout rfl (by omega), ?_, hpost⟩
                      simpa using hval
                    | some p0 =>
                      obtain ⟨bk, off⟩ := p0
                      obtain ⟨p, a', c', hp, rfl, hle, hcle, hg, hes, ha⟩ := hs
                      have hold : ∀ {tr : Tr AV} {zz : List AV} {m : Nat} {ro : Bool}, h.bs.gt bk = some (.cells tr zz m ro) → off + len * (k + 1) ≤ m →
                          ∃ co : Array Value, (Builtin.firstCells (k + 1) len (.slice (some a') len c')).run P w.drew = .ok co w.drew ∧ co.size = len * (k + 1) ∧ ∀ i u, i < len * (k + 1) → w.cell? ⟨p.blk, p.off + off + i, none⟩ = some u → co[i]? = some u := by
                        intro tr zz m ro hb hm
                        obtain ⟨co, o1, o2, o3⟩ := run_oldCells (w := w.drew) hr.drew hb hm hp
                        refine ⟨co.toArray, ?_, by simpa using o1, fun i u hi hu => by simpa using o3 i u hi hu⟩
                        by_cases hc0 : c' = 0
                        · obtain rfl : len = 0 := by omega
                          rw [Nat.zero_mul] at o1
                          obtain rfl : co = [] := List.length_eq_zero_iff.1 o1
                          simp only [Builtin.firstCells, Nat.zero_mul]; rfl
                        · rw [ha hc0]; exact o2
                      have hnewrow : ∀ (co rest : Array Value) (i : Nat), co.size = len * (k + 1) → i < src.1.length → (co ++ cs ++ rest)[0 + len * (k + 1) + i]? = cs.toList[i]? := by
                        intro co rest i hco hi
                        have : i < cs.size := by omega
                        rw [Array.getElem?_append_left (by simp only [Array.size_append]; omega), Array.getElem?_append_right (by omega), Array.getElem?_toList]
                        congr 1; omega
                      have holdrow : ∀ (co rest : Array Value) (i : Nat) (u : Value), co.size = len * (k + 1) → i < len * (k + 1) → co[i]? = some u → (co ++ cs ++ rest)[0 + i]? = some u := by
                        intro co rest i u hco hi hu
                        rw [Array.getElem?_append_left (by simp only [Array.size_append]; omega), Array.getElem?_append_left (by omega), Nat.zero_add]
                        exact hu
                      have hmul : (len + (n + 1)) * (k + 1) = len * (k + 1) + (n + 1) * (k + 1) := Nat.add_mul _ _ _
                      have hq2 : (Bool.rec (motive := fun _ => Option (AV × Heap))
                          (Option.rec (motive := fun _ => Option (AV × Heap))
                            (Option.rec (motive := fun _ => Option (AV × Heap)) none (fun old => appNew (k + 1) (len + (n + 1)) (tyMark e false) id h (app' old src.1)) (h.ld bk off (len * (k + 1))))
                            (fun es => iff' (Nat.beq es (k + 1)) (appDead (k + 1) (len + (n + 1)) e off len (n + 1) src.1 bk id h)) g)
                          (stoAs (.slice (some (bk, off)) (len + (n + 1)) c g) (h.sto bk (off + len * (k + 1)) src.1)) (Nat.ble (len + (n + 1)) c) : Option (AV × Heap)) = some q := hq2
                      cases hbl : Nat.ble (len + (n + 1)) c with
                      | true =>
                        rw [hbl] at hq2
                        obtain ⟨h', hst, rfl⟩ := stAs_some hq2
                        have hle2 := Nat.le_of_ble_eq_true hbl
                        obtain ⟨p', w', hp', hrun, hpost⟩ := hr.sto hst g4
                        rw [hp] at hp'; cases hp'
                        have ha' := ha (by omega)
                        subst ha'
                        refine ⟨ρ, _, w', run_append_in ht hu hsz ht1 hu1 hint g1 g3 (by omega) (w' := w') ?_, ⟨p, _, c', hp, rfl, by omega, hcle, hg, hes, ha⟩, hpost⟩
                        simp only [add_addr]
                        rw [Nat.add_assoc]; exact hrun
                      | false =>
                        rw [hbl] at hq2
                        cases g with
                        | none =>
                          have hcc := hg rfl
                          have hlt : c' < len + (n + 1) := by
                            rcases Nat.lt_or_ge c' (len + (n + 1)) with h1 | h1
                            · exact h1
                            · rw [hcc] at h1; rw [Nat.ble_eq_true_of_le h1] at hbl; cases hbl
                          cases hl : h.ld bk off (len * (k + 1)) with
                          | none => rw [hl] at hq2; cases hq2
                          | some old =>
                            rw [hl] at hq2
                            obtain ⟨hone2, rfl⟩ := appNew_some hq2
                            obtain ⟨tr, zz, m, ro, hb, _⟩ := ld_some hl
                            obtain ⟨hm, hol, honto⟩ := Onto.row (vs := src.1) (z0 := tyMark e false) hl hb
                            obtain ⟨co, o1, o2, o3⟩ := hold hb hm
                            have hone : allOne src.1 = true := by
                              rw [allOne_eq, app'_eq, List.all_append, Bool.and_eq_true] at hone2
                              rw [allOne_eq]; exact hone2.2
                            have hrow : Row ρ (.cells (fillC (old ++ src.1) .leaf 0) (tyMark e false) (len' (old ++ src.1)) false) (len * (k + 1) + src.1.length) (co ++ cs ++ Builtin.zeroCells zv.cells (grownCap w (len + (n + 1)) c' e - (len + (n + 1)))) 0 :=
                              honto.lies hr hb hm g4 hone hp (fun i u hi hu => holdrow co _ i u o2 hi (o3 i u hi hu)) (fun i hi => hnewrow co _ i o2 hi)
                            obtain ⟨hpost, hval⟩ := app_row (e := e) hr hid hrow bmark_new (need := len + (n + 1)) (cap := grownCap w (len + (n + 1)) c' e) (size := k + 1) (le_grownCap hlt)
                              (by simp only [Array.size_append, o2, hcs, hlen]; omega) (hrowsz o2 hlt)
                            refine ⟨_, _, _, hout o1 hlt, hval, ?_⟩
                            rw [app'_eq]; exact hpost
                        | some es =>
                          obtain ⟨he, hq3⟩ := iff'_some.1 (show iff' (Nat.beq es (k + 1)) (appDead (k + 1) (len + (n + 1)) e off len (n + 1) src.1 bk id h) = some q from hq2)
                          obtain rfl := Nat.eq_of_beq_eq_true he
                          obtain ⟨tr, zz, m, y, hb, hone, hm, honto, hbm, hbm0, rfl⟩ := appDead_some hq3 hlen
                          have hcap := hes _ rfl
                          by_cases hin : len + (n + 1) ≤ c'
                          · obtain ⟨p', ca, ce, fz, hp', hh, hsz', hpm, hval, hfz⟩ := hr.blk _ _ hb
                            rw [hp] at hp'; cases hp'
                            have ha' := ha (by omega)
                            subst ha'
                            have hmul2 : (len + (n + 1)) * (k + 1) ≤ c' * (k + 1) := Nat.mul_le_mul_right _ hin
                            have hone' : ∀ u ∈ cs.toList, u.oneCell' = true := fun u hu => by
                              obtain ⟨i, hi⟩ := List.getElem?_of_mem hu
                              have hlt : i < src.1.length := by rw [hcl]; exact (List.getElem?_eq_some_iff.1 hi).1
                              obtain ⟨u', h1, h2⟩ := g4.get i src.1[i] (List.getElem?_eq_getElem hlt)
                              rw [hi] at h1; cases h1
                              rw [allOne_eq, List.all_eq_true] at hone
                              exact h2.one (hone _ (List.getElem_mem hlt))
                            obtain ⟨w', hrun, hos, hou, hheap⟩ := run_storeRun P (k := p.blk) (base := p.off + off + len * (k + 1)) cs.toList 0 w ca hh (by rw [← hcl, hlen, hsz']; omega) hone' (by rw [hsz']; exact hfz.1 rfl)
                            rw [Nat.add_zero] at hheap
                            have hsum : p.off + off + len * (k + 1) + cs.toList.length ≤ ca.size := by rw [← hcl, hlen, hsz']; omega
                            have hrow : Row ρ y (len * (k + 1) + src.1.length) (putRun ca (p.off + off + len * (k + 1)) cs.toList) (p.off + off) := by
                              refine honto.lies hr hb hm g4 hone hp (fun i u hi hu => ?_) (fun i hi => ?_)
                              · rw [putRun_get _ _ _ _ hsum, if_neg (by omega), ← cell_of_heap hh]; exact hu
                              · rw [putRun_get _ _ _ _ hsum, if_pos (by omega)]
                                congr 1; omega
                            refine ⟨_, _, w', run_append_in ht hu hsz ht1 hu1 hint g1 g3 hin (w' := w') ?_, ?_, app_over hr hb hp hid hh (hfz.1 rfl) hos hou hheap (by rw [putRun_size, hsz']) (by rw [hlen]; omega) hrow (hbm0 _ fun k x hz => (hfz.2 k x hz).1)⟩
                            · simp only [add_addr]; exact hrun
                            · exact ⟨_, _, c', Pls.up_same _ _ _, rfl, hin, hin, (fun e => by cases e), (fun es e => by cases e; exact hcap), fun _ => rfl⟩
                          · have hlt : c' < len + (n + 1) := by omega
                            obtain ⟨co, o1, o2, o3⟩ := hold hb hm
                            have hk := hr.kill hb
                            have hrow : Row ρ y (len * (k + 1) + src.1.length) (co ++ cs ++ Builtin.zeroCells zv.cells (grownCap w (len + (n + 1)) c' e - (len + (n + 1)))) 0 :=
                              honto.lies hr hb hm g4 hone hp (fun i u hi hu => holdrow co _ i u o2 hi (o3 i u hi hu)) (fun i hi => hnewrow co _ i o2 hi)
                            obtain ⟨hpost, hval⟩ := app_row (e := e) hk.hr (id := id) hid hrow hbm (need := len + (n + 1)) (cap := grownCap w (len + (n + 1)) c' e) (size := k + 1) (le_grownCap hlt)
                              (by simp only [Array.size_append, o2, hcs, hlen]; omega) (hrowsz o2 hlt)
                            exact ⟨_, _, _, hout o1 hlt, hval, hk.trans hpost⟩
    | _ => cases hq
end
end Go.Am

namespace Go.Am
section
variable {P : Program} {keep : Keeps} {w : World} {ρ : Pls} {h : Heap}
theorem markOf_some {z : List AV} {t : Nat} {x : Bool} (hz : markOf z = some (t, x)) : z = tyMark t x := by
  unfold markOf at hz
  split at hz
  · cases hz; rfl
  · cases hz
theorem sliceData_sound {v r : AV} {a : Value} {ts : Array TypeId} {ty : TypeId} (hr : sliceData v = some r) (hv : VR ρ v a) : Gives P w ρ (Builtin.unsafeSliceData_ ts ty #[a]) r := by
  cases v with
  | slice o n c g =>
    cases o with
    | none =>
      cases hr
      obtain ⟨rfl, rfl, _, rfl⟩ := hv
      exact ⟨_, rfl, rfl⟩
    | some p0 =>
      obtain ⟨b, o⟩ := p0
      simp only [sliceData] at hr
      split at hr
      · cases hr
      · rename_i hne
        cases hr
        obtain ⟨p, a', c', hp, rfl, h1, h2, _, _, h5⟩ := hv
        have hc : c' ≠ 0 := by omega
        refine ⟨_, Lib.run_unsafeSliceData_row w ts ty a' n c' hc, p, hp, ?_⟩
        rw [h5 hc]
  | _ => cases hr
theorem HR.freeze (hr : HR P keep ρ h w) {b : Nat} {t : Tr AV} {z : List AV} {m : Nat} {ro : Bool} (hb : h.bs.gt b = some (.cells t z m ro)) (hmk : (markOf z).isNone = false) {p : Pl} (hp : ρ b = some p) (o n : Nat) :
    Post P keep ρ h w ρ (h.put b (.cells t z m true)) (w.freeze ⟨p.blk, o, none⟩ n) := by
  have hos : (w.freeze ⟨p.blk, o, none⟩ n).os = w.os := by unfold World.freeze; split <;> rfl
  have hout : (w.freeze ⟨p.blk, o, none⟩ n).output = w.output := by unfold World.freeze; split <;> rfl
  have hsz : (w.freeze ⟨p.blk, o, none⟩ n).heap.size = w.heap.size := by unfold World.freeze; split <;> simp
  have hsame : ∀ k, k ≠ p.blk → (w.freeze ⟨p.blk, o, none⟩ n).heap[k]? = w.heap[k]? := fun k hk => by
    unfold World.freeze
    split
    · rfl
    · simp only [Array.getElem?_modify]
      rw [if_neg (fun e => hk e.symm)]
  have hcells : ∀ c e fz, w.heap[p.blk]? = some (.cells c e fz) → ∃ fz', (w.freeze ⟨p.blk, o, none⟩ n).heap[p.blk]? = some (.cells c e fz') := fun c e fz hc => by
    unfold World.freeze
    split
    · exact ⟨fz, hc⟩
    · refine ⟨if fz.1 == fz.2 then (o, o + n) else (min fz.1 o, max fz.2 (o + n)), ?_⟩
      simp only [Array.getElem?_modify, if_pos, hc, Option.map_some]
  have hget : ∀ c, (h.put b (.cells t z m true)).bs.gt c = if c = b then some (.cells t z m true) else h.bs.gt c := fun c => Tr.gt_up _ _ _ _
  have hbr := hr.blk _ _ hb
  obtain ⟨p0, c, e, fz, hp0, hc, hcs, hn, hv, hf⟩ := hbr
  rw [hp] at hp0; cases hp0
  have hlt : p.blk < w.heap.size := (Array.getElem?_eq_some_iff.1 hc).1
  have hown : Own ρ h p.blk := ⟨b, _, p, hb, rfl, hp, rfl⟩
  have hfx : ∀ r, (Blk.cells t z m r).fixed = false := fun r => by show (r && (markOf z).isNone) = false; rw [hmk, Bool.and_false]
  have hownW : OwnW ρ h p.blk := ⟨b, _, p, hb, hfx _, hp, rfl⟩
  refine ⟨Pls.le_refl _, ⟨hr.dom, fun c' x hx => ?_, fun c' x hx => ?_, fun c1 c2 x1 x2 q1 q2 h1 h2 d1 d2 hro hq1 hq2 hne => ?_⟩, ⟨hos, hout, by omega, fun k _ ho => hsame k fun e => ho (e ▸ hownW)⟩, fun k _ ho => ?_, Nat.le_refl _, fun _ _ h _ => h, fun k _ ho => ?_⟩
  · rw [hget] at hx
    by_cases e : c' = b
    · subst e; exact hr.has _ _ hb
    · rw [if_neg e] at hx; exact hr.has _ _ hx
  · rw [hget] at hx
    by_cases e1 : c' = b
    · subst e1
      rw [if_pos rfl] at hx; cases hx
      obtain ⟨fz', hfz'⟩ := hcells c e fz hc
      exact ⟨p, c, e, fz', hp, hfz', hcs, hn, hv, (fun e => by cases e), hf.2⟩
    · rw [if_neg e1] at hx
      by_cases hq : ∃ q, ρ c' = some q ∧ q.blk = p.blk ∧ x.dead? = false
      · obtain ⟨q, hq1, hq2, hq3⟩ := hq
        -- another block at the same place: both may be read only
        have hxro : x.ro = true := by
          cases hx2 : x.ro with
          | true => rfl
          | false => exact absurd hq2 (hr.inj c' b x _ q p hx hb hq3 rfl (.inl hx2) hq1 hp e1)
        have hbx := hr.blk _ _ hx
        cases x with
        | cells t1 z1 m1 ro1 =>
          obtain ⟨p1, c1, e1', fz1, hp1, hc1, g1, g2, g3, g4⟩ := hbx
          rw [hq1] at hp1; cases hp1
          rw [hq2, hc] at hc1; cases hc1
          obtain ⟨fz', hfz'⟩ := hcells c e fz hc
          exact ⟨q, c, e, fz', hq1, by rw [hq2]; exact hfz', g1, g2, g3, (fun e => by cases (show ro1 = true from hxro).symm.trans e), g4.2⟩
        | dead => cases hq3
        | map _ _ => cases hxro
        | siter _ _ => cases hxro
        | loop _ => cases hxro
      · exact (hr.blk _ _ hx).frame fun q hd hqq => hsame _ fun e => hq ⟨q, hqq, e, hd⟩
  · have fix : ∀ c0 x0, (h.put b (.cells t z m true)).bs.gt c0 = some x0 → x0.dead? = false → ∃ x', h.bs.gt c0 = some x' ∧ x'.dead? = false ∧ (x0.ro = false → x'.ro = false) := by
      intro c0 x0 hx0 hd0
      rw [hget] at hx0
      by_cases e : c0 = b
      · subst e; rw [if_pos rfl] at hx0; cases hx0; exact ⟨_, hb, rfl, fun e => by cases e⟩
      · rw [if_neg e] at hx0; exact ⟨x0, hx0, hd0, id⟩
    obtain ⟨y1, a1, a2, a3⟩ := fix _ _ h1 d1
    obtain ⟨y2, b1, b2, b3⟩ := fix _ _ h2 d2
    exact hr.inj c1 c2 y1 y2 q1 q2 a1 b1 a2 b2 (hro.imp a3 b3) hq1 hq2 hne
  · obtain ⟨c0, x0, q, hx, hd, hq, rfl⟩ := ho
    rw [hget] at hx
    by_cases e : c0 = b
    · subst e; rw [hp] at hq; cases hq; exact hown
    · rw [if_neg e] at hx; exact ⟨c0, x0, q, hx, hd, hq, rfl⟩
  · obtain ⟨c0, x0, q, hx, hd, hq, rfl⟩ := ho
    rw [hget] at hx
    by_cases e : c0 = b
    · subst e; rw [hp] at hq; cases hq; exact hownW
    · rw [if_neg e] at hx; exact ⟨c0, x0, q, hx, hd, hq, rfl⟩
theorem rowAt_off {fits : TypeId → Bool} {d e count off n : Nat} (hc : P.cellsOf e = 1) (hf : fits e = true) (hn : off + n ≤ count) : Go.rowAt P fits (d + 1) e count off n = true := by
  simp only [Go.rowAt, hc]
  simp [hf, Nat.mod_one, hn]
theorem liesAt_off {e count off n : Nat} (hc : P.cellsOf e = 1) (hn : off + n ≤ count) : liesAt P P.depth e count off e n = true := by
  have hd : P.depth = (2 * (P.types.size + Made.depth) + 1) + 1 := rfl
  rw [hd]
  simp only [liesAt, Bool.or_eq_true]
  left
  rw [hd]
  exact rowAt_off hc (by simp [sameLayout]) hn
theorem byteVal {v : AV} {c : Nat} (hv : theByte v = some c) : v = .int .u8 (Int.ofNat c) ∧ c ≤ 255 := by
  obtain ⟨k, n, rfl, h1⟩ := eInt_some hv
  obtain ⟨h2, h3⟩ := iff'_some.1 h1
  have hk : k = .u8 := by cases k <;> first | rfl | cases h2
  subst hk
  cases n with
  | ofNat m =>
    obtain ⟨h4, h5⟩ := iff'_some.1 (show iff' (Nat.ble m 255) (some m) = some c from h3)
    cases h5
    exact ⟨rfl, Nat.le_of_ble_eq_true h4⟩
  | negSucc m => cases h3
theorem bytesOf_some : ∀ {vs : List AV} {l : List Nat}, bytesOf vs = some l → ∃ bs : List UInt8, l = bs.map (·.toNat) ∧ vs = bs.map fun b => .int .u8 (b.toNat : Int)
  | [], l, h => by cases h; exact ⟨[], rfl, rfl⟩
  | v :: vs, l, h => by
    have h : ob (theByte v) (fun c => ob (bytesOf vs) fun l => some (c :: l)) = some l := h
    obtain ⟨c, h1, h2⟩ := ob_some.1 h
    obtain ⟨l', h3, h4⟩ := ob_some.1 h2
    cases h4
    obtain ⟨rfl, hc⟩ := byteVal h1
    obtain ⟨bs, rfl, rfl⟩ := bytesOf_some h3
    refine ⟨UInt8.ofNat c :: bs, ?_, ?_⟩
    · simp only [List.map_cons, List.cons.injEq, and_true]
      rw [UInt8.toNat_ofNat']; omega
    · simp only [List.map_cons, List.cons.injEq, and_true]
      rw [UInt8.toNat_ofNat', Nat.mod_eq_of_lt (by omega)]; rfl
theorem strAt_sound {t e ty : TypeId} {ts : Array TypeId} (ht : ts[0]? = some t) (hu : P.underlying t = some (.pointer e)) (hs : tSize P e = some 1) (hr : HR P keep ρ h w) {x n : AV} {q : AV × Heap} (hq : strAt e h x n = some q) {a b : Value} (hx : VR ρ x a) (hn : VR ρ n b) :
    Does P keep w ρ h (Builtin.unsafeString_ ts ty #[a, b]) q.1 q.2 := by
  obtain ⟨k, n, rfl, h1⟩ := eInt_some hq
  cases hn
  have hmax : IntKind.i64.max = 9223372036854775807 := rfl
  have hdef : ∀ (p : Option Addr) (n : Int), (Builtin.unsafeString_ ts ty #[.pointer p, .int k n]) =
      (do
        let n ← asInt (.int k n)
        let some pt := ts[0]? | stuck "unsafe.String: no argument types"
        if n < 0 then runtimePanic (.error "unsafe.String: len out of range")
        if n > IntKind.i64.max then unsupported (.unsafePointer "String: a length above the largest int")
        match p with
        | none =>
          if n = 0 then pure (.string .empty)
          else runtimePanic (.error "unsafe.String: ptr is nil and len is not zero")
        | some a =>
          if n = 0 then pure (.string .empty)
          else if ← variablesAt a (← elemOf pt) n.toNat then do
            let s ← loadBytes a .empty n.toNat
            freeze a n.toNat
            pure (.string s)
          else unsupported (.unsafePointer "String: not so many bytes at ptr")) := fun p n => rfl
  cases n with
  | negSucc n => cases h1
  | ofNat n =>
    cases n with
    | zero =>
      cases x with
      | ptr p =>
        cases h1
        have : ∃ p', a = .pointer p' := by
          cases p with
          | none => cases hx; exact ⟨_, rfl⟩
          | some p => obtain ⟨b0, o0⟩ := p; obtain ⟨p', _, rfl⟩ := hx; exact ⟨_, rfl⟩
        obtain ⟨p', rfl⟩ := this
        refine ⟨ρ, .string .empty, w, ?_, ⟨.empty, rfl, rfl⟩, Post.refl hr⟩
        rw [hdef]
        cases p' <;> simp [asInt, asIntOf, hmax, ht]
      | _ => cases h1
    | succ n =>
      obtain ⟨bk, o, rfl, h2⟩ := ePtr_some h1
      obtain ⟨h3, h4⟩ := iff'_some.1 h2
      have h3 : n + 1 ≤ 1099511627776 := Nat.le_of_ble_eq_true h3
      obtain ⟨tr, z, m, ro, hb, h5⟩ := cells_some h4
      cases hmk : markOf z with
      | none => simp only [hmk] at h5; cases h5
      | some ex =>
        obtain ⟨e', x'⟩ := ex
        simp only [hmk] at h5
        split at h5
        · rename_i he
          subst he
          obtain ⟨h6, h7⟩ := iff'_some.1 h5
          have h6 := Nat.le_of_ble_eq_true h6
          have h6 : o + (n + 1) ≤ m := h6
          obtain ⟨vs, h8, h9⟩ := ob_some.1 h7
          obtain ⟨l, h10, h11⟩ := ob_some.1 h9
          cases h11
          obtain ⟨bs, rfl, rfl⟩ := bytesOf_some h10
          obtain ⟨hlen, hget⟩ := loadC_some h8
          rw [List.length_map] at hlen
          obtain ⟨p, hp, rfl⟩ := hx
          obtain ⟨p0, c, e0, fz, hp0, hc, hcs, hpm, hval, hf⟩ := hr.blk _ _ hb
          rw [hp] at hp0; cases hp0
          obtain ⟨rfl, _⟩ := hf.2 _ _ (markOf_some hmk)
          have hcell : ∀ j (x : UInt8), bs[j]? = some x → w.cell? ((⟨p.blk, p.off + o, none⟩ : Addr).add j) = some (.int .u8 x.toNat) := fun j x hj => by
            have hjl : j < bs.length := (List.getElem?_eq_some_iff.1 hj).1
            obtain ⟨v, cv, g1, g2, g3, g4⟩ := hval (o + j) (by omega)
            rw [hget j (by omega), List.getElem?_map, hj] at g1
            cases g1
            rw [add_addr, cell_of_heap hc, Nat.add_assoc, g3]
            exact congrArg some g4
          have hsh : w.shape? p.blk = some (e0, p.size) := by simp [World.shape?, hc, hcs]
          have hce : P.cellsOf e0 = 1 := by
            unfold tSize at hs
            simp only [Program.cellsOf]
            cases hi : P.info? e0 with
            | none => rw [hi] at hs; cases hs
            | some i => rw [hi] at hs; simpa using hs
          have hlies := liesAt_off (P := P) (e := e0) (count := p.size / P.cellsOf e0) (off := p.off + o) (n := n + 1) hce (by rw [hce, Nat.div_one]; omega)
          have hno : o + (n + 1) ≤ p.size - p.off := by omega
          have hlb := Lib.run_loadBytes (P := P) w bs ⟨p.blk, p.off + o, none⟩ .empty hcell
          rw [hlen] at hlb
          refine ⟨ρ, .string ⟨bs.toArray⟩, w.freeze ⟨p.blk, p.off + o, none⟩ (n + 1), ?_, ⟨_, rfl, by simp⟩, hr.freeze hb (by rw [hmk]; rfl) hp _ _⟩
          rw [hdef]
          have hneg : ¬ (Int.ofNat (n + 1)) < 0 := by simp only [Int.ofNat_eq_natCast]; omega
          have h63 : ¬ (9223372036854775807 : Int) < Int.ofNat (n + 1) := by simp only [Int.ofNat_eq_natCast]; omega
          have hne : ¬ (Int.ofNat (n + 1)) = 0 := by simp only [Int.ofNat_eq_natCast]; omega
          have ht' : (Int.ofNat (n + 1)).toNat = n + 1 := rfl
          simp only [asInt, asIntOf, Sem.run_bind, Sem.run_pure, Result.andThen_ok, ht, hmax, hneg, h63, hne, if_false, ht', variablesAt, elemOf, run_underlying hu]
          simp [hsh, hlies, hlb]
        · cases h5
theorem toUnsafe_sound {s d t : TypeId} (hsu : P.underlying s = some (.pointer t)) (hdu : P.underlying d = some .unsafePointer) (hr : HR P keep ρ h w) {v r : AV} (hf : toUnsafe P t h v = some r) {a : Value} (hv : VR ρ v a) : Gives P w ρ (convert s d a) r := by
  unfold toUnsafe at hf
  split at hf
  · rename_i n b o hsz
    obtain ⟨tr, z, m, ro, hb, h1⟩ := cells_some hf
    obtain ⟨h2, h3⟩ := iff'_some.1 h1
    cases h3
    have h2 : o < m := Nat.le_of_ble_eq_true h2
    have hv' := hv
    obtain ⟨p, hp, rfl⟩ := hv
    obtain ⟨p0, c, e0, fz, hp0, hc, hcs, hpm, hval, hf⟩ := hr.blk _ _ hb
    rw [hp] at hp0; cases hp0
    obtain ⟨i, hi, his⟩ := tSize_info hsz
    exact ⟨_, Lib.run_to_unsafe w ⟨p.blk, p.off + o, none⟩ hsu hdu hi (by omega) (e := e0) (cells := p.size) (by simp [World.shape?, hc, hcs]) (by show p.off + o < p.size; omega), hv'⟩
  · rename_i n hsz
    cases hf
    cases hv
    refine ⟨.pointer none, ?_, rfl⟩
    simp [convert, run_underlying hsu, run_underlying hdu, Conv.unsafePointer]
  · cases hf
theorem fromUnsafe_sound {s d u : TypeId} (hsu : P.underlying s = some .unsafePointer) (hdu : P.underlying d = some (.pointer u)) (hr : HR P keep ρ h w) {v r : AV} (hf : fromUnsafe P u h v = some r) {a : Value} (hv : VR ρ v a) : Gives P w ρ (convert s d a) r := by
  unfold fromUnsafe at hf
  split at hf
  · cases hf
    cases hv
    refine ⟨.pointer none, ?_, rfl⟩
    simp [convert, run_underlying hsu, run_underlying hdu, Conv.unsafePointer]
  · rename_i b o
    obtain ⟨tr, z, m, ro, hb, h1⟩ := cells_some hf
    split at h1
    · rename_i e hmk
      split at h1
      · rename_i hl
        cases h1
        rw [Bool.and_eq_true] at hl
        have hv' := hv
        obtain ⟨p, hp, rfl⟩ := hv
        obtain ⟨p0, c, e0, fz, hp0, hc, hcs, hpm, hval, hf⟩ := hr.blk _ _ hb
        rw [hp] at hp0; cases hp0
        obtain ⟨rfl, hx⟩ := hf.2 _ _ (markOf_some hmk)
        obtain ⟨h0, hsz⟩ := hx rfl
        cases hi : P.info? u with
        | none => rw [hi] at hl; cases hl.1
        | some i =>
          refine ⟨_, Lib.run_from_unsafe w ⟨p.blk, p.off + o, none⟩ hsu hdu hi (e := e0) (cells := p.size) (by simp [World.shape?, hc, hcs]) ?_, hv'⟩
          show liesAt P P.depth e0 (p.size / P.cellsOf e0) (p.off + o) u 1 = true
          rw [h0, hsz, Nat.zero_add]; exact hl.2
      · cases h1
    · cases h1
  · cases hf
theorem find_noEscape (fn : Func) (h : fn.name = "internal/abi.NoEscape") (ho : fn.origin = "") : Extern.findNext fn = none ∧ Extern.find fn = some Extern.AbiNoEscape.same := by
  cases fn
  simp only at h ho
  subst h ho
  exact ⟨by kernel_rfl, by kernel_rfl⟩
theorem find_indexByte (fn : Func) (h : fn.name = "internal/bytealg.IndexByteString") (ho : fn.origin = "") : Extern.findNext fn = none ∧ Extern.find fn = some Extern.BytealgIndexByte.indexByte := by
  cases fn
  simp only at h ho
  subst h ho
  exact ⟨by kernel_rfl, by kernel_rfl⟩
end
end Go.Am

namespace Go.Am
def EnvOk (find : Nat → Option Opd) (loc : List AV) (vs tm : Tr AV) (ρ : Pls) (a : Act) : Prop :=
  ∀ t x v, find t = some x → x.get loc vs tm = some v → VR ρ v (a.tmps.getD t undef)
section
variable {P : Program} {keep : Keeps} {w : World} {ρ : Pls} {h : Heap} {find : Nat → Option Opd} {loc : List AV} {vs tm : Tr AV} {a : Act}
theorem resolve_sound (he : EnvOk find loc vs tm ρ a) {x : Operand} {o : Opd} {v : AV} (hx : Am.resolve find x = some o) (hg : o.get loc vs tm = some v) : VR ρ v (a.eval x) := by
  cases x with
  | tmp t => exact he t o v hx hg
  | const c =>
    simp only [Am.resolve, Option.map_eq_some_iff] at hx
    obtain ⟨u, h1, rfl⟩ := hx
    cases hg
    exact VR.const ρ _ _ h1
  | global g => cases hx
  | func f => cases hx; cases hg; exact ⟨_, _, _, rfl, rfl, rfl, rfl⟩
theorem gets_cons (x : Opd) (xs : List Opd) : gets (x :: xs) loc vs tm = ob (x.get loc vs tm) fun v => ob (gets xs loc vs tm) fun us => some (v :: us) := rfl
theorem resolves_sound (he : EnvOk find loc vs tm ρ a) : ∀ {xs : List Operand} {os : List Opd} {us : List AV}, resolves find xs = some os → gets os loc vs tm = some us → VRs ρ us (xs.map a.eval)
  | [], os, us, hx, hg => by cases hx; cases hg; rfl
  | x :: xs, os, us, hx, hg => by
    simp only [resolves] at hx
    split at hx
    · rename_i o os' h1 h2
      cases hx
      rw [gets_cons] at hg
      obtain ⟨v, g1, g2⟩ := ob_some.1 hg
      obtain ⟨us', g3, g4⟩ := ob_some.1 g2
      cases g4
      exact ⟨_, _, rfl, resolve_sound he h1 g1, resolves_sound he h2 g3⟩
    · cases hx
def GivesN (P : Program) (w : World) (ρ : Pls) (s : Sem Next) (r : AV) : Prop := ∃ v, s.run P w = .ok (.value v) w ∧ VR ρ r v
def MakesN (P : Program) (keep : Keeps) (w : World) (ρ : Pls) (s : Sem Next) (r : Blk × (Nat → AV)) : Prop :=
  ∃ o sz v w', s.run P w = .ok (.value v) w' ∧ w'.os = w.os ∧ w'.output = w.output ∧ w'.heap = w.heap.push o ∧
    ∀ id, ρ id = none → BR P keep (ρ.up id ⟨w.heap.size, 0, sz⟩) id r.1 w' ∧ VR (ρ.up id ⟨w.heap.size, 0, sz⟩) (r.2 id) v
def DoesN (P : Program) (keep : Keeps) (w : World) (ρ : Pls) (h : Heap) (s : Sem Next) (r : AV) (h' : Heap) : Prop :=
  ∃ ρ' nx v w', s.run P w = .ok nx w' ∧ (nx = .value v ∨ nx = .skip ∧ v = undef) ∧ VR ρ' r v ∧ Post P keep ρ h w ρ' h' w'
theorem givesN {s : Sem Value} {r : AV} (hg : Gives P w ρ s r) : GivesN P w ρ (do pure (.value (← s))) r := by
  obtain ⟨v, h1, h2⟩ := hg
  exact ⟨v, by rw [andthen_ok h1]; rfl, h2⟩
theorem makesN {s : Sem Value} {r : Blk × (Nat → AV)} (hg : Makes P keep w ρ s r) : MakesN P keep w ρ (do pure (.value (← s))) r := by
  obtain ⟨o, sz, v, w', h1, h2⟩ := hg
  exact ⟨o, sz, v, w', by rw [andthen_ok h1]; rfl, h2⟩
theorem doesN {s : Sem Value} {r : AV} {h' : Heap} (hg : Does P keep w ρ h s r h') : DoesN P keep w ρ h (do pure (.value (← s))) r h' := by
  obtain ⟨ρ', v, w', h1, h2⟩ := hg
  exact ⟨ρ', _, v, w', by rw [andthen_ok h1]; rfl, .inl rfl, h2⟩
theorem doesU {s : Sem Unit} {h' : Heap} (hg : DoesU P keep w ρ h s h') : DoesN P keep w ρ h (do s; pure .skip) undefA h' := by
  obtain ⟨ρ', w', h1, h2⟩ := hg
  exact ⟨ρ', _, undef, w', by rw [andthen_ok h1]; rfl, .inr ⟨rfl, rfl⟩, VR.undef _, h2⟩
def Good (P : Program) (keep : Keeps) (find : Nat → Option Opd) (o : Oper) (i : Ins) : Prop :=
  match i with
  | .cl g xs => ∃ g0 args ts, o.op = .call ⟨.value g0, args, ts⟩ ∧ Am.resolve find g0 = some g ∧ resolves find args.toList = some xs
  | .bad => True
  | i => ∀ loc vs tm ρ h w a, HR P keep ρ h w → EnvOk find loc vs tm ρ a →
    match i with
    | .mv x => ∀ v, x.get loc vs tm = some v → GivesN P w ρ (execOp a.eval o) v
    | .p1 f x => ∀ v r, x.get loc vs tm = some v → f v = some r → GivesN P w ρ (execOp a.eval o) r
    | .p2 f x y => ∀ v u r, x.get loc vs tm = some v → y.get loc vs tm = some u → f v u = some r → GivesN P w ρ (execOp a.eval o) r
    | .pick c x y => ∀ t r, c.get loc vs tm = some (.bool t) → (if t then x.get loc vs tm else y.get loc vs tm) = some r → GivesN P w ρ (execOp a.eval o) r
    | .pn f xs => ∀ us r, gets xs loc vs tm = some us → f us = some r → GivesN P w ρ (execOp a.eval o) r
    | .ld1 x => ∀ v r, x.get loc vs tm = some v → load1 h v = some r → GivesN P w ρ (execOp a.eval o) r
    | .ldn s x => ∀ v r, x.get loc vs tm = some v → loadN s h v = some r → GivesN P w ρ (execOp a.eval o) r
    | .rd f xs => ∀ us r, gets xs loc vs tm = some us → f us h = some r → GivesN P w ρ (execOp a.eval o) r
    | .al f xs => ∀ us r, gets xs loc vs tm = some us → f us = some r → MakesN P keep w ρ (execOp a.eval o) r
    | .st1 x y => ∀ p v q, x.get loc vs tm = some p → y.get loc vs tm = some v → store1 h p v = some q → DoesN P keep w ρ h (execOp a.eval o) q.1 q.2
    | .ef f xs => ∀ us id q, h.next ≤ id → gets xs loc vs tm = some us → f us id h = some q → DoesN P keep w ρ h (execOp a.eval o) q.1 q.2
    | _ => True
theorem l1_some {β : Type} {f : AV → Option β} {us : List AV} {r : β} (hl : l1 f us = some r) : ∃ u, us = [u] ∧ f u = some r := by
  match us with
  | [] => cases hl
  | [u] => exact ⟨u, rfl, hl⟩
  | u :: v :: t => cases hl
theorem l2_some {β : Type} {f : AV → AV → Option β} {us : List AV} {r : β} (hl : l2 f us = some r) : ∃ u v, us = [u, v] ∧ f u v = some r := by
  match us with
  | [] => cases hl
  | u :: t => obtain ⟨v, rfl, h⟩ := l1_some (show l1 (f u) t = some r from hl); exact ⟨u, v, rfl, h⟩
theorem l3_some {β : Type} {f : AV → AV → AV → Option β} {us : List AV} {r : β} (hl : l3 f us = some r) : ∃ u v x, us = [u, v, x] ∧ f u v x = some r := by
  match us with
  | [] => cases hl
  | u :: t => obtain ⟨v, x, rfl, h⟩ := l2_some (show l2 (f u) t = some r from hl); exact ⟨u, v, x, rfl, h⟩
theorem l4_some {β : Type} {f : AV → AV → AV → AV → Option β} {us : List AV} {r : β} (hl : l4 f us = some r) : ∃ u v x y, us = [u, v, x, y] ∧ f u v x y = some r := by
  match us with
  | [] => cases hl
  | u :: t => obtain ⟨v, x, y, rfl, h⟩ := l3_some (show l3 (f u) t = some r from hl); exact ⟨u, v, x, y, rfl, h⟩
theorem VRs.one {u : AV} {l : List Value} (hv : VRs ρ [u] l) : ∃ v, l = [v] ∧ VR ρ u v := by obtain ⟨v, t, rfl, h1, rfl⟩ := hv; exact ⟨v, rfl, h1⟩
theorem VRs.two {u u' : AV} {l : List Value} (hv : VRs ρ [u, u'] l) : ∃ v v', l = [v, v'] ∧ VR ρ u v ∧ VR ρ u' v' := by
  obtain ⟨v, t, rfl, h1, h2⟩ := hv; obtain ⟨v', rfl, h3⟩ := VRs.one h2; exact ⟨v, v', rfl, h1, h3⟩
theorem good_on1 {o : Oper} {f : AV → Option AV} {x : Operand} (hs : ∀ (w : World) (ρ : Pls) (a : Act) (v r : AV), VR ρ v (a.eval x) → f v = some r → GivesN P w ρ (execOp a.eval o) r) : Good P keep find o (on1 f (Am.resolve find x)) := by
  cases hx : Am.resolve find x with
  | none => trivial
  | some y => intro loc vs tm ρ h w a hr he v r hv hf; exact hs w ρ a v r (resolve_sound he hx hv) hf
theorem good_on2 {o : Oper} {f : AV → AV → Option AV} {x y : Operand} (hs : ∀ (w : World) (ρ : Pls) (a : Act) (v u r : AV), VR ρ v (a.eval x) → VR ρ u (a.eval y) → f v u = some r → GivesN P w ρ (execOp a.eval o) r) : Good P keep find o (on2 f (Am.resolve find x) (Am.resolve find y)) := by
  cases hx : Am.resolve find x with
  | none => trivial
  | some x' =>
    cases hy : Am.resolve find y with
    | none => trivial
    | some y' => intro loc vs tm ρ h w a hr he v u r hv hu hf; exact hs w ρ a v u r (resolve_sound he hx hv) (resolve_sound he hy hu) hf
theorem good_pn {o : Oper} {f : List AV → Option AV} {xs : List Operand} (hs : ∀ (w : World) (ρ : Pls) (a : Act) (us : List AV) (r : AV), VRs ρ us (xs.map a.eval) → f us = some r → GivesN P w ρ (execOp a.eval o) r) : Good P keep find o (onN (.pn f) (resolves find xs)) := by
  cases hx : resolves find xs with
  | none => trivial
  | some y => intro loc vs tm ρ h w a hr he us r hv hf; exact hs w ρ a us r (resolves_sound he hx hv) hf
theorem good_rd {o : Oper} {f : List AV → Heap → Option AV} {xs : List Operand} (hs : ∀ (w : World) (ρ : Pls) (h : Heap) (a : Act) (us : List AV) (r : AV), HR P keep ρ h w → VRs ρ us (xs.map a.eval) → f us h = some r → GivesN P w ρ (execOp a.eval o) r) : Good P keep find o (onN (.rd f) (resolves find xs)) := by
  cases hx : resolves find xs with
  | none => trivial
  | some y => intro loc vs tm ρ h w a hr he us r hv hf; exact hs w ρ h a us r hr (resolves_sound he hx hv) hf
theorem good_al {o : Oper} {f : List AV → Option (Blk × (Nat → AV))} {xs : List Operand} (hs : ∀ (w : World) (ρ : Pls) (a : Act) (us : List AV) (r : Blk × (Nat → AV)), VRs ρ us (xs.map a.eval) → f us = some r → MakesN P keep w ρ (execOp a.eval o) r) : Good P keep find o (onN (.al f) (resolves find xs)) := by
  cases hx : resolves find xs with
  | none => trivial
  | some y => intro loc vs tm ρ h w a hr he us r hv hf; exact hs w ρ a us r (resolves_sound he hx hv) hf
theorem good_ef {o : Oper} {f : List AV → Nat → Heap → Option (AV × Heap)} {xs : List Operand} (hs : ∀ (w : World) (ρ : Pls) (h : Heap) (a : Act) (us : List AV) (id : Nat) (q : AV × Heap), HR P keep ρ h w → h.next ≤ id → VRs ρ us (xs.map a.eval) → f us id h = some q → DoesN P keep w ρ h (execOp a.eval o) q.1 q.2) : Good P keep find o (onN (.ef f) (resolves find xs)) := by
  cases hx : resolves find xs with
  | none => trivial
  | some y => intro loc vs tm ρ h w a hr he us id q hid hv hf; exact hs w ρ h a us id q hr hid (resolves_sound he hx hv) hf
theorem notNil_sound {dst : Option Tmp} {ty : TypeId} {pos : String} {after : Array Edge} {guard : Option (Nat × Bool)} {x : Operand} {v r : AV} (hv : VR ρ v (a.eval x)) (hn : notNil v = some r) : GivesN P w ρ (execOp a.eval ⟨dst, .nilCheck x, ty, pos, after, guard⟩) r := by
  cases v with
  | ptr o =>
    cases o with
    | none => cases hn
    | some p =>
      cases hn
      have hv' := hv
      obtain ⟨p', hp, e⟩ := hv
      exact ⟨a.eval x, by simp only [execOp, e, Sem.run_pure], hv'⟩
  | func f b c =>
    have hv' := hv
    obtain ⟨fn', a', b', e, hf, ha, hb⟩ := hv
    cases f with
    | func g => cases hn; cases hf; exact ⟨a.eval x, by simp only [execOp, e, Sem.run_pure], hv'⟩
    | yield l => cases hn; obtain ⟨p, _, _, rfl⟩ := hf; exact ⟨a.eval x, by simp only [execOp, e, Sem.run_pure], hv'⟩
    | _ => cases hn
  | slice o n c g =>
    cases hn
    have hv' := hv
    cases o with
    | none => obtain ⟨_, _, _, e⟩ := hv; exact ⟨a.eval x, by simp only [execOp, e, Sem.run_pure], hv'⟩
    | some p => obtain ⟨_, _, _, _, e, _⟩ := hv; exact ⟨a.eval x, by simp only [execOp, e, Sem.run_pure], hv'⟩
  | map o =>
    cases hn
    have hv' := hv
    cases o with
    | none => exact ⟨a.eval x, by simp only [execOp, show a.eval x = _ from hv, Sem.run_pure], hv'⟩
    | some p => obtain ⟨_, _, _, e⟩ := hv; exact ⟨a.eval x, by simp only [execOp, e, Sem.run_pure], hv'⟩
  | _ => cases hn
end
end Go.Am

namespace Go.Am
section
variable {P : Program} {keep : Keeps} {find : Nat → Option Opd}
theorem map_toList_pair (parts : Array (Nat × Operand)) (g : Operand → Value) : ((parts.map fun (i, x) => (i, g x)).toList.map (·.1)) = parts.toList.map (·.1) ∧ ((parts.map fun (i, x) => (i, g x)).toList.map (·.2)) = (parts.toList.map (·.2)).map g := by
  constructor <;> simp [Function.comp_def]
theorem args_one {args : Array Operand} {a : Act} {v : Value} (h : args.toList.map a.eval = [v]) : args.map a.eval = #[v] := by
  apply Array.toList_inj.1; simpa using h
theorem args_two {args : Array Operand} {a : Act} {v u : Value} (h : args.toList.map a.eval = [v, u]) : args.map a.eval = #[v, u] := by
  apply Array.toList_inj.1; simpa using h
theorem builtin_good {dst : Option Tmp} {ty : TypeId} {pos : String} {after : Array Edge} {guard : Option (Nat × Bool)} (b : Builtin) (args : Array Operand) (ts : Array TypeId) :
    Good P keep find ⟨dst, .call ⟨.builtin b, args, ts⟩, ty, pos, after, guard⟩ (compB P find b args ts) := by
  unfold compB
  simp only
  cases ht : ts[0]? with
  | none => trivial
  | some t =>
    simp only
    have hex : ∀ (a : Act), execOp a.eval ⟨dst, .call ⟨.builtin b, args, ts⟩, ty, pos, after, guard⟩ = (do let d ← (pure { target := .builtin b ts ty (args.map fun | .const _ => true | _ => false), args := args.map a.eval } : Sem Deferred); invoke d.target d.args) := fun a => rfl
    have run : ∀ {w : World} {a : Act} {s : Sem Value}, builtin b ts ty (args.map fun | .const _ => true | _ => false) (args.map a.eval) = (do pure (.value (← s))) → (execOp a.eval ⟨dst, .call ⟨.builtin b, args, ts⟩, ty, pos, after, guard⟩).run P w = (do pure (.value (← s)) : Sem Next).run P w := by
      intro w a s hs
      rw [hex, Sem.run_bind, Sem.run_pure, Result.andThen_ok]
      exact congrArg (fun s => s.run P w) hs
    have gv : ∀ {w : World} {ρ : Pls} {a : Act} {s : Sem Value} {r : AV}, builtin b ts ty (args.map fun | .const _ => true | _ => false) (args.map a.eval) = (do pure (.value (← s))) → Gives P w ρ s r → GivesN P w ρ (execOp a.eval ⟨dst, .call ⟨.builtin b, args, ts⟩, ty, pos, after, guard⟩) r := by
      intro w ρ a s r hs hg
      obtain ⟨v, h1, h2⟩ := givesN hg
      exact ⟨v, by rw [run hs]; exact h1, h2⟩
    have dv : ∀ {w : World} {ρ : Pls} {h : Heap} {a : Act} {s : Sem Value} {r : AV} {h' : Heap}, builtin b ts ty (args.map fun | .const _ => true | _ => false) (args.map a.eval) = (do pure (.value (← s))) → Does P keep w ρ h s r h' → DoesN P keep w ρ h (execOp a.eval ⟨dst, .call ⟨.builtin b, args, ts⟩, ty, pos, after, guard⟩) r h' := by
      intro w ρ h a s r h' hs hg
      obtain ⟨ρ', nx, v, w', h1, h2⟩ := doesN hg
      exact ⟨ρ', nx, v, w', by rw [run hs]; exact h1, h2⟩
    cases b with
    | len =>
      simp only
      split
      · rename_i k e hu
        exact good_rd fun w ρ h a us r hr hv hf => by
          obtain ⟨u, rfl, h1⟩ := l1_some hf
          obtain ⟨v, e1, h2⟩ := hv.one
          exact gv (s := Builtin.len_ ts ty #[v]) (by rw [args_one e1]; rfl) (lenMap_sound hu ht hr h1 h2)
      · exact good_pn fun w ρ a us r hv hf => by
          obtain ⟨u, rfl, h1⟩ := l1_some hf
          obtain ⟨v, e1, h2⟩ := hv.one
          exact gv (s := Builtin.len_ ts ty #[v]) (by rw [args_one e1]; rfl) (len1_sound h1 h2 ht)
    | cap =>
      exact good_pn fun w ρ a us r hv hf => by
        obtain ⟨u, rfl, h1⟩ := l1_some hf
        obtain ⟨v, e1, h2⟩ := hv.one
        exact gv (s := Builtin.cap_ ts ty #[v]) (by rw [args_one e1]; rfl) (cap1_sound h1 h2 ht)
    | max =>
      exact good_pn fun w ρ a us r hv hf => by
        refine gv (s := Builtin.max_ ts ty (args.map a.eval)) rfl ?_
        have := max_sound (P := P) (ts := ts) (ty := ty) (w := w) hf hv
        rw [show (args.toList.map a.eval).toArray = args.map a.eval from by apply Array.toList_inj.1; simp] at this
        exact this
    | min =>
      exact good_pn fun w ρ a us r hv hf => by
        refine gv (s := Builtin.min_ ts ty (args.map a.eval)) rfl ?_
        have := min_sound (P := P) (ts := ts) (ty := ty) (w := w) hf hv
        rw [show (args.toList.map a.eval).toArray = args.map a.eval from by apply Array.toList_inj.1; simp] at this
        exact this
    | append =>
      simp only
      split
      · rename_i u hu1
        have key : ∀ {d : TypeDesc}, P.underlying u = some d → (∀ k, d ≠ .int k) → Good P keep find ⟨dst, .call ⟨.builtin .append, args, ts⟩, ty, pos, after, guard⟩ (onN (.ef fun vs id h => l2 (fun s x => appendS P t s x id h) vs) (resolves find args.toList)) := by
          intro d hud hint
          exact good_ef fun w ρ h a us id q hr hid hv hf => by
            obtain ⟨s, x, rfl, h1⟩ := l2_some hf
            obtain ⟨v, v', e1, h2, h3⟩ := hv.two
            exact dv (s := Builtin.append_ ts ty #[v, v']) (by rw [args_two e1]; rfl) (appendS_sound ht hu1 hud hint hid hr h1 h2 h3)
        split
        · rename_i hud; exact key hud (by intro k e; cases e)
        · rename_i hud; exact key hud (by intro k e; cases e)
        · trivial
      · trivial
    | copy =>
      exact good_ef fun w ρ h a us id q hr hid hv hf => by
        obtain ⟨s, x, rfl, h1⟩ := l2_some hf
        obtain ⟨v, v', e1, h2, h3⟩ := hv.two
        exact dv (s := Builtin.copy_ ts ty #[v, v']) (by rw [args_two e1]; rfl) (copyS_sound ht hr h1 h2 h3)
    | delete =>
      exact good_ef fun w ρ h a us id q hr hid hv hf => by
        obtain ⟨s, x, rfl, h1⟩ := l2_some hf
        obtain ⟨v, v', e1, h2, h3⟩ := hv.two
        exact dv (s := Builtin.delete_ ts ty #[v, v']) (by rw [args_two e1]; rfl) (mapDel_sound ht hr h1 h2 h3)
    | unsafeSliceData =>
      exact good_pn fun w ρ a us r hv hf => by
        obtain ⟨u, rfl, h1⟩ := l1_some hf
        obtain ⟨v, e1, h2⟩ := hv.one
        exact gv (s := Builtin.unsafeSliceData_ ts ty #[v]) (by rw [args_one e1]; rfl) (sliceData_sound h1 h2)
    | unsafeString =>
      simp only
      split
      · rename_i e hu
        split
        · rename_i hu8 hs1
          exact good_ef fun w ρ h a us id q hr hid hv hf => by
            obtain ⟨s, x, rfl, h1⟩ := l2_some hf
            obtain ⟨v, v', e1, h2, h3⟩ := hv.two
            exact dv (s := Builtin.unsafeString_ ts ty #[v, v']) (by rw [args_two e1]; rfl) (strAt_sound ht hu hs1 hr h1 h2 h3)
        · trivial
      · trivial
    | clear =>
      exact good_ef fun w ρ h a us id q hr hid hv hf => by
        obtain ⟨s, rfl, h1⟩ := l1_some hf
        obtain ⟨v, e1, h2⟩ := hv.one
        exact dv (s := Builtin.clear_ ts ty #[v]) (by rw [args_one e1]; rfl) (clearS_sound ht hr h1 h2)
    | _ => trivial
end
end Go.Am

namespace Go.Am
section
variable {P : Program} {keep : Keeps} {find : Nat → Option Opd}
theorem VRs.cons_inv {ρ : Pls} {u : AV} {us : List AV} {l : List Value} (hv : VRs ρ (u :: us) l) : ∃ v t, l = v :: t ∧ VR ρ u v ∧ VRs ρ us t := hv
theorem run_ext {w : World} {k : FuncId} {fn : Func} {args : Array Value} {e : Array Value → Sem Value} (hf : P.funcs[k]? = some fn) (hb : fn.body = none) (hn : (fn.name == "runtime.NumGoroutine") = false) (h1 : Extern.findNext fn = none) (h2 : Extern.find fn = some e) {v : Value} (hr : (e args).run P w = .ok v w) :
    (callFunc k args).run P w = .ok (.value v) w := by
  unfold callFunc
  simp only [program, Sem.run_bind]
  show ((match P.funcs[k]? with
    | none => stuck "call: no such function"
    | some fn => _ : Sem Next)).run P w = _
  rw [hf]
  simp only [hn, hb, Option.isNone_none, Bool.false_eq_true, if_false, if_true, Sem.run_bind, h1, h2]
  show Result.andThen (Sem.run P (mark (Mark.extern k)) w) _ = _
  simp [mark, Sem.run, hr]
theorem extOf_1 {k : FuncId} (h : extOf P k = 1) : ∃ fn, P.funcs[k]? = some fn ∧ fn.body = none ∧ fn.name = "internal/abi.NoEscape" ∧ fn.origin = "" := by
  unfold extOf at h
  split at h
  · rename_i fn hf
    split at h
    · rename_i hb
      rw [Bool.and_eq_true, Option.isNone_iff_eq_none, decide_eq_true_eq] at hb
      split at h
      · exact ⟨fn, hf, hb.1, ‹_›, hb.2⟩
      · split at h <;> cases h
    · cases h
  · cases h
theorem extOf_2 {k : FuncId} (h : extOf P k = 2) : ∃ fn, P.funcs[k]? = some fn ∧ fn.body = none ∧ fn.name = "internal/bytealg.IndexByteString" ∧ fn.origin = "" := by
  unfold extOf at h
  split at h
  · rename_i fn hf
    split at h
    · rename_i hb
      rw [Bool.and_eq_true, Option.isNone_iff_eq_none, decide_eq_true_eq] at hb
      split at h
      · cases h
      · split at h
        · exact ⟨fn, hf, hb.1, ‹_›, hb.2⟩
        · cases h
    · cases h
  · cases h
theorem indexByte_lo (c : UInt8) : ∀ (l : List UInt8), -1 ≤ Lib.indexByte l c
  | [] => by simp [Lib.indexByte]
  | x :: l => by
    have := indexByte_lo c l
    unfold Lib.indexByte
    split
    · decide
    · split
      · decide
      · omega
theorem findB_eq (c : UInt8) : ∀ (l : List UInt8) (i : Nat), findB c.toNat (l.map (·.toNat)) i = .int .i64 (if Lib.indexByte l c == -1 then -1 else (i : Int) + Lib.indexByte l c)
  | [], i => rfl
  | x :: l, i => by
    have ih := findB_eq c l (i + 1)
    have hlo := indexByte_lo c l
    show (Bool.rec (motive := fun _ => AV) (findB c.toNat (l.map (·.toNat)) (i + 1)) (.int .i64 (Int.ofNat i)) (Nat.beq x.toNat c.toNat) : AV) = _
    rw [bool_rec_beq]
    unfold Lib.indexByte
    by_cases h : x.toNat = c.toNat
    · have hx : x = c := UInt8.toNat_inj.1 h
      subst hx
      simp
    · rw [if_neg h, ih]
      have hx : ¬ x = c := fun e => h (by rw [e])
      have h0 : (x == c) = false := by simpa using hx
      simp only [h0, Bool.false_eq_true, if_false]
      by_cases h2 : Lib.indexByte l c == -1
      · simp [h2]
      · have h2' : ¬ Lib.indexByte l c = -1 := by simpa using h2
        have h3 : ¬ (Lib.indexByte l c + 1 == -1) = true := by simp; omega
        rw [if_neg h2, if_neg h2, if_neg h3]
        congr 1; push_cast; omega
theorem indexByte2_sound {w : World} {ρ : Pls} {s c r : AV} {a b : Value} (hf : indexByte2 s c = some r) (hs : VR ρ s a) (hc : VR ρ c b) : ∃ v, (Extern.BytealgIndexByte.indexByte #[a, b]).run P w = .ok v w ∧ VR ρ r v := by
  obtain ⟨l, rfl, h1⟩ := eStr_some hf
  obtain ⟨k, h2, h3⟩ := ob_some.1 h1
  cases h3
  obtain ⟨rfl, hk⟩ := byteVal h2
  obtain ⟨sb, rfl, rfl⟩ := hs
  cases hc
  refine ⟨_, Lib.run_indexByteString sb _ w, ?_⟩
  have hk' : (UInt8.ofNat k).toNat = k := by rw [UInt8.toNat_ofNat']; omega
  have := findB_eq (UInt8.ofNat k) sb.data.toList 0
  rw [hk'] at this
  rw [this]
  have e : (Int.ofNat k).toNat.toUInt8 = UInt8.ofNat k := rfl
  rw [e]
  show Value.int .i64 _ = Value.int .i64 _
  congr 1
  have hlo := indexByte_lo (UInt8.ofNat k) sb.data.toList
  split
  · rename_i h; simpa using h
  · simp
theorem compOp_good (o : Oper) : Good P keep find o (compOp P find o.op) := by
  obtain ⟨dst, op, ty, pos, after, guard⟩ := o
  cases op with
  | move x =>
    simp only [compOp]
    cases hx : Am.resolve find x with
    | none => trivial
    | some y => intro loc vs tm ρ h w a hr he v hv; exact ⟨a.eval x, rfl, resolve_sound he hx hv⟩
  | assign x =>
    simp only [compOp]
    cases hx : Am.resolve find x with
    | none => trivial
    | some y => intro loc vs tm ρ h w a hr he v hv; exact ⟨a.eval x, rfl, resolve_sound he hx hv⟩
  | pick c x y =>
    simp only [compOp]
    cases hc : Am.resolve find c with
    | none => trivial
    | some c' =>
      cases hx : Am.resolve find x with
      | none => trivial
      | some x' =>
        cases hy : Am.resolve find y with
        | none => trivial
        | some y' =>
          intro loc vs tm ρ h w a hr he t r h1 h2
          have e1 := VR.bool (resolve_sound he hc h1)
          cases t with
          | true =>
            simp only [if_true] at h2
            refine ⟨a.eval x, ?_, resolve_sound he hx h2⟩
            simp only [execOp, e1, asBool, Sem.run_bind, Sem.run_pure, Result.andThen_ok, if_true]
          | false =>
            simp only [Bool.false_eq_true, if_false] at h2
            refine ⟨a.eval y, ?_, resolve_sound he hy h2⟩
            simp only [execOp, e1, asBool, Sem.run_bind, Sem.run_pure, Result.andThen_ok, Bool.false_eq_true, if_false]
  | alloc t =>
    intro loc vs tm ρ h w a hr he us r _ hf
    exact makesN (allocN_sound hf)
  | box t x =>
    exact good_al fun w ρ a us r hv hf => by
      obtain ⟨u, rfl, h1⟩ := l1_some hf
      obtain ⟨v, e1, h2⟩ := hv.one
      simp only [List.map_cons, List.map_nil, List.cons.injEq, and_true] at e1
      subst e1
      exact makesN (box1_sound h1 h2)
  | build t ps =>
    exact good_pn fun w ρ a us r hv hf => by
      have e := map_toList_pair ps a.eval
      exact givesN (buildN_sound (ps := ps.map fun (i, x) => (i, a.eval x)) (by rw [e.1]; exact hf) (by rw [e.2]; exact hv))
  | buildSlice t n ps =>
    exact good_al fun w ρ a us r hv hf => by
      have e := map_toList_pair ps a.eval
      have hb : Makes P keep w ρ (Instr.buildSlice t n (ps.map fun (i, x) => (i, a.eval x))) r := by
        apply buildSliceN_sound
        · rw [e.1]; exact hf
        · rw [e.2]; exact hv
      have hm := makesN hb
      exact hm
  | insert t m k x =>
    exact good_ef fun w ρ h a us id q hr hid hv hf => by
      obtain ⟨u1, u2, u3, rfl, h1⟩ := l3_some hf
      obtain ⟨v1, t1, e1, h2, h3⟩ := hv.cons_inv
      obtain ⟨v2, t2, e2, h4, h5⟩ := h3.cons_inv
      obtain ⟨v3, e3, h6⟩ := h5.one
      subst e3 e2
      simp only [List.map_cons, List.map_nil, List.cons.injEq, and_true] at e1
      obtain ⟨rfl, rfl, rfl⟩ := e1
      obtain ⟨h7, h8⟩ := mapUpd_sound hr h1 h2 h4 h6
      rw [h7]; exact doesU h8
  | load t x =>
    simp only [compOp]
    cases hx : Am.resolve find x with
    | none => trivial
    | some y =>
      cases hs : tSize P t with
      | none => trivial
      | some s =>
        cases hg : tAgg P t with
        | none => trivial
        | some g =>
          cases g with
          | false => intro loc vs tm ρ h w a hr he v r hv hf; exact givesN (load1_sound hg hr hf (resolve_sound he hx hv))
          | true => intro loc vs tm ρ h w a hr he v r hv hf; exact givesN (loadN_sound hs hg hr hf (resolve_sound he hx hv))
  | store t x y =>
    simp only [compOp]
    cases hx : Am.resolve find x with
    | none => trivial
    | some x' =>
      cases hy : Am.resolve find y with
      | none => trivial
      | some y' =>
        cases hs : tSize P t with
        | none => trivial
        | some s =>
          cases hg : tAgg P t with
          | none => match s with | 0 | 1 | _ + 2 => trivial
          | some g =>
            have many : ∀ loc vs tm ρ h w a, HR P keep ρ h w → EnvOk find loc vs tm ρ a → ∀ us (id : Nat) q, h.next ≤ id → gets [x', y'] loc vs tm = some us → l2 (storeN s h) us = some q → DoesN P keep w ρ h (execOp a.eval ⟨dst, .store t x y, ty, pos, after, guard⟩) q.1 q.2 := by
              intro loc vs tm ρ h w a hr he us id q _ hg hf
              obtain ⟨u1, u2, rfl, h1⟩ := l2_some hf
              rw [gets_cons] at hg
              obtain ⟨v, g1, g2⟩ := ob_some.1 hg
              obtain ⟨us', g3, g4⟩ := ob_some.1 g2
              rw [gets_cons] at g3
              obtain ⟨v', g5, g6⟩ := ob_some.1 g3
              cases g6; cases g4
              obtain ⟨h7, h8⟩ := storeN_sound hs hr h1 (resolve_sound he hx g1) (resolve_sound he hy g5)
              rw [h7]; exact doesU h8
            match s, g with
            | 1, false =>
              intro loc vs tm ρ h w a hr he p v q hp hv hf
              obtain ⟨h7, h8⟩ := store1_sound hs hr hf (resolve_sound he hx hp) (resolve_sound he hy hv)
              rw [h7]; exact doesU h8
            | 0, false => trivial
            | _ + 2, false => trivial
            | 0, true => exact many
            | 1, true => exact many
            | _ + 2, true => exact many
  | nilCheck x => exact good_on1 fun w ρ a v r hv hf => notNil_sound hv hf
  | binOp op t x y u =>
    exact good_on2 fun w ρ a v u r hv hu hf => givesN (bin2_sound hf hv hu)
  | unOp op t x => exact good_on1 fun w ρ a v r hv hf => givesN (un1_sound hf hv)
  | convert s d x =>
    simp only [compOp]
    split
    · rename_i e hs hd
      exact good_al fun w ρ a us r hv hf => by
        obtain ⟨u, rfl, h1⟩ := l1_some hf
        obtain ⟨v, e1, h2⟩ := hv.one
        simp only [List.map_cons, List.map_nil, List.cons.injEq, and_true] at e1
        subst e1
        exact makesN (toBytes1_sound hs hd h1 h2)
    · rename_i e hs hd
      exact good_rd fun w ρ h a us r hr hv hf => by
        obtain ⟨u, rfl, h1⟩ := l1_some hf
        obtain ⟨v, e1, h2⟩ := hv.one
        simp only [List.map_cons, List.map_nil, List.cons.injEq, and_true] at e1
        subst e1
        exact givesN (ofBytes1_sound hr hs hd h1 h2)
    · rename_i t hs hd
      exact good_rd fun w ρ h a us r hr hv hf => by
        obtain ⟨u, rfl, h1⟩ := l1_some hf
        obtain ⟨v, e1, h2⟩ := hv.one
        simp only [List.map_cons, List.map_nil, List.cons.injEq, and_true] at e1
        subst e1
        exact givesN (toUnsafe_sound hs hd hr h1 h2)
    · rename_i u hs hd
      exact good_rd fun w ρ h a us r hr hv hf => by
        obtain ⟨u, rfl, h1⟩ := l1_some hf
        obtain ⟨v, e1, h2⟩ := hv.one
        simp only [List.map_cons, List.map_nil, List.cons.injEq, and_true] at e1
        subst e1
        exact givesN (fromUnsafe_sound hs hd hr h1 h2)
    · exact good_on1 fun w ρ a v r hv hf => givesN (conv1_sound hf hv)
  | makeInterface t x => exact good_on1 fun w ρ a v r hv hf => givesN (toIface_sound hf hv)
  | makeFunc fn first cap =>
    exact good_pn fun w ρ a us r hv hf => givesN (mkFunc_sound (first := first.map a.eval) (cap := cap.map a.eval) hf (by simp) (by simpa using hv))
  | makeMap t r0 =>
    cases r0 with
    | none =>
      intro loc vs tm ρ h w a hr he us r _ hf
      exact makesN (makeMap0_sound hf)
    | some x =>
      exact good_al fun w ρ a us r hv hf => by
        obtain ⟨u, rfl, h1⟩ := l1_some hf
        obtain ⟨v, e1, h2⟩ := hv.one
        simp only [List.map_cons, List.map_nil, List.cons.injEq, and_true] at e1
        subst e1
        exact makesN (makeMap1_sound h1 h2)
  | makeSlice t l c =>
    exact good_al fun w ρ a us r hv hf => by
      obtain ⟨u, u', rfl, h1⟩ := l2_some hf
      obtain ⟨v, v', e1, h2, h3⟩ := hv.two
      simp only [List.map_cons, List.map_nil, List.cons.injEq, and_true] at e1
      obtain ⟨rfl, rfl⟩ := e1
      exact makesN (makeSlice2_sound h1 h2 h3)
  | slice t x lo hi mx =>
    exact good_pn fun w ρ a us r hv hf => by
      obtain ⟨u, us', e0, hv1, hv2⟩ : ∃ u us', us = u :: us' ∧ VR ρ u (a.eval x) ∧ VRs ρ us' ((lo.toList ++ (hi.toList ++ mx.toList)).map a.eval) := by
        cases us with
        | nil => cases hv
        | cons u us' =>
          obtain ⟨v, t1, e1, h2, h3⟩ := hv.cons_inv
          simp only [List.map_cons, List.cons.injEq] at e1
          obtain ⟨rfl, rfl⟩ := e1
          exact ⟨u, us', rfl, h2, h3⟩
      subst e0
      refine givesN (?_ : Gives P w ρ (Instr.sliceAt t (a.eval x) (lo.map a.eval) (hi.map a.eval) (mx.map a.eval)) r)
      have hnone : OR ρ none ((none : Option Operand).map a.eval) := rfl
      have hsome : ∀ {u : AV} {y : Operand}, VR ρ u (a.eval y) → OR ρ (some u) ((some y).map a.eval) := fun h => ⟨_, rfl, h⟩
      unfold sliceN at hf
      cases lo <;> cases hi <;> cases mx <;> simp only [Option.isSome_none, Option.isSome_some] at hf
      · obtain ⟨_, e, h1⟩ := l1_some hf
        cases e
        exact sliceV_sound h1 hv1 hnone hnone hnone
      · cases hf
      · obtain ⟨_, b, e, h1⟩ := l2_some hf
        cases e
        obtain ⟨v, e1, h2⟩ := hv2.one
        simp at e1; subst e1
        exact sliceV_sound h1 hv1 hnone (hsome h2) hnone
      · obtain ⟨_, b, c, e, h1⟩ := l3_some hf
        cases e
        obtain ⟨v, v', e1, h2, h3⟩ := hv2.two
        simp at e1; obtain ⟨rfl, rfl⟩ := e1
        exact sliceV_sound h1 hv1 hnone (hsome h2) (hsome h3)
      · obtain ⟨_, b, e, h1⟩ := l2_some hf
        cases e
        obtain ⟨v, e1, h2⟩ := hv2.one
        simp at e1; subst e1
        exact sliceV_sound h1 hv1 (hsome h2) hnone hnone
      · cases hf
      · obtain ⟨_, b, c, e, h1⟩ := l3_some hf
        cases e
        obtain ⟨v, v', e1, h2, h3⟩ := hv2.two
        simp at e1; obtain ⟨rfl, rfl⟩ := e1
        exact sliceV_sound h1 hv1 (hsome h2) (hsome h3) hnone
      · obtain ⟨_, b, c, d, e, h1⟩ := l4_some hf
        cases e
        obtain ⟨v, t1, e1, h2, h3⟩ := hv2.cons_inv
        obtain ⟨v', v'', e2, h4, h5⟩ := h3.two
        subst e2
        simp at e1; obtain ⟨rfl, rfl, rfl⟩ := e1
        exact sliceV_sound h1 hv1 (hsome h2) (hsome h4) (hsome h5)
  | fieldAddr t x f => exact good_on1 fun w ρ a v r hv hf => givesN (fieldAddr1_sound hf hv)
  | field t x f => exact good_on1 fun w ρ a v r hv hf => givesN (field1_sound hf hv)
  | indexAddr t x i => exact good_on2 fun w ρ a v u r hv hu hf => givesN (indexAddr2_sound hf hv hu)
  | index t x i => exact good_on2 fun w ρ a v u r hv hu hf => givesN (index2_sound hf hv hu)
  | lookup t m k ok =>
    exact good_rd fun w ρ h a us r hr hv hf => by
      obtain ⟨u, u', rfl, h1⟩ := l2_some hf
      obtain ⟨v, v', e1, h2, h3⟩ := hv.two
      simp only [List.map_cons, List.map_nil, List.cons.injEq, and_true] at e1
      obtain ⟨rfl, rfl⟩ := e1
      exact givesN (lookup2_sound hr h1 h2 h3)
  | mapUpdate t m k x =>
    exact good_ef fun w ρ h a us id q hr hid hv hf => by
      obtain ⟨u1, u2, u3, rfl, h1⟩ := l3_some hf
      obtain ⟨v1, t1, e1, h2, h3⟩ := hv.cons_inv
      obtain ⟨v2, t2, e2, h4, h5⟩ := h3.cons_inv
      obtain ⟨v3, e3, h6⟩ := h5.one
      subst e3 e2
      simp only [List.map_cons, List.map_nil, List.cons.injEq, and_true] at e1
      obtain ⟨rfl, rfl, rfl⟩ := e1
      obtain ⟨h7, h8⟩ := mapUpd_sound hr h1 h2 h4 h6
      rw [h7]; exact doesU h8
  | range t x =>
    exact good_ef fun w ρ h a us id q hr hid hv hf => by
      obtain ⟨u, rfl, h1⟩ := l1_some hf
      obtain ⟨v, e1, h2⟩ := hv.one
      simp only [List.map_cons, List.map_nil, List.cons.injEq, and_true] at e1
      subst e1
      exact doesN (rangeS_sound hid hr h1 h2)
  | next it isString =>
    cases isString with
    | false => trivial
    | true =>
      exact good_ef fun w ρ h a us id q hr hid hv hf => by
        obtain ⟨u, rfl, h1⟩ := l1_some hf
        obtain ⟨v, e1, h2⟩ := hv.one
        simp only [List.map_cons, List.map_nil, List.cons.injEq, and_true] at e1
        subst e1
        exact doesN (nextS_sound hr h1 h2)
  | extract t i => exact good_on1 fun w ρ a v r hv hf => givesN (nthTuple_sound hf hv)
  | call c =>
    obtain ⟨callee, args, ts⟩ := c
    cases callee with
    | builtin b => exact builtin_good b args ts
    | invoke r m => trivial
    | value f =>
      have generic : Good P keep find ⟨dst, .call ⟨.value f, args, ts⟩, ty, pos, after, guard⟩ (match Am.resolve find f, resolves find args.toList with | some g, some xs => .cl g xs | _, _ => .bad) := by
        cases hf : Am.resolve find f with
        | none => trivial
        | some g =>
          cases hx : resolves find args.toList with
          | none => trivial
          | some xs => exact ⟨f, args, ts, rfl, hf, hx⟩
      cases f with
      | func k =>
        simp only [compOp]
        split
        · rename_i hk
          obtain ⟨fn, h1, h2, h3, h4⟩ := extOf_1 hk
          obtain ⟨h5, h6⟩ := find_noEscape fn h3 h4
          exact good_pn fun w ρ a us r hv hf => by
            obtain ⟨u, rfl, h7⟩ := l1_some hf
            cases h7
            obtain ⟨v, e1, h8⟩ := hv.one
            refine ⟨v, ?_, h8⟩
            have e2 := args_one e1
            simp only [execOp, Go.resolve, Act.eval, Deferred.ofValue, Sem.run_bind, Sem.run_pure, Result.andThen_ok, invoke]
            rw [e2]
            simp only [Array.append_empty, Array.empty_append]
            exact run_ext h1 h2 (by rw [h3]; decide) h5 h6 rfl
        · rename_i hk
          obtain ⟨fn, h1, h2, h3, h4⟩ := extOf_2 hk
          obtain ⟨h5, h6⟩ := find_indexByte fn h3 h4
          exact good_pn fun w ρ a us r hv hf => by
            obtain ⟨u, u', rfl, h7⟩ := l2_some hf
            obtain ⟨v, v', e1, h8, h9⟩ := hv.two
            obtain ⟨x, h10, h11⟩ := indexByte2_sound (P := P) (w := w) h7 h8 h9
            refine ⟨x, ?_, h11⟩
            have e2 := args_two e1
            simp only [execOp, Go.resolve, Act.eval, Deferred.ofValue, Sem.run_bind, Sem.run_pure, Result.andThen_ok, invoke]
            rw [e2]
            simp only [Array.append_empty, Array.empty_append]
            exact run_ext h1 h2 (by rw [h3]; decide) h5 h6 h10
        · cases hx : resolves find args.toList with
          | none => trivial
          | some xs => exact ⟨.func k, args, ts, rfl, rfl, hx⟩
      | tmp t =>
      simp only [compOp]
      exact generic
      | const t =>
      simp only [compOp]
      exact generic
      | global t =>
      simp only [compOp]
      exact generic
  | _ => trivial
end
end Go.Am

namespace Go.Am
def fen (ro : Option Nat) : Fence := { Fence.wide with round := ro }
section
variable {P : Program} {keep : Keeps} {w : World} {ρ : Pls} {h : Heap}
def Ret (P : Program) (keep : Keeps) (ρ : Pls) (h : Heap) (w : World) (r : AV × Heap) : Ending → World → Prop
  | .returned v, w' => ∃ ρ', VR ρ' r.1 v ∧ Post P keep ρ h w ρ' r.2 w'
  | _, _ => False
def CallOk (P : Program) (keep : Keeps) (call : CallFn) : Prop := ∀ t args h r, call t args h = some r → ∀ ρ w avs, HR P keep ρ h w → VRs ρ args avs →
  match t with
  | .fn f => (∃ fn c, P.funcs[f]? = some fn ∧ fn.body = some c) ∧ CallsIn (fen none) 0 P f avs.toArray w (Ret P keep ρ h w r)
  | .loop l => ∀ p, ρ l = some p → ∃ f tmps assign body, (Instr.yield p.blk avs.toArray).run P w = .ok (.round p.blk f tmps assign body) w ∧ RoundIn (fen none) 0 P p.blk f tmps assign body w (Ret P keep ρ h w r)
def nameOk (fn : Func) : Bool := fn.body.isNone || !(fn.name == "runtime.NumGoroutine")
def NamesOk (P : Program) : Prop := P.funcs.all nameOk = true
theorem run_callFunc (hn : NamesOk P) {f : FuncId} {fn : Func} {c : Code} {args : Array Value} (hf : P.funcs[f]? = some fn) (hb : fn.body = some c) : (callFunc f args).run P w = .ok (.enter f args) w := by
  have h1 : nameOk fn = true := by
    unfold NamesOk at hn
    rw [Array.all_eq_true'] at hn
    exact hn fn (Array.mem_of_getElem? hf)
  simp only [nameOk, hb, Option.isNone_some, Bool.false_or, Bool.not_eq_true'] at h1
  have h2 : fn.name ≠ "runtime.NumGoroutine" := by simpa using h1
  simp [callFunc, hf, h2, hb]
theorem step_sound {call : CallFn} {find : Nat → Option Opd} {loc : List AV} {vs tm : Tr AV} {a : Act} {o : Oper} {id : Nat} {r : AV × Heap} {ro : Option Nat} {next : Act → World → Prop} {Q : Exit → Act → World → Prop}
    (hn : NamesOk P) (hc : CallOk P keep call) (hr : HR P keep ρ h w) (he : EnvOk find loc vs tm ρ a) (hid : h.next ≤ id) (hi : (compOp P find o.op).ev loc vs tm call id h = some r)
    (hnext : ∀ ρ' v w', VR ρ' r.1 v → Post P keep ρ h w ρ' r.2 w' → next (a.put o.dst v) w') : o.wpIn (fen ro) 0 P a w next Q := by
  refine ⟨fun _ _ => trivial, ?_⟩
  have hnd : ∀ c, o.op ≠ .defer c := by
    intro c e
    rw [e] at hi
    cases hi
  rw [Oper.semAt_eq _ _ _ hnd]
  have hg := compOp_good (P := P) (keep := keep) (find := find) o
  have give : ∀ {v : AV}, GivesN P w ρ (execOp a.eval o) v → some r = some (v, h) → o.uponIn (fen ro) 0 P a next Q ((execOp a.eval o).run P w) := by
    intro v hv e
    cases e
    obtain ⟨cv, h1, h2⟩ := hv
    rw [h1]
    exact hnext ρ cv w h2 (Post.refl hr)
  have does : DoesN P keep w ρ h (execOp a.eval o) r.1 r.2 → o.uponIn (fen ro) 0 P a next Q ((execOp a.eval o).run P w) := by
    intro hd
    obtain ⟨ρ', nx, v, w', h1, h2, h3, h4⟩ := hd
    rw [h1]
    rcases h2 with rfl | ⟨rfl, rfl⟩
    · exact hnext ρ' v w' h3 h4
    · exact hnext ρ' undef w' h3 h4
  cases hco : compOp P find o.op with
  | bad => rw [hco] at hi; cases hi
  | mv x =>
    rw [hco] at hi hg
    obtain ⟨v, h1, h2⟩ := ob_some.1 (show ob (x.get loc vs tm) (fun v => some (v, h)) = some r from hi)
    exact give (hg loc vs tm ρ h w a hr he v h1) h2.symm
  | p1 f x =>
    rw [hco] at hi hg
    obtain ⟨v, h1, h2⟩ := ob_some.1 (show ob (x.get loc vs tm) (fun v => ob (f v) fun r => some (r, h)) = some r from hi)
    obtain ⟨u, h3, h4⟩ := ob_some.1 h2
    exact give (hg loc vs tm ρ h w a hr he v u h1 h3) h4.symm
  | p2 f x y =>
    rw [hco] at hi hg
    obtain ⟨v, h1, h2⟩ := ob_some.1 (show ob (x.get loc vs tm) (fun v => ob (y.get loc vs tm) fun u => ob (f v u) fun r => some (r, h)) = some r from hi)
    obtain ⟨u, h3, h4⟩ := ob_some.1 h2
    obtain ⟨s, h5, h6⟩ := ob_some.1 h4
    exact give (hg loc vs tm ρ h w a hr he v u s h1 h3 h5) h6.symm
  | pick c x y =>
    rw [hco] at hi hg
    obtain ⟨v, h1, h2⟩ := ob_some.1 (show ob (c.get loc vs tm) (fun v => eBool (fun t => ob (Bool.rec (motive := fun _ => Option AV) (y.get loc vs tm) (x.get loc vs tm) t) fun r => some (r, h)) v) = some r from hi)
    obtain ⟨t, e, h3⟩ := eBool_some h2
    subst e
    obtain ⟨s, h5, h6⟩ := ob_some.1 h3
    refine give (hg loc vs tm ρ h w a hr he t s h1 ?_) h6.symm
    cases t <;> exact h5
  | pn f xs =>
    rw [hco] at hi hg
    obtain ⟨v, h1, h2⟩ := ob_some.1 (show ob (gets xs loc vs tm) (fun v => ob (f v) fun r => some (r, h)) = some r from hi)
    obtain ⟨u, h3, h4⟩ := ob_some.1 h2
    exact give (hg loc vs tm ρ h w a hr he v u h1 h3) h4.symm
  | ld1 x =>
    rw [hco] at hi hg
    obtain ⟨v, h1, h2⟩ := ob_some.1 (show ob (x.get loc vs tm) (fun v => ob (load1 h v) fun r => some (r, h)) = some r from hi)
    obtain ⟨u, h3, h4⟩ := ob_some.1 h2
    exact give (hg loc vs tm ρ h w a hr he v u h1 h3) h4.symm
  | ldn s x =>
    rw [hco] at hi hg
    obtain ⟨v, h1, h2⟩ := ob_some.1 (show ob (x.get loc vs tm) (fun v => ob (loadN s h v) fun r => some (r, h)) = some r from hi)
    obtain ⟨u, h3, h4⟩ := ob_some.1 h2
    exact give (hg loc vs tm ρ h w a hr he v u h1 h3) h4.symm
  | rd f xs =>
    rw [hco] at hi hg
    obtain ⟨v, h1, h2⟩ := ob_some.1 (show ob (gets xs loc vs tm) (fun v => ob (f v h) fun r => some (r, h)) = some r from hi)
    obtain ⟨u, h3, h4⟩ := ob_some.1 h2
    exact give (hg loc vs tm ρ h w a hr he v u h1 h3) h4.symm
  | al f xs =>
    rw [hco] at hi hg
    obtain ⟨v, h1, h2⟩ := ob_some.1 (show ob (gets xs loc vs tm) (fun v => ob (f v) fun r => some (r.2 id, h.new id r.1)) = some r from hi)
    obtain ⟨u, h3, h4⟩ := ob_some.1 h2
    cases h4
    obtain ⟨ob', sz, cv, w', g1, g2, g3, g4, g5⟩ := hg loc vs tm ρ h w a hr he v u h1 h3
    have f1 := (hr.fresh hid).1
    obtain ⟨g6, g7⟩ := g5 id f1
    refine does ⟨_, _, cv, w', g1, .inl rfl, g7, ?_⟩
    rw [new_eq hid]
    exact hr.push hid (by omega) g2 g3 g4 g6
  | st1 x y =>
    rw [hco] at hi hg
    obtain ⟨v, h1, h2⟩ := ob_some.1 (show ob (x.get loc vs tm) (fun p => ob (y.get loc vs tm) fun v => store1 h p v) = some r from hi)
    obtain ⟨u, h3, h4⟩ := ob_some.1 h2
    exact does (hg loc vs tm ρ h w a hr he v u r h1 h3 h4)
  | ef f xs =>
    rw [hco] at hi hg
    obtain ⟨v, h1, h2⟩ := ob_some.1 (show ob (gets xs loc vs tm) (fun v => f v id h) = some r from hi)
    exact does (hg loc vs tm ρ h w a hr he v id r hid h1 h2)
  | cl g xs =>
    rw [hco] at hi hg
    obtain ⟨g0, args, ts, hop, hg0, hxs⟩ := hg
    obtain ⟨fv, h1, h2⟩ := ob_some.1 (show ob (g.get loc vs tm) (fun f => ob (gets xs loc vs tm) fun us => applyV call us h f) = some r from hi)
    obtain ⟨us, h3, h4⟩ := ob_some.1 h2
    have vf := resolve_sound he hg0 h1
    have va := resolves_sound he hxs h3
    obtain ⟨fn, first, cap, e, h5⟩ := eFunc_some (show eFunc _ fv = some r from h4)
    subst e
    obtain ⟨fn', a', b', e2, hf, ha, hb⟩ := vf
    have hex : execOp a.eval o = (do let d ← Deferred.ofValue (a.eval g0) (args.map a.eval); invoke d.target d.args) := by
      obtain ⟨dst, op, ty, pos, after, guard⟩ := o
      simp only at hop
      subst hop
      rfl
    have hargs : (args.toList.map a.eval) = (args.map a.eval).toList := by simp
    rw [hargs] at va
    cases fn with
    | func f =>
      cases hf
      have h6 : call (.fn f) (app' first (app' us cap)) h = some r := h5
      obtain ⟨⟨fn, c, hfn, hbody⟩, hcall⟩ := hc _ _ _ _ h6 ρ w ((a' ++ args.map a.eval ++ b').toList) hr (by
        rw [app'_eq, app'_eq]
        simp only [Array.toList_append, List.append_assoc]
        exact ha.append (va.append hb))
      have hrun : (execOp a.eval o).run P w = .ok (.enter f (a' ++ args.map a.eval ++ b')) w := by
        rw [hex, e2]
        simp only [Deferred.ofValue, Sem.run_bind, Sem.run_pure, Result.andThen_ok, invoke]
        exact run_callFunc hn hfn hbody
      rw [hrun, Oper.uponIn_enter]
      refine ⟨fun hd => (by cases hd), ?_⟩
      rw [Array.toArray_toList] at hcall
      refine CallsIn.mono (F := fen none) hcall (fun e w' hR => ?_)
      cases e with
      | returned v => obtain ⟨ρ', h7, h8⟩ := hR; exact hnext ρ' v w' h7 h8
      | panicked chain => exact hR.elim
      | outgrown => exact hR.elim
    | yield l =>
      obtain ⟨p, hp, h0, rfl⟩ := hf
      have h6 : call (.loop l) (app' first us) h = some r := h5
      obtain ⟨f, tmps, assign, body, hy, hcall⟩ := hc _ _ _ _ h6 ρ w ((a' ++ args.map a.eval).toList) hr (by
        rw [app'_eq]
        simp only [Array.toList_append]
        exact ha.append va) p hp
      have hrun : (execOp a.eval o).run P w = .ok (.round p.blk f tmps assign body) w := by
        rw [hex, e2]
        simp only [Deferred.ofValue, Sem.run_bind, Sem.run_pure, Result.andThen_ok, invoke]
        rw [Array.toArray_toList] at hy
        exact hy
      rw [hrun, Oper.uponIn_round]
      refine ⟨fun hd => (by cases hd), ?_⟩
      refine RoundIn.mono (F := fen none) hcall (fun e w' hR => ?_)
      cases e with
      | returned v => obtain ⟨ρ', h7, h8⟩ := hR; exact hnext ρ' v w' h7 h8
      | panicked chain => exact hR.elim
      | outgrown => exact hR.elim
    | _ => cases hf
end
end Go.Am

namespace Go.Am
section
variable {P : Program} {keep : Keeps} {w : World} {ρ : Pls} {h : Heap}
theorem wanted_sound {find : Nat → Option Opd} {loc : List AV} {vs tm : Tr AV} {a : Act} (he : EnvOk find loc vs tm ρ a) {ops : Array Oper} {o : Oper} {j d : Nat} {want : Bool} {c : Opd} {v : AV}
    (hg : o.guard = some (j, want)) (hd : (ops[j]?).bind (·.dst) = some d) (hc : find d = some c) (hv : c.get loc vs tm = some v) : Region.wanted o (yielded ops a.tmps) = wanted want v := by
  have h1 := he d c v hc hv
  simp only [Region.wanted, hg]
  have key : ∀ (x : Value), a.tmps.getD d undef = x → (∀ b, x ≠ .bool b) → yielded ops a.tmps j = none := by
    intro x hx hne
    simp only [yielded, hd, Option.bind_some]
    cases hq : a.tmps[d]? with
    | none => rfl
    | some y =>
      have : a.tmps.getD d undef = y := by rw [Array.getD_eq_getD_getElem?, hq]; rfl
      rw [this] at hx
      subst hx
      cases y with
      | bool b => exact absurd rfl (hne b)
      | _ => rfl
  cases v with
  | bool b =>
    have h2 : a.tmps.getD d undef = .bool b := h1
    have h3 : a.tmps[d]? = some (.bool b) := by
      rw [Array.getD_eq_getD_getElem?] at h2
      cases hq : a.tmps[d]? with
      | none => rw [hq] at h2; cases h2
      | some x => rw [hq] at h2; simp at h2; rw [h2]
    have h4 : yielded ops a.tmps j = some b := by simp only [yielded, hd, Option.bind_some, h3]
    rw [h4]
    show (some b == some want) = eqB b want
    rw [eqB_eq]
    cases b <;> cases want <;> rfl
  | int k n => rw [key _ h1 (by intro b e; cases e)]; rfl
  | str s => obtain ⟨b, e, _⟩ := h1; rw [key _ e (by intro b e; cases e)]; rfl
  | ptr o =>
    cases o with
    | none => rw [key _ h1 (by intro b e; cases e)]; rfl
    | some p => obtain ⟨_, _, e⟩ := h1; rw [key _ e (by intro b e; cases e)]; rfl
  | slice o n c g =>
    cases o with
    | none => obtain ⟨_, _, _, e⟩ := h1; rw [key _ e (by intro b e; cases e)]; rfl
    | some p => obtain ⟨_, _, _, _, e, _⟩ := h1; rw [key _ e (by intro b e; cases e)]; rfl
  | map o =>
    cases o with
    | none => rw [key _ h1 (by intro b e; cases e)]; rfl
    | some p => obtain ⟨_, _, _, e⟩ := h1; rw [key _ e (by intro b e; cases e)]; rfl
  | func f x y => obtain ⟨_, _, _, e, _⟩ := h1; rw [key _ e (by intro b e; cases e)]; rfl
  | nilFunc => rw [key _ h1 (by intro b e; cases e)]; rfl
  | iface t x => obtain ⟨_, e, _⟩ := h1; rw [key _ e (by intro b e; cases e)]; rfl
  | nilIface => rw [key _ h1 (by intro b e; cases e)]; rfl
  | agg cs => obtain ⟨_, e, _⟩ := h1; rw [key _ e (by intro b e; cases e)]; rfl
  | tuple cs => obtain ⟨_, e, _⟩ := h1; rw [key _ e (by intro b e; cases e)]; rfl
theorem compG_cases {find : Nat → Option Opd} {ops : Array Oper} {g : Option (Nat × Bool)} {i : Ins} {loc : List AV} {vs tm : Tr AV} {call : CallFn} {id : Nat} {r : AV × Heap} (he : (compG find ops g i).ev loc vs tm call id h = some r) :
    (g = none ∧ i.ev loc vs tm call id h = some r) ∨
    ∃ j want d c v, g = some (j, want) ∧ (ops[j]?).bind (·.dst) = some d ∧ find d = some c ∧ c.get loc vs tm = some v ∧ ((wanted want v = true ∧ i.ev loc vs tm call id h = some r) ∨ (wanted want v = false ∧ r = (undefA, h))) := by
  cases g with
  | none => exact .inl ⟨rfl, he⟩
  | some jw =>
    obtain ⟨j, want⟩ := jw
    right
    simp only [compG] at he
    cases hd : (ops[j]?).bind (·.dst) with
    | none => rw [hd] at he; cases he
    | some d =>
      rw [hd] at he
      simp only at he
      cases hc : find d with
      | none => rw [hc] at he; cases he
      | some c =>
        rw [hc] at he
        have he : ob (c.get loc vs tm) (fun v => Bool.rec (motive := fun _ => Res) (some (undefA, h)) (i.ev loc vs tm call id h) (wanted want v)) = some r := he
        obtain ⟨v, h1, h2⟩ := ob_some.1 he
        refine ⟨j, want, d, c, v, rfl, hd, hc, h1, ?_⟩
        cases hw : wanted want v with
        | true => rw [hw] at h2; exact .inl ⟨rfl, h2⟩
        | false => rw [hw] at h2; cases h2; exact .inr ⟨rfl, rfl⟩
theorem gstep_sound {call : CallFn} {find : Nat → Option Opd} {loc : List AV} {vs tm : Tr AV} {a : Act} {ops : Array Oper} {o : Oper} {i id : Nat} {r : AV × Heap} {ro : Option Nat} {rest : List Nat} {Q : Exit → Act → World → Prop}
    (hn : NamesOk P) (hc : CallOk P keep call) (hr : HR P keep ρ h w) (he : EnvOk find loc vs tm ρ a) (hid : h.next ≤ id) (ho : ops[i]? = some o) (hi : (compG find ops o.guard (compOp P find o.op)).ev loc vs tm call id h = some r)
    (hnext : ∀ ρ' v w', VR ρ' r.1 v → Post P keep ρ h w ρ' r.2 w' → wpOpsIn (fen ro) 0 P ops Q rest (a.put o.dst v) w') : wpOpsIn (fen ro) 0 P ops Q (i :: rest) a w := by
  simp only [wpOpsIn, ho]
  rcases compG_cases hi with ⟨hg, h1⟩ | ⟨j, want, d, c, v, hg, hd, hc', hv, h1⟩
  · have hw : Region.wanted o (yielded ops a.tmps) = true := by simp [Region.wanted, hg]
    rw [if_pos hw]
    exact step_sound hn hc hr he hid h1 hnext
  · have hw := wanted_sound he hg hd hc' hv
    rcases h1 with ⟨h2, h3⟩ | ⟨h2, h3⟩
    · rw [h2] at hw
      rw [if_pos hw]
      exact step_sound hn hc hr he hid h3 hnext
    · rw [h2] at hw
      rw [if_neg (by rw [hw]; simp)]
      subst h3
      exact ⟨fun _ _ => trivial, hnext ρ undef w (VR.undef ρ) (Post.refl hr)⟩
theorem put_getD {a : Act} {d t : Nat} {v : Value} (hd : d < a.tmps.size) : (a.put (some d) v).tmps.getD t undef = if t = d then v else a.tmps.getD t undef := by
  simp only [Act.put, Array.getD_eq_getD_getElem?, Array.getElem?_setIfInBounds]
  by_cases e : d = t
  · subst e; simp [hd]
  · rw [if_neg e, if_neg (fun h => e h.symm)]
theorem put_size (a : Act) (d : Option Tmp) (v : Value) : (a.put d v).tmps.size = a.tmps.size := by cases d <;> simp [Act.put]
theorem put_defers (a : Act) (d : Option Tmp) (v : Value) : (a.put d v).defers = a.defers := by cases d <;> rfl
theorem EnvOk.mono {find : Nat → Option Opd} {loc : List AV} {vs tm : Tr AV} {a : Act} {σ : Pls} (hl : ρ.le σ) (he : EnvOk find loc vs tm ρ a) : EnvOk find loc vs tm σ a :=
  fun t x v h1 h2 => (he t x v h1 h2).mono hl
structure Inv (kp : Nat → Bool) (nt sz : Nat) (tm : Tr AV) (n : Nat) (env : List (Nat × Opd)) (loc : List AV) (ρ : Pls) (a : Act) : Prop where
  ok : EnvOk (findLoc kp env n) loc .leaf tm ρ a
  len : loc.length = n
  locs : ∀ t p, (t, Opd.loc p) ∈ env → p < n
  dsts : ∀ t x, (t, x) ∈ env → t < nt
  size : a.tmps.size = sz
  nt : nt ≤ sz
theorem lookT_mem {t : Nat} {x : Opd} : ∀ {env : List (Nat × Opd)}, lookT t env = some x → (t, x) ∈ env
  | [], h => by cases h
  | y :: env, h => by
    simp only [lookT] at h
    split at h
    · rename_i e
      cases h
      subst e
      exact List.mem_cons_self ..
    · exact List.mem_cons_of_mem _ (lookT_mem h)
theorem relOp_get {loc : List AV} {tm : Tr AV} {r : AV} {n : Nat} {x : Opd} (hx : ∀ p, x = .loc p → p < n) : (relOp (n + 1) x).get (r :: loc) .leaf tm = (relOp n x).get loc .leaf tm := by
  cases x with
  | loc p =>
    have := hx p rfl
    show nth (r :: loc) (n + 1 - 1 - p) = nth loc (n - 1 - p)
    rw [nth_eq, nth_eq, show n + 1 - 1 - p = (n - 1 - p) + 1 by omega]; simp
  | opi j => rfl
  | tmp t => rfl
  | cst v => rfl
theorem okDst_lt {nt : Nat} {d : Nat} (h : okDst nt (some d) = true) : d < nt := Nat.le_of_ble_eq_true h
theorem Inv.next {kp : Nat → Bool} {nt sz n : Nat} {tm : Tr AV} {env : List (Nat × Opd)} {loc : List AV} {a : Act} {σ : Pls} {dst : Option Nat} {r : AV} {v : Value}
    (hi : Inv kp nt sz tm n env loc ρ a) (hl : ρ.le σ) : okDst nt dst = true → VR σ r v → Inv kp nt sz tm (n + 1) ((match dst with | some d => [(d, .loc n)] | none => []) ++ env) (r :: loc) σ (a.put dst v) := by
  intro hd hv
  have hold : ∀ t x u, lookT t env = some x ∨ (lookT t env = none ∧ x = .tmp t ∧ kp t = true) → (relOp (n + 1) x).get (r :: loc) .leaf tm = some u → VR σ u (a.tmps.getD t undef) := by
    intro t x u hx hg
    have hlt : ∀ p, x = .loc p → p < n := by
      intro p e
      rcases hx with h1 | ⟨_, e2, _⟩
      · subst e; exact hi.locs t p (lookT_mem h1)
      · rw [e] at e2; cases e2
    rw [relOp_get hlt] at hg
    refine (hi.ok t (relOp n x) u ?_ hg).mono hl
    unfold findLoc absFind
    rcases hx with h1 | ⟨h1, e2, h3⟩
    · rw [h1]; rfl
    · rw [h1, if_pos h3, e2]; rfl
  have hfind : ∀ (e : List (Nat × Opd)) t y u, findLoc kp e (n + 1) t = some y → y.get (r :: loc) .leaf tm = some u → ∃ x, (lookT t e = some x ∨ (lookT t e = none ∧ x = .tmp t ∧ kp t = true)) ∧ (relOp (n + 1) x).get (r :: loc) .leaf tm = some u := by
    intro e t y u hy hg
    unfold findLoc absFind at hy
    cases hq : lookT t e with
    | some x => rw [hq] at hy; cases hy; exact ⟨x, .inl rfl, hg⟩
    | none =>
      rw [hq] at hy
      simp only at hy
      by_cases hk : kp t = true
      · rw [if_pos hk] at hy; cases hy; exact ⟨.tmp t, .inr ⟨rfl, rfl, hk⟩, hg⟩
      · rw [if_neg hk] at hy; cases hy
  cases dst with
  | none =>
    refine ⟨fun t y u hy hg => ?_, by simp [hi.len], fun t p hm => Nat.lt_succ_of_lt (hi.locs t p hm), hi.dsts, hi.size, hi.nt⟩
    obtain ⟨x, h1, h2⟩ := hfind _ t y u hy hg
    exact hold t x u h1 h2
  | some d =>
    have hdn := okDst_lt hd
    have hds : d < a.tmps.size := by rw [hi.size]; exact Nat.lt_of_lt_of_le hdn hi.nt
    refine ⟨fun t y u hy hg => ?_, by simp [hi.len], fun t p hm => ?_, fun t x hm => ?_, by rw [put_size]; exact hi.size, hi.nt⟩
    · rw [put_getD hds]
      obtain ⟨x, h1, h2⟩ := hfind _ t y u hy hg
      simp only [List.cons_append, List.nil_append, lookT] at h1
      by_cases e : d = t
      · subst e
        rw [if_pos rfl]
        rw [if_pos rfl] at h1
        rcases h1 with h1 | ⟨h1, _⟩
        · cases h1
          have h2 : nth (r :: loc) (n + 1 - 1 - n) = some u := h2
          rw [nth_eq, show n + 1 - 1 - n = 0 by omega] at h2
          cases h2; exact hv
        · cases h1
      · rw [if_neg (fun h => e h.symm)]
        rw [if_neg e] at h1
        exact hold t x u h1 h2
    · rcases List.mem_cons.1 hm with e | hm
      · cases e; omega
      · exact Nat.lt_succ_of_lt (hi.locs t p hm)
    · rcases List.mem_cons.1 hm with e | hm
      · cases e; exact hdn
      · exact hi.dsts t x hm
theorem resolve_rel {kp : Nat → Bool} {env : List (Nat × Opd)} {n : Nat} {x : Operand} {a : Opd} (hx : Am.resolve (absFind kp env) x = some a) : Am.resolve (findLoc kp env n) x = some (relOp n a) := by
  cases x with
  | tmp t => simp only [Am.resolve] at hx ⊢; unfold findLoc; rw [hx]; rfl
  | const v =>
    simp only [Am.resolve, Option.map_eq_some_iff] at hx ⊢
    obtain ⟨u, h1, rfl⟩ := hx
    exact ⟨u, h1, rfl⟩
  | global g => cases hx
  | func f => cases hx; rfl
theorem Inv.alias {kp : Nat → Bool} {nt sz n d : Nat} {tm : Tr AV} {env : List (Nat × Opd)} {loc : List AV} {a : Act} {x : Operand} {y : Opd}
    (hi : Inv kp nt sz tm n env loc ρ a) (hd : okDst nt (some d) = true) (hx : Am.resolve (absFind kp env) x = some y) : Inv kp nt sz tm n ((d, y) :: env) loc ρ (a.put (some d) (a.eval x)) := by
  have hdn := okDst_lt hd
  have hds : d < a.tmps.size := by rw [hi.size]; exact Nat.lt_of_lt_of_le hdn hi.nt
  refine ⟨fun t z u hz hg => ?_, hi.len, fun t p hm => ?_, fun t z hm => ?_, by rw [put_size]; exact hi.size, hi.nt⟩
  · rw [put_getD hds]
    by_cases e : d = t
    · subst e
      rw [if_pos rfl]
      have : findLoc kp ((d, y) :: env) n d = some (relOp n y) := by simp [findLoc, absFind, lookT]
      rw [this] at hz; cases hz
      exact resolve_sound hi.ok (resolve_rel hx) hg
    · rw [if_neg (fun h => e h.symm)]
      have : findLoc kp ((d, y) :: env) n t = findLoc kp env n t := by simp only [findLoc, absFind, lookT, if_neg e]
      rw [this] at hz
      exact hi.ok t z u hz hg
  · rcases List.mem_cons.1 hm with e | hm
    · cases e
      cases x with
      | tmp s =>
        simp only [Am.resolve, absFind] at hx
        cases hq : lookT s env with
        | some q => rw [hq] at hx; cases hx; exact hi.locs s p (lookT_mem hq)
        | none => rw [hq] at hx; simp only at hx; split at hx <;> cases hx
      | const v => simp only [Am.resolve, Option.map_eq_some_iff] at hx; obtain ⟨_, _, e⟩ := hx; cases e
      | global g => cases hx
      | func f => cases hx
    · exact hi.locs t p hm
  · rcases List.mem_cons.1 hm with e | hm
    · cases e; exact hdn
    · exact hi.dsts t z hm
theorem runIs_cons (g : GIns) (gs : List GIns) (tm : Tr AV) (call : CallFn) (loc : List AV) (h : Heap) : runIs (g :: gs) tm call loc h = ob (g.ev loc .leaf tm call h.next h) fun r => runIs gs tm call (r.1 :: loc) r.2 := rfl
theorem moveOf_some {o : Oper} {x : Operand} {d : Nat} (hm : moveOf o = some (x, d)) : o.guard = none ∧ o.dst = some d ∧ (o.op = .move x ∨ o.op = .assign x) := by
  obtain ⟨dst, op, ty, pos, after, guard⟩ := o
  unfold moveOf at hm
  simp only at hm
  split at hm
  · rename_i h1 h2; cases hm; exact ⟨rfl, rfl, .inl rfl⟩
  · rename_i h1 h2; cases hm; exact ⟨rfl, rfl, .inr rfl⟩
  · cases hm
end
end Go.Am

namespace Go.Am
section
variable {P : Program} {keep : Keeps} {w : World} {ρ : Pls} {h : Heap}
theorem ops_sound {call : CallFn} {kp : Nat → Bool} {nt sz : Nat} {tm : Tr AV} {ops : Array Oper} {ro : Option Nat} {Q : Exit → Act → World → Prop} (hn : NamesOk P) (hc : CallOk P keep call) (tl : List Oper) (ks : List Nat) :
    ∀ (rest : List Oper) (i n : Nat) (env : List (Nat × Opd)) (loc : List AV) (h : Heap) (w : World) (ρ : Pls) (a : Act) (r : List AV × Heap),
      ops.toList.drop i = rest ++ tl → Inv kp nt sz tm n env loc ρ a → HR P keep ρ h w → runIs (compOps P kp nt ops n env rest).1 tm call loc h = some r →
      (∀ ρ' a' w', Inv kp nt sz tm (compOps P kp nt ops n env rest).2.1 (compOps P kp nt ops n env rest).2.2 r.1 ρ' a' → a'.defers = a.defers → Post P keep ρ h w ρ' r.2 w' → wpOpsIn (fen ro) 0 P ops Q ks a' w') →
      wpOpsIn (fen ro) 0 P ops Q (List.range' i rest.length ++ ks) a w := by
  intro rest
  induction rest with
  | nil =>
    intro i n env loc h w ρ a r _ hi hr hrun hq
    cases hrun
    exact hq ρ a w hi rfl (Post.refl hr)
  | cons o rest ih =>
    intro i n env loc h w ρ a r hdrop hi hr hrun hq
    have hlt : i < ops.toList.length := by
      rcases Nat.lt_or_ge i ops.toList.length with h1 | h1
      · exact h1
      · rw [List.drop_eq_nil_of_le h1] at hdrop; cases hdrop
    have ho : ops[i]? = some o := by
      have := List.drop_eq_getElem_cons hlt
      rw [hdrop] at this
      simp only [List.cons_append, List.cons.injEq] at this
      rw [← Array.getElem?_toList, List.getElem?_eq_getElem hlt, ← this.1]
    have hdrop' : ops.toList.drop (i + 1) = rest ++ tl := by
      have := List.drop_eq_getElem_cons hlt
      rw [hdrop] at this
      simp only [List.cons_append, List.cons.injEq] at this
      exact this.2.symm
    rw [List.length_cons, List.range'_succ, List.cons_append]
    have slow : ∀ (g : GIns), g = (if okDst nt o.dst then compG (findLoc kp env n) ops o.guard (compOp P (findLoc kp env n) o.op) else ⟨none, .bad⟩) →
        runIs (g :: (compOps P kp nt ops (n + 1) ((match o.dst with | some d => [(d, .loc n)] | none => []) ++ env) rest).1) tm call loc h = some r →
        (∀ ρ' a' w', Inv kp nt sz tm (compOps P kp nt ops (n + 1) ((match o.dst with | some d => [(d, .loc n)] | none => []) ++ env) rest).2.1 (compOps P kp nt ops (n + 1) ((match o.dst with | some d => [(d, .loc n)] | none => []) ++ env) rest).2.2 r.1 ρ' a' → a'.defers = a.defers → Post P keep ρ h w ρ' r.2 w' → wpOpsIn (fen ro) 0 P ops Q ks a' w') →
        wpOpsIn (fen ro) 0 P ops Q (i :: (List.range' (i + 1) rest.length ++ ks)) a w := by
      intro g hg hrun hq
      rw [runIs_cons] at hrun
      obtain ⟨r1, h1, h2⟩ := ob_some.1 hrun
      cases hok : okDst nt o.dst with
      | false => rw [hok] at hg; subst hg; cases h1
      | true =>
        rw [hok, if_pos rfl] at hg
        subst hg
        refine gstep_sound hn hc hr hi.ok (Nat.le_refl _) ho h1 (fun ρ' v w' hv hpost => ?_)
        exact ih (i + 1) (n + 1) _ (r1.1 :: loc) r1.2 w' ρ' (a.put o.dst v) r hdrop' (hi.next hpost.le hok hv) hpost.hr h2
          (fun ρ'' a' w'' hi' hd' hp' => hq ρ'' a' w'' hi' (hd'.trans (put_defers _ _ _)) (hpost.trans hp'))
    unfold compOps at hrun hq
    cases hm : moveOf o with
    | none =>
      simp only [hm, Option.bind_none] at hrun hq
      exact slow _ rfl hrun hq
    | some xd =>
      obtain ⟨x, d⟩ := xd
      simp only [hm, Option.bind_some] at hrun hq
      cases hx : Am.resolve (absFind kp env) x with
      | none => simp only [hx] at hrun hq; exact slow _ rfl hrun hq
      | some y =>
        simp only [hx] at hrun hq
        obtain ⟨hg, hdst, hop⟩ := moveOf_some hm
        cases hok : okDst nt o.dst with
        | false => rw [hok] at hrun; cases hrun
        | true =>
          rw [hok] at hrun hq
          simp only [if_true] at hrun hq
          have hw : Region.wanted o (yielded ops a.tmps) = true := by simp [Region.wanted, hg]
          simp only [wpOpsIn, ho]
          rw [if_pos hw]
          refine ⟨fun _ _ => trivial, ?_⟩
          have hsem : o.semAt (fen ro).round a.eval = pure (.value (a.eval x)) := by
            rw [Oper.semAt_eq _ _ _ (by intro c e; rcases hop with h1 | h1 <;> (rw [h1] at e; cases e))]
            obtain ⟨dst, op, ty, pos, after, guard⟩ := o
            simp only at hop
            rcases hop with rfl | rfl <;> rfl
          rw [hsem, Sem.run_pure, Oper.uponIn_value, hdst]
          rw [hdst] at hok
          exact ih (i + 1) n _ loc h w ρ _ r hdrop' (hi.alias hok hx) hr hrun (fun ρ'' a' w'' hi' hd' hp' => hq ρ'' a' w'' hi' (hd'.trans (put_defers _ _ _)) hp')
end
end Go.Am

namespace Go.Am
section
variable {P : Program} {keep : Keeps} {w : World} {ρ : Pls} {h : Heap}
theorem putOuts_cons (o : Nat × Opd) (os : List (Nat × Opd)) (loc : List AV) (tm0 tm : Tr AV) : putOuts (o :: os) loc tm0 tm = ob (o.2.get loc .leaf tm0) fun v => putOuts os loc tm0 (tm.up (some v) o.1) := rfl
theorem putOuts_get : ∀ {outs : List (Nat × Opd)} {loc : List AV} {tm0 tm tm' : Tr AV}, putOuts outs loc tm0 tm = some tm' →
    ∀ t, (∃ x v, (t, x) ∈ outs ∧ x.get loc .leaf tm0 = some v ∧ tm'.gt t = some v) ∨ ((∀ x, (t, x) ∉ outs) ∧ tm'.gt t = tm.gt t)
  | [], loc, tm0, tm, tm', h, t => by cases h; exact .inr ⟨fun x hx => (by cases hx), rfl⟩
  | o :: os, loc, tm0, tm, tm', h, t => by
    rw [putOuts_cons] at h
    obtain ⟨v, h1, h2⟩ := ob_some.1 h
    rcases putOuts_get h2 t with ⟨x, u, g1, g2, g3⟩ | ⟨g1, g2⟩
    · exact .inl ⟨x, u, List.mem_cons_of_mem _ g1, g2, g3⟩
    · rw [Tr.gt_up] at g2
      by_cases e : t = o.1
      · rw [if_pos e] at g2
        exact .inl ⟨o.2, v, by rw [e]; exact List.mem_cons_self .., h1, g2⟩
      · rw [if_neg e] at g2
        refine .inr ⟨fun x hx => ?_, g2⟩
        rcases List.mem_cons.1 hx with e2 | hx
        · exact e (by rw [← e2])
        · exact g1 x hx
theorem outsEnv_mem {kp : Nat → Bool} {n t : Nat} {y : Opd} : ∀ {env : List (Nat × Opd)} {seen : List Nat}, (t, y) ∈ outsEnv kp n env seen → t ∉ seen ∧ ∃ x, lookT t env = some x ∧ y = relOp n x
  | [], seen, h => by cases h
  | x :: env, seen, h => by
    simp only [outsEnv] at h
    split at h
    · rename_i hc
      simp only [Bool.and_eq_true, Bool.not_eq_true', List.contains_eq_mem, decide_eq_false_iff_not] at hc
      rcases List.mem_cons.1 h with e | h
      · cases e
        exact ⟨hc.2, x.2, by simp [lookT], rfl⟩
      · obtain ⟨h1, z, h2, h3⟩ := outsEnv_mem h
        simp only [List.mem_cons, not_or] at h1
        exact ⟨h1.2, z, by simp only [lookT]; rw [if_neg (fun e => h1.1 e.symm)]; exact h2, h3⟩
    · rename_i hc
      obtain ⟨h1, z, h2, h3⟩ := outsEnv_mem h
      by_cases e : x.1 = t
      · -- it is not kept
        refine ⟨h1, ?_⟩
        simp only [Bool.and_eq_true, Bool.not_eq_true', List.contains_eq_mem, decide_eq_false_iff_not, not_and, Decidable.not_not] at hc
        cases hk : kp x.1 with
        | true => exact absurd (e ▸ hc hk) h1
        | false =>
          exfalso
          have : ∀ {env : List (Nat × Opd)} {seen : List Nat} {y : Opd}, (t, y) ∈ outsEnv kp n env seen → kp t = true := by
            intro env
            induction env with
            | nil => intro seen y h; cases h
            | cons z env ih =>
              intro seen y h
              simp only [outsEnv] at h
              split at h
              · rename_i hc
                simp only [Bool.and_eq_true] at hc
                rcases List.mem_cons.1 h with e | h
                · cases e; exact hc.1
                · exact ih h
              · exact ih h
          have := this h
          rw [← e, hk] at this; cases this
      · exact ⟨h1, z, by simp only [lookT]; rw [if_neg e]; exact h2, h3⟩
theorem outsEnv_has {kp : Nat → Bool} {n t : Nat} {x : Opd} (hk : kp t = true) : ∀ {env : List (Nat × Opd)} {seen : List Nat}, lookT t env = some x → t ∉ seen → ∃ y, (t, y) ∈ outsEnv kp n env seen
  | [], seen, h, _ => by cases h
  | z :: env, seen, h, hs => by
    simp only [lookT] at h
    simp only [outsEnv]
    by_cases e : z.1 = t
    · rw [if_pos]
      · exact ⟨_, by rw [e]; exact List.mem_cons_self ..⟩
      · rw [e, hk]; simpa using hs
    · rw [if_neg e] at h
      split
      · obtain ⟨y, h1⟩ := outsEnv_has (n := n) hk (seen := z.1 :: seen) h (by simp only [List.mem_cons, not_or]; exact ⟨fun h => e h.symm, hs⟩)
        exact ⟨y, List.mem_cons_of_mem _ h1⟩
      · exact outsEnv_has hk h hs
theorem getD_some {arr : Array Value} {t : Nat} (h : t < arr.size) : arr[t]? = some (arr.getD t undef) := by
  rw [Array.getD_eq_getD_getElem?, Array.getElem?_eq_getElem h]; rfl
theorem outsEnv_kept {kp : Nat → Bool} {n t : Nat} : ∀ {env : List (Nat × Opd)} {seen : List Nat} {y : Opd}, (t, y) ∈ outsEnv kp n env seen → kp t = true
  | [], seen, y, h => by cases h
  | z :: env, seen, y, h => by
    simp only [outsEnv] at h
    split at h
    · rename_i hc
      simp only [Bool.and_eq_true] at hc
      rcases List.mem_cons.1 h with e | h
      · cases e; exact hc.1
      · exact outsEnv_kept h
    · exact outsEnv_kept h
theorem outs_TR {kp : Nat → Bool} {nt : Nat} {tm tm' : Tr AV} {n sz : Nat} {env : List (Nat × Opd)} {loc : List AV} {σ : Pls} {a a' : Act} (ht : TR kp nt ρ tm a.tmps) (hsz : sz = a.tmps.size) (hi : Inv kp nt sz tm n env loc σ a') (hout : putOuts (outsEnv kp n env []) loc tm tm = some tm') : TR kp nt σ tm' a'.tmps := by
  refine ⟨by rw [hi.size, hsz]; exact ht.1, fun t v hk hv => ?_⟩
  rcases putOuts_get hout t with ⟨x, u, g1, g2, g3⟩ | ⟨g1, g2⟩
  · rw [g3] at hv; cases hv
    obtain ⟨_, z, h2, rfl⟩ := outsEnv_mem g1
    have hlt : t < a'.tmps.size := by rw [hi.size]; exact Nat.lt_of_lt_of_le (hi.dsts t z (lookT_mem h2)) hi.nt
    refine ⟨_, getD_some hlt, hi.ok t (relOp _ z) v ?_ g2⟩
    simp [findLoc, absFind, h2]
  · rw [g2] at hv
    obtain ⟨cv, h1, _⟩ := ht.2 t v hk hv
    have hlt : t < a'.tmps.size := by rw [hi.size, hsz]; exact (Array.getElem?_eq_some_iff.1 h1).1
    refine ⟨_, getD_some hlt, hi.ok t (.tmp t) v ?_ hv⟩
    cases hq : lookT t env with
    | some z =>
      obtain ⟨y, h3⟩ := outsEnv_has (n := n) hk hq (by simp : t ∉ ([] : List Nat))
      exact absurd h3 (g1 y)
    | none => simp only [findLoc, absFind, hq, if_pos hk]; rfl
theorem outs_same {kp : Nat → Bool} {tm tm' : Tr AV} {n D : Nat} {env : List (Nat × Opd)} {loc : List AV} (hD : kp D = false) (hout : putOuts (outsEnv kp n env []) loc tm tm = some tm') : tm'.gt D = tm.gt D := by
  rcases putOuts_get hout D with ⟨x, u, g1, _, _⟩ | ⟨_, g2⟩
  · rw [outsEnv_kept g1] at hD; cases hD
  · exact g2
theorem inv_start {kp : Nat → Bool} {nt : Nat} {tm : Tr AV} {a : Act} (ht : TR kp nt ρ tm a.tmps) : Inv kp nt a.tmps.size tm 0 [] [] ρ a := by
  refine ⟨fun t x v hx hg => ?_, rfl, fun _ _ hm => (by cases hm), fun _ _ hm => (by cases hm), rfl, ht.1⟩
  simp only [findLoc, absFind, lookT] at hx
  split at hx
  · rename_i hk
    cases hx
    obtain ⟨cv, h1, h2⟩ := ht.2 t v hk hg
    rw [Array.getD_eq_getD_getElem?, h1]; exact h2
  · cases hx
theorem deferLast_some : ∀ {os l : List Oper} {xs : List Operand}, deferLast os = some (l, xs) → ∃ o, os = l ++ [o] ∧ deferOf o = some xs
  | [], l, xs, h => by cases h
  | [o], l, xs, h => by
    simp only [deferLast, Option.map_eq_some_iff] at h
    obtain ⟨ys, h1, h2⟩ := h
    cases h2
    exact ⟨o, rfl, h1⟩
  | o :: p :: os, l, xs, h => by
    simp only [deferLast, Option.map_eq_some_iff] at h
    obtain ⟨⟨l', ys⟩, h1, h2⟩ := h
    cases h2
    obtain ⟨q, h3, h4⟩ := deferLast_some (os := p :: os) h1
    exact ⟨q, by rw [h3]; rfl, h4⟩
theorem deferOf_some {o : Oper} {xs : List Operand} (h : deferOf o = some xs) : ∃ f args ts, o.guard = none ∧ o.op = .defer ⟨.value f, args, ts⟩ ∧ o.dst = none ∧ xs = f :: args.toList := by
  obtain ⟨dst, op, ty, pos, after, guard⟩ := o
  unfold deferOf at h
  split at h
  · rename_i f args ts h1 h2 h3
    cases h
    exact ⟨f, args, ts, h1, h2, h3, rfl⟩
  · cases h
theorem compR_reg {kp : Nat → Bool} {nt : Nat} {ops : Array Oper} {is : List GIns} {outs : List (Nat × Opd)} (h : compR P kp nt ops = .reg is outs) :
    deferLast ops.toList = none ∧ is = (compOps P kp nt ops 0 [] ops.toList).1 ∧ outs = outsEnv kp (compOps P kp nt ops 0 [] ops.toList).2.1 (compOps P kp nt ops 0 [] ops.toList).2.2 [] := by
  unfold compR at h
  split at h
  · dsimp only at h; split at h <;> cases h
  · rename_i hd
    simp only [AC.reg.injEq] at h
    exact ⟨hd, h.1.symm, h.2.symm⟩
theorem reg_sound {call : CallFn} {kp : Nat → Bool} {nt id : Nat} {tm tm' : Tr AV} {ops : Array Oper} {ro : Option Nat} {Q : Exit → Act → World → Prop} {a : Act} {is : List GIns} {outs : List (Nat × Opd)} {r : List AV × Heap}
    (hn : NamesOk P) (hc : CallOk P keep call) (hr : HR P keep ρ h w) (ht : TR kp nt ρ tm a.tmps) (hcomp : compR P kp nt ops = .reg is outs) (hrun : runIs is tm call [] h = some r) (hout : putOuts outs r.1 tm tm = some tm')
    (hq : ∀ ρ' a' w', TR kp nt ρ' tm' a'.tmps → a'.defers = a.defers → Post P keep ρ h w ρ' r.2 w' → Q .normal a' w') : (Code.region id ops false).wpIn (fen ro) 0 P Q a w := by
  refine wpIn_region ?_
  obtain ⟨_, rfl, rfl⟩ := compR_reg hcomp
  have key := ops_sound (ro := ro) (Q := Q) (ops := ops) hn hc [] [] ops.toList 0 0 [] [] h w ρ a r (by simp) (inv_start ht) hr hrun (fun ρ' a' w' hi hd hp => ?_)
  · rw [List.range_eq_range']
    simpa using key
  · exact hq ρ' a' w' (outs_TR ht rfl hi hout) hd hp
theorem dfr_sound {call : CallFn} {kp : Nat → Bool} {nt nt' id : Nat} {tm tm' : Tr AV} {ops : Array Oper} {Q : Exit → Act → World → Prop} {a : Act} {is : List GIns} {outs : List (Nat × Opd)} {xs : List Opd} {r : List AV × Heap} {vs : List AV}
    (hn : NamesOk P) (hc : CallOk P keep call) (hr : HR P keep ρ h w) (ht : TR kp nt ρ tm a.tmps) (hcomp : compR P kp nt ops = .dfr is outs nt' xs) (hrun : runIs is tm call [] h = some r) (hout : putOuts outs r.1 tm tm = some tm') (hg : gets xs r.1 .leaf tm = some vs)
    (hq : ∀ ρ' a' w' (i : FuncId) (first cap : Array Value) (args : List Value) (fa ca as : List AV), TR kp nt ρ' tm' a'.tmps → vs = .func (.func i) fa ca :: as → VRs ρ' ca cap.toList → VRs ρ' fa first.toList → VRs ρ' as args →
      a'.defers = { target := .fn (.func i) cap, args := first ++ args.toArray } :: a.defers → Post P keep ρ h w ρ' r.2 w' → Q .normal a' w')
    (hfn : ∀ v as, vs = v :: as → ∃ i fa ca, v = .func (.func i) fa ca) : nt' = nt ∧ (Code.region id ops false).wpIn (fen none) 0 P Q a w := by
  unfold compR at hcomp
  split at hcomp
  case h_2 => cases hcomp
  rename_i l ys hd
  dsimp only at hcomp
  split at hcomp
  case h_2 => cases hcomp
  rename_i zs hz
  simp only [AC.dfr.injEq] at hcomp
  obtain ⟨rfl, rfl, rfl, rfl⟩ := hcomp
  refine ⟨rfl, wpIn_region ?_⟩
  obtain ⟨o, hos, ho⟩ := deferLast_some hd
  obtain ⟨f, args, ts, h1, h2, h3, rfl⟩ := deferOf_some ho
  have hlen : ops.size = l.length + 1 := by rw [← Array.length_toList, hos]; simp
  have key := ops_sound (ro := none) (Q := Q) (ops := ops) hn hc [o] [l.length] l 0 0 [] [] h w ρ a r (by simpa using hos) (inv_start ht) hr hrun (fun ρ' a' w' hi hd hp => ?_)
  · rw [List.range_eq_range', hlen, List.range'_concat]
    simpa using key
  · have hoi : ops[l.length]? = some o := by rw [← Array.getElem?_toList, hos]; simp
    have hw : Region.wanted o (yielded ops a'.tmps) = true := by simp [Region.wanted, h1]
    simp only [wpOpsIn, hoi]
    rw [if_pos hw]
    refine ⟨fun _ _ => trivial, ?_⟩
    have hvs := resolves_sound hi.ok hz hg
    cases vs with
    | nil => cases hvs
    | cons v as =>
      obtain ⟨i, fa, ca, rfl⟩ := hfn v as rfl
      obtain ⟨cv, cvs, e1, v1, v2⟩ := hvs
      simp only [List.map_cons, List.cons.injEq] at e1
      obtain ⟨e1, e2⟩ := e1
      obtain ⟨fn', first, cap, e3, hf, va, vc⟩ := v1
      cases hf
      have hsem : o.semAt (fen none).round a'.eval = pure (.defer { target := .fn (.func i) cap, args := first ++ cvs.toArray }) := by
        show o.semAt none a'.eval = _
        obtain ⟨dst, op, ty, pos, after, guard⟩ := o
        simp only at h2
        subst h2
        have hmap : (args.map a'.eval) = cvs.toArray := by apply Array.toList_inj.1; simpa using e2
        simp only [Oper.semAt, execOp, Go.resolve, e1, e3, Deferred.ofValue, hmap]
        rfl
      rw [hsem, Sem.run_pure]
      simp only [Oper.uponIn, h3, Act.put]
      exact hq ρ' _ w' i first cap cvs fa ca as (show TR _ _ ρ' tm' a'.tmps from outs_TR ht rfl hi hout) rfl vc va v2 (by simp [hd]) hp
end
end Go.Am

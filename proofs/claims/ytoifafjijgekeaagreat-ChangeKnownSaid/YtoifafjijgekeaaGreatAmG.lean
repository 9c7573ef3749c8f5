/-
  AM, 46: one round of slices.AppendSeq's loop where the elements are structs: each comes into a block of its own first.
-/
import Derived.Test.YtoifafjijgekeaaGreatAmF

namespace Go.Am
section
variable {P : Program} {keep : Keeps} {lf : Nat}

theorem sto_of {h : Heap} {b m : Nat} {t : Tr AV} {z : List AV} {vs : List AV} (hb : h.bs.gt b = some (.cells t z m false)) (hm : vs.length ≤ m) (hone : allOne vs = true) : h.sto b 0 vs = some (h.put b (.cells (fillC vs t 0) z m false)) := by
  unfold Heap.sto
  rw [cells_of hb]
  have e : Nat.ble (Nat.add 0 (len' vs)) m = true := by rw [len'_eq]; exact Nat.ble_eq_true_of_le (by show 0 + vs.length ≤ m; omega)
  rw [e, hone]

/-- the loop's record: its code, where the slice lies -/
structure AppLoopS (P : Program) (keep : Keeps) (rec : LRec) (B0 : Nat) (ts sz : Nat) (F0 F1 : List AV → Option (Blk × (Nat → AV))) : Prop where
  st : rec.st = .ready
  pending : rec.pending = none
  params : rec.params = [7]
  slot : rec.tm.gt 2 = some (.ptr (some (B0, 0)))
  off : noOff rec.tm (ntOf P rec.fn) = true
  nt : 7 < ntOf P rec.fn
  keepD : keep rec.fn (ntOf P rec.fn) = false
  assign : compC P (keep rec.fn) (ntOf P rec.fn) rec.assign = .reg [⟨none, .al F0 []⟩, ⟨none, .ef (fun vs _ h => l2 (storeN (sz + 1) h) vs) [.loc 0, .tmp 7]⟩] [(5, .loc 1)]
  body : compC P (keep rec.fn) (ntOf P rec.fn) rec.body = .block 1 (.reg [⟨none, .ld1 (.tmp 2)⟩, ⟨none, .ldn (sz + 1) (.tmp 5)⟩, ⟨none, .al F1 [.loc 0]⟩, ⟨none, .ef (fun vs id h => l2 (fun s x => appendS P ts s x id h) vs) [.loc 2, .loc 0]⟩, ⟨none, .st1 (.tmp 2) (.loc 0)⟩] [])

theorem app_roundS {prims : Prims} {n : Nat} {rec : LRec} {B0 ts e sz bs : Nat} {F0 F1 : List AV → Option (Blk × (Nat → AV))} (hL : AppLoopS P keep rec B0 ts sz F0 F1)
    (hu : P.underlying ts = some (.slice e)) (hs : tSize P e = some (sz + 1)) (hbs : tBytes P e = some bs) (hz : (tZero P e).map (fun z => Nat.beq (len' z.cells) (sz + 1)) = some true)
    {h : Heap} {l lo : Nat} {sv k : AV} {cs : List AV} {m : Nat} (hl : h.bs.gt l = some (.loop rec)) (hln : l < h.next) (hB : B0 < h.next) (hlB : l ≠ B0) {tb : Tr AV} {zb : List AV} (hb0 : h.bs.gt B0 = some (.cells tb zb 1 false)) (hsv : cellAt tb zb 0 = some sv)
    (hg : Grown h lo e (sz + 1) sv cs m) (hlo : lo ≤ h.next) (hlol : l < lo) (hloB : B0 < lo) (hroom : room bs (m + 1) = true) (hF : F1 [k] = some (rowBlk k.cells, sliceTo 1)) (hk : k.cells.length = sz + 1) (hone : allOne k.cells = true) {t0 : Tr AV} {z0 : List AV} (hF0 : F0 [] = some (.cells t0 z0 (sz + 1) false, ptrTo)) (hag : k = .agg k.cells) :
    ∃ h' sv' tb', callN P keep prims lf (n + 1) (.loop l) [k] h = some (.bool true, h') ∧ h'.bs.gt l = some (.loop rec) ∧ h'.bs.gt B0 = some (.cells tb' zb 1 false) ∧ cellAt tb' zb 0 = some sv' ∧ Grown h' lo e (sz + 1) sv' (cs ++ k.cells) (m + 1) ∧ h.next ≤ h'.next ∧
      ∀ b, b < lo → b ≠ l → b ≠ B0 → h'.bs.gt b = h.bs.gt b := by
  obtain ⟨st, pending, fn, tm, params, assign, body⟩ := rec
  obtain ⟨h1, h2, h3, h4, h5, h6, h7, h8, h9⟩ := hL
  simp only at h1 h2 h3 h4 h5 h6 h7 h8 h9
  subst h1 h2 h3
  generalize hRec : (⟨.ready, none, fn, tm, [7], assign, body⟩ : LRec) = rec at hl
  generalize hBusy : (⟨.busy, none, fn, tm, [7], assign, body⟩ : LRec) = rbusy
  let tm1 := tm.up (some k) 7
  let B1 := h.next
  let tm2 := tm1.up (some (.ptr (some (B1, 0)))) 5
  let hA0 := h.new h.next (.cells t0 z0 (sz + 1) false)
  let hA := hA0.put B1 (.cells (fillC k.cells t0 0) z0 (sz + 1) false)
  have hAn : hA.next = h.next + 1 := new_next h (.cells t0 z0 (sz + 1) false)
  have hA1 : hA.bs.gt B1 = some (.cells (fillC k.cells t0 0) z0 (sz + 1) false) := by rw [put_get, if_pos rfl]
  have hAold : ∀ b, b < h.next → hA.bs.gt b = h.bs.gt b := fun b hlt => by rw [put_get, if_neg (by omega), new_get, if_neg (by omega)]
  let hb := hA.put l (.loop rbusy)
  have hbB : hb.bs.gt B0 = some (.cells tb zb 1 false) := by rw [put_get, if_neg (fun e => hlB e.symm), hAold B0 hB]; exact hb0
  have hbn : hb.next = h.next + 1 := hAn
  have hb1 : hb.bs.gt B1 = some (.cells (fillC k.cells t0 0) z0 (sz + 1) false) := by rw [put_get, if_neg (by omega)]; exact hA1
  have hld1 : hb.ld B1 0 (sz + 1) = some k.cells := by
    rw [← hk]
    exact ld_of hb1 (by omega) (fun j hj => by rw [cellAt_fillOn, if_pos ⟨by omega, by omega⟩]; simp)
  let hc := hb.new hb.next (rowBlk k.cells)
  have hcn : hc.next = h.next + 2 := by show (hb.new hb.next _).next = _; rw [new_next, hbn]
  have hcx : hc.bs.gt (h.next + 1) = some (rowBlk k.cells) := by rw [new_get, hbn, if_pos rfl]
  have hcold : ∀ b, b < h.next → hc.bs.gt b = hb.bs.gt b := fun b hlt => by rw [new_get, hbn, if_neg (by omega)]
  have hgc : Grown hc lo e (sz + 1) sv cs m := by
    rcases hg with ⟨a, b, c⟩ | ⟨id, t, z, a1, a2, a3, a4, a5⟩
    · exact .inl ⟨a, b, c⟩
    · refine .inr ⟨id, t, z, a1, by omega, a3, ?_, a5⟩
      rw [hcold id a2, put_get, if_neg (by omega), hAold id a2]; exact a4
  have hcx' : hc.bs.gt (h.next + 1) = some (.cells (fillC k.cells .leaf 0) [] (sz + 1) false) := by rw [hcx, len_rowBlk, hk]
  obtain ⟨sv', hd, ha1, ha2, ha3, ha4, ha5⟩ := grown_append (P := P) hu hs hbs hz hgc (by omega) hroom hcx' hk (fun j hj => cellAt_fill _ _ _ hj) hone
  have hdB : hd.bs.gt B0 = some (.cells tb zb 1 false) := by
    rw [ha5 B0 (by omega) (fun id e1 e2 => ?_), hcold B0 hB, hbB]
    rcases hgc with ⟨_, _, c⟩ | ⟨id', t, z, a1, a2, a3, _⟩
    · rw [c] at e1; cases e1
    · rw [a3] at e1; cases e1; omega
  have hdl : hd.bs.gt l = some (.loop rbusy) := by
    rw [ha5 l (by omega) (fun id e1 e2 => ?_), hcold l hln, put_get, if_pos rfl]
    rcases hgc with ⟨_, _, c⟩ | ⟨id', t, z, a1, a2, a3, _⟩
    · rw [c] at e1; cases e1
    · rw [a3] at e1; cases e1; omega
  have hst := st1_of (o := 0) hdB (by omega) ha4
  let he := hd.put B0 (.cells (tb.up (some sv') 0) zb 1 false)
  have hel : he.bs.gt l = some (.loop rbusy) := by rw [put_get, if_neg hlB]; exact hdl
  let h' := he.put l (.loop rec)
  refine ⟨h', sv', tb.up (some sv') 0, ?_, by rw [put_get, if_pos rfl], by rw [put_get, if_neg (fun e => hlB e.symm), put_get, if_pos rfl], by rw [cellAt_up, if_pos rfl], ?_, ?_, fun b hlt hbl hbB0 => ?_⟩
  · show callL P keep lf (callN P keep prims lf n) l [k] h = _
    unfold callL
    rw [theLoop_of hl]
    subst hRec
    simp only
    have e1 : setPs (ntOf P fn) [7] [k] tm = some tm1 := by
      rw [setPs_cons, show Nat.ble (7 + 1) (ntOf P fn) = true from Nat.ble_eq_true_of_le h6]
      rfl
    rw [e1, ob_some', h7, h5]
    show ob (execA (callN P keep prims lf n) lf (ntOf P fn) fn (some l) (compC P (keep fn) (ntOf P fn) assign) ⟨tm1, h⟩) _ = _
    rw [h8]
    have q1 : GIns.ev ⟨none, .al F0 []⟩ [] .leaf tm1 (callN P keep prims lf n) h.next h = some (.ptr (some (B1, 0)), hA0) := by
      show ob (F0 []) (fun r => some (r.2 h.next, h.new h.next r.1)) = _
      rw [hF0]
      rfl
    have q2 : GIns.ev ⟨none, .ef (fun vs _ h => l2 (storeN (sz + 1) h) vs) [.loc 0, .tmp 7]⟩ [.ptr (some (B1, 0))] .leaf tm1 (callN P keep prims lf n) hA0.next hA0 = some (undefA, hA) := by
      show ob (gets [.loc 0, .tmp 7] [.ptr (some (B1, 0))] .leaf tm1) (fun us => l2 (storeN (sz + 1) hA0) us) = _
      have : gets [.loc 0, .tmp 7] [.ptr (some (B1, 0))] .leaf tm1 = some [.ptr (some (B1, 0)), k] := by
        show (Option.rec (motive := fun _ => Option (List AV)) none (fun us => some (.ptr (some (B1, 0)) :: us)) (Option.rec (motive := fun _ => Option (List AV)) none (fun v => some [v]) (tm1.gt 7)) : Option (List AV)) = _
        rw [show tm1.gt 7 = some k from by rw [Tr.gt_up, if_pos rfl]]
      rw [this, ob_some']
      show (Bool.rec (motive := fun _ => Option (AV × Heap)) none (Option.rec (motive := fun _ => Option (AV × Heap)) none (fun h => some (undefA, h)) (hA0.sto B1 0 k.cells)) (Nat.beq (len' k.cells) (sz + 1)) : Option (AV × Heap)) = _
      rw [sto_of (t := t0) (z := z0) (m := sz + 1) (by rw [new_get, if_pos rfl]) (by omega) hone, len'_eq, hk, show Nat.beq (sz + 1) (sz + 1) = true from by simp]
    have e2 : execA (callN P keep prims lf n) lf (ntOf P fn) fn (some l) (.reg [⟨none, .al F0 []⟩, ⟨none, .ef (fun vs _ h => l2 (storeN (sz + 1) h) vs) [.loc 0, .tmp 7]⟩] [(5, .loc 1)]) ⟨tm1, h⟩ = some (.normal, ⟨tm2, hA⟩) := by
      have hrun : runIs [⟨none, .al F0 []⟩, ⟨none, .ef (fun vs _ h => l2 (storeN (sz + 1) h) vs) [.loc 0, .tmp 7]⟩] tm1 (callN P keep prims lf n) [] h = some ([undefA, .ptr (some (B1, 0))], hA) := by
        rw [runIs_cons, q1]
        show runIs _ tm1 (callN P keep prims lf n) [.ptr (some (B1, 0))] hA0 = _
        rw [runIs_cons, q2]
        rfl
      show ob (runIs _ tm1 (callN P keep prims lf n) [] h) _ = _
      rw [hrun]
      rfl
    rw [e2, ob_some']
    show hA.theLoop l _ = _
    rw [theLoop_of (show hA.bs.gt l = some (.loop ⟨.ready, none, fn, tm, [7], assign, body⟩) from by rw [hAold l hln]; exact hl)]
    simp only
    rw [h9]
    have e3 : execA (callN P keep prims lf n) lf (ntOf P fn) fn (some l) (.block 1 (.reg [⟨none, .ld1 (.tmp 2)⟩, ⟨none, .ldn (sz + 1) (.tmp 5)⟩, ⟨none, .al F1 [.loc 0]⟩, ⟨none, .ef (fun vs id h => l2 (fun s x => appendS P ts s x id h) vs) [.loc 2, .loc 0]⟩, ⟨none, .st1 (.tmp 2) (.loc 0)⟩] [])) ⟨tm2, hb⟩ = some (.normal, ⟨tm2, he⟩) := by
      have g2 : tm2.gt 2 = some (.ptr (some (B0, 0))) := by rw [Tr.gt_up, if_neg (by decide), Tr.gt_up, if_neg (by decide)]; exact h4
      have g5 : tm2.gt 5 = some (.ptr (some (B1, 0))) := by rw [Tr.gt_up, if_pos rfl]
      have r1 : GIns.ev ⟨none, .ld1 (.tmp 2)⟩ [] .leaf tm2 (callN P keep prims lf n) hb.next hb = some (sv, hb) := by
        show ob (tm2.gt 2) (fun v => ob (load1 hb v) fun r => some (r, hb)) = _
        rw [g2, ob_some']
        show ob (hb.ld1 B0 0) _ = _
        rw [ld1_of hbB (by omega) hsv]
      have r1b : GIns.ev ⟨none, .ldn (sz + 1) (.tmp 5)⟩ [sv] .leaf tm2 (callN P keep prims lf n) hb.next hb = some (k, hb) := by
        show ob (tm2.gt 5) (fun v => ob (loadN (sz + 1) hb v) fun r => some (r, hb)) = _
        rw [g5, ob_some']
        show ob (Option.rec (motive := fun _ => Option AV) none (fun vs => some (.agg vs)) (hb.ld B1 0 (sz + 1)) : Option AV) _ = _
        rw [hld1]
        show some (AV.agg k.cells, hb) = _
        rw [← hag]
      have r2 : GIns.ev ⟨none, .al F1 [.loc 0]⟩ [k, sv] .leaf tm2 (callN P keep prims lf n) hb.next hb = some (.slice (some (h.next + 1, 0)) 1 1 none, hc) := by
        show ob (F1 [k]) (fun r => some (r.2 hb.next, hb.new hb.next r.1)) = _
        rw [hF]
        show some (sliceTo 1 hb.next, hc) = _
        rw [hbn]
        rfl
      have r3 : GIns.ev ⟨none, .ef (fun vs id h => l2 (fun s x => appendS P ts s x id h) vs) [.loc 2, .loc 0]⟩ [.slice (some (h.next + 1, 0)) 1 1 none, k, sv] .leaf tm2 (callN P keep prims lf n) hc.next hc = some (sv', hd) := ha1
      have r4 : GIns.ev ⟨none, .st1 (.tmp 2) (.loc 0)⟩ [sv', .slice (some (h.next + 1, 0)) 1 1 none, k, sv] .leaf tm2 (callN P keep prims lf n) hd.next hd = some (undefA, he) := by
        show ob (tm2.gt 2) (fun p => ob (some sv') fun v => store1 hd p v) = _
        rw [g2, ob_some', ob_some']
        show (Option.rec (motive := fun _ => Option (AV × Heap)) none (fun h => some (undefA, h)) (hd.st1 B0 0 sv') : Option (AV × Heap)) = _
        rw [hst]
      have hrun : runIs [⟨none, .ld1 (.tmp 2)⟩, ⟨none, .ldn (sz + 1) (.tmp 5)⟩, ⟨none, .al F1 [.loc 0]⟩, ⟨none, .ef (fun vs id h => l2 (fun s x => appendS P ts s x id h) vs) [.loc 2, .loc 0]⟩, ⟨none, .st1 (.tmp 2) (.loc 0)⟩] tm2 (callN P keep prims lf n) [] hb = some ([undefA, sv', .slice (some (h.next + 1, 0)) 1 1 none, k, sv], he) := by
        rw [runIs_cons, r1]
        show runIs _ tm2 (callN P keep prims lf n) [sv] hb = _
        rw [runIs_cons, r1b]
        show runIs _ tm2 (callN P keep prims lf n) [k, sv] hb = _
        rw [runIs_cons, r2]
        show runIs _ tm2 (callN P keep prims lf n) [.slice (some (h.next + 1, 0)) 1 1 none, k, sv] hc = _
        rw [runIs_cons, r3]
        show runIs _ tm2 (callN P keep prims lf n) [sv', .slice (some (h.next + 1, 0)) 1 1 none, k, sv] hd = _
        rw [runIs_cons, r4]
        rfl
      show ob (ob (runIs _ tm2 (callN P keep prims lf n) [] hb) fun r => ob (putOuts [] r.1 tm2 tm2) fun tm => some (Ex.normal, (⟨tm, r.2⟩ : St))) (fun r => inBlk 1 r) = _
      rw [hrun]
      rfl
    have e4 : (({ st := LState.busy, pending := none, fn := fn, tm := tm, params := [7], assign := assign, body := body } : LRec)) = rbusy := hBusy
    show ob (execA (callN P keep prims lf n) lf (ntOf P fn) fn (some l) _ ⟨tm2, hA.put l (.loop ⟨.busy, none, fn, tm, [7], assign, body⟩)⟩) _ = _
    rw [e4, e3, ob_some']
    unfold endRound
    rw [theLoop_of hel]
    subst hBusy
    rfl
  · rcases ha3 with ⟨a, b, c⟩ | ⟨id, t, z, a1, a2, a3, a4, a5⟩
    · exact .inl ⟨a, b, c⟩
    · refine .inr ⟨id, t, z, a1, a2, a3, ?_, a5⟩
      rw [put_get, if_neg (by omega), put_get, if_neg (by omega)]; exact a4
  · show h.next ≤ hd.next
    omega
  · rw [put_get, if_neg hbl, put_get, if_neg hbB0, ha5 b (by omega) (fun id e1 e2 => ?_), hcold b (by omega), put_get, if_neg hbl, hAold b (by omega)]
    rcases hgc with ⟨_, _, c⟩ | ⟨id', t, z, a1, a2, a3, _⟩
    · rw [c] at e1; cases e1
    · rw [a3] at e1; cases e1; omega
end
end Go.Am

/-
  AM, 50: a struct comes into a block of its own, and is read back; the block is let go.
-/
namespace Go.Am
section
variable {P : Program} {keep : Keeps} {ρ : Pls} {h : Heap} {w : World}

theorem boxed_key (hr : HR P keep ρ h w) {t : TypeId} {sz : Nat} (hs : tSize P t = some (sz + 1)) (hag : tAgg P t = some true) {k : AV} {v : Value} (hv : VR ρ k v)
    {t0 : Tr AV} {z0 : List AV} (hF0 : allocN P t = some (.cells t0 z0 (sz + 1) false, ptrTo)) (hk : k.cells.length = sz + 1) (hone : allOne k.cells = true) (hka : k = .agg k.cells) :
    ∃ a w1 w2 v', (Instr.alloc t true (.tuple #[])).run P w = .ok a w1 ∧ (Instr.storeAt t a v).run P w1 = .ok () w2 ∧ (Instr.loadAt t a).run P w2 = .ok v' w2 ∧ VR ρ k v' ∧ Post P keep ρ h w ρ h w2 := by
  obtain ⟨o, s0, a, w1, r1, os1, out1, hp1, hmk⟩ := allocN_sound (keep := keep) (w := w) (ρ := ρ) hF0
  have hb0 : ρ h.next = none := by
    cases hx : ρ h.next with
    | none => rfl
    | some p => exact absurd (hr.dom _ _ hx) (Nat.lt_irrefl _)
  obtain ⟨hbr, hva⟩ := hmk h.next hb0
  have post1 := hr.push (b := h.next) (n := h.next + 1) (Nat.le_refl _) (by omega) os1 out1 hp1 hbr
  generalize hσ : ρ.up h.next ⟨w.heap.size, 0, s0⟩ = σ at hbr hva post1
  generalize hH : (⟨h.bs.up (some (.cells t0 z0 (sz + 1) false)) h.next, h.next + 1⟩ : Heap) = hA0 at post1
  have g0 : hA0.bs.gt h.next = some (.cells t0 z0 (sz + 1) false) := by subst hH; show (h.bs.up _ _).gt _ = _; rw [Tr.gt_up, if_pos rfl]
  have gold : ∀ b, b < h.next → hA0.bs.gt b = h.bs.gt b := fun b hb => by subst hH; show (h.bs.up _ _).gt _ = _; rw [Tr.gt_up, if_neg (by omega)]
  let hA := hA0.put h.next (.cells (fillC k.cells t0 0) z0 (sz + 1) false)
  have hq : storeN (sz + 1) hA0 (ptrTo h.next) k = some (undefA, hA) := by
    show (Bool.rec (motive := fun _ => Option (AV × Heap)) none (Option.rec (motive := fun _ => Option (AV × Heap)) none (fun h => some (undefA, h)) (hA0.sto h.next 0 k.cells)) (Nat.beq (len' k.cells) (sz + 1)) : Option (AV × Heap)) = _
    rw [sto_of g0 (by omega) hone, len'_eq, hk, show Nat.beq (sz + 1) (sz + 1) = true from by simp]
  obtain ⟨_, ρ2, w2, r2, post2⟩ := storeN_sound (t := t) hs post1.hr hq hva (VR.mono post1.le _ _ hv)
  have hld : hA.ld h.next 0 (sz + 1) = some k.cells := by
    rw [← hk]
    exact ld_of (n := sz + 1) (t := fillC k.cells t0 0) (z := z0) (ro := false) (by rw [put_get, if_pos rfl]) (by omega) (fun j hj => by rw [cellAt_fillOn, if_pos ⟨by omega, by omega⟩]; simp)
  have hl : loadN (sz + 1) hA (ptrTo h.next) = some k := by
    show (Option.rec (motive := fun _ => Option AV) none (fun vs => some (.agg vs)) (hA.ld h.next 0 (sz + 1)) : Option AV) = _
    rw [hld]
    show some (AV.agg k.cells) = _
    rw [← hka]
  obtain ⟨v', r3, hv'⟩ := loadN_sound (t := t) hs hag post2.hr hl (VR.mono post2.le _ _ hva)
  have post := post1.trans post2
  refine ⟨a, w1, w2, v', r1, r2, r3, VR.back post.le _ _ _ hv hv', post.old hr fun b hb => ?_⟩
  rw [put_get, if_neg (by omega)]
  exact gold b hb
end
end Go.Am

/-
  AM, 51: a range over a map's keys where the keys are structs.
-/
namespace Go.Am
section
variable {P : Program} {keep : Keeps} {call : CallFn}

theorem ops_unit {ops : Array Oper} {i : Nat} {rest : List Nat} {o : Oper} {a : Act} {w w' : World} {op : Op} {Q : Exit → Act → World → Prop} (ho : ops[i]? = some o) (hi : IsOp o none op) (hnd : ∀ c, op ≠ .defer c)
    (hr : (execOp a.eval o).run P w = .ok .skip w') (h : wpOpsIn (fen none) 0 P ops Q rest a w') : wpOpsIn (fen none) 0 P ops Q (i :: rest) a w := by
  obtain ⟨h1, rfl, hg⟩ := hi
  have hw : Region.wanted o (yielded ops a.tmps) = true := by simp [Region.wanted, hg]
  simp only [wpOpsIn, ho]
  rw [if_pos hw]
  refine ⟨fun _ _ => trivial, ?_⟩
  rw [Oper.semAt_eq _ _ _ hnd, hr]
  first
    | exact h
    | (rw [h1]; exact h)
    | (simp only [Oper.uponIn, h1]; exact h)

/-- the code of the function that maps.Keys gives: m is what it holds, yield comes first -/
def KeysCodeS (tm t : TypeId) (c : Code) : Prop := ∃ (i0 i1 i2 i3 b0 b1 : Nat) (o0 o1 o2 o3 o4 o5 o6 o7 o8 o9 o10 o11 : Oper) (ts : Array TypeId) (tb : TypeId),
  c = .seq (.region i0 #[o0, o1] false) (.block b0 (.loop (.seq (.region i1 #[o2, o3] false) (.seq (.cond (.tmp 7) .skip (.exit b0)) (.block b1 (.seq (.region i2 #[o4, o5, o6, o11] false) (.seq (.region i3 #[o7, o8, o9, o10] false) (.cond (.tmp 13) .ret .skip)))))))) ∧
  IsOp o0 (some 4) (.load tm (.tmp 1)) ∧ IsOp o1 (some 5) (.range tm (.tmp 4)) ∧ IsOp o2 (some 6) (.next (.tmp 5) false) ∧ IsOp o3 (some 7) (.extract (.tmp 6) 0) ∧
  IsOp o4 (some 8) (.entry (.tmp 5)) ∧ IsOp o5 (some 9) (.extract (.tmp 8) 0) ∧ IsOp o6 (some 3) (.alloc t) ∧ IsOp o11 none (.store t (.tmp 3) (.tmp 9)) ∧
  IsOp o7 (some 10) (.move (.tmp 0)) ∧ IsOp o8 (some 11) (.load t (.tmp 3)) ∧ IsOp o9 (some 12) (.call ⟨.value (.tmp 10), #[.tmp 11], ts⟩) ∧ IsOp o10 (some 13) (.unOp .not tb (.tmp 12))

/-- THE KEYS COME, each once, in some order; whatever the caller keeps between the rounds. -/
theorem keys_relS (_hn : NamesOk P) (hc : CallOk P keep call) {g : FuncId} {fn : Func} {c : Code} {tm tk te t : TypeId} (hg : P.funcs[g]? = some fn) (hb : fn.body = some c) (hcode : KeysCodeS tm t c) (hres : fn.results = #[]) (hnt : 14 ≤ fn.ntmps)
    (htm : P.underlying tm = some (.map tk te)) (hag : tAgg P tm = some false)
    {ρ : Pls} {h : Heap} {w : World} {l cb mb clock : Nat} {es : List MEnt} {avs : List Value} (hr : HR P keep ρ h w) (hv : VRs ρ [.func (.yield l) [] [], .ptr (some (cb, 0))] avs)
    (hld : h.ld1 cb 0 = some (.map (some mb))) (hmb : h.bs.gt mb = some (.map es clock)) (hborn : bornOk es clock)
    {sz : Nat} (hs : tSize P t = some (sz + 1)) (hagt : tAgg P t = some true) {t0 : Tr AV} {z0 : List AV} (hF0 : allocN P t = some (.cells t0 z0 (sz + 1) false, ptrTo)) (hkeys : ∀ k ∈ es.map (·.key), k.cells.length = sz + 1 ∧ allOne k.cells = true ∧ k = .agg k.cells)
    (J : List AV → Heap → Prop) (h0 : J [] h) (hmap : ∀ ks h', J ks h' → h'.bs.gt mb = some (.map es clock))
    (hstep : ∀ ks h' k, J ks h' → ks.length < es.length → k ∈ es.map (·.key) → ∃ h'', call (.loop l) [k] h' = some (.bool true, h'') ∧ J (ks ++ [k]) h'') :
    CallsIn (fen none) 0 P g avs.toArray w (fun e w' => ∃ v, e = .returned v ∧ ∃ π h', π.Perm (es.map (·.key)) ∧ J π h' ∧ ∃ ρ', Post P keep ρ h w ρ' h' w') := by
  obtain ⟨yv, cv, rfl, vy, vc⟩ := hv.two
  have vy' := vy
  have vc' := vc
  obtain ⟨pc, hpc, rfl⟩ := vc
  obtain ⟨fn', fa, ca, rfl, ⟨pl, hpl, hpl0, rfl⟩, hfa, hca⟩ := vy
  obtain rfl : fa = #[] := Array.toList_inj.1 hfa
  obtain rfl : ca = #[] := Array.toList_inj.1 hca
  obtain ⟨pm, es0, hpm, hpm0, hm0, hes0⟩ := hr.blk _ _ hmb
  refine callsIn_of_wp hg hb trivial ?_
  obtain ⟨i0, i1, i2, i3, b0, b1, o0, o1, o2, o3, o4, o5, o6, o7, o8, o9, o10, o11, ts, tb, rfl, q0, q1, q2, q3, q4, q5, q6, q11, q7, q8, q9, q10⟩ := hcode
  -- the frame at the begin
  generalize ha0 : ({ tmps := [Value.func (Fn.yield pl.blk) #[] #[], Value.pointer (some ⟨pc.blk, pc.off + 0, none⟩)].toArray ++ Array.replicate (fn.ntmps - [Value.func (Fn.yield pl.blk) #[] #[], Value.pointer (some ⟨pc.blk, pc.off + 0, none⟩)].toArray.size) undef, defers := [] } : Act) = a0
  have hsz0 : 14 ≤ a0.tmps.size := by subst ha0; simp; omega
  have hd0 : a0.defers = [] := by subst ha0; rfl
  have e0 : a0.eval (.tmp 0) = Value.func (Fn.yield pl.blk) #[] #[] := by subst ha0; simp only [Act.eval, Array.getD_eq_getD_getElem?]; rw [Array.getElem?_append_left (by simp)]; rfl
  have e1 : a0.eval (.tmp 1) = Value.pointer (some ⟨pc.blk, pc.off + 0, none⟩) := by subst ha0; simp only [Act.eval, Array.getD_eq_getD_getElem?]; rw [Array.getElem?_append_left (by simp)]; rfl
  clear ha0
  refine wpIn_seq (wpIn_region ?_)
  show wpOpsIn (fen none) 0 P #[o0, o1] _ [0, 1] a0 w
  -- the map is read
  obtain ⟨mv, hload, vm⟩ := load1_sound (t := tm) hag hr (show load1 h (.ptr (some (cb, 0))) = some (.map (some mb)) from hld) vc'
  obtain ⟨pm', hpm', _, rfl⟩ := vm
  rw [hpm] at hpm'; cases hpm'
  refine ops_value (o := o0) rfl q0 (by intro c; simp) (w' := w) (v := .map (some pm.blk)) ?_ ?_
  · obtain ⟨dst, op, ty, pos, after, guard⟩ := o0
    obtain ⟨_, rfl, _⟩ := q0
    simp only [execOp, e1, Sem.run_bind, hload, Result.andThen_ok, Sem.run_pure]
  have s1 : ∀ (a : Act) (d : Nat) (v : Value), (a.put (some d) v).tmps.size = a.tmps.size := fun a d v => put_size _ _ _
  -- the iterator
  refine ops_value (o := o1) rfl q1 (by intro c; simp) (w' := { w with heap := w.heap.push (.mapIter (some pm.blk) clock #[] clock) }) (v := .pointer (some ⟨w.heap.size, 0, none⟩)) ?_ ?_
  · obtain ⟨dst, op, ty, pos, after, guard⟩ := o1
    obtain ⟨_, rfl, _⟩ := q1
    have e4 : (a0.put (some 4) (.map (some pm.blk))).eval (.tmp 4) = .map (some pm.blk) := by rw [put_eval (by omega), if_pos rfl]
    simp only [execOp, e4, Instr.range, Sem.run_bind, run_underlying htm, Result.andThen_ok]
    simp [getObj, newObj, Sem.run, hm0]
  simp only [wpOpsIn, Exit.then]
  let W1 : World := { w with heap := w.heap.push (.mapIter (some pm.blk) clock #[] clock) }
  have hp1 : Post P keep ρ h w ρ h W1 := Post.grow hr rfl rfl rfl
  refine wpIn_block (wpIn_loop (fun a W => ∃ (dn : List MEnt) (ρ1 : Pls) (h1 : Heap), (∀ e ∈ dn, e ∈ es) ∧ (dn.map (·.born)).Nodup ∧ J (dn.map (·.key)) h1 ∧ Post P keep ρ h w ρ1 h1 W ∧
      W.heap[w.heap.size]? = some (.mapIter (some pm.blk) clock (dn.map (·.born)).toArray clock) ∧ ¬ Own ρ1 h1 w.heap.size ∧ a.eval (.tmp 0) = Value.func (Fn.yield pl.blk) #[] #[] ∧ a.eval (.tmp 5) = .pointer (some ⟨w.heap.size, 0, none⟩) ∧ 14 ≤ a.tmps.size ∧ a.defers = [])
    (fun _ W => match W.heap[w.heap.size]? with | some (.mapIter _ _ seen _) => es.length - seen.size | _ => 0) ?_ ?_)
  · refine ⟨[], ρ, h, (by intro e he; cases he), List.nodup_nil, h0, hp1, ?_, ?_, ?_, ?_, ?_, ?_⟩
    · show (w.heap.push _)[w.heap.size]? = _
      simp
    · intro ho; exact Nat.lt_irrefl _ (own_lt hr ho)
    · rw [put_eval (by rw [s1]; omega), if_neg (by decide), put_eval (by omega), if_neg (by decide)]; exact e0
    · rw [put_eval (by rw [s1]; omega), if_pos rfl]
    · rw [s1, s1]; exact hsz0
    · rw [put_defers, put_defers]; exact hd0
  intro a W hI
  obtain ⟨dn, ρ1, h1, hsub, hnd, hJ, hP, hit, hown, f0, f5, fsz, fd⟩ := hI
  -- the map, as it lies now
  obtain ⟨pm', es1, hpm', _, hm1, hes1⟩ := hP.hr.blk _ _ (hmap _ _ hJ)
  have := hP.le _ _ hpm; rw [hpm'] at this; cases this
  have hold : ∀ x ∈ es1.toList, x.born < clock := fun x hx => by
    obtain ⟨e, he, hER⟩ := hes1.elem x hx
    rw [hER.2.2]; exact hborn.1 e he
  refine wpIn_seq (wpIn_region ?_)
  show wpOpsIn (fen none) 0 P #[o2, o3] _ [0, 1] a W
  rcases run_next_at (P := P) W o2.type w.heap.size pm.blk clock clock (dn.map (·.born)).toArray es1 clock hit hm1 hold (Nat.le_refl _) with ⟨hleft, hnext⟩ | ⟨e', he', W2, hW2, hnext⟩
  · -- nothing is left
    refine ops_value (o := o2) rfl q2 (by intro c; simp) (w' := W) (v := .tuple #[.bool false]) ?_ ?_
    · obtain ⟨dst, op, ty, pos, after, guard⟩ := o2
      obtain ⟨_, rfl, _⟩ := q2
      simp only [execOp, f5, Sem.run_bind]
      rw [hnext]; rfl
    refine ops_value (o := o3) rfl q3 (by intro c; simp) (w' := W) (v := .bool false) ?_ ?_
    · obtain ⟨dst, op, ty, pos, after, guard⟩ := o3
      obtain ⟨_, rfl, _⟩ := q3
      have e6 : (a.put (some 6) (.tuple #[.bool false])).eval (.tmp 6) = .tuple #[.bool false] := by rw [put_eval (by omega), if_pos rfl]
      simp only [execOp, e6]
      rfl
    simp only [wpOpsIn, Exit.then]
    refine wpIn_seq (wpIn_cond_false (by rw [put_eval (by rw [s1]; omega), if_pos rfl]) (wpIn_exit ?_))
    simp only [Exit.then, Exit.inBlock, if_true]
    refine ⟨by rw [put_defers, put_defers]; exact fd, .tuple #[], ?_, .tuple #[], rfl, dn.map (·.key), h1, ?_, hJ, ρ1, hP⟩
    · simp [results, hres]
    · refine List.Perm.map _ ?_
      have hnd2 : dn.Nodup := nodup_map hnd
      have hes : es.Nodup := nodup_map (nodup_born hborn)
      refine (List.perm_ext_iff_of_nodup hnd2 hes).2 fun e => ⟨hsub e, fun he => ?_⟩
      obtain ⟨x, hx, hER⟩ := hes1.elem2 e he
      have hx2 : x ∉ leftOf es1 (dn.map (·.born)).toArray := by
        have : leftOf es1 (dn.map (·.born)).toArray = #[] := Array.eq_empty_of_size_eq_zero hleft
        rw [this]; simp
      simp only [leftOf, Array.mem_filter, not_and, Bool.not_eq_true', Bool.not_eq_false] at hx2
      have hc2 := hx2 (by simpa using hx)
      rw [hER.2.2] at hc2
      have : e.born ∈ dn.map (·.born) := by simpa using hc2
      obtain ⟨d, hd, hde⟩ := List.mem_map.1 this
      rw [← born_inj hborn (hsub d hd) he hde]; exact hd
  · -- one has come
    simp only [leftOf, Array.mem_toList_iff, Array.mem_filter, Bool.not_eq_true'] at he'
    obtain ⟨he1, he2⟩ := he'
    obtain ⟨e, hee, hER⟩ := hes1.elem e' (by simpa using he1)
    have hnew : e.born ∉ dn.map (·.born) := by
      rw [hER.2.2] at he2
      intro hx
      have : (dn.map (·.born)).toArray.contains e.born = true := by simpa using hx
      rw [this] at he2; cases he2
    let W3 : World := ChangeMaps.setBlock W2 w.heap.size (.mapIter (some pm.blk) clock ((dn.map (·.born)).toArray.push e'.born) clock)
    have hW2h : W2.heap = W.heap := by rcases hW2 with rfl | rfl <;> rfl
    have hW2o : W2.os = W.os ∧ W2.output = W.output := by rcases hW2 with rfl | rfl <;> exact ⟨rfl, rfl⟩
    have hlt : w.heap.size < W.heap.size := (Array.getElem?_eq_some_iff.1 hit).1
    have hW3 : ∀ k, k ≠ w.heap.size → W3.heap[k]? = W.heap[k]? := fun k hk => by
      show (W2.heap.setIfInBounds _ _)[k]? = _
      rw [Array.getElem?_setIfInBounds, if_neg (fun e => hk e.symm), hW2h]
    have hit3 : W3.heap[w.heap.size]? = some (.mapIter (some pm.blk) clock ((dn.map (·.born)).toArray.push e'.born) clock) := by
      show (W2.heap.setIfInBounds _ _)[w.heap.size]? = _
      rw [Array.getElem?_setIfInBounds, if_pos rfl, if_pos (by rw [hW2h]; exact hlt)]
    have hP3 : Post P keep ρ h w ρ1 h1 W3 := by
      refine ⟨hP.le, hP.hr.frame fun b x p hx hd hp => hW3 _ fun e => hown ⟨b, x, p, hx, hd, hp, e⟩, ⟨hW2o.1.trans hP.fr.os, hW2o.2.trans hP.fr.output, ?_, fun k hk ho => (hW3 k (by omega)).trans (hP.fr.same k hk ho)⟩, hP.own, hP.next, hP.new⟩
      show w.heap.size ≤ (W2.heap.setIfInBounds _ _).size
      have := hP.fr.size
      simp [hW2h]; omega
    have hnext : (Instr.next (.pointer (some ⟨w.heap.size, 0, none⟩)) false o2.type).run P W = .ok (.tuple #[.bool true, e'.key, e'.val]) W3 := hnext
    refine ops_value (o := o2) rfl q2 (by intro c; simp) (w' := W3) (v := .tuple #[.bool true, e'.key, e'.val]) ?_ ?_
    · obtain ⟨dst, op, ty, pos, after, guard⟩ := o2
      obtain ⟨_, rfl, _⟩ := q2
      simp only [execOp, f5, Sem.run_bind]
      rw [hnext]; rfl
    refine ops_value (o := o3) rfl q3 (by intro c; simp) (w' := W3) (v := .bool true) ?_ ?_
    · obtain ⟨dst, op, ty, pos, after, guard⟩ := o3
      obtain ⟨_, rfl, _⟩ := q3
      have e6 : (a.put (some 6) (.tuple #[.bool true, e'.key, e'.val])).eval (.tmp 6) = .tuple #[.bool true, e'.key, e'.val] := by rw [put_eval (by omega), if_pos rfl]
      simp only [execOp, e6]
      rfl
    simp only [wpOpsIn, Exit.then]
    generalize hA : ((a.put (some 6) (.tuple #[.bool true, e'.key, e'.val])).put (some 7) (.bool true)) = A
    have A0 : A.eval (.tmp 0) = Value.func (Fn.yield pl.blk) #[] #[] := by subst hA; rw [put_eval (by rw [s1]; omega), if_neg (by decide), put_eval (by omega), if_neg (by decide)]; exact f0
    have A5 : A.eval (.tmp 5) = .pointer (some ⟨w.heap.size, 0, none⟩) := by subst hA; rw [put_eval (by rw [s1]; omega), if_neg (by decide), put_eval (by omega), if_neg (by decide)]; exact f5
    have A7 : A.eval (.tmp 7) = .bool true := by subst hA; rw [put_eval (by rw [s1]; omega), if_pos rfl]
    have Asz : 14 ≤ A.tmps.size := by subst hA; rw [s1, s1]; exact fsz
    have Ad : A.defers = [] := by subst hA; rw [put_defers, put_defers]; exact fd
    clear hA
    refine wpIn_seq (wpIn_cond_true A7 (wpIn_skip ?_))
    simp only [Exit.then]
    refine wpIn_block (wpIn_seq (wpIn_region ?_))
    show wpOpsIn (fen none) 0 P #[o4, o5, o6, o11] _ [0, 1, 2, 3] A W3
    have hm3 : W3.heap[pm.blk]? = some (.map es1 clock) := by
      rw [hW3 _ (fun e => ?_)]; exact hm1
      exact hown ⟨mb, _, pm, hmap _ _ hJ, rfl, hpm', e⟩
    have hnb : (es1.toList.map (·.born)).Nodup := by rw [hes1.borns]; exact nodup_born hborn
    refine ops_value (o := o4) rfl q4 (by intro c; simp) (w' := W3) (v := .tuple #[e'.key, e'.val]) ?_ ?_
    · obtain ⟨dst, op, ty, pos, after, guard⟩ := o4
      obtain ⟨_, rfl, _⟩ := q4
      simp only [execOp, A5, Sem.run_bind]
      rw [run_entry_at W3 w.heap.size pm.blk clock _ es1 clock e' hit3 hm3 (by simpa using he1) hnb]; rfl
    refine ops_value (o := o5) rfl q5 (by intro c; simp) (w' := W3) (v := e'.key) ?_ ?_
    · obtain ⟨dst, op, ty, pos, after, guard⟩ := o5
      obtain ⟨_, rfl, _⟩ := q5
      have e8 : (A.put (some 8) (.tuple #[e'.key, e'.val])).eval (.tmp 8) = .tuple #[e'.key, e'.val] := by rw [put_eval (by omega), if_pos rfl]
      simp only [execOp, e8]
      rfl
    have hER2 : VR ρ1 e.key e'.key := by
      have := hER.1
      exact this
    obtain ⟨kl, ko, ka⟩ := hkeys e.key (List.mem_map.2 ⟨e, hee, rfl⟩)
    obtain ⟨av, w1, W6, kv, r1, r2, r3, hkv, hPb⟩ := boxed_key hP3.hr hs hagt hER2 hF0 kl ko ka
    have hP6 := hP3.trans hPb
    have hlt6 : w.heap.size < W3.heap.size := (Array.getElem?_eq_some_iff.1 hit3).1
    have hit6 : W6.heap[w.heap.size]? = some (.mapIter (some pm.blk) clock ((dn.map (·.born)).toArray.push e'.born) clock) := (hPb.fr.same _ hlt6 hown).trans hit3
    refine ops_value (o := o6) rfl q6 (by intro c; simp) (w' := w1) (v := av) ?_ ?_
    · obtain ⟨dst, op, ty, pos, after, guard⟩ := o6
      obtain ⟨_, rfl, _⟩ := q6
      simp only [execOp, Sem.run_bind, r1, Result.andThen_ok, Sem.run_pure]
    refine ops_unit (o := o11) rfl q11 (by intro c; simp) (w' := W6) ?_ ?_
    · obtain ⟨dst, op, ty, pos, after, guard⟩ := o11
      obtain ⟨_, rfl, _⟩ := q11
      have e3 : (((A.put (some 8) (.tuple #[e'.key, e'.val])).put (some 9) e'.key).put (some 3) av).eval (.tmp 3) = av := by rw [put_eval (by rw [s1, s1]; omega), if_pos rfl]
      have e9 : (((A.put (some 8) (.tuple #[e'.key, e'.val])).put (some 9) e'.key).put (some 3) av).eval (.tmp 9) = e'.key := by rw [put_eval (by rw [s1, s1]; omega), if_neg (by decide), put_eval (by rw [s1]; omega), if_pos rfl]
      simp only [execOp, e3, e9, Sem.run_bind, r2, Result.andThen_ok, Sem.run_pure]
    simp only [wpOpsIn, Exit.then]
    generalize hB : (((A.put (some 8) (.tuple #[e'.key, e'.val])).put (some 9) e'.key).put (some 3) av) = B
    have B0 : B.eval (.tmp 0) = Value.func (Fn.yield pl.blk) #[] #[] := by subst hB; rw [put_eval (by rw [s1, s1]; omega), if_neg (by decide), put_eval (by rw [s1]; omega), if_neg (by decide), put_eval (by omega), if_neg (by decide)]; exact A0
    have B5 : B.eval (.tmp 5) = .pointer (some ⟨w.heap.size, 0, none⟩) := by subst hB; rw [put_eval (by rw [s1, s1]; omega), if_neg (by decide), put_eval (by rw [s1]; omega), if_neg (by decide), put_eval (by omega), if_neg (by decide)]; exact A5
    have B3 : B.eval (.tmp 3) = av := by subst hB; rw [put_eval (by rw [s1, s1]; omega), if_pos rfl]
    have Bsz : 14 ≤ B.tmps.size := by subst hB; rw [s1, s1, s1]; exact Asz
    have Bd : B.defers = [] := by subst hB; rw [put_defers, put_defers, put_defers]; exact Ad
    clear hB
    refine wpIn_seq (wpIn_region ?_)
    show wpOpsIn (fen none) 0 P #[o7, o8, o9, o10] _ [0, 1, 2, 3] B W6
    refine ops_value (o := o7) rfl q7 (by intro c; simp) (w' := W6) (v := Value.func (Fn.yield pl.blk) #[] #[]) ?_ ?_
    · obtain ⟨dst, op, ty, pos, after, guard⟩ := o7
      obtain ⟨_, rfl, _⟩ := q7
      simp only [execOp, B0]; rfl
    refine ops_value (o := o8) rfl q8 (by intro c; simp) (w' := W6) (v := kv) ?_ ?_
    · obtain ⟨dst, op, ty, pos, after, guard⟩ := o8
      obtain ⟨_, rfl, _⟩ := q8
      have e3 : (B.put (some 10) (Value.func (Fn.yield pl.blk) #[] #[])).eval (.tmp 3) = av := by rw [put_eval (by omega), if_neg (by decide)]; exact B3
      simp only [execOp, e3, Sem.run_bind, r3, Result.andThen_ok, Sem.run_pure]
    generalize hC : ((B.put (some 10) (Value.func (Fn.yield pl.blk) #[] #[])).put (some 11) kv) = C
    have C0 : C.eval (.tmp 0) = Value.func (Fn.yield pl.blk) #[] #[] := by subst hC; rw [put_eval (by rw [s1]; omega), if_neg (by decide), put_eval (by omega), if_neg (by decide)]; exact B0
    have C5 : C.eval (.tmp 5) = .pointer (some ⟨w.heap.size, 0, none⟩) := by subst hC; rw [put_eval (by rw [s1]; omega), if_neg (by decide), put_eval (by omega), if_neg (by decide)]; exact B5
    have C10 : C.eval (.tmp 10) = Value.func (Fn.yield pl.blk) #[] #[] := by subst hC; rw [put_eval (by rw [s1]; omega), if_neg (by decide), put_eval (by omega), if_pos rfl]
    have C11 : C.eval (.tmp 11) = kv := by subst hC; rw [put_eval (by rw [s1]; omega), if_pos rfl]
    have Csz : 14 ≤ C.tmps.size := by subst hC; rw [s1, s1]; exact Bsz
    have Cd : C.defers = [] := by subst hC; rw [put_defers, put_defers]; exact Bd
    clear hC
    -- the call of yield
    have hdl : dn.length < es.length := by
      have hsub2 : (dn ++ [e]).map (·.born) ⊆ es.map (·.born) := by
        intro x hx
        obtain ⟨y, hy, rfl⟩ := List.mem_map.1 hx
        refine List.mem_map.2 ⟨y, ?_, rfl⟩
        rcases List.mem_append.1 hy with h1 | h1
        · exact hsub y h1
        · rw [List.mem_singleton.1 h1]; exact hee
      have hnd2 : ((dn ++ [e]).map (·.born)).Nodup := by
        rw [List.map_append, List.nodup_append]
        exact ⟨hnd, by simp, fun x hx y hy e2 => by
          simp only [List.map_cons, List.map_nil, List.mem_singleton] at hy
          subst hy; subst e2; exact hnew hx⟩
      have := nodup_le hnd2 hsub2
      simp at this; omega
    obtain ⟨h2, hcall, hJ2⟩ := hstep (dn.map (·.key)) h1 e.key hJ (by simpa using hdl) (List.mem_map.2 ⟨e, hee, rfl⟩)
    obtain ⟨f', tmps', assign', body', hy, hround⟩ := hc _ _ _ _ hcall ρ1 W6 [kv] hP6.hr ⟨_, [], rfl, hkv, rfl⟩ pl (hP.le _ _ hpl)
    have hcallrun : (execOp C.eval o9).run P W6 = .ok (.round pl.blk f' tmps' assign' body') W6 := by
      obtain ⟨dst, op, ty, pos, after, guard⟩ := o9
      obtain ⟨_, rfl, _⟩ := q9
      simp only [execOp, Go.resolve, C10, Deferred.ofValue, Sem.run_bind, Sem.run_pure, Result.andThen_ok, invoke, List.map_toArray, List.map_cons, List.map_nil, C11]
      simp only [Array.empty_append]
      exact hy
    have hdst9 : o9.dst = some 12 := q9.1
    have hg9 : Region.wanted o9 (yielded #[o7, o8, o9, o10] C.tmps) = true := by simp [Region.wanted, q9.2.2]
    simp only [wpOpsIn]
    rw [show (#[o7, o8, o9, o10] : Array Oper)[2]? = some o9 from rfl]
    simp only
    rw [if_pos hg9]
    refine ⟨fun _ _ => trivial, ?_⟩
    rw [Oper.semAt_eq _ _ _ (by rw [q9.2.1]; intro c e; cases e), hcallrun, Oper.uponIn_round]
    refine ⟨fun hd => (by cases hd), RoundIn.mono (F := fen none) hround fun en W4 hR => ?_⟩
    cases en with
    | panicked chain => exact hR.elim
    | outgrown => exact hR.elim
    | returned rv =>
      obtain ⟨ρ2, vr, hP4⟩ := hR
      cases vr
      rw [hdst9]
      rw [show (#[o7, o8, o9, o10] : Array Oper)[3]? = some o10 from rfl]
      simp only
      rw [if_pos (by simp [Region.wanted, q10.2.2])]
      refine ⟨fun _ _ => trivial, ?_⟩
      have hnot : (execOp (C.put (some 12) (.bool true)).eval o10).run P W4 = .ok (.value (.bool false)) W4 := by
        obtain ⟨dst, op, ty, pos, after, guard⟩ := o10
        obtain ⟨_, rfl, _⟩ := q10
        have e12 : (C.put (some 12) (.bool true)).eval (.tmp 12) = .bool true := by rw [put_eval (by omega), if_pos rfl]
        simp only [execOp, e12]; rfl
      rw [Oper.semAt_eq _ _ _ (by rw [q10.2.1]; intro c e; cases e), hnot, Oper.uponIn_value, q10.1]
      refine wpIn_cond_false (by rw [put_eval (by rw [s1]; omega), if_pos rfl]) (wpIn_skip ?_)
      simp only [Exit.inBlock, Exit.then]
      have hP5 := hP6.trans hP4
      have hown3 : ¬ Own ρ1 h1 w.heap.size := hown
      have hlt3 : w.heap.size < W6.heap.size := (Array.getElem?_eq_some_iff.1 hit6).1
      have hit4 : W4.heap[w.heap.size]? = some (.mapIter (some pm.blk) clock ((dn.map (·.born)).toArray.push e'.born) clock) := (hP4.fr.same _ hlt3 hown3).trans hit6
      refine ⟨⟨dn ++ [e], ρ2, h2, ?_, ?_, ?_, hP5, ?_, ?_, ?_, ?_, ?_, ?_⟩, ?_⟩
      · intro x hx
        rcases List.mem_append.1 hx with h1 | h1
        · exact hsub x h1
        · rw [List.mem_singleton.1 h1]; exact hee
      · rw [List.map_append, List.nodup_append]
        exact ⟨hnd, by simp, fun x hx y hy e2 => by
          simp only [List.map_cons, List.map_nil, List.mem_singleton] at hy
          subst hy; subst e2; exact hnew hx⟩
      · rw [List.map_append]; exact hJ2
      · rw [hit4, hER.2.2]; simp
      · exact fun ho => hown3 (hP4.own _ hlt3 ho)
      · rw [put_eval (by rw [s1]; omega), if_neg (by decide), put_eval (by omega), if_neg (by decide)]; exact C0
      · rw [put_eval (by rw [s1]; omega), if_neg (by decide), put_eval (by omega), if_neg (by decide)]; exact C5
      · rw [s1, s1]; exact Csz
      · rw [put_defers, put_defers]; exact Cd
      · simp only [hit4, hit, Array.size_push, List.size_toArray, List.length_map]
        omega
end
end Go.Am

/-
  AM, 47: slices.AppendSeq(nil, maps.Keys(m)) where the keys are structs; slices.SortedFunc.
-/
namespace Go.Am
section
variable {P : Program} {keep : Keeps} {lf : Nat}

structure AppCodeS (P : Program) (keep : Keeps) (A : FuncId) (ts sz : Nat) (F0 F1 : List AV → Option (Blk × (Nat → AV))) where
  fn : Func
  c0 : Code
  c1 : Code
  c2 : Code
  As : Code
  Bd : Code
  g0 : Operand
  ps : Array Tmp
  b0 : Nat
  hf : P.funcs[A]? = some fn
  hb : fn.body = some (.seq c0 (.seq (.seq c1 (.block b0 (.rangeFunc g0 ps As Bd))) c2))
  res : fn.results.toList = [.tmp 4]
  nt : ntOf P A = fn.ntmps
  nt7 : 7 < fn.ntmps
  kD : keep A (ntOf P A) = false
  k4 : keep A 4 = true
  g : Am.resolve (fun t => if keep A t then some (.tmp t) else none) g0 = some (.tmp 6)
  p7 : ps.toList = [7]
  e0 : compC P (keep A) (ntOf P A) c0 = .reg [⟨none, .al (l1 box1) [.tmp 0]⟩] [(4, .cst (.slice none 0 0 none)), (2, .loc 0)]
  e1 : compC P (keep A) (ntOf P A) c1 = .reg [] [(6, .tmp 1)]
  e2 : compC P (keep A) (ntOf P A) c2 = .seq (.reg [⟨none, .ld1 (.tmp 2)⟩] [(4, .loc 0)]) .ret
  eA : compC P (keep A) (ntOf P A) As = .reg [⟨none, .al F0 []⟩, ⟨none, .ef (fun vs _ h => l2 (storeN (sz + 1) h) vs) [.loc 0, .tmp 7]⟩] [(5, .loc 1)]
  eB : compC P (keep A) (ntOf P A) Bd = .block 1 (.reg [⟨none, .ld1 (.tmp 2)⟩, ⟨none, .ldn (sz + 1) (.tmp 5)⟩, ⟨none, .al F1 [.loc 0]⟩, ⟨none, .ef (fun vs id h => l2 (fun s x => appendS P ts s x id h) vs) [.loc 2, .loc 0]⟩, ⟨none, .st1 (.tmp 2) (.loc 0)⟩] [])

theorem append_relS {prims : Prims} {n : Nat} (hm : P.follows .mixedOrders = true) (hn : NamesOk P) (hc : CallOk P keep (callN P keep prims lf (n + 1)))
    {A : FuncId} {ts e sz bs : Nat} {F0 F1 : List AV → Option (Blk × (Nat → AV))} (C : AppCodeS P keep A ts sz F0 F1)
    (hu : P.underlying ts = some (.slice e)) (hs : tSize P e = some (sz + 1)) (hbs : tBytes P e = some bs) (hz : (tZero P e).map (fun z => Nat.beq (len' z.cells) (sz + 1)) = some true)
    {g : FuncId} {gfn : Func} {gc : Code} {tm tk te t : TypeId} (hg : P.funcs[g]? = some gfn) (hgb : gfn.body = some gc) (hcode : KeysCodeS tm t gc) (hres : gfn.results = #[]) (hnt : 14 ≤ gfn.ntmps)
    (htm : P.underlying tm = some (.map tk te)) (hag : tAgg P tm = some false)
    {ρ : Pls} {h : Heap} {w : World} {cb mb clock : Nat} {es : List MEnt} {avs : List Value} (hr : HR P keep ρ h w) (hv : VRs ρ [.slice none 0 0 none, .func (.func g) [] [.ptr (some (cb, 0))]] avs)
    (hld : h.ld1 cb 0 = some (.map (some mb))) (hmb : h.bs.gt mb = some (.map es clock)) (hborn : bornOk es clock)
    (hkeys : ∀ k ∈ es.map (·.key), F1 [k] = some (rowBlk k.cells, sliceTo 1) ∧ k.cells.length = sz + 1 ∧ allOne k.cells = true ∧ k = .agg k.cells) {t0 : Tr AV} {z0 : List AV} (hF0 : F0 [] = some (.cells t0 z0 (sz + 1) false, ptrTo)) (hst : tSize P t = some (sz + 1)) (hagt : tAgg P t = some true) (hF0a : allocN P t = some (.cells t0 z0 (sz + 1) false, ptrTo)) (hroom : ∀ m, m < es.length → room bs (m + 1) = true) :
    CallsIn (fen none) 0 P A avs.toArray w (fun e' w' => ∃ v, e' = .returned v ∧ ∃ π : List AV, π.Perm (es.map (·.key)) ∧ ∃ ρ' h' sv, VR ρ' sv v ∧ Grown h' (h.next + 2) e (sz + 1) sv (π.flatMap AV.cells) π.length ∧ Post P keep ρ h w ρ' h' w' ∧ ∀ b, b < h.next → h'.bs.gt b = h.bs.gt b) := by
  obtain ⟨fn, c0, c1, c2, As, Bd, g0, ps, b0, hf, hb, res, nt, nt7, kD, k4, gres, p7, e0, e1, e2, eA, eB⟩ := C
  let nilS : AV := .slice none 0 0 none
  let sq : AV := .func (.func g) [] [.ptr (some (cb, 0))]
  let call := callN P keep prims lf (n + 1)
  let B0 := h.next
  let tm0 : Tr AV := fillC [nilS, sq] .leaf 0
  let h1 := h.new B0 (rowBlk [nilS])
  let tm1 : Tr AV := (tm0.up (some nilS) 4).up (some (.ptr (some (B0, 0)))) 2
  let tm2 : Tr AV := tm1.up (some sq) 6
  let l := h1.next
  have hl : l = h.next + 1 := new_next h _
  let rec0 : LRec := ⟨.ready, none, A, tm2.up none (ntOf P A), ps.toList, As, Bd⟩
  let h2 := h1.new l (.loop rec0)
  have hlen := hv.length
  have htr : TR (keep A) (ntOf P A) ρ tm0 (avs.toArray ++ Array.replicate (fn.ntmps - avs.toArray.size) undef) := by rw [nt]; exact args_TR hv
  refine callsIn_of_wp_marks hf hb trivial ?_
  have hoff0 : putOff tm0 (ntOf P A) = [] := args_off (by rw [nt]; simp; omega)
  have hd : DefOk ⟨w.heap.size, none⟩ ρ h (putOff tm0 (ntOf P A)) [] w := ⟨⟨(fun d hd => by cases hd), List.Pairwise.nil⟩, hoff0, fun ds0 e => by cases e⟩
  have x0 : execA call lf (ntOf P A) A none (compC P (keep A) (ntOf P A) c0) ⟨tm0, h⟩ = some (.normal, ⟨tm1, h1⟩) := by rw [e0]; rfl
  have hoff1 : putOff tm1 (ntOf P A) = [] := by
    rw [← hoff0]
    refine putOff_same ?_
    rw [Tr.gt_up, if_neg (by omega), Tr.gt_up, if_neg (by omega)]
  have hoff2 : putOff tm2 (ntOf P A) = [] := by
    rw [← hoff1]
    refine putOff_same ?_
    rw [Tr.gt_up, if_neg (by omega)]
  have g12 : tm1.gt 1 = some sq := rfl
  have x1 : execA call lf (ntOf P A) A none (compC P (keep A) (ntOf P A) c1) ⟨tm1, h1⟩ = some (.normal, ⟨tm2, h1⟩) := by rw [e1]; rfl
  refine wpIn_seq (exec_sound kD hm hn hc c0 ⟨tm0, h⟩ _ x0 ⟨w.heap.size, none⟩ ρ _ w none _ rfl hr htr hd (Nat.le_refl _) (fun e => by cases e) (fun ρ1 a1 w1 hp1 ht1 hd1 => ?_))
  simp only [exOf, Exit.then]
  refine wpIn_seq (wpIn_seq (exec_sound kD hm hn hc c1 ⟨tm1, h1⟩ _ x1 ⟨w.heap.size, none⟩ ρ1 _ w1 none _ rfl hp1.hr ht1 hd1 hp1.fr.size (fun e => by cases e) (fun ρ2 a2 w2 hp2 ht2 hd2 => ?_)))
  simp only [exOf, Exit.then]
  have hp02 := hp1.trans hp2
  -- what holds between the rounds
  let J : List AV → Heap → Prop := fun ks h' => h'.bs.gt l = some (.loop rec0) ∧ (∃ tb sv, h'.bs.gt B0 = some (.cells tb [] 1 false) ∧ cellAt tb [] 0 = some sv ∧ Grown h' (h.next + 2) e (sz + 1) sv (ks.flatMap AV.cells) ks.length) ∧ h.next + 2 ≤ h'.next ∧ ∀ b, b < h.next → h'.bs.gt b = h.bs.gt b
  have hmlt : mb < h.next := hr.has _ _ hmb
  obtain ⟨tc, zc, mc, rc, hcb, hclt, hcv⟩ := ld1_some hld
  have hclt2 : cb < h.next := hr.has _ _ hcb
  have h2old : ∀ b, b < h.next → h2.bs.gt b = h.bs.gt b := fun b hlt => by
    rw [new_get, if_neg (by omega), new_get, if_neg (by omega)]
  have hJ0 : J [] h2 := by
    refine ⟨by rw [new_get, if_pos rfl], ⟨fillC [nilS] .leaf 0, nilS, ?_, ?_, .inl ⟨rfl, rfl, rfl⟩⟩, ?_, h2old⟩
    · rw [new_get, if_neg (by omega), new_get, if_pos rfl, len_rowBlk]; rfl
    · rfl
    · show h.next + 2 ≤ (h1.new h1.next _).next
      rw [new_next]; omega
  have hL : AppLoopS P keep rec0 B0 ts sz F0 F1 := by
    refine ⟨rfl, rfl, p7, ?_, ?_, by rw [nt]; exact nt7, kD, eA, eB⟩
    · show (tm2.up none (ntOf P A)).gt 2 = _
      rw [Tr.gt_up, if_neg (by omega)]; rfl
    · show noOff (tm2.up none (ntOf P A)) (ntOf P A) = true
      unfold noOff
      rw [Tr.gt_up, if_pos rfl]
  refine wpIn_block (range_rel kD hn gres (s := ⟨tm2, h1⟩) (n0 := ⟨w.heap.size, none⟩) hp2.hr ht2 hd2 hp02.fr.size rfl (i := g) (cap := [.ptr (some (cb, 0))]) rfl (fun h' => ∃ π : List AV, π.Perm (es.map (·.key)) ∧ J π h') ?_ ?_ ?_)
  · intro ρ' w' avs' hr' hv'
    refine ⟨⟨gfn, gc, hg, hgb⟩, ?_⟩
    refine (CallsIn.mono (F := fen none) (keys_relS hn hc hg hgb hcode hres hnt htm hag (h := h2) (l := l) (cb := cb) (mb := mb) (clock := clock) (es := es) hr' hv' ?_ (by rw [h2old _ hmlt]; exact hmb) hborn hst hagt hF0a (fun k hk => let ⟨_, a, b, c⟩ := hkeys k hk; ⟨a, b, c⟩) J hJ0 (fun ks h' hJ => by rw [hJ.2.2.2 _ hmlt]; exact hmb) ?_) ?_)
    · exact ld1_of (by rw [h2old _ hclt2]; exact hcb) hclt hcv
    · intro ks h' k ⟨j1, ⟨tb, sv, j2, j3, j4⟩, j5, j6⟩ hlt hk
      obtain ⟨k1, k2, k3, k4'⟩ := hkeys k hk
      obtain ⟨h'', sv', tb', r1, r2, r3, r4, r5, r6, r7⟩ := app_roundS (P := P) (keep := keep) (prims := prims) (lf := lf) (n := n) hL hu hs hbs hz (h := h') (l := l) (lo := h.next + 2) (sv := sv) (k := k) (cs := ks.flatMap AV.cells) (m := ks.length) j1 (by omega) (by omega) (by omega) j2 j3 j4 j5 (by omega) (by omega) (hroom _ hlt) k1 k2 k3 hF0 k4'
      refine ⟨h'', r1, r2, ⟨tb', sv', r3, r4, ?_⟩, by omega, fun b hb2 => ?_⟩
      · rw [List.flatMap_append, List.length_append]
        simpa using r5
      · rw [r7 b (by omega) (by omega) (by omega)]; exact j6 b hb2
    · rintro e' w'' ⟨v, rfl, π, h', hπ, hJ, ρ'', hp⟩
      exact ⟨v, rfl, h', ⟨π, hπ, hJ⟩, ρ'', hp⟩
  · rintro h' ⟨π, _, hJ⟩
    exact ⟨rec0, hJ.1, (fun e => by cases e), rfl⟩
  · rintro h' b ⟨π, hπ, j1, ⟨tb, sv, j2, j3, j4⟩, j5, j6⟩ hbl
    have j1' := j1
    rw [show l = (⟨tm2, h1⟩ : St).hp.next from rfl, hbl] at j1'
    cases j1'
    intro ρ3 a3 w3 hp3 ht3 hd3
    simp only [Exit.inBlock, Exit.then]
    -- the end
    let h3 := h'.put l (.loop { rec0 with st := .exhausted })
    have hB3 : h3.bs.gt B0 = some (.cells tb [] 1 false) := by rw [put_get, if_neg (by omega)]; exact j2
    have x2 : execA call lf (ntOf P A) A none (compC P (keep A) (ntOf P A) c2) ⟨tm2, h3⟩ = some (.ret, ⟨tm2.up (some sv) 4, h3⟩) := by
      rw [e2]
      have r1 : GIns.ev ⟨none, .ld1 (.tmp 2)⟩ [] .leaf tm2 call h3.next h3 = some (sv, h3) := by
        show ob (h3.ld1 B0 0) _ = _
        rw [ld1_of hB3 (by omega) j3]
      show ob (ob (ob (GIns.ev ⟨none, .ld1 (.tmp 2)⟩ [] .leaf tm2 call h3.next h3) (fun r => some ([r.1], r.2))) (fun r => ob (putOuts [(4, .loc 0)] r.1 tm2 tm2) fun tm => some (Ex.normal, (⟨tm, r.2⟩ : St)))) (fun r => thenX r fun s => some (.ret, s)) = _
      rw [r1]
      rfl
    have hoff3 : putOff (tm2.up (some sv) 4) (ntOf P A) = [] := by
      rw [← hoff2]
      refine putOff_same ?_
      rw [Tr.gt_up, if_neg (by omega)]
    have hp03 := hp02.trans hp3
    refine exec_sound kD hm hn hc c2 ⟨tm2, h3⟩ _ x2 ⟨w.heap.size, none⟩ ρ3 a3 w3 none _ rfl hp3.hr ht3 hd3 hp03.fr.size (fun e => by cases e) (fun ρ4 a4 w4 hp4 ht4 hd4 => ?_)
    have hp04 := hp03.trans hp4
    have hd4' : DefOk ⟨w.heap.size, none⟩ ρ4 h3 [] a4.defers w4 := by rw [← hoff3]; exact hd4
    refine leaves_all (lf := lf) (call := call) hm hn hc (n0 := ⟨w.heap.size, none⟩) rfl rfl a4.defers [] ρ4 h3 w4 hp04 hd4' rfl (fun ρ5 w5 hp5 hle => ?_)
    have hk : okRes (keep A) fn.results.toList = true := by rw [res]; simp [okRes, k4]
    obtain ⟨v, q1, q2⟩ := results_sound (fn := fn) (s := ⟨tm2.up (some sv) 4, h3⟩) (vs := [sv]) hp5.hr (ht4.mono hle) hk (by
      rw [res, resA_cons]
      show ob ((tm2.up (some sv) 4).gt 4) _ = _
      rw [Tr.gt_up, if_pos rfl]; rfl)
    refine ⟨v, q1, v, rfl, π, hπ, ρ5, h3, sv, q2, ?_, hp5, fun b hb2 => ?_⟩
    · rcases j4 with ⟨a, b, c⟩ | ⟨id, t, z, a1, a2, a3, a4, a5⟩
      · exact .inl ⟨a, b, c⟩
      · refine .inr ⟨id, t, z, a1, a2, a3, ?_, a5⟩
        rw [put_get, if_neg (by omega)]; exact a4
    · rw [put_get, if_neg (by omega)]; exact j6 b hb2
end
end Go.Am

/-
  AM, 48: slices.SortedFunc: what it hands on.
-/
namespace Go.Am
section
variable {P : Program} {keep : Keeps}

/-- the code of slices.SortedFunc -/
def SortedFCode (C T : FuncId) (c : Code) : Prop := ∃ (i0 i1 i2 i3 : Nat) (o0 o1 o2 o3 o4 o5 o6 o7 o8 : Oper) (ts tt : Array TypeId),
  c = .seq (.region i0 #[o0] false) (.seq (.region i1 #[o1, o2, o3] false) (.seq (.region i2 #[o4, o5, o6] false) (.seq (.region i3 #[o7, o8] false) .ret))) ∧
  IsOp o0 (some 4) (.assign (.const (.slice none 0 0))) ∧ IsOp o1 (some 6) (.move (.tmp 0)) ∧ IsOp o2 (some 7) (.call ⟨.value (.func C), #[.tmp 6], ts⟩) ∧ IsOp o3 (some 5) (.assign (.tmp 7)) ∧
  IsOp o4 (some 8) (.move (.tmp 5)) ∧ IsOp o5 (some 9) (.move (.tmp 1)) ∧ IsOp o6 (some 10) (.call ⟨.value (.func T), #[.tmp 8, .tmp 9], tt⟩) ∧ IsOp o7 (some 11) (.move (.tmp 5)) ∧ IsOp o8 (some 4) (.assign (.tmp 11))

theorem sortedF_thru (hn : NamesOk P) {G C T : FuncId} {fn : Func} {c : Code} (hf : P.funcs[G]? = some fn) (hb : fn.body = some c) (hcode : SortedFCode C T c) (hres : fn.results = #[.tmp 4]) (hnt : 12 ≤ fn.ntmps) (hC : ∃ fn c, P.funcs[C]? = some fn ∧ fn.body = some c) (hT : ∃ fn c, P.funcs[T]? = some fn ∧ fn.body = some c)
    {sv cv : Value} {w : World} {S S' : Value → World → Prop} (h : CallsIn (fen none) 0 P C #[sv] w (fun e w' => ∃ v, e = .returned v ∧ S v w')) (h2 : ∀ v w', S v w' → CallsIn (fen none) 0 P T #[v, cv] w' (fun e w'' => ∃ u, e = .returned u ∧ S' v w'')) :
    CallsIn (fen none) 0 P G #[sv, cv] w (fun e w' => ∃ v, e = .returned v ∧ S' v w') := by
  refine callsIn_of_wp hf hb trivial ?_
  obtain ⟨i0, i1, i2, i3, o0, o1, o2, o3, o4, o5, o6, o7, o8, ts, tt, rfl, q0, q1, q2, q3, q4, q5, q6, q7, q8⟩ := hcode
  generalize ha0 : ({ tmps := #[sv, cv] ++ Array.replicate (fn.ntmps - (#[sv, cv] : Array Value).size) undef, defers := [] } : Act) = a0
  have hsz : 12 ≤ a0.tmps.size := by subst ha0; simp; omega
  have hd0 : a0.defers = [] := by subst ha0; rfl
  have e0 : a0.eval (.tmp 0) = sv := by subst ha0; simp only [Act.eval, Array.getD_eq_getD_getElem?]; rw [Array.getElem?_append_left (by simp)]; rfl
  have f0 : a0.eval (.tmp 1) = cv := by subst ha0; simp only [Act.eval, Array.getD_eq_getD_getElem?]; rw [Array.getElem?_append_left (by simp)]; rfl
  clear ha0
  refine wpIn_seq (wpIn_region ?_)
  show wpOpsIn (fen none) 0 P #[o0] _ [0] a0 w
  refine ops_mv (o := o0) rfl (.inr q0) (ops_nil ?_)
  simp only [Exit.then]
  generalize ha1 : a0.put (some 4) (a0.eval (.const (.slice none 0 0))) = a1
  have e1 : a1.eval (.tmp 0) = sv := by subst ha1; rw [put_eval (by omega), if_neg (by decide)]; exact e0
  have f1 : a1.eval (.tmp 1) = cv := by subst ha1; rw [put_eval (by omega), if_neg (by decide)]; exact f0
  have z1 : 12 ≤ a1.tmps.size := by subst ha1; rw [put_size]; exact hsz
  have d1 : a1.defers = [] := by subst ha1; rw [put_defers]; exact hd0
  clear ha1
  refine wpIn_seq (wpIn_region ?_)
  show wpOpsIn (fen none) 0 P #[o1, o2, o3] _ [0, 1, 2] _ w
  refine ops_mv (o := o1) rfl (.inl q1) ?_
  rw [e1]
  refine ops_call (o := o2) hn rfl q2 hC (S := S) ?_ (fun v w' hS => ?_)
  · have e2 : (#[.tmp 6] : Array Operand).map (a1.put (some 6) sv).eval = #[sv] := by
      simp only [List.map_toArray, List.map_cons, List.map_nil]
      rw [put_eval (by omega), if_pos rfl]
    rw [e2]; exact h
  · refine ops_mv (o := o3) rfl (.inr q3) (ops_nil ?_)
    simp only [Exit.then]
    generalize ha2 : (((a1.put (some 6) sv).put (some 7) v).put (some 5) (((a1.put (some 6) sv).put (some 7) v).eval (.tmp 7))) = a2
    have e3 : a2.eval (.tmp 5) = v := by subst ha2; rw [put_eval (by simp only [put_size]; omega), if_pos rfl, put_eval (by simp only [put_size]; omega), if_pos rfl]
    have f3 : a2.eval (.tmp 1) = cv := by subst ha2; rw [put_eval (by simp only [put_size]; omega), if_neg (by decide), put_eval (by simp only [put_size]; omega), if_neg (by decide), put_eval (by omega), if_neg (by decide)]; exact f1
    have z2 : 12 ≤ a2.tmps.size := by subst ha2; simp only [put_size]; exact z1
    have d2 : a2.defers = [] := by subst ha2; simp only [put_defers]; exact d1
    clear ha2
    refine wpIn_seq (wpIn_region ?_)
    show wpOpsIn (fen none) 0 P #[o4, o5, o6] _ [0, 1, 2] _ w'
    refine ops_mv (o := o4) rfl (.inl q4) ?_
    rw [e3]
    refine ops_mv (o := o5) rfl (.inl q5) ?_
    have f4 : (a2.put (some 8) v).eval (.tmp 1) = cv := by rw [put_eval (by omega), if_neg (by decide)]; exact f3
    rw [f4]
    refine ops_call (o := o6) hn rfl q6 hT (S := fun _ w'' => S' v w'') ?_ (fun u w'' hS2 => ops_nil ?_)
    · have e4 : (#[.tmp 8, .tmp 9] : Array Operand).map ((a2.put (some 8) v).put (some 9) cv).eval = #[v, cv] := by
        simp only [List.map_toArray, List.map_cons, List.map_nil]
        rw [put_eval (by rw [put_size]; omega), if_neg (by decide), put_eval (by omega), if_pos rfl, put_eval (by rw [put_size]; omega), if_pos rfl]
      rw [e4]; exact h2 v w' hS
    · simp only [Exit.then]
      refine wpIn_seq (wpIn_region ?_)
      show wpOpsIn (fen none) 0 P #[o7, o8] _ [0, 1] _ w''
      refine ops_mv (o := o7) rfl (.inl q7) (ops_mv (o := o8) rfl (.inr q8) (ops_nil ?_))
      simp only [Exit.then]
      refine wpIn_ret ⟨by simp only [put_defers]; exact d2, v, ?_, v, rfl, hS2⟩
      rw [results_tmp hres, put_eval (by simp only [put_size]; omega), if_pos rfl, put_eval (by simp only [put_size]; omega), if_pos rfl, put_eval (by simp only [put_size]; omega), if_neg (by decide), put_eval (by simp only [put_size]; omega), if_neg (by decide), put_eval (by omega), if_neg (by decide)]
      exact congrArg (fun x => Result.ok x w'') e3
end
end Go.Am

/-
  AM, 49: slices.SortedFunc of the keys of a map, as an answer.
-/
namespace Go.Am
noncomputable section
def sortsToF (call : CallFn) (T : FuncId) (cmp : AV) (sz n : Nat) (ds π : List AV) : Bool :=
  Option.rec (motive := fun _ => Bool) false (fun r => rowIs r.2 ds) (call (.fn T) [.slice (some (0, 0)) n n (some sz), cmp] (minH (cellsL π)))
def allToF (call : CallFn) (T : FuncId) (cmp : AV) (sz n : Nat) (ds : List AV) (πs : List (List AV)) : Bool := List.rec (motive := fun _ => Bool) true (fun π _ ih => and' (sortsToF call T cmp sz n ds π) ih) πs
def sortedRF (call : CallFn) (T : FuncId) (cmp : AV) (gs : List FuncId) (sz bs : Nat) (lt : AV → AV → Option Bool) (fine : AV → Bool) (seq : AV) (h : Heap) : Res :=
  seqOf seq fun g cb => iff' (gs.contains g) (ob (h.ld1 cb 0) fun m => mapAt m fun mb => h.theMap mb fun es clock =>
    iff' (and' (bornB clock es) (and' (fineB fine es) (room bs (len' es)))) (ob (sortK lt (keysL es)) fun ks =>
      iff' (allToF call T cmp sz (len' es) (cellsL ks) (permsA (keysL es)))
        (Nat.rec (motive := fun _ => Res) (ob (call (.fn T) [.slice none 0 0 none, cmp] ⟨.leaf, 0⟩) fun _ => some (.slice none 0 0 none, h))
          (fun _ _ => some (.slice (some (h.next, 0)) (len' es) (len' es) (some sz), h.new h.next (.cells (fillC (cellsL ks) .leaf 0) [] (cellsL ks).length false))) (len' es))))
def sortedPF (call : CallFn) (G T : FuncId) (q : FuncId) (gs : List FuncId) (sz bs : Nat) (lt : AV → AV → Option Bool) (fine : AV → Bool) : Prims :=
  ⟨fun f args h => Bool.rec (motive := fun _ => Option Res) none (some (l2 (fun seq c => iff' (AV.same c (.func (.func q) [] [])) (sortedRF call T (.func (.func q) [] []) gs sz bs lt fine seq h)) args)) (Nat.beq f G)⟩
end
section
variable {P : Program} {keep : Keeps}
theorem allToF_ok {call : CallFn} {T : FuncId} {cmp : AV} {sz n : Nat} {ds : List AV} : ∀ {πs : List (List AV)}, allToF call T cmp sz n ds πs = true → ∀ π ∈ πs, sortsToF call T cmp sz n ds π = true
  | [], _, π, hp => by cases hp
  | x :: xs, h, π, hp => by
    have h : and' (sortsToF call T cmp sz n ds x) (allToF call T cmp sz n ds xs) = true := h
    simp only [and'_eq, Bool.and_eq_true] at h
    rcases List.mem_cons.1 hp with rfl | hp
    · exact h.1
    · exact allToF_ok h.2 π hp
/-- what is told of the function that maps.Keys gives, where the keys are structs -/
def KeysFnS (P : Program) (t : TypeId) (g : FuncId) : Prop := ∃ gfn gc tm tk te, P.funcs[g]? = some gfn ∧ gfn.body = some gc ∧ KeysCodeS tm t gc ∧ gfn.results = #[] ∧ 14 ≤ gfn.ntmps ∧ P.underlying tm = some (.map tk te) ∧ tAgg P tm = some false

theorem sortedPF_ok {lf n : Nat} (hm : P.follows .mixedOrders = true) (hn : NamesOk P) {A C T G q : FuncId} {ts e t sz bs : Nat} {F0 F1 : List AV → Option (Blk × (Nat → AV))} {lt : AV → AV → Option Bool} {fine : AV → Bool} {gs : List FuncId} (K : AppCodeS P keep A ts sz F0 F1) {t0 : Tr AV} {z0 : List AV} (hF0 : F0 [] = some (.cells t0 z0 (sz + 1) false, ptrTo)) (hst : tSize P t = some (sz + 1)) (hagt : tAgg P t = some true) (hF0a : allocN P t = some (.cells t0 z0 (sz + 1) false, ptrTo))
    (hu : P.underlying ts = some (.slice e)) (hs : tSize P e = some (sz + 1)) (hbs : tBytes P e = some bs) (hz : (tZero P e).map (fun z => Nat.beq (len' z.cells) (sz + 1)) = some true)
    (hC : ∃ fn c, P.funcs[C]? = some fn ∧ fn.body = some c ∧ CollectCode A c ∧ fn.results = #[.tmp 2] ∧ 5 ≤ fn.ntmps) (hT : ∃ fn c, P.funcs[T]? = some fn ∧ fn.body = some c) (hG : ∃ fn c, P.funcs[G]? = some fn ∧ fn.body = some c ∧ SortedFCode C T c ∧ fn.results = #[.tmp 4] ∧ 12 ≤ fn.ntmps)
    (hgs : ∀ g ∈ gs, KeysFnS P t g) (hfine : ∀ k, fine k = true → F1 [k] = some (rowBlk k.cells, sliceTo 1) ∧ k.cells.length = sz + 1 ∧ (∀ c ∈ k.cells, plainCell c = true) ∧ k = .agg k.cells) :
    PrimsOk P keep (sortedPF (callN P keep noPrims lf (n + 1)) G T q gs (sz + 1) bs lt fine) := by
  intro f args h r hr ρ w avs hh hv
  have hcall : CallOk P keep (callN P keep noPrims lf (n + 1)) := callN_sound hm hn noPrims_ok (n + 1)
  generalize hcl : callN P keep noPrims lf (n + 1) = call at hr hcall
  replace hr : (Bool.rec (motive := fun _ => Option Res) none (some (l2 (fun seq c => iff' (AV.same c (.func (.func q) [] [])) (sortedRF call T (.func (.func q) [] []) gs (sz + 1) bs lt fine seq h)) args)) (Nat.beq f G) : Option Res) = some (some r) := hr
  cases hfg : Nat.beq f G with
  | false => rw [hfg] at hr; cases hr
  | true =>
    rw [hfg] at hr
    obtain rfl := Nat.eq_of_beq_eq_true hfg
    have hr : l2 (fun seq c => iff' (AV.same c (.func (.func q) [] [])) (sortedRF call T (.func (.func q) [] []) gs (sz + 1) bs lt fine seq h)) args = some r := Option.some.inj hr
    obtain ⟨gfn, gc, hGf, hGb, hGc, hGr, hGn⟩ := hG
    refine ⟨⟨gfn, gc, hGf, hGb⟩, ?_⟩
    obtain ⟨seq, cm, rfl, hx0⟩ := l2_some hr
    obtain ⟨sv, cv, rfl, vs, vc⟩ := hv.two
    obtain ⟨hcm, h1⟩ := iff'_some.1 hx0
    obtain rfl := same_eq _ _ hcm
    clear hx0
    have hcv : ∀ σ : Pls, VR σ (.func (.func q) [] []) cv := fun σ => by
      obtain ⟨fn', a', b', rfl, e1, e2, e3⟩ := vc
      exact ⟨fn', a', b', rfl, e1, e2, e3⟩
    unfold sortedRF seqOf at h1
    split at h1
    case h_2 => cases h1
    rename_i g cb _
    obtain ⟨h2, h3⟩ := iff'_some.1 h1
    have hmem : g ∈ gs := by simpa using h2
    obtain ⟨m, h4, h5⟩ := ob_some.1 h3
    unfold mapAt at h5
    split at h5
    case h_2 => cases h5
    rename_i mb
    obtain ⟨es, clock, h6, h7⟩ := theMap_some h5
    obtain ⟨h8, h9⟩ := iff'_some.1 h7
    simp only [and'_eq, Bool.and_eq_true, len'_eq] at h8
    obtain ⟨hb1, hb2, hb3⟩ := h8
    obtain ⟨ks, h10, h11⟩ := ob_some.1 h9
    obtain ⟨h12, h13⟩ := iff'_some.1 h11
    have hall := allToF_ok h12
    obtain ⟨kfn, kc, tm, tk, te, k1, k2, k3, k4, k5, k6, k7⟩ := hgs g hmem
    obtain ⟨cfn, cc, c1, c2, c3, c4, c5⟩ := hC
    have hkf := fineB_ok hb2
    have hplain : ∀ c ∈ cellsL ks, plainCell c = true := by
      intro c hc
      rw [cellsL_eq] at hc
      obtain ⟨k, hk, hc⟩ := List.mem_flatMap.1 hc
      have := sortK_mem h10 k hk
      rw [keysL_eq] at this
      exact (hfine k (hkf k this)).2.2.1 c hc
    have happ := append_relS (lf := lf) (n := n) (prims := noPrims) hm hn (by rw [hcl]; exact hcall) K hu hs hbs hz k1 k2 k3 k4 k5 k6 k7 (avs := [.slice none 0 0, sv]) hh ⟨_, [sv], rfl, ⟨rfl, rfl, rfl, rfl⟩, _, [], rfl, vs, rfl⟩ h4 h6 (bornB_ok hb1)
      (fun k hk => by
        obtain ⟨a, b, c, d⟩ := hfine k (hkf k hk)
        refine ⟨a, b, ?_, d⟩
        rw [allOne_eq, List.all_eq_true]
        exact fun x hx => plain_one (c x hx)) hF0 hst hagt hF0a (fun m hm => room_mono hb3 hm)
    have hcol := collect_thru hn c1 c2 c3 c4 c5 ⟨_, _, K.hf, K.hb⟩ (S := fun v w' => ∃ π : List AV, π.Perm (es.map (·.key)) ∧ ∃ ρ' h' sv, VR ρ' sv v ∧ Grown h' (h.next + 2) e (sz + 1) sv (π.flatMap AV.cells) π.length ∧ Post P keep ρ h w ρ' h' w' ∧ ∀ b, b < h.next → h'.bs.gt b = h.bs.gt b) happ
    have hfin := sortedF_thru hn (cv := cv) hGf hGb hGc hGr hGn ⟨_, _, c1, c2⟩ hT (S' := fun v w' => ∃ ρ', VR ρ' r.1 v ∧ Post P keep ρ h w ρ' r.2 w') hcol (fun v w' hS => ?_)
    · refine CallsIn.mono (F := fen none) hfin fun en w'' ⟨v, he, hR⟩ => ?_
      subst he
      exact hR
    · obtain ⟨π, hπ, ρ', h', sv', v1, v2, v3, v4⟩ := hS
      have hlen : π.length = es.length := by rw [hπ.length_eq, List.length_map]
      have hso := hall π (mem_permsA (by rw [keysL_eq]; exact hπ))
      rcases v2 with ⟨n0, n1, rfl⟩ | ⟨id, t, z, a1, a2, rfl, a3, a4, a5, a6, a7⟩
      · -- no key at all
        have hn0 : es.length = 0 := by omega
        rw [len'_eq, hn0] at h13
        obtain ⟨q, g1, g2⟩ := ob_some.1 (show ob (call (.fn T) [.slice none 0 0 none, .func (.func q) [] []] ⟨.leaf, 0⟩) (fun _ => some (.slice none 0 0 none, h)) = some r from h13)
        cases g2
        obtain ⟨_, hT2⟩ := hcall _ _ _ _ g1 (fun _ => none) w' [v, cv] (empty_HR w') ⟨v, [cv], rfl, v1, cv, [], rfl, hcv _, rfl⟩
        refine CallsIn.mono (F := fen none) hT2 fun en w'' hR => ?_
        cases en with
        | panicked c => exact hR.elim
        | outgrown => exact hR.elim
        | returned u =>
          obtain ⟨ρ1, _, hp⟩ := hR
          refine ⟨u, rfl, ρ, v1, ?_⟩
          have ho := v3.old hh v4
          refine ⟨Pls.le_refl _, ho.hr.frame fun b x p hx hd hpl => ?_, ⟨hp.fr.os.trans ho.fr.os, hp.fr.output.trans ho.fr.output, Nat.le_trans ho.fr.size hp.fr.size, fun k hk hno => ?_⟩, fun _ _ h => h, Nat.le_refl _, fun _ _ h _ => h⟩
          · obtain ⟨q, hq, hlt⟩ := (ho.hr.blk b x hx).place hd
            rw [hpl] at hq; cases hq
            exact hp.fr.same _ hlt (by rintro ⟨_, _, _, hx, _⟩; cases hx)
          · exact (hp.fr.same k (Nat.lt_of_lt_of_le hk ho.fr.size) (by rintro ⟨_, _, _, hx, _⟩; cases hx)).trans (ho.fr.same k hk hno)
      · -- the keys in some order, sorted then
        have hpos : 0 < es.length := by omega
        obtain ⟨k, hk⟩ : ∃ k, es.length = k + 1 := ⟨es.length - 1, by omega⟩
        rw [len'_eq, hk] at h13
        have h13 : some (AV.slice (some (h.next, 0)) (k + 1) (k + 1) (some (sz + 1)), h.new h.next (.cells (fillC (cellsL ks) .leaf 0) [] (cellsL ks).length false)) = some r := h13
        cases h13
        have hv1 := v1
        obtain ⟨p, a', c', hp, rfl, w1, w2, _, w4, w5⟩ := v1
        have hπp : ∀ c ∈ cellsL π, plainCell c = true := by
          intro c hc
          rw [cellsL_eq] at hc
          obtain ⟨k, hk, hc⟩ := List.mem_flatMap.1 hc
          exact (hfine k (hkf k (hπ.mem_iff.1 hk))).2.2.1 c hc
        have hsub := sub_row (cs := cellsL π) v3.hr a3 hp (by rw [cellsL_eq, a5]) (fun i hi => by rw [cellsL_eq]; exact a6 i hi) hπp
        unfold sortsToF at hso
        cases hrun : call (.fn T) [.slice (some (0, 0)) (len' es) (len' es) (some (sz + 1)), .func (.func q) [] []] (minH (cellsL π)) with
        | none => rw [hrun] at hso; cases hso
        | some q =>
          rw [hrun] at hso
          obtain ⟨t1, z1, r1, r2⟩ := rowIs_ok (show rowIs q.2 (cellsL ks) = true from hso)
          obtain ⟨_, hT2⟩ := hcall _ _ _ _ hrun (onePl p) w' [.slice (some a') π.length c', cv] hsub ⟨_, [cv], rfl, ⟨p, a', c', rfl, by rw [len'_eq, hlen], by rw [len'_eq, ← hlen]; exact w1, by rw [len'_eq, ← hlen]; exact w2, (fun e => by cases e), w4, w5⟩, cv, [], rfl, hcv _, rfl⟩
          refine CallsIn.mono (F := fen none) hT2 fun en w'' hR => ?_
          cases en with
          | panicked c => exact hR.elim
          | outgrown => exact hR.elim
          | returned u =>
            obtain ⟨ρ1, _, hp1⟩ := hR
            refine ⟨u, rfl, ρ.up h.next p, ?_, row_post v3 hh (by omega) a3 hp v4 hp1 r1 r2 hplain⟩
            exact ⟨p, a', c', Pls.up_same _ _ _, by rw [hlen, hk], by omega, by omega, (fun e => by cases e), w4, w5⟩
end
end Go.Am

/-
  AM, 52: runs told before: within any greater memory (all else stays), and such that name no memory at all.
-/
namespace Go.Am
noncomputable section

/-! ### What names no block -/
mutual
def AV.flat : AV → Bool
  | .bool _ | .int _ _ | .str _ | .ptr none | .slice none _ _ _ | .map none | .nilFunc | .nilIface | .func (.func _) [] [] => true
  | .iface _ x => AV.flat x
  | .agg cs => AV.flats cs
  | .tuple cs => AV.flats cs
  | _ => false
def AV.flats : List AV → Bool
  | [] => true
  | x :: xs => AV.flat x && AV.flats xs
end
mutual
theorem VR.flat {ρ σ : Pls} : ∀ (x : AV) (v : Value), AV.flat x = true → VR ρ x v → VR σ x v
  | .bool _, _, _, hv => hv
  | .int _ _, _, _, hv => hv
  | .str _, _, _, hv => hv
  | .ptr none, _, _, hv => hv
  | .ptr (some (_, _)), _, hf, _ => by simp [AV.flat] at hf
  | .slice none _ _ _, _, _, hv => hv
  | .slice (some (_, _)) _ _ _, _, hf, _ => by simp [AV.flat] at hf
  | .map none, _, _, hv => hv
  | .map (some _), _, hf, _ => by simp [AV.flat] at hf
  | .func fn a b, _, hf, hv => by
    cases fn with
    | func f =>
      cases a with
      | nil =>
        cases b with
        | nil => exact hv
        | cons => simp [AV.flat] at hf
      | cons => simp [AV.flat] at hf
    | _ => simp [AV.flat] at hf
  | .nilFunc, _, _, hv => hv
  | .iface _ x, _, hf, hv => by
    obtain ⟨y, e, hy⟩ := hv
    exact ⟨y, e, VR.flat x y (by simpa [AV.flat] using hf) hy⟩
  | .nilIface, _, _, hv => hv
  | .agg cs, _, hf, hv => by
    obtain ⟨cs', e, hc⟩ := hv
    exact ⟨cs', e, VRs.flat cs _ (by simpa [AV.flat] using hf) hc⟩
  | .tuple cs, _, hf, hv => by
    obtain ⟨cs', e, hc⟩ := hv
    exact ⟨cs', e, VRs.flat cs _ (by simpa [AV.flat] using hf) hc⟩
theorem VRs.flat {ρ σ : Pls} : ∀ (x : List AV) (v : List Value), AV.flats x = true → VRs ρ x v → VRs σ x v
  | [], _, _, hv => hv
  | x :: xs, _, hf, hv => by
    obtain ⟨v, vs, e, h1, h2⟩ := hv
    have hf' : AV.flat x = true ∧ AV.flats xs = true := by simpa [AV.flats] using hf
    exact ⟨v, vs, e, VR.flat x v hf'.1 h1, VRs.flat xs vs hf'.2 h2⟩
end

/-- does it answer this, from nothing? -/
def says (r : Res) (v : AV) : Bool := Option.rec (motive := fun _ => Bool) false (fun r => AV.same v r.1) r
theorem says_ok {r : Res} {v : AV} (h : says r v = true) : ∃ q, r = some (v, q) := by
  cases r with
  | none => cases h
  | some r =>
    have h : AV.same v r.1 = true := h
    exact ⟨r.2, by rw [same_eq _ _ h]⟩

/-- a run told before that names no memory: it may stand anywhere, any number of times -/
def pureP (f : FuncId) (args : List AV) (v : AV) : Prims :=
  ⟨fun f' args' h' => Bool.rec (motive := fun _ => Option Res) none (Bool.rec (motive := fun _ => Option Res) none (some (some (v, h'))) (AV.sames args args')) (Nat.beq f f')⟩
theorem pureP_ok {P : Program} {keep : Keeps} {prims : Prims} {lf n : Nat} (hm : P.follows .mixedOrders = true) (hn : NamesOk P) (hpr : PrimsOk P keep prims) {f : FuncId} {args : List AV} {v : AV}
    (hfl : AV.flats (v :: args) = true) (hr : says (callNF P keep prims lf n (.fn f) args ⟨.leaf, 0⟩) v = true) : PrimsOk P keep (pureP f args v) := by
  intro f' args' h' r hr' ρ w avs hh hv
  replace hr' : (Bool.rec (motive := fun _ => Option Res) none (Bool.rec (motive := fun _ => Option Res) none (some (some (v, h'))) (AV.sames args args')) (Nat.beq f f') : Option Res) = some (some r) := hr'
  have hfl' : AV.flat v = true ∧ AV.flats args = true := by simpa [AV.flats] using hfl
  cases h1 : Nat.beq f f' with
  | false => rw [h1] at hr'; cases hr'
  | true =>
    rw [h1] at hr'
    cases h2 : AV.sames args args' with
    | false => rw [h2] at hr'; cases hr'
    | true =>
      rw [h2] at hr'
      obtain rfl : (v, h') = r := Option.some.inj (Option.some.inj hr')
      obtain rfl := Nat.eq_of_beq_eq_true h1
      obtain rfl := sames_eq _ _ h2
      obtain ⟨q, hq⟩ := says_ok hr
      rw [callNF_eq] at hq
      obtain ⟨hb, hc⟩ := callN_sound (lf := lf) hm hn hpr n (.fn f) args ⟨.leaf, 0⟩ _ hq (fun _ => none) w avs (empty_HR w) (VRs.flat _ _ hfl'.2 hv)
      refine ⟨hb, CallsIn.mono (F := fen none) hc fun e w' hR => ?_⟩
      cases e with
      | returned u =>
        obtain ⟨σ, hv', hp⟩ := hR
        have hno : ∀ k, k < w.heap.size → w'.heap[k]? = w.heap[k]? := fun k hk => hp.fr.same k hk (by rintro ⟨_, _, _, hx, _⟩; cases hx)
        refine ⟨ρ, VR.flat _ _ hfl'.1 hv', Pls.le_refl _, hh.frame fun b x p hx hd hpl => ?_, ⟨hp.fr.os, hp.fr.output, hp.fr.size, fun k hk _ => hno k hk⟩, fun _ _ h => h, Nat.le_refl _, fun _ _ h _ => h⟩
        obtain ⟨p', hp', hlt⟩ := (hh.blk b x hx).place hd
        rw [hpl] at hp'; cases hp'
        exact hno _ hlt
      | _ => exact hR.elim

/-! ### Within a greater memory -/
def optOr {α : Type} (v w : Option α) : Option α := Option.rec (motive := fun _ => Option α) w (fun x => some x) v
/-- one tree over another one -/
def Tr.over {α : Type} (t : Tr α) : Tr α → Tr α :=
  Tr.rec (motive := fun _ => Tr α → Tr α) (fun s => s)
    (fun l v r sl sr s => Tr.rec (motive := fun _ => Tr α) (.node l v r) (fun l' v' r' _ _ => .node (sl l') (optOr v v') (sr r')) s) t
theorem Tr.gt_over {α : Type} : ∀ (t s : Tr α) (n : Nat), (t.over s).gt n = optOr (t.gt n) (s.gt n) := by
  intro t
  induction t with
  | leaf => intro s n; rfl
  | node l v r ihl ihr =>
    intro s n
    cases s with
    | leaf =>
      show (Tr.node l v r).gt n = optOr ((Tr.node l v r).gt n) none
      cases (Tr.node l v r).gt n <;> rfl
    | node l' v' r' =>
      show (Tr.node (l.over l') (optOr v v') (r.over r')).gt n = _
      cases n with
      | zero => rw [Tr.gt_zero, Tr.gt_zero, Tr.gt_zero]
      | succ m =>
        rw [Tr.gt_succ, Tr.gt_succ, Tr.gt_succ]
        split
        · exact ihl l' _
        · exact ihr r' _
/-- each block of the first one is in the second one, and none is read only -/
def heldB (h g : Heap) : Bool := Tr.sub (fun x _ => notB x.ro) h.bs g.bs
theorem heldB_ok {h g : Heap} (hd : heldB h g = true) : ∀ b x, h.bs.gt b = some x → (∃ y, g.bs.gt b = some y) ∧ x.ro = false := by
  intro b x hx
  obtain ⟨y, hy, e⟩ := Tr.sub_ok _ _ hd b x hx
  refine ⟨⟨y, hy⟩, ?_⟩
  cases hro : x.ro with
  | false => rfl
  | true => rw [hro] at e; cases e

theorem Post.over {P : Program} {keep : Keeps} {ρ σ : Pls} {g h h' : Heap} {w w' : World} (hl : h.le h') (hr : HR P keep ρ h' w) (hd : ∀ b x, h.bs.gt b = some x → (∃ y, g.bs.gt b = some y) ∧ x.ro = false)
    (hp : Post P keep ρ h w σ g w') : Post P keep ρ h' w σ ⟨g.bs.over h'.bs, g.next⟩ w' := by
  have free : ∀ b x p, h'.bs.gt b = some x → g.bs.gt b = none → x.dead? = false → ρ b = some p → ¬ Own ρ h p.blk := by
    rintro b x p hx hg hdead hpb ⟨b2, x2, p2, h1, h2, h3, h4⟩
    obtain ⟨⟨y, hy⟩, hro⟩ := hd b2 x2 h1
    have hne : b2 ≠ b := by rintro rfl; rw [hg] at hy; cases hy
    exact hr.inj b2 b x2 x p2 p (hl.1 _ _ h1) hx h2 hdead (Or.inl hro) h3 hpb hne h4
  have get : ∀ b x, (g.bs.over h'.bs).gt b = some x → g.bs.gt b = some x ∨ (g.bs.gt b = none ∧ h'.bs.gt b = some x) := by
    intro b x hx
    rw [Tr.gt_over] at hx
    cases hg : g.bs.gt b with
    | none => rw [hg] at hx; exact Or.inr ⟨rfl, hx⟩
    | some y => rw [hg] at hx; exact Or.inl hx
  have old : ∀ b x p, h'.bs.gt b = some x → x.dead? = false → σ b = some p → ρ b = some p ∧ p.blk < w.heap.size := by
    intro b x p hx hdead hpb
    obtain ⟨p', hp', hlt⟩ := (hr.blk b x hx).place hdead
    have := hp.le _ _ hp'
    rw [hpb] at this; cases this
    exact ⟨hp', hlt⟩
  refine ⟨hp.le, ⟨hp.hr.dom, fun b x hx => ?_, fun b x hx => ?_, fun b b' x x' p p' hx hx' hdx hdx' hro hpb hpb' hne he => ?_⟩,
    ⟨hp.fr.os, hp.fr.output, hp.fr.size, fun k hk ho => hp.fr.same k hk fun h => ho (h.sub hl)⟩, fun k hk ho => ?_, ?_, fun b p hb hlt => hp.new b p hb (by rw [hl.2]; exact hlt)⟩
  · rcases get b x hx with hg | ⟨_, hg⟩
    · exact hp.hr.has b x hg
    · exact Nat.lt_of_lt_of_le (hr.has b x hg) (by rw [← hl.2]; exact hp.next)
  · rcases get b x hx with hg | ⟨hn, hg⟩
    · exact hp.hr.blk b x hg
    · refine ((hr.blk b x hg).mono hp.le).frame fun p hdead hpb => ?_
      obtain ⟨hpo, hlt⟩ := old b x p hg hdead hpb
      exact hp.fr.same _ hlt (free b x p hg hn hdead hpo)
  · rcases get b x hx with hg | ⟨hn, hg⟩
    · rcases get b' x' hx' with hg' | ⟨hn', hg'⟩
      · exact hp.hr.inj b b' x x' p p' hg hg' hdx hdx' hro hpb hpb' hne he
      · obtain ⟨hpo, hlt⟩ := old b' x' p' hg' hdx' hpb'
        exact free b' x' p' hg' hn' hdx' hpo (hp.own _ hlt ⟨b, x, p, hg, hdx, hpb, he⟩)
    · obtain ⟨hpo, hlt⟩ := old b x p hg hdx hpb
      rcases get b' x' hx' with hg' | ⟨hn', hg'⟩
      · exact free b x p hg hn hdx hpo (hp.own _ hlt ⟨b', x', p', hg', hdx', hpb', he.symm⟩)
      · obtain ⟨hpo', _⟩ := old b' x' p' hg' hdx' hpb'
        exact hr.inj b b' x x' p p' hg hg' hdx hdx' hro hpo hpo' hne he
  · obtain ⟨b, x, p, hx, hdx, hpb, he⟩ := ho
    rcases get b x hx with hg | ⟨hn, hg⟩
    · exact (hp.own k hk ⟨b, x, p, hg, hdx, hpb, he⟩).sub hl
    · exact ⟨b, x, p, hg, hdx, (old b x p hg hdx hpb).1, he⟩
  · rw [← hl.2]; exact hp.next

/-- a run told before, within any greater memory: all else stays -/
def snapF (f : FuncId) (args : List AV) (h : Heap) (v : AV) (g : Heap) : Prims :=
  ⟨fun f' args' h' => Bool.rec (motive := fun _ => Option Res) none (Bool.rec (motive := fun _ => Option Res) none (Bool.rec (motive := fun _ => Option Res) none (some (some (v, ⟨g.bs.over h'.bs, g.next⟩))) (partB h h')) (AV.sames args args')) (and' (Nat.beq f f') (Nat.beq h.next h'.next))⟩
theorem snapF_ok {P : Program} {keep : Keeps} {prims : Prims} {lf n : Nat} (hm : P.follows .mixedOrders = true) (hn : NamesOk P) (hpr : PrimsOk P keep prims) {f : FuncId} {args : List AV} {h : Heap} {v : AV} {g : Heap}
    (hd : heldB h g = true) (hr : answers (callNF P keep prims lf n (.fn f) args h) v g = true) : PrimsOk P keep (snapF f args h v g) := by
  intro f' args' h' r hr' ρ w avs hh hv
  replace hr' : (Bool.rec (motive := fun _ => Option Res) none (Bool.rec (motive := fun _ => Option Res) none (Bool.rec (motive := fun _ => Option Res) none (some (some (v, ⟨g.bs.over h'.bs, g.next⟩))) (partB h h')) (AV.sames args args')) (and' (Nat.beq f f') (Nat.beq h.next h'.next)) : Option Res) = some (some r) := hr'
  cases h1 : and' (Nat.beq f f') (Nat.beq h.next h'.next) with
  | false => rw [h1] at hr'; cases hr'
  | true =>
    rw [h1] at hr'
    cases h2 : AV.sames args args' with
    | false => rw [h2] at hr'; cases hr'
    | true =>
      rw [h2] at hr'
      cases h3 : partB h h' with
      | false => rw [h3] at hr'; cases hr'
      | true =>
        rw [h3] at hr'
        obtain rfl : (v, (⟨g.bs.over h'.bs, g.next⟩ : Heap)) = r := Option.some.inj (Option.some.inj hr')
        simp only [and'_eq, Bool.and_eq_true] at h1
        obtain rfl := Nat.eq_of_beq_eq_true h1.1
        obtain rfl := sames_eq _ _ h2
        have hl := partB_ok h3
        obtain ⟨q, hq, hl2⟩ := answers_ok hr
        rw [callNF_eq] at hq
        obtain ⟨hb, hc⟩ := callN_sound (lf := lf) hm hn hpr n (.fn f) args h _ hq ρ w avs (hh.sub hl) hv
        refine ⟨hb, CallsIn.mono (F := fen none) hc fun e w' hR => ?_⟩
        cases e with
        | returned u =>
          obtain ⟨σ, hv', hp⟩ := hR
          exact ⟨σ, hv', (hp.sub ⟨fun _ _ h => h, rfl⟩ hl2).over hl hh (heldB_ok hd)⟩
        | _ => exact hR.elim
end
end Go.Am

/-
  AM, 53: strings.Join, by its contract.
-/
namespace Go.Am
section
variable {P : Program} {keep : Keeps}
noncomputable section
def strsOf (vs : List AV) : Option (List (List Nat)) :=
  List.rec (motive := fun _ => Option (List (List Nat))) (some []) (fun v _ ih => eStr (fun l => ob ih fun ls => some (l :: ls)) v) vs
def joinT (sep : List Nat) (ls : List (List Nat)) : List Nat := List.rec (motive := fun _ => List Nat) [] (fun y _ ih => app' sep (app' y ih)) ls
def joinN (sep : List Nat) (ls : List (List Nat)) : List Nat := List.rec (motive := fun _ => List Nat) [] (fun x r _ => app' x (joinT sep r)) ls
def join2 (s sep : AV) (h : Heap) : Res :=
  eStr (fun q => eSlice (fun a n _ _ => Option.rec (motive := fun _ => Res) (iff' (Nat.beq n (nat_lit 0)) (some (.str [], h)))
    (fun p => ob (h.ld p.1 p.2 n) fun vs => ob (strsOf vs) fun ls => iff' (and' (Nat.ble n (nat_lit 1073741824)) (Nat.ble (len' (joinN q ls)) (nat_lit 1073741824))) (some (.str (joinN q ls), h))) a) s) sep
def joinP (g : FuncId) : Prims := ⟨fun f args h => Bool.rec (motive := fun _ => Option Res) none (some (l2 (fun s n => join2 s n h) args)) (Nat.beq f g)⟩
end

theorem strsOf_ok {ρ : Pls} : ∀ {vs : List AV} {cs : List Value} {ls : List (List Nat)}, strsOf vs = some ls → VRs ρ vs cs → ∃ xs : List ByteArray, cs = xs.map Value.string ∧ ls = xs.map fun x => x.data.toList.map (·.toNat)
  | [], cs, ls, h, hv => by
    cases hv
    have h : (some [] : Option (List (List Nat))) = some ls := h
    cases h
    exact ⟨[], rfl, rfl⟩
  | v :: vs, cs, ls, h, hv => by
    obtain ⟨u, us, rfl, h1, h2⟩ := hv
    have h : eStr (fun l => ob (strsOf vs) fun ls => some (l :: ls)) v = some ls := h
    obtain ⟨l, rfl, h3⟩ := eStr_some h
    cases h4 : strsOf vs with
    | none => rw [h4] at h3; cases h3
    | some ls' =>
      rw [h4] at h3
      have h3 : some (l :: ls') = some ls := h3
      cases h3
      obtain ⟨xs, e1, e2⟩ := strsOf_ok h4 h2
      obtain ⟨sb, rfl, rfl⟩ := h1
      exact ⟨sb :: xs, by rw [e1]; rfl, by rw [e2]; rfl⟩
theorem joinN_eq {jl : List (List UInt8) → List UInt8 → List UInt8} (hj0 : ∀ s, jl [] s = []) (hj : ∀ x r s, jl (x :: r) s = x ++ (r.map (s ++ ·)).flatten) (sep : List UInt8) (xs : List (List UInt8)) :
    joinN (sep.map (·.toNat)) (xs.map fun x => x.map (·.toNat)) = (jl xs sep).map (·.toNat) := by
  cases xs with
  | nil => rw [hj0]; rfl
  | cons x r =>
    rw [hj, List.map_append]
    show app' (x.map (·.toNat)) (joinT (sep.map (·.toNat)) (r.map fun x => x.map (·.toNat))) = _
    rw [app'_eq]
    congr 1
    induction r with
    | nil => rfl
    | cons y r ih =>
      show app' (sep.map (·.toNat)) (app' (y.map (·.toNat)) (joinT (sep.map (·.toNat)) (r.map fun x => x.map (·.toNat)))) = _
      rw [app'_eq, app'_eq, ih]
      simp

theorem joinP_ok {g : FuncId} {jl : List (List UInt8) → List UInt8 → List UInt8} (hj0 : ∀ s, jl [] s = []) (hj : ∀ x r s, jl (x :: r) s = x ++ (r.map (s ++ ·)).flatten)
    (hb : ∃ fn c, P.funcs[g]? = some fn ∧ fn.body = some c)
    (hc0 : ∀ (a : Option Addr) (c : Nat) (sep : ByteArray) (w : World), Calls P g #[.slice a 0 c, .string sep] w fun e w' => e = .returned (.string ⟨#[]⟩) ∧ w' = w)
    (hc : ∀ (bk o c : Nat) (xs : List ByteArray) (sep : ByteArray) (w : World), (∀ (j : Nat) x, xs[j]? = some x → w.cell? ⟨bk, o + j, none⟩ = some (.string x)) → bk < w.heap.size → xs.length ≤ 140737488355328 → xs.length ≤ c →
      (jl (xs.map (·.data.toList)) sep.data.toList).length ≤ 140737488355328 →
      Calls P g #[.slice (some ⟨bk, o, none⟩) xs.length c, .string sep] w fun e w' => e = .returned (.string ⟨(jl (xs.map (·.data.toList)) sep.data.toList).toArray⟩) ∧ RowKit.Below w.heap.size w w') : PrimsOk P keep (joinP g) := by
  intro f args h r hr ρ w avs hh hv
  replace hr : (Bool.rec (motive := fun _ => Option Res) none (some (l2 (fun s n => join2 s n h) args)) (Nat.beq f g) : Option Res) = some (some r) := hr
  cases hfg : Nat.beq f g with
  | false => rw [hfg] at hr; cases hr
  | true =>
    rw [hfg] at hr
    obtain rfl := Nat.eq_of_beq_eq_true hfg
    have hr : l2 (fun s n => join2 s n h) args = some r := Option.some.inj hr
    obtain ⟨s, q, rfl, h1⟩ := l2_some hr
    obtain ⟨q, rfl, h2⟩ := eStr_some h1
    obtain ⟨v, v', e1, hsv, ⟨sb, rfl, rfl⟩⟩ := hv.two
    subst e1
    refine ⟨hb, ?_⟩
    have nil : ∀ a c, CallsIn (fen none) 0 P f #[.slice a 0 c, .string sb] w (Ret P keep ρ h w (.str [], h)) := fun a c =>
      prim_calls hh ⟨_, rfl, rfl⟩ ((hc0 a c sb w).mono fun e w' ⟨he, hw⟩ => ⟨he, hw ▸ RowKit.Below.refl _ _⟩)
    cases s with
    | slice a n c gg =>
      cases a with
      | none =>
        obtain ⟨rfl, rfl, _, rfl⟩ := hsv
        have h2 : iff' (Nat.beq 0 0) (some (AV.str [], h)) = some r := h2
        obtain ⟨_, h3⟩ := iff'_some.1 h2
        cases h3
        exact nil none 0
      | some p =>
        obtain ⟨b, o⟩ := p
        have h2 : ob (h.ld b o n) (fun vs => ob (strsOf vs) fun ls => iff' (and' (Nat.ble n 1073741824) (Nat.ble (len' (joinN (sb.data.toList.map (·.toNat)) ls)) 1073741824)) (some (AV.str (joinN (sb.data.toList.map (·.toNat)) ls), h))) = some r := h2
        cases h3 : h.ld b o n with
        | none => rw [h3] at h2; cases h2
        | some vs =>
          rw [h3] at h2
          have h2 : ob (strsOf vs) (fun ls => iff' (and' (Nat.ble n 1073741824) (Nat.ble (len' (joinN (sb.data.toList.map (·.toNat)) ls)) 1073741824)) (some (AV.str (joinN (sb.data.toList.map (·.toNat)) ls), h))) = some r := h2
          cases h4 : strsOf vs with
          | none => rw [h4] at h2; cases h2
          | some ls =>
            rw [h4] at h2
            obtain ⟨h5, h6⟩ := iff'_some.1 h2
            cases h6
            simp only [and'_eq, Bool.and_eq_true] at h5
            have h7 := Nat.le_of_ble_eq_true h5.1
            have h8 := Nat.le_of_ble_eq_true h5.2
            obtain ⟨p, ad, c', hp, rfl, hnc, _, _, _, had⟩ := hsv
            obtain ⟨p', cs, hp', hvs, hlen, _, hcells⟩ := hh.ld h3
            rw [hp] at hp'; cases hp'
            obtain ⟨xs, rfl, rfl⟩ := strsOf_ok h4 hvs
            rw [List.length_map] at hlen
            have hmap : (xs.map fun x => x.data.toList.map (·.toNat)) = (xs.map (·.data.toList)).map fun x => x.map (·.toNat) := by rw [List.map_map]; rfl
            rw [hmap, joinN_eq hj0 hj] at h8 ⊢
            rw [len'_eq, List.length_map] at h8
            cases xs with
            | nil =>
              have : n = 0 := by rw [← hlen]; rfl
              subst this
              rw [show jl (([] : List ByteArray).map (·.data.toList)) sb.data.toList = [] from hj0 _]
              exact nil _ _
            | cons x xr =>
              have hn : n ≠ 0 := by rw [← hlen]; simp
              have had := had (by omega)
              subst had
              have hbk : p.blk < w.heap.size := by
                have := hcells 0 (.string x) rfl
                unfold World.cell? at this
                cases hk : w.heap[p.blk]? with
                | none => rw [hk] at this; cases this
                | some _ => exact (Array.getElem?_eq_some_iff.1 hk).1
              have hcall := hc p.blk (p.off + o) c' (x :: xr) sb w (fun j y hj => hcells j (.string y) (by rw [List.getElem?_map, hj]; rfl)) hbk (by omega) (by omega) (by omega)
              rw [hlen] at hcall
              exact prim_calls hh ⟨_, rfl, by simp⟩ hcall
    | _ => cases h2
end
end Go.Am

/-
  AM, 39: slices.AppendSeq over the keys of a map: one round; a range whose callee ends in one of several ways.
-/
import Derived.Test.YtboobbebilegnaaGreatAm38
namespace Go.Am
section
variable {P : Program} {keep : Keeps} {call : CallFn} {lf : Nat}

/-! ### reading what was written -/
theorem new_get (h : Heap) (b : Nat) (x : Blk) (c : Nat) : (h.new b x).bs.gt c = if c = b then some x else h.bs.gt c := Tr.gt_up _ _ _ _
theorem new_next (h : Heap) (x : Blk) : (h.new h.next x).next = h.next + 1 := by
  rw [new_eq (Nat.le_refl _)]
theorem put_next (h : Heap) (b : Nat) (x : Blk) : (h.put b x).next = h.next := rfl
theorem theLoop_of {β : Type} {h : Heap} {b : Nat} {r : LRec} {f : LRec → Option β} (hb : h.bs.gt b = some (.loop r)) : h.theLoop b f = f r := by unfold Heap.theLoop; rw [hb]
theorem cells_of {β : Type} {h : Heap} {b : Nat} {t : Tr AV} {z : List AV} {n : Nat} {ro : Bool} {f : Tr AV → List AV → Nat → Bool → Option β} (hb : h.bs.gt b = some (.cells t z n ro)) : h.cells b f = f t z n ro := by unfold Heap.cells; rw [hb]
theorem ld1_of {h : Heap} {b o n : Nat} {t : Tr AV} {z : List AV} {ro : Bool} {v : AV} (hb : h.bs.gt b = some (.cells t z n ro)) (ho : o < n) (hv : cellAt t z o = some v) : h.ld1 b o = some v := by
  unfold Heap.ld1
  rw [cells_of hb]
  show (Bool.rec (motive := fun _ => Option AV) none (cellAt t z o) (Nat.ble (o + 1) n) : Option AV) = _
  rw [Nat.ble_eq_true_of_le ho, hv]
theorem loadC_of {t : Tr AV} {z : List AV} : ∀ {vs : List AV} {i : Nat}, (∀ j, j < vs.length → cellAt t z (i + j) = vs[j]?) → loadC t z vs.length i = some vs
  | [], i, _ => rfl
  | v :: vs, i, h => by
    rw [List.length_cons, loadC_succ]
    have h0 := h 0 (by simp)
    simp only [Nat.add_zero, List.getElem?_cons_zero] at h0
    rw [h0]
    have ih := loadC_of (t := t) (z := z) (vs := vs) (i := i + 1) (fun j hj => by
      have := h (j + 1) (by simp; omega)
      rw [show i + (j + 1) = i + 1 + j by omega] at this
      simpa using this)
    show ob (loadC t z vs.length (i + 1)) _ = _
    rw [ih]
theorem ld_of {h : Heap} {b o n : Nat} {t : Tr AV} {z : List AV} {ro : Bool} {vs : List AV} (hb : h.bs.gt b = some (.cells t z n ro)) (hn : o + vs.length ≤ n) (hv : ∀ j, j < vs.length → cellAt t z (o + j) = vs[j]?) : h.ld b o vs.length = some vs := by
  unfold Heap.ld
  rw [cells_of hb]
  show (Bool.rec (motive := fun _ => Option (List AV)) none (loadC t z vs.length o) (Nat.ble (o + vs.length) n) : Option (List AV)) = _
  rw [Nat.ble_eq_true_of_le hn]
  exact loadC_of hv
theorem st1_of {h : Heap} {b o n : Nat} {t : Tr AV} {z : List AV} {v : AV} (hb : h.bs.gt b = some (.cells t z n false)) (ho : o < n) (hv : v.one = true) : h.st1 b o v = some (h.put b (.cells (t.up (some v) o) z n false)) := by
  unfold Heap.st1
  rw [cells_of hb]
  show (Bool.rec (motive := fun _ => Option Heap) none (Bool.rec (motive := fun _ => Option Heap) none _ v.one) (Nat.ble (o + 1) n) : Option Heap) = _
  rw [Nat.ble_eq_true_of_le ho, hv]
theorem cellAt_fill (vs : List AV) (z : List AV) (i : Nat) (hi : i < vs.length) : cellAt (fillC vs .leaf 0) z i = vs[i]? := by
  unfold cellAt
  rw [gt_fillC, if_pos (by omega), Nat.sub_zero, List.getElem?_eq_getElem hi]
theorem cellAt_up (t : Tr AV) (z : List AV) (o i : Nat) (v : AV) : cellAt (t.up (some v) o) z i = if i = o then some v else cellAt t z i := by
  unfold cellAt
  rw [Tr.gt_up]
  split <;> rfl
theorem cellAt_fillOn (vs : List AV) (t : Tr AV) (z : List AV) (o i : Nat) : cellAt (fillC vs t o) z i = if o ≤ i ∧ i < o + vs.length then vs[i - o]? else cellAt t z i := by
  unfold cellAt
  rw [gt_fillC]
  split
  · rename_i h
    rw [List.getElem?_eq_getElem (by omega)]
  · rfl
theorem iff'_true {β : Type} (r : Option β) : iff' true r = r := rfl
theorem ob_some' {α β : Type} (x : α) (f : α → Option β) : ob (some x) f = f x := rfl

/-! ### What a slice holds -/
/-- a slice that append has made: its cells, 'sz' an element -/
def Grown (h : Heap) (lo : Nat) (e sz : Nat) (sv : AV) (cs : List AV) (n : Nat) : Prop :=
  (n = 0 ∧ cs = [] ∧ sv = .slice none 0 0 none) ∨
  ∃ id t z, lo ≤ id ∧ id < h.next ∧ sv = .slice (some (id, 0)) n n (some sz) ∧ h.bs.gt id = some (.cells t z (n * sz) false) ∧ fitsZ e z = true ∧ cs.length = n * sz ∧ (∀ i, i < n * sz → cellAt t z i = cs[i]?) ∧ 0 < n

/-- one element more -/
theorem grown_append {ts e sz bs : Nat} (hu : P.underlying ts = some (.slice e)) (hs : tSize P e = some (sz + 1)) (hb : tBytes P e = some bs) (hz : (tZero P e).map (fun z => Nat.beq (len' z.cells) (sz + 1)) = some true) {h : Heap} {lo : Nat} {sv : AV} {cs : List AV} {n : Nat}
    (hg : Grown h lo e (sz + 1) sv cs n) (hlo : lo ≤ h.next) (hroom : room bs (n + 1) = true) {x : Nat} {vs : List AV} {tx : Tr AV} {zx : List AV} {rx : Bool} (hx : h.bs.gt x = some (.cells tx zx (sz + 1) rx)) (hvs : vs.length = sz + 1) (hxv : ∀ j, j < vs.length → cellAt tx zx j = vs[j]?) (hone : allOne vs = true) :
    ∃ sv' h', appendS P ts sv (.slice (some (x, 0)) 1 1 none) h.next h = some (sv', h') ∧ h'.next = h.next + 1 ∧ Grown h' lo e (sz + 1) sv' (cs ++ vs) (n + 1) ∧ sv'.one = true ∧
      ∀ b, b < h.next → (∀ id, sv = .slice (some (id, 0)) n n (some (sz + 1)) → b ≠ id) → h'.bs.gt b = h.bs.gt b := by
  have hld : h.ld x 0 (1 * (sz + 1)) = some vs := by
    rw [Nat.one_mul, ← hvs]
    exact ld_of hx (by omega) (fun j hj => by rw [Nat.zero_add]; exact hxv j hj)
  have hsrc : srcOf (sz + 1) (fun n => n) (.slice (some (x, 0)) 1 1 none) h = some (vs, 1) := by
    show (Option.rec (motive := fun _ => Option (List AV × Nat)) none (fun vs => some (vs, 1)) (h.ld x 0 (1 * (sz + 1))) : Option (List AV × Nat)) = _
    rw [hld]
  have hunf : ∀ a len cap g, appendS P ts (.slice a len cap g) (.slice (some (x, 0)) 1 1 none) h.next h = iff' (and' (room bs (len + 1)) (Nat.beq (len' vs) (1 * (sz + 1)))) (appAt (sz + 1) e a len cap g h.next h vs 1) := by
    intro a len cap g
    unfold appendS
    rw [hu]
    simp only [hs, hb]
    rw [show (some (sz + 1) : Option Nat).getD 0 = sz + 1 from rfl, hz]
    show (Option.rec (motive := fun _ => Option (AV × Heap)) none _ (srcOf (sz + 1) (fun n => n) (.slice (some (x, 0)) 1 1 none) h) : Option (AV × Heap)) = _
    rw [hsrc]
    rfl
  have hl1 : Nat.beq (len' vs) (1 * (sz + 1)) = true := by rw [len'_eq, hvs, Nat.one_mul]; simp
  rcases hg with ⟨rfl, rfl, rfl⟩ | ⟨id, t, z, h1, h2, rfl, h3, h4, h5, h6, _⟩
  · refine ⟨.slice (some (h.next, 0)) 1 1 (some (sz + 1)), h.new h.next (.cells (fillC vs .leaf 0) (tyMark e false) (len' vs) false), ?_, new_next _ _, ?_, rfl, ?_⟩
    · rw [hunf, hroom, hl1]
      show iff' (allOne vs) _ = _
      rw [hone]; rfl
    · refine .inr ⟨h.next, fillC vs .leaf 0, tyMark e false, hlo, by rw [new_next]; omega, rfl, by rw [new_get, if_pos rfl, len'_eq, hvs, Nat.one_mul], ?_, by simp [hvs], fun i hi => ?_, by omega⟩
      · show (Bool.rec (motive := fun _ => Bool) (Nat.beq e e) false false : Bool) = true
        simp
      · rw [List.nil_append]; exact cellAt_fill _ _ _ (by omega)
    · intro b hb' _
      rw [new_get, if_neg (by omega)]
  · refine ⟨.slice (some (h.next, 0)) (n + 1) (n + 1) (some (sz + 1)), (h.put id .dead).new h.next (.cells (fillC vs t (n * (sz + 1))) z (n * (sz + 1) + 1 * (sz + 1)) false), ?_, ?_, ?_, rfl, ?_⟩
    · rw [hunf, hroom, hl1]
      have hble : Nat.ble (n + 1) n = false := by
        cases hx : Nat.ble (n + 1) n with
        | false => rfl
        | true => have := Nat.le_of_ble_eq_true hx; omega
      show (Bool.rec (motive := fun _ => Option (AV × Heap)) (iff' (Nat.beq (sz + 1) (sz + 1)) (appDead (sz + 1) (n + 1) e 0 n 1 vs id h.next h)) _ (Nat.ble (n + 1) n) : Option (AV × Heap)) = _
      rw [hble, show Nat.beq (sz + 1) (sz + 1) = true from by simp]
      show appDead (sz + 1) (n + 1) e 0 n 1 vs id h.next h = _
      unfold appDead
      rw [cells_of h3]
      have e1 : and' (and' (notB false) (allOne vs)) (fitsZ e z) = true := by rw [hone, h4]; rfl
      rw [e1, iff'_true]
      have e2 : and' (Nat.beq 0 0) (Nat.beq (Nat.mul n (sz + 1)) (n * (sz + 1))) = true := by
        rw [and'_eq, show Nat.mul n (sz + 1) = n * (sz + 1) from rfl]; simp
      rw [e2]
      rfl
    · show ((h.put id .dead).new h.next _).next = _
      rw [show h.next = (h.put id .dead).next from rfl, new_next]
    · refine .inr ⟨h.next, _, _, hlo, ?_, rfl, by rw [new_get, if_pos rfl, Nat.add_mul], h4, by rw [List.length_append, h5, hvs, Nat.add_mul, Nat.one_mul], fun i hi => ?_, by omega⟩
      · show h.next < ((h.put id .dead).new h.next _).next
        rw [show h.next = (h.put id .dead).next from rfl, new_next]; omega
      · rw [cellAt_fillOn]
        rw [Nat.add_mul, Nat.one_mul] at hi
        by_cases hlt : i < n * (sz + 1)
        · rw [if_neg (by omega), h6 i hlt, List.getElem?_append_left (by omega)]
        · rw [if_pos (by omega), List.getElem?_append_right (by omega), h5]
    · intro b hb' hne
      have := hne id rfl
      rw [new_get, if_neg (by omega), put_get, if_neg this]

/-! ### One round of AppendSeq's loop -/
/-- the loop's record: its code, where the slice lies -/
structure AppLoop (P : Program) (keep : Keeps) (rec : LRec) (B0 : Nat) (ts sz : Nat) (F1 : List AV → Option (Blk × (Nat → AV))) : Prop where
  st : rec.st = .ready
  pending : rec.pending = none
  params : rec.params = [7]
  slot : rec.tm.gt 2 = some (.ptr (some (B0, 0)))
  off : noOff rec.tm (ntOf P rec.fn) = true
  nt : 7 < ntOf P rec.fn
  keepD : keep rec.fn (ntOf P rec.fn) = false
  assign : compC P (keep rec.fn) (ntOf P rec.fn) rec.assign = .reg [] [(5, .tmp 7)]
  body : compC P (keep rec.fn) (ntOf P rec.fn) rec.body = .block 1 (.reg [⟨none, .ld1 (.tmp 2)⟩, ⟨none, .al F1 [.tmp 5]⟩, ⟨none, .ef (fun vs id h => l2 (fun s x => appendS P ts s x id h) vs) [.loc 1, .loc 0]⟩, ⟨none, .st1 (.tmp 2) (.loc 0)⟩] [])

theorem put_put_loop {h : Heap} {l : Nat} {x y : Blk} (b : Nat) : ((h.put l x).put l y).bs.gt b = if b = l then some y else h.bs.gt b := by
  rw [put_get, put_get]
  split <;> rfl

theorem app_round {prims : Prims} {n : Nat} {rec : LRec} {B0 ts e sz bs : Nat} {F1 : List AV → Option (Blk × (Nat → AV))} (hL : AppLoop P keep rec B0 ts sz F1)
    (hu : P.underlying ts = some (.slice e)) (hs : tSize P e = some (sz + 1)) (hbs : tBytes P e = some bs) (hz : (tZero P e).map (fun z => Nat.beq (len' z.cells) (sz + 1)) = some true)
    {h : Heap} {l lo : Nat} {sv k : AV} {cs : List AV} {m : Nat} (hl : h.bs.gt l = some (.loop rec)) (hln : l < h.next) (hB : B0 < h.next) (hlB : l ≠ B0) {tb : Tr AV} {zb : List AV} (hb0 : h.bs.gt B0 = some (.cells tb zb 1 false)) (hsv : cellAt tb zb 0 = some sv)
    (hg : Grown h lo e (sz + 1) sv cs m) (hlo : lo ≤ h.next) (hlol : l < lo) (hloB : B0 < lo) (hroom : room bs (m + 1) = true) (hF : F1 [k] = some (rowBlk k.cells, sliceTo 1)) (hk : k.cells.length = sz + 1) (hone : allOne k.cells = true) :
    ∃ h' sv' tb', callN P keep prims lf (n + 1) (.loop l) [k] h = some (.bool true, h') ∧ h'.bs.gt l = some (.loop rec) ∧ h'.bs.gt B0 = some (.cells tb' zb 1 false) ∧ cellAt tb' zb 0 = some sv' ∧ Grown h' lo e (sz + 1) sv' (cs ++ k.cells) (m + 1) ∧ h.next ≤ h'.next ∧
      ∀ b, b < lo → b ≠ l → b ≠ B0 → h'.bs.gt b = h.bs.gt b := by
  obtain ⟨st, pending, fn, tm, params, assign, body⟩ := rec
  obtain ⟨h1, h2, h3, h4, h5, h6, h7, h8, h9⟩ := hL
  simp only at h1 h2 h3 h4 h5 h6 h7 h8 h9
  subst h1 h2 h3
  generalize hRec : (⟨.ready, none, fn, tm, [7], assign, body⟩ : LRec) = rec at hl
  generalize hBusy : (⟨.busy, none, fn, tm, [7], assign, body⟩ : LRec) = rbusy
  let tm1 := tm.up (some k) 7
  let tm2 := tm1.up (some k) 5
  let hb := h.put l (.loop rbusy)
  have hbB : hb.bs.gt B0 = some (.cells tb zb 1 false) := by rw [put_get, if_neg (fun e => hlB e.symm)]; exact hb0
  have hbn : hb.next = h.next := rfl
  let hc := hb.new hb.next (rowBlk k.cells)
  have hcn : hc.next = h.next + 1 := new_next hb _
  have hcx : hc.bs.gt h.next = some (rowBlk k.cells) := by rw [new_get, hbn, if_pos rfl]
  have hcold : ∀ b, b < h.next → hc.bs.gt b = hb.bs.gt b := fun b hlt => by rw [new_get, hbn, if_neg (by omega)]
  have hgc : Grown hc lo e (sz + 1) sv cs m := by
    rcases hg with ⟨a, b, c⟩ | ⟨id, t, z, a1, a2, a3, a4, a5⟩
    · exact .inl ⟨a, b, c⟩
    · refine .inr ⟨id, t, z, a1, by omega, a3, ?_, a5⟩
      rw [hcold id a2, put_get, if_neg (by omega)]; exact a4
  have hcx' : hc.bs.gt h.next = some (.cells (fillC k.cells .leaf 0) [] (sz + 1) false) := by rw [hcx, len_rowBlk, hk]
  obtain ⟨sv', hd, ha1, ha2, ha3, ha4, ha5⟩ := grown_append (P := P) hu hs hbs hz hgc (by omega) hroom hcx' hk (fun j hj => cellAt_fill _ _ _ hj) hone
  have hdB : hd.bs.gt B0 = some (.cells tb zb 1 false) := by
    rw [ha5 B0 (by omega) (fun id e1 e2 => ?_), hcold B0 hB, hbB]
    rcases hgc with ⟨_, _, c⟩ | ⟨id', t, z, a1, a2, a3, _⟩
    · rw [c] at e1; cases e1
    · rw [a3] at e1; cases e1; omega
  have hdl : hd.bs.gt l = some (.loop rbusy) := by
    rw [ha5 l (by omega) (fun id e1 e2 => ?_), hcold l hln, put_get, if_pos rfl]
    rcases hgc with ⟨_, _, c⟩ | ⟨id', t, z, a1, a2, a3, _⟩
    · rw [c] at e1; cases e1
    · rw [a3] at e1; cases e1; omega
  have hst := st1_of (o := 0) hdB (by omega) ha4
  let he := hd.put B0 (.cells (tb.up (some sv') 0) zb 1 false)
  have hel : he.bs.gt l = some (.loop rbusy) := by rw [put_get, if_neg hlB]; exact hdl
  let h' := he.put l (.loop rec)
  refine ⟨h', sv', tb.up (some sv') 0, ?_, by rw [put_get, if_pos rfl], by rw [put_get, if_neg (fun e => hlB e.symm), put_get, if_pos rfl], by rw [cellAt_up, if_pos rfl], ?_, ?_, fun b hlt hbl hbB0 => ?_⟩
  · show callL P keep lf (callN P keep prims lf n) l [k] h = _
    unfold callL
    rw [theLoop_of hl]
    subst hRec
    simp only
    have e1 : setPs (ntOf P fn) [7] [k] tm = some tm1 := by
      rw [setPs_cons, show Nat.ble (7 + 1) (ntOf P fn) = true from Nat.ble_eq_true_of_le h6]
      rfl
    rw [e1, ob_some', h7, h5]
    show ob (execA (callN P keep prims lf n) lf (ntOf P fn) fn (some l) (compC P (keep fn) (ntOf P fn) assign) ⟨tm1, h⟩) _ = _
    rw [h8]
    have e2 : execA (callN P keep prims lf n) lf (ntOf P fn) fn (some l) (.reg [] [(5, .tmp 7)]) ⟨tm1, h⟩ = some (.normal, ⟨tm2, h⟩) := by
      show ob (ob (tm1.gt 7) (fun v => some (tm1.up (some v) 5))) (fun tm => some (Ex.normal, (⟨tm, h⟩ : St))) = _
      rw [show tm1.gt 7 = some k from by rw [Tr.gt_up, if_pos rfl]]
    rw [e2, ob_some']
    show h.theLoop l _ = _
    rw [theLoop_of hl]
    simp only
    rw [h9]
    have e3 : execA (callN P keep prims lf n) lf (ntOf P fn) fn (some l) (.block 1 (.reg [⟨none, .ld1 (.tmp 2)⟩, ⟨none, .al F1 [.tmp 5]⟩, ⟨none, .ef (fun vs id h => l2 (fun s x => appendS P ts s x id h) vs) [.loc 1, .loc 0]⟩, ⟨none, .st1 (.tmp 2) (.loc 0)⟩] [])) ⟨tm2, hb⟩ = some (.normal, ⟨tm2, he⟩) := by
      have g2 : tm2.gt 2 = some (.ptr (some (B0, 0))) := by rw [Tr.gt_up, if_neg (by decide), Tr.gt_up, if_neg (by decide)]; exact h4
      have g5 : tm2.gt 5 = some k := by rw [Tr.gt_up, if_pos rfl]
      have r1 : GIns.ev ⟨none, .ld1 (.tmp 2)⟩ [] .leaf tm2 (callN P keep prims lf n) hb.next hb = some (sv, hb) := by
        show ob (tm2.gt 2) (fun v => ob (load1 hb v) fun r => some (r, hb)) = _
        rw [g2, ob_some']
        show ob (hb.ld1 B0 0) _ = _
        rw [ld1_of hbB (by omega) hsv]
      have r2 : GIns.ev ⟨none, .al F1 [.tmp 5]⟩ [sv] .leaf tm2 (callN P keep prims lf n) hb.next hb = some (.slice (some (h.next, 0)) 1 1 none, hc) := by
        show ob (gets [.tmp 5] [sv] .leaf tm2) (fun us => ob (F1 us) fun r => some (r.2 hb.next, hb.new hb.next r.1)) = _
        have : gets [.tmp 5] [sv] .leaf tm2 = some [k] := by
          show ob (tm2.gt 5) _ = _
          rw [g5]
        rw [this, ob_some', hF]
        rfl
      have r3 : GIns.ev ⟨none, .ef (fun vs id h => l2 (fun s x => appendS P ts s x id h) vs) [.loc 1, .loc 0]⟩ [.slice (some (h.next, 0)) 1 1 none, sv] .leaf tm2 (callN P keep prims lf n) hc.next hc = some (sv', hd) := ha1
      have r4 : GIns.ev ⟨none, .st1 (.tmp 2) (.loc 0)⟩ [sv', .slice (some (h.next, 0)) 1 1 none, sv] .leaf tm2 (callN P keep prims lf n) hd.next hd = some (undefA, he) := by
        show ob (tm2.gt 2) (fun p => ob (some sv') fun v => store1 hd p v) = _
        rw [g2, ob_some', ob_some']
        show (Option.rec (motive := fun _ => Option (AV × Heap)) none (fun h => some (undefA, h)) (hd.st1 B0 0 sv') : Option (AV × Heap)) = _
        rw [hst]
      have hrun : runIs [⟨none, .ld1 (.tmp 2)⟩, ⟨none, .al F1 [.tmp 5]⟩, ⟨none, .ef (fun vs id h => l2 (fun s x => appendS P ts s x id h) vs) [.loc 1, .loc 0]⟩, ⟨none, .st1 (.tmp 2) (.loc 0)⟩] tm2 (callN P keep prims lf n) [] hb = some ([undefA, sv', .slice (some (h.next, 0)) 1 1 none, sv], he) := by
        rw [runIs_cons, r1]
        show runIs _ tm2 (callN P keep prims lf n) [sv] hb = _
        rw [runIs_cons, r2]
        show runIs _ tm2 (callN P keep prims lf n) [.slice (some (h.next, 0)) 1 1 none, sv] hc = _
        rw [runIs_cons, r3]
        show runIs _ tm2 (callN P keep prims lf n) [sv', .slice (some (h.next, 0)) 1 1 none, sv] hd = _
        rw [runIs_cons, r4]
        rfl
      show ob (ob (runIs _ tm2 (callN P keep prims lf n) [] hb) fun r => ob (putOuts [] r.1 tm2 tm2) fun tm => some (Ex.normal, (⟨tm, r.2⟩ : St))) (fun r => inBlk 1 r) = _
      rw [hrun]
      rfl
    have e4 : (({ st := LState.busy, pending := none, fn := fn, tm := tm, params := [7], assign := assign, body := body } : LRec)) = rbusy := hBusy
    show ob (execA (callN P keep prims lf n) lf (ntOf P fn) fn (some l) _ ⟨tm2, h.put l (.loop ⟨.busy, none, fn, tm, [7], assign, body⟩)⟩) _ = _
    rw [e4, e3, ob_some']
    unfold endRound
    rw [theLoop_of hel]
    subst hBusy
    rfl
  · rcases ha3 with ⟨a, b, c⟩ | ⟨id, t, z, a1, a2, a3, a4, a5⟩
    · exact .inl ⟨a, b, c⟩
    · refine .inr ⟨id, t, z, a1, a2, a3, ?_, a5⟩
      rw [put_get, if_neg (by omega), put_get, if_neg (by omega)]; exact a4
  · show h.next ≤ hd.next
    omega
  · rw [put_get, if_neg hbl, put_get, if_neg hbB0, ha5 b (by omega) (fun id e1 e2 => ?_), hcold b (by omega), put_get, if_neg hbl]
    rcases hgc with ⟨_, _, c⟩ | ⟨id', t, z, a1, a2, a3, _⟩
    · rw [c] at e1; cases e1
    · rw [a3] at e1; cases e1; omega
end
end Go.Am

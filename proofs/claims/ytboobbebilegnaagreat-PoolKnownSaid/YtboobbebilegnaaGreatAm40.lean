/-
  AM, 40: a range over a function whose callee ends in one of several ways; slices.AppendSeq over the keys of a map.
-/
import Derived.Test.YtboobbebilegnaaGreatAm39
namespace Go.Am
section
variable {P : Program} {keep : Keeps} {call : CallFn} {lf : Nat} {f : FuncId}

theorem range_rel (hkD : keep f (ntOf P f) = false) (hn : NamesOk P) {g : Operand} {x : Opd} {ps : Array Tmp} {assign body : Code} (hx : Am.resolve (fun t => if keep f t then some (.tmp t) else none) g = some x)
    {s : St} {n0 : DP} {ρ : Pls} {act : Act} {w : World} {Q : Exit → Act → World → Prop} (hh : HR P keep ρ s.hp w) (ht : TR (keep f) (ntOf P f) ρ s.tm act.tmps) (hd : DefOk n0 ρ s.hp (putOff s.tm (ntOf P f)) act.defers w) (hn0 : n0.base ≤ w.heap.size) (hpd : n0.pd = none)
    {i : FuncId} {cap : List AV} (hf : x.get [] .leaf s.tm = some (.func (.func i) [] cap)) (R : Heap → Prop)
    (hcall : ∀ ρ' w' avs, HR P keep ρ' (s.hp.new s.hp.next (.loop ⟨.ready, none, f, s.tm.up none (ntOf P f), ps.toList, assign, body⟩)) w' → VRs ρ' (.func (.yield s.hp.next) [] [] :: cap) avs →
      (∃ fn c, P.funcs[i]? = some fn ∧ fn.body = some c) ∧ CallsIn (fen none) 0 P i avs.toArray w' (fun e w'' => ∃ v, e = .returned v ∧ ∃ h', R h' ∧ ∃ ρ'', Post P keep ρ' (s.hp.new s.hp.next (.loop ⟨.ready, none, f, s.tm.up none (ntOf P f), ps.toList, assign, body⟩)) w' ρ'' h' w''))
    (hloop : ∀ h', R h' → ∃ b, h'.bs.gt s.hp.next = some (.loop b) ∧ b.st ≠ .busy ∧ b.pending = none)
    (hg : ∀ h' b, R h' → h'.bs.gt s.hp.next = some (.loop b) → Goes P keep f n0 ρ s.hp w .normal ⟨s.tm, h'.put s.hp.next (.loop { b with st := .exhausted })⟩ Q) :
    (Code.rangeFunc g ps assign body).wpIn (fen none) 0 P Q act w := by
  have vf := resolve_sound (cond_tmp ht) hx hf
  let L0 : LRec := ⟨.ready, none, f, s.tm.up none (ntOf P f), ps.toList, assign, body⟩
  obtain ⟨fn', a', b', e2, hfr, ha, hb⟩ := vf
  cases hfr
  obtain rfl : a' = #[] := Array.toList_inj.1 ha
  obtain ⟨wA, mark, dn, hpA, hdA, hosA, houtA, hrunA⟩ := enter_sound (ro := none) (rom := none) hh rfl hd hn0 hpd (fun l e => by cases e) act.tmps ps assign body
  have mk : ∀ fn : FuncId, let L : Loop := { state := .ready, pending := none, fn, tmps := act.tmps, params := ps, assign, body, defers := dn }
      Post P keep ρ s.hp wA (ρ.up s.hp.next ⟨wA.heap.size, 0, 0⟩) (s.hp.new s.hp.next (.loop L0)) { wA with heap := wA.heap.push (.loop L) } := by
    intro fn L
    rw [new_eq (Nat.le_refl _)]
    refine hpA.hr.push (w' := { wA with heap := wA.heap.push (.loop L) }) (o := .loop L) (Nat.le_refl _) (by omega) rfl rfl rfl ⟨_, L, Pls.up_same _ _ _, rfl, ?_, ⟨rfl, rfl, ?_, rfl, rfl, rfl⟩⟩
    · show (wA.heap.push _)[wA.heap.size]? = _
      simp
    · refine TR.mono (Pls.le_up (hh.fresh (Nat.le_refl _)).1) ⟨ht.1, fun t v hk hv => ?_⟩
      have hv : (s.tm.up none (ntOf P f)).gt t = some v := hv
      rw [Tr.gt_up, if_neg (fun e => by rw [e] at hk; rw [hk] at hkD; cases hkD)] at hv
      exact ht.2 t v hk hv
  have hle1 : ρ.le (ρ.up s.hp.next ⟨wA.heap.size, 0, 0⟩) := Pls.le_up (hh.fresh (Nat.le_refl _)).1
  refine wpIn_rangeFunc fun fn _ => ?_
  have hmk := mk fn
  simp only at hmk
  obtain ⟨⟨fn1, c1, hfn, hbody⟩, hcl⟩ := hcall _ _ ((#[Value.func (Fn.yield wA.heap.size) #[] #[]] ++ b').toList) hmk.hr (by
    simp only [Array.toList_append]
    exact VRs.append (xs := [_]) ⟨_, [], rfl, ⟨_, _, _, rfl, ⟨_, Pls.up_same _ _ _, rfl, rfl⟩, rfl, rfl⟩, rfl⟩ (hb.mono hle1))
  let wB : World := { wA with heap := wA.heap.push (.loop { state := .ready, pending := none, fn, tmps := act.tmps, params := ps, assign, body, defers := dn }) }
  refine ⟨wA.heap.size, mark, wB, { target := .fn (.func i) b', args := #[] ++ #[Value.func (Fn.yield wA.heap.size) #[] #[]] }, wB, i, #[] ++ #[Value.func (Fn.yield wA.heap.size) #[] #[]] ++ b', wB, hrunA fn, ?_, fun _ _ => trivial, ?_, fun hd => (by cases hd), ?_⟩
  · have hmap : Array.map act.eval #[Operand.const (Value.func (Fn.yield wA.heap.size) #[] #[])] = #[Value.func (Fn.yield wA.heap.size) #[] #[]] := by simp [Act.eval]
    simp only [Go.resolve, e2, Deferred.ofValue, Sem.run_pure, hmap]
  · simp only [invoke]
    exact run_callFunc hn hfn hbody
  · rw [Array.toArray_toList] at hcl
    rw [Array.empty_append]
    refine CallsIn.mono (F := fen none) hcl (fun e w3 hR => ?_)
    obtain ⟨v, rfl, h', hRh, ρ', hp⟩ := hR
    obtain ⟨b, hbl, hst, hpd'⟩ := hloop h' hRh
    obtain ⟨p, L, hpl, hp0, hh3, hlr⟩ := hp.hr.blk _ _ hbl
    have hpe : p = ⟨wA.heap.size, 0, 0⟩ := by
      have := hp.le _ _ (Pls.up_same ρ s.hp.next ⟨wA.heap.size, 0, 0⟩)
      rw [hpl] at this; exact Option.some.inj this
    subst hpe
    have hset := hp.hr.setLoop (r' := { b with st := .exhausted }) (L' := { L with state := .exhausted }) hbl hpl rfl hh3 { hlr with st := rfl }
    have hbusy : (L.state == .busy) = false := by
      have h8 := hlr.st
      cases hs : b.st with
      | busy => exact absurd hs hst
      | ready => rw [hs] at h8; rw [show L.state = .ready from h8]; rfl
      | done => rw [hs] at h8; rw [show L.state = .done from h8]; rfl
      | exhausted => rw [hs] at h8; rw [show L.state = .exhausted from h8]; rfl
    have hall := ((hpA.trans hmk).trans hp).trans hset
    have hdef : DefOk n0 ρ' (h'.put s.hp.next (.loop { b with st := .exhausted })) (putOff s.tm (ntOf P f)) (mark ++ act.defers) _ := (hdA.post (hmk.trans hp)).post hset
    clear hset
    let w4 : World := { w3 with heap := w3.heap.setIfInBounds wA.heap.size (.loop { L with state := .exhausted }) }
    refine ⟨L.pending, w4, ?_, ?_⟩
    · simp only [Instr.endLoop, Sem.run_bind, run_getLoop hh3, Result.andThen_ok, hbusy, Bool.false_eq_true, if_false, Sem.run_pure, run_setLoop hh3]
      rfl
    · rw [hlr.pending, hpd']
      exact hg h' b hRh hbl ρ' _ _ hall (ht.mono hall.le) hdef

/-! ### slices.AppendSeq(nil, maps.Keys(m)) -/
structure AppCode (P : Program) (keep : Keeps) (A : FuncId) (ts sz : Nat) (F1 : List AV → Option (Blk × (Nat → AV))) where
  fn : Func
  c0 : Code
  c1 : Code
  c2 : Code
  As : Code
  Bd : Code
  g0 : Operand
  ps : Array Tmp
  b0 : Nat
  hf : P.funcs[A]? = some fn
  hb : fn.body = some (.seq c0 (.seq (.seq c1 (.block b0 (.rangeFunc g0 ps As Bd))) c2))
  res : fn.results.toList = [.tmp 4]
  nt : ntOf P A = fn.ntmps
  nt7 : 7 < fn.ntmps
  kD : keep A (ntOf P A) = false
  k4 : keep A 4 = true
  g : Am.resolve (fun t => if keep A t then some (.tmp t) else none) g0 = some (.tmp 6)
  p7 : ps.toList = [7]
  e0 : compC P (keep A) (ntOf P A) c0 = .reg [⟨none, .al (l1 box1) [.tmp 0]⟩] [(4, .cst (.slice none 0 0 none)), (2, .loc 0)]
  e1 : compC P (keep A) (ntOf P A) c1 = .reg [] [(6, .tmp 1)]
  e2 : compC P (keep A) (ntOf P A) c2 = .seq (.reg [⟨none, .ld1 (.tmp 2)⟩] [(4, .loc 0)]) .ret
  eA : compC P (keep A) (ntOf P A) As = .reg [] [(5, .tmp 7)]
  eB : compC P (keep A) (ntOf P A) Bd = .block 1 (.reg [⟨none, .ld1 (.tmp 2)⟩, ⟨none, .al F1 [.tmp 5]⟩, ⟨none, .ef (fun vs id h => l2 (fun s x => appendS P ts s x id h) vs) [.loc 1, .loc 0]⟩, ⟨none, .st1 (.tmp 2) (.loc 0)⟩] [])

theorem append_rel {prims : Prims} {n : Nat} (hm : P.follows .mixedOrders = true) (hn : NamesOk P) (hc : CallOk P keep (callN P keep prims lf (n + 1)))
    {A : FuncId} {ts e sz bs : Nat} {F1 : List AV → Option (Blk × (Nat → AV))} (C : AppCode P keep A ts sz F1)
    (hu : P.underlying ts = some (.slice e)) (hs : tSize P e = some (sz + 1)) (hbs : tBytes P e = some bs) (hz : (tZero P e).map (fun z => Nat.beq (len' z.cells) (sz + 1)) = some true)
    {g : FuncId} {gfn : Func} {gc : Code} {tm tk te : TypeId} (hg : P.funcs[g]? = some gfn) (hgb : gfn.body = some gc) (hcode : KeysCode tm gc) (hres : gfn.results = #[]) (hnt : 14 ≤ gfn.ntmps)
    (htm : P.underlying tm = some (.map tk te)) (hag : tAgg P tm = some false)
    {ρ : Pls} {h : Heap} {w : World} {cb mb clock : Nat} {es : List MEnt} {avs : List Value} (hr : HR P keep ρ h w) (hv : VRs ρ [.slice none 0 0 none, .func (.func g) [] [.ptr (some (cb, 0))]] avs)
    (hld : h.ld1 cb 0 = some (.map (some mb))) (hmb : h.bs.gt mb = some (.map es clock)) (hborn : bornOk es clock)
    (hkeys : ∀ k ∈ es.map (·.key), F1 [k] = some (rowBlk k.cells, sliceTo 1) ∧ k.cells.length = sz + 1 ∧ allOne k.cells = true) (hroom : ∀ m, m < es.length → room bs (m + 1) = true) :
    CallsIn (fen none) 0 P A avs.toArray w (fun e' w' => ∃ v, e' = .returned v ∧ ∃ π : List AV, π.Perm (es.map (·.key)) ∧ ∃ ρ' h' sv, VR ρ' sv v ∧ Grown h' (h.next + 2) e (sz + 1) sv (π.flatMap AV.cells) π.length ∧ Post P keep ρ h w ρ' h' w' ∧ ∀ b, b < h.next → h'.bs.gt b = h.bs.gt b) := by
  obtain ⟨fn, c0, c1, c2, As, Bd, g0, ps, b0, hf, hb, res, nt, nt7, kD, k4, gres, p7, e0, e1, e2, eA, eB⟩ := C
  let nilS : AV := .slice none 0 0 none
  let sq : AV := .func (.func g) [] [.ptr (some (cb, 0))]
  let call := callN P keep prims lf (n + 1)
  let B0 := h.next
  let tm0 : Tr AV := fillC [nilS, sq] .leaf 0
  let h1 := h.new B0 (rowBlk [nilS])
  let tm1 : Tr AV := (tm0.up (some nilS) 4).up (some (.ptr (some (B0, 0)))) 2
  let tm2 : Tr AV := tm1.up (some sq) 6
  let l := h1.next
  have hl : l = h.next + 1 := new_next h _
  let rec0 : LRec := ⟨.ready, none, A, tm2.up none (ntOf P A), ps.toList, As, Bd⟩
  let h2 := h1.new l (.loop rec0)
  have hlen := hv.length
  have htr : TR (keep A) (ntOf P A) ρ tm0 (avs.toArray ++ Array.replicate (fn.ntmps - avs.toArray.size) undef) := by rw [nt]; exact args_TR hv
  refine callsIn_of_wp_marks hf hb trivial ?_
  have hoff0 : putOff tm0 (ntOf P A) = [] := args_off (by rw [nt]; simp; omega)
  have hd : DefOk ⟨w.heap.size, none⟩ ρ h (putOff tm0 (ntOf P A)) [] w := ⟨⟨(fun d hd => by cases hd), List.Pairwise.nil⟩, hoff0, fun ds0 e => by cases e⟩
  have x0 : execA call lf (ntOf P A) A none (compC P (keep A) (ntOf P A) c0) ⟨tm0, h⟩ = some (.normal, ⟨tm1, h1⟩) := by rw [e0]; rfl
  have hoff1 : putOff tm1 (ntOf P A) = [] := by
    rw [← hoff0]
    refine putOff_same ?_
    rw [Tr.gt_up, if_neg (by omega), Tr.gt_up, if_neg (by omega)]
  have hoff2 : putOff tm2 (ntOf P A) = [] := by
    rw [← hoff1]
    refine putOff_same ?_
    rw [Tr.gt_up, if_neg (by omega)]
  have g12 : tm1.gt 1 = some sq := rfl
  have x1 : execA call lf (ntOf P A) A none (compC P (keep A) (ntOf P A) c1) ⟨tm1, h1⟩ = some (.normal, ⟨tm2, h1⟩) := by rw [e1]; rfl
  refine wpIn_seq (exec_sound kD hm hn hc c0 ⟨tm0, h⟩ _ x0 ⟨w.heap.size, none⟩ ρ _ w none _ rfl hr htr hd (Nat.le_refl _) (fun e => by cases e) (fun ρ1 a1 w1 hp1 ht1 hd1 => ?_))
  simp only [exOf, Exit.then]
  refine wpIn_seq (wpIn_seq (exec_sound kD hm hn hc c1 ⟨tm1, h1⟩ _ x1 ⟨w.heap.size, none⟩ ρ1 _ w1 none _ rfl hp1.hr ht1 hd1 hp1.fr.size (fun e => by cases e) (fun ρ2 a2 w2 hp2 ht2 hd2 => ?_)))
  simp only [exOf, Exit.then]
  have hp02 := hp1.trans hp2
  -- what holds between the rounds
  let J : List AV → Heap → Prop := fun ks h' => h'.bs.gt l = some (.loop rec0) ∧ (∃ tb sv, h'.bs.gt B0 = some (.cells tb [] 1 false) ∧ cellAt tb [] 0 = some sv ∧ Grown h' (h.next + 2) e (sz + 1) sv (ks.flatMap AV.cells) ks.length) ∧ h.next + 2 ≤ h'.next ∧ ∀ b, b < h.next → h'.bs.gt b = h.bs.gt b
  have hmlt : mb < h.next := hr.has _ _ hmb
  obtain ⟨tc, zc, mc, rc, hcb, hclt, hcv⟩ := ld1_some hld
  have hclt2 : cb < h.next := hr.has _ _ hcb
  have h2old : ∀ b, b < h.next → h2.bs.gt b = h.bs.gt b := fun b hlt => by
    rw [new_get, if_neg (by omega), new_get, if_neg (by omega)]
  have hJ0 : J [] h2 := by
    refine ⟨by rw [new_get, if_pos rfl], ⟨fillC [nilS] .leaf 0, nilS, ?_, ?_, .inl ⟨rfl, rfl, rfl⟩⟩, ?_, h2old⟩
    · rw [new_get, if_neg (by omega), new_get, if_pos rfl, len_rowBlk]; rfl
    · rfl
    · show h.next + 2 ≤ (h1.new h1.next _).next
      rw [new_next]; omega
  have hL : AppLoop P keep rec0 B0 ts sz F1 := by
    refine ⟨rfl, rfl, p7, ?_, ?_, by rw [nt]; exact nt7, kD, eA, eB⟩
    · show (tm2.up none (ntOf P A)).gt 2 = _
      rw [Tr.gt_up, if_neg (by omega)]; rfl
    · show noOff (tm2.up none (ntOf P A)) (ntOf P A) = true
      unfold noOff
      rw [Tr.gt_up, if_pos rfl]
  refine wpIn_block (range_rel kD hn gres (s := ⟨tm2, h1⟩) (n0 := ⟨w.heap.size, none⟩) hp2.hr ht2 hd2 hp02.fr.size rfl (i := g) (cap := [.ptr (some (cb, 0))]) rfl (fun h' => ∃ π : List AV, π.Perm (es.map (·.key)) ∧ J π h') ?_ ?_ ?_)
  · intro ρ' w' avs' hr' hv'
    refine ⟨⟨gfn, gc, hg, hgb⟩, ?_⟩
    refine (CallsIn.mono (F := fen none) (keys_rel hn hc hg hgb hcode hres hnt htm hag (h := h2) (l := l) (cb := cb) (mb := mb) (clock := clock) (es := es) hr' hv' ?_ (by rw [h2old _ hmlt]; exact hmb) hborn J hJ0 (fun ks h' hJ => by rw [hJ.2.2.2 _ hmlt]; exact hmb) ?_) ?_)
    · exact ld1_of (by rw [h2old _ hclt2]; exact hcb) hclt hcv
    · intro ks h' k ⟨j1, ⟨tb, sv, j2, j3, j4⟩, j5, j6⟩ hlt hk
      obtain ⟨k1, k2, k3⟩ := hkeys k hk
      obtain ⟨h'', sv', tb', r1, r2, r3, r4, r5, r6, r7⟩ := app_round (P := P) (keep := keep) (prims := prims) (lf := lf) (n := n) hL hu hs hbs hz (h := h') (l := l) (lo := h.next + 2) (sv := sv) (k := k) (cs := ks.flatMap AV.cells) (m := ks.length) j1 (by omega) (by omega) (by omega) j2 j3 j4 j5 (by omega) (by omega) (hroom _ hlt) k1 k2 k3
      refine ⟨h'', r1, r2, ⟨tb', sv', r3, r4, ?_⟩, by omega, fun b hb2 => ?_⟩
      · rw [List.flatMap_append, List.length_append]
        simpa using r5
      · rw [r7 b (by omega) (by omega) (by omega)]; exact j6 b hb2
    · rintro e' w'' ⟨v, rfl, π, h', hπ, hJ, ρ'', hp⟩
      exact ⟨v, rfl, h', ⟨π, hπ, hJ⟩, ρ'', hp⟩
  · rintro h' ⟨π, _, hJ⟩
    exact ⟨rec0, hJ.1, (fun e => by cases e), rfl⟩
  · rintro h' b ⟨π, hπ, j1, ⟨tb, sv, j2, j3, j4⟩, j5, j6⟩ hbl
    have j1' := j1
    rw [show l = (⟨tm2, h1⟩ : St).hp.next from rfl, hbl] at j1'
    cases j1'
    intro ρ3 a3 w3 hp3 ht3 hd3
    simp only [Exit.inBlock, Exit.then]
    -- the end
    let h3 := h'.put l (.loop { rec0 with st := .exhausted })
    have hB3 : h3.bs.gt B0 = some (.cells tb [] 1 false) := by rw [put_get, if_neg (by omega)]; exact j2
    have x2 : execA call lf (ntOf P A) A none (compC P (keep A) (ntOf P A) c2) ⟨tm2, h3⟩ = some (.ret, ⟨tm2.up (some sv) 4, h3⟩) := by
      rw [e2]
      have r1 : GIns.ev ⟨none, .ld1 (.tmp 2)⟩ [] .leaf tm2 call h3.next h3 = some (sv, h3) := by
        show ob (h3.ld1 B0 0) _ = _
        rw [ld1_of hB3 (by omega) j3]
      show ob (ob (ob (GIns.ev ⟨none, .ld1 (.tmp 2)⟩ [] .leaf tm2 call h3.next h3) (fun r => some ([r.1], r.2))) (fun r => ob (putOuts [(4, .loc 0)] r.1 tm2 tm2) fun tm => some (Ex.normal, (⟨tm, r.2⟩ : St)))) (fun r => thenX r fun s => some (.ret, s)) = _
      rw [r1]
      rfl
    have hoff3 : putOff (tm2.up (some sv) 4) (ntOf P A) = [] := by
      rw [← hoff2]
      refine putOff_same ?_
      rw [Tr.gt_up, if_neg (by omega)]
    have hp03 := hp02.trans hp3
    refine exec_sound kD hm hn hc c2 ⟨tm2, h3⟩ _ x2 ⟨w.heap.size, none⟩ ρ3 a3 w3 none _ rfl hp3.hr ht3 hd3 hp03.fr.size (fun e => by cases e) (fun ρ4 a4 w4 hp4 ht4 hd4 => ?_)
    have hp04 := hp03.trans hp4
    have hd4' : DefOk ⟨w.heap.size, none⟩ ρ4 h3 [] a4.defers w4 := by rw [← hoff3]; exact hd4
    refine leaves_all (lf := lf) (call := call) hm hn hc (n0 := ⟨w.heap.size, none⟩) rfl rfl a4.defers [] ρ4 h3 w4 hp04 hd4' rfl (fun ρ5 w5 hp5 hle => ?_)
    have hk : okRes (keep A) fn.results.toList = true := by rw [res]; simp [okRes, k4]
    obtain ⟨v, q1, q2⟩ := results_sound (fn := fn) (s := ⟨tm2.up (some sv) 4, h3⟩) (vs := [sv]) hp5.hr (ht4.mono hle) hk (by
      rw [res, resA_cons]
      show ob ((tm2.up (some sv) 4).gt 4) _ = _
      rw [Tr.gt_up, if_pos rfl]; rfl)
    refine ⟨v, q1, v, rfl, π, hπ, ρ5, h3, sv, q2, ?_, hp5, fun b hb2 => ?_⟩
    · rcases j4 with ⟨a, b, c⟩ | ⟨id, t, z, a1, a2, a3, a4, a5⟩
      · exact .inl ⟨a, b, c⟩
      · refine .inr ⟨id, t, z, a1, a2, a3, ?_, a5⟩
        rw [put_get, if_neg (by omega)]; exact a4
    · rw [put_get, if_neg (by omega)]; exact j6 b hb2
end
end Go.Am

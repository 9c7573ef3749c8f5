/-
  AM, 38: a range over a map's keys (maps.Keys): they come each once, in some order.
-/
import Derived.Test.YtboobbebilegnaaGreatAm37
import Derived.Maps.RangeRun
namespace Go.Am
section
variable {P : Program} {keep : Keeps} {call : CallFn}

/-- an operation without a guard -/
def IsOp (o : Oper) (dst : Option Tmp) (op : Op) : Prop := o.dst = dst ∧ o.op = op ∧ o.guard = none

theorem ops_value {ops : Array Oper} {i : Nat} {rest : List Nat} {o : Oper} {a : Act} {w w' : World} {v : Value} {dst : Option Tmp} {op : Op} {Q : Exit → Act → World → Prop} (ho : ops[i]? = some o) (hi : IsOp o dst op) (hnd : ∀ c, op ≠ .defer c)
    (hr : (execOp a.eval o).run P w = .ok (.value v) w') (h : wpOpsIn (fen none) 0 P ops Q rest (a.put dst v) w') : wpOpsIn (fen none) 0 P ops Q (i :: rest) a w := by
  obtain ⟨rfl, rfl, hg⟩ := hi
  have hw : Region.wanted o (yielded ops a.tmps) = true := by simp [Region.wanted, hg]
  simp only [wpOpsIn, ho]
  rw [if_pos hw]
  refine ⟨fun _ _ => trivial, ?_⟩
  rw [Oper.semAt_eq _ _ _ hnd, hr]
  exact h

theorem put_eval {a : Act} {d t : Nat} {v : Value} (hd : d < a.tmps.size) : (a.put (some d) v).eval (.tmp t) = if t = d then v else a.eval (.tmp t) := put_getD hd

/-- the code of the function that maps.Keys gives: m is what it holds, yield comes first -/
def KeysCode (tm : TypeId) (c : Code) : Prop := ∃ (i0 i1 i2 i3 b0 b1 : Nat) (o0 o1 o2 o3 o4 o5 o6 o7 o8 o9 o10 : Oper) (ts : Array TypeId) (tb : TypeId),
  c = .seq (.region i0 #[o0, o1] false) (.block b0 (.loop (.seq (.region i1 #[o2, o3] false) (.seq (.cond (.tmp 7) .skip (.exit b0)) (.block b1 (.seq (.region i2 #[o4, o5, o6] false) (.seq (.region i3 #[o7, o8, o9, o10] false) (.cond (.tmp 13) .ret .skip)))))))) ∧
  IsOp o0 (some 4) (.load tm (.tmp 1)) ∧ IsOp o1 (some 5) (.range tm (.tmp 4)) ∧ IsOp o2 (some 6) (.next (.tmp 5) false) ∧ IsOp o3 (some 7) (.extract (.tmp 6) 0) ∧
  IsOp o4 (some 8) (.entry (.tmp 5)) ∧ IsOp o5 (some 9) (.extract (.tmp 8) 0) ∧ IsOp o6 (some 3) (.assign (.tmp 9)) ∧
  IsOp o7 (some 10) (.move (.tmp 0)) ∧ IsOp o8 (some 11) (.move (.tmp 3)) ∧ IsOp o9 (some 12) (.call ⟨.value (.tmp 10), #[.tmp 11], ts⟩) ∧ IsOp o10 (some 13) (.unOp .not tb (.tmp 12))

/-- each entry is elder than the map's clock, and no two are of one age -/
def bornOk (es : List MEnt) (clock : Nat) : Prop := (∀ e ∈ es, e.born < clock) ∧ es.Pairwise fun e e' => e.born ≠ e'.born

theorem ERs.elem {ρ : Pls} : ∀ {es : List MEnt} {l : List MapEntry}, ERs ρ es l → ∀ e' ∈ l, ∃ e ∈ es, ER ρ e e'
  | [], l, h, e', he => by cases h; simp at he
  | e :: es, l, h, e', he => by
    obtain ⟨x, xs, rfl, h1, h2⟩ := h
    rcases List.mem_cons.1 he with rfl | he
    · exact ⟨e, List.mem_cons_self .., h1⟩
    · obtain ⟨y, hy, h3⟩ := ERs.elem h2 e' he; exact ⟨y, List.mem_cons_of_mem _ hy, h3⟩
theorem ERs.elem2 {ρ : Pls} : ∀ {es : List MEnt} {l : List MapEntry}, ERs ρ es l → ∀ e ∈ es, ∃ e' ∈ l, ER ρ e e'
  | [], l, h, e', he => by simp at he
  | e :: es, l, h, e', he => by
    obtain ⟨x, xs, rfl, h1, h2⟩ := h
    rcases List.mem_cons.1 he with rfl | he
    · exact ⟨x, List.mem_cons_self .., h1⟩
    · obtain ⟨y, hy, h3⟩ := ERs.elem2 h2 e' he; exact ⟨y, List.mem_cons_of_mem _ hy, h3⟩
theorem ERs.borns {ρ : Pls} : ∀ {es : List MEnt} {l : List MapEntry}, ERs ρ es l → l.map (·.born) = es.map (·.born)
  | [], l, h => by cases h; rfl
  | e :: es, l, h => by obtain ⟨x, xs, rfl, h1, h2⟩ := h; simp [h1.2.2, ERs.borns h2]

theorem nodup_born {es : List MEnt} {clock : Nat} (h : bornOk es clock) : (es.map (·.born)).Nodup := by
  unfold List.Nodup
  rw [List.pairwise_map]
  exact h.2
theorem born_inj {es : List MEnt} {clock : Nat} (h : bornOk es clock) {e d : MEnt} (he : e ∈ es) (hd : d ∈ es) (hb : e.born = d.born) : e = d := by
  have key : ∀ {l : List MEnt}, (l.Pairwise fun e e' => e.born ≠ e'.born) → ∀ e ∈ l, ∀ d ∈ l, e.born = d.born → e = d := by
    intro l hl
    induction l with
    | nil => intro e he; cases he
    | cons x l ih =>
      rw [List.pairwise_cons] at hl
      intro e he d hd hb
      rcases List.mem_cons.1 he with h1 | h1 <;> rcases List.mem_cons.1 hd with h2 | h2
      · rw [h1, h2]
      · subst h1; exact absurd hb (hl.1 d h2)
      · subst h2; exact absurd hb.symm (hl.1 e h1)
      · exact ih hl.2 e h1 d h2 hb
  exact key h.2 e he d hd hb

theorem nodup_le : ∀ {l m : List Nat}, l.Nodup → l ⊆ m → l.length ≤ m.length
  | [], m, _, _ => Nat.zero_le _
  | x :: l, m, hn, hs => by
    rw [List.nodup_cons] at hn
    have hx : x ∈ m := hs (List.mem_cons_self ..)
    have h1 := nodup_le (l := l) (m := m.erase x) hn.2 (fun y hy => by
      have : y ≠ x := fun e => hn.1 (e ▸ hy)
      exact (List.mem_erase_of_ne this).2 (hs (List.mem_cons_of_mem _ hy)))
    rw [List.length_erase_of_mem hx] at h1
    have : 0 < m.length := List.length_pos_of_mem hx
    simp only [List.length_cons]; omega
theorem nodup_map {α β : Type} {f : α → β} {l : List α} (h : (l.map f).Nodup) : l.Nodup := List.Pairwise.of_map f (fun _ _ hne e => hne (by rw [e])) h

/-- THE KEYS COME, each once, in some order; whatever the caller keeps between the rounds. -/
theorem keys_rel (hn : NamesOk P) (hc : CallOk P keep call) {g : FuncId} {fn : Func} {c : Code} {tm tk te : TypeId} (hg : P.funcs[g]? = some fn) (hb : fn.body = some c) (hcode : KeysCode tm c) (hres : fn.results = #[]) (hnt : 14 ≤ fn.ntmps)
    (htm : P.underlying tm = some (.map tk te)) (hag : tAgg P tm = some false)
    {ρ : Pls} {h : Heap} {w : World} {l cb mb clock : Nat} {es : List MEnt} {avs : List Value} (hr : HR P keep ρ h w) (hv : VRs ρ [.func (.yield l) [] [], .ptr (some (cb, 0))] avs)
    (hld : h.ld1 cb 0 = some (.map (some mb))) (hmb : h.bs.gt mb = some (.map es clock)) (hborn : bornOk es clock)
    (J : List AV → Heap → Prop) (h0 : J [] h) (hmap : ∀ ks h', J ks h' → h'.bs.gt mb = some (.map es clock))
    (hstep : ∀ ks h' k, J ks h' → ks.length < es.length → k ∈ es.map (·.key) → ∃ h'', call (.loop l) [k] h' = some (.bool true, h'') ∧ J (ks ++ [k]) h'') :
    CallsIn (fen none) 0 P g avs.toArray w (fun e w' => ∃ v, e = .returned v ∧ ∃ π h', π.Perm (es.map (·.key)) ∧ J π h' ∧ ∃ ρ', Post P keep ρ h w ρ' h' w') := by
  obtain ⟨yv, cv, rfl, vy, vc⟩ := hv.two
  have vy' := vy
  have vc' := vc
  obtain ⟨pc, hpc, rfl⟩ := vc
  obtain ⟨fn', fa, ca, rfl, ⟨pl, hpl, hpl0, rfl⟩, hfa, hca⟩ := vy
  obtain rfl : fa = #[] := Array.toList_inj.1 hfa
  obtain rfl : ca = #[] := Array.toList_inj.1 hca
  obtain ⟨pm, es0, hpm, hpm0, hm0, hes0⟩ := hr.blk _ _ hmb
  refine callsIn_of_wp hg hb trivial ?_
  obtain ⟨i0, i1, i2, i3, b0, b1, o0, o1, o2, o3, o4, o5, o6, o7, o8, o9, o10, ts, tb, rfl, q0, q1, q2, q3, q4, q5, q6, q7, q8, q9, q10⟩ := hcode
  -- the frame at the begin
  generalize ha0 : ({ tmps := [Value.func (Fn.yield pl.blk) #[] #[], Value.pointer (some ⟨pc.blk, pc.off + 0, none⟩)].toArray ++ Array.replicate (fn.ntmps - [Value.func (Fn.yield pl.blk) #[] #[], Value.pointer (some ⟨pc.blk, pc.off + 0, none⟩)].toArray.size) undef, defers := [] } : Act) = a0
  have hsz0 : 14 ≤ a0.tmps.size := by subst ha0; simp; omega
  have hd0 : a0.defers = [] := by subst ha0; rfl
  have e0 : a0.eval (.tmp 0) = Value.func (Fn.yield pl.blk) #[] #[] := by subst ha0; simp only [Act.eval, Array.getD_eq_getD_getElem?]; rw [Array.getElem?_append_left (by simp)]; rfl
  have e1 : a0.eval (.tmp 1) = Value.pointer (some ⟨pc.blk, pc.off + 0, none⟩) := by subst ha0; simp only [Act.eval, Array.getD_eq_getD_getElem?]; rw [Array.getElem?_append_left (by simp)]; rfl
  clear ha0
  refine wpIn_seq (wpIn_region ?_)
  show wpOpsIn (fen none) 0 P #[o0, o1] _ [0, 1] a0 w
  -- the map is read
  obtain ⟨mv, hload, vm⟩ := load1_sound (t := tm) hag hr (show load1 h (.ptr (some (cb, 0))) = some (.map (some mb)) from hld) vc'
  obtain ⟨pm', hpm', _, rfl⟩ := vm
  rw [hpm] at hpm'; cases hpm'
  refine ops_value (o := o0) rfl q0 (by intro c; simp) (w' := w) (v := .map (some pm.blk)) ?_ ?_
  · obtain ⟨dst, op, ty, pos, after, guard⟩ := o0
    obtain ⟨_, rfl, _⟩ := q0
    simp only [execOp, e1, Sem.run_bind, hload, Result.andThen_ok, Sem.run_pure]
  have s1 : ∀ (a : Act) (d : Nat) (v : Value), (a.put (some d) v).tmps.size = a.tmps.size := fun a d v => put_size _ _ _
  -- the iterator
  refine ops_value (o := o1) rfl q1 (by intro c; simp) (w' := { w with heap := w.heap.push (.mapIter (some pm.blk) clock #[] clock) }) (v := .pointer (some ⟨w.heap.size, 0, none⟩)) ?_ ?_
  · obtain ⟨dst, op, ty, pos, after, guard⟩ := o1
    obtain ⟨_, rfl, _⟩ := q1
    have e4 : (a0.put (some 4) (.map (some pm.blk))).eval (.tmp 4) = .map (some pm.blk) := by rw [put_eval (by omega), if_pos rfl]
    simp only [execOp, e4, Instr.range, Sem.run_bind, run_underlying htm, Result.andThen_ok]
    simp [getObj, newObj, Sem.run, hm0]
  simp only [wpOpsIn, Exit.then]
  let W1 : World := { w with heap := w.heap.push (.mapIter (some pm.blk) clock #[] clock) }
  have hp1 : Post P keep ρ h w ρ h W1 := Post.grow hr rfl rfl rfl
  refine wpIn_block (wpIn_loop (fun a W => ∃ (dn : List MEnt) (ρ1 : Pls) (h1 : Heap), (∀ e ∈ dn, e ∈ es) ∧ (dn.map (·.born)).Nodup ∧ J (dn.map (·.key)) h1 ∧ Post P keep ρ h w ρ1 h1 W ∧
      W.heap[w.heap.size]? = some (.mapIter (some pm.blk) clock (dn.map (·.born)).toArray clock) ∧ ¬ Own ρ1 h1 w.heap.size ∧ a.eval (.tmp 0) = Value.func (Fn.yield pl.blk) #[] #[] ∧ a.eval (.tmp 5) = .pointer (some ⟨w.heap.size, 0, none⟩) ∧ 14 ≤ a.tmps.size ∧ a.defers = [])
    (fun _ W => match W.heap[w.heap.size]? with | some (.mapIter _ _ seen _) => es.length - seen.size | _ => 0) ?_ ?_)
  · refine ⟨[], ρ, h, (by intro e he; cases he), List.nodup_nil, h0, hp1, ?_, ?_, ?_, ?_, ?_, ?_⟩
    · show (w.heap.push _)[w.heap.size]? = _
      simp
    · intro ho; exact Nat.lt_irrefl _ (own_lt hr ho)
    · rw [put_eval (by rw [s1]; omega), if_neg (by decide), put_eval (by omega), if_neg (by decide)]; exact e0
    · rw [put_eval (by rw [s1]; omega), if_pos rfl]
    · rw [s1, s1]; exact hsz0
    · rw [put_defers, put_defers]; exact hd0
  intro a W hI
  obtain ⟨dn, ρ1, h1, hsub, hnd, hJ, hP, hit, hown, f0, f5, fsz, fd⟩ := hI
  -- the map, as it lies now
  obtain ⟨pm', es1, hpm', _, hm1, hes1⟩ := hP.hr.blk _ _ (hmap _ _ hJ)
  have := hP.le _ _ hpm; rw [hpm'] at this; cases this
  have hold : ∀ x ∈ es1.toList, x.born < clock := fun x hx => by
    obtain ⟨e, he, hER⟩ := hes1.elem x hx
    rw [hER.2.2]; exact hborn.1 e he
  refine wpIn_seq (wpIn_region ?_)
  show wpOpsIn (fen none) 0 P #[o2, o3] _ [0, 1] a W
  rcases run_next_at (P := P) W o2.type w.heap.size pm.blk clock clock (dn.map (·.born)).toArray es1 clock hit hm1 hold (Nat.le_refl _) with ⟨hleft, hnext⟩ | ⟨e', he', W2, hW2, hnext⟩
  · -- nothing is left
    refine ops_value (o := o2) rfl q2 (by intro c; simp) (w' := W) (v := .tuple #[.bool false]) ?_ ?_
    · obtain ⟨dst, op, ty, pos, after, guard⟩ := o2
      obtain ⟨_, rfl, _⟩ := q2
      simp only [execOp, f5, Sem.run_bind]
      rw [hnext]; rfl
    refine ops_value (o := o3) rfl q3 (by intro c; simp) (w' := W) (v := .bool false) ?_ ?_
    · obtain ⟨dst, op, ty, pos, after, guard⟩ := o3
      obtain ⟨_, rfl, _⟩ := q3
      have e6 : (a.put (some 6) (.tuple #[.bool false])).eval (.tmp 6) = .tuple #[.bool false] := by rw [put_eval (by omega), if_pos rfl]
      simp only [execOp, e6]
      rfl
    simp only [wpOpsIn, Exit.then]
    refine wpIn_seq (wpIn_cond_false (by rw [put_eval (by rw [s1]; omega), if_pos rfl]) (wpIn_exit ?_))
    simp only [Exit.then, Exit.inBlock, if_true]
    refine ⟨by rw [put_defers, put_defers]; exact fd, .tuple #[], ?_, .tuple #[], rfl, dn.map (·.key), h1, ?_, hJ, ρ1, hP⟩
    · simp [results, hres]
    · refine List.Perm.map _ ?_
      have hnd2 : dn.Nodup := nodup_map hnd
      have hes : es.Nodup := nodup_map (nodup_born hborn)
      refine (List.perm_ext_iff_of_nodup hnd2 hes).2 fun e => ⟨hsub e, fun he => ?_⟩
      obtain ⟨x, hx, hER⟩ := hes1.elem2 e he
      have hx2 : x ∉ leftOf es1 (dn.map (·.born)).toArray := by
        have : leftOf es1 (dn.map (·.born)).toArray = #[] := Array.eq_empty_of_size_eq_zero hleft
        rw [this]; simp
      simp only [leftOf, Array.mem_filter, not_and, Bool.not_eq_true', Bool.not_eq_false] at hx2
      have hc2 := hx2 (by simpa using hx)
      rw [hER.2.2] at hc2
      have : e.born ∈ dn.map (·.born) := by simpa using hc2
      obtain ⟨d, hd, hde⟩ := List.mem_map.1 this
      rw [← born_inj hborn (hsub d hd) he hde]; exact hd
  · -- one has come
    simp only [leftOf, Array.mem_toList_iff, Array.mem_filter, Bool.not_eq_true'] at he'
    obtain ⟨he1, he2⟩ := he'
    obtain ⟨e, hee, hER⟩ := hes1.elem e' (by simpa using he1)
    have hnew : e.born ∉ dn.map (·.born) := by
      rw [hER.2.2] at he2
      intro hx
      have : (dn.map (·.born)).toArray.contains e.born = true := by simpa using hx
      rw [this] at he2; cases he2
    let W3 : World := ChangeMaps.setBlock W2 w.heap.size (.mapIter (some pm.blk) clock ((dn.map (·.born)).toArray.push e'.born) clock)
    have hW2h : W2.heap = W.heap := by rcases hW2 with rfl | rfl <;> rfl
    have hW2o : W2.os = W.os ∧ W2.output = W.output := by rcases hW2 with rfl | rfl <;> exact ⟨rfl, rfl⟩
    have hlt : w.heap.size < W.heap.size := (Array.getElem?_eq_some_iff.1 hit).1
    have hW3 : ∀ k, k ≠ w.heap.size → W3.heap[k]? = W.heap[k]? := fun k hk => by
      show (W2.heap.setIfInBounds _ _)[k]? = _
      rw [Array.getElem?_setIfInBounds, if_neg (fun e => hk e.symm), hW2h]
    have hit3 : W3.heap[w.heap.size]? = some (.mapIter (some pm.blk) clock ((dn.map (·.born)).toArray.push e'.born) clock) := by
      show (W2.heap.setIfInBounds _ _)[w.heap.size]? = _
      rw [Array.getElem?_setIfInBounds, if_pos rfl, if_pos (by rw [hW2h]; exact hlt)]
    have hP3 : Post P keep ρ h w ρ1 h1 W3 := by
      refine ⟨hP.le, hP.hr.frame fun b x p hx hd hp => hW3 _ fun e => hown ⟨b, x, p, hx, hd, hp, e⟩, ⟨hW2o.1.trans hP.fr.os, hW2o.2.trans hP.fr.output, ?_, fun k hk ho => (hW3 k (by omega)).trans (hP.fr.same k hk ho)⟩, hP.own, hP.next, hP.new⟩
      show w.heap.size ≤ (W2.heap.setIfInBounds _ _).size
      have := hP.fr.size
      simp [hW2h]; omega
    have hnext : (Instr.next (.pointer (some ⟨w.heap.size, 0, none⟩)) false o2.type).run P W = .ok (.tuple #[.bool true, e'.key, e'.val]) W3 := hnext
    refine ops_value (o := o2) rfl q2 (by intro c; simp) (w' := W3) (v := .tuple #[.bool true, e'.key, e'.val]) ?_ ?_
    · obtain ⟨dst, op, ty, pos, after, guard⟩ := o2
      obtain ⟨_, rfl, _⟩ := q2
      simp only [execOp, f5, Sem.run_bind]
      rw [hnext]; rfl
    refine ops_value (o := o3) rfl q3 (by intro c; simp) (w' := W3) (v := .bool true) ?_ ?_
    · obtain ⟨dst, op, ty, pos, after, guard⟩ := o3
      obtain ⟨_, rfl, _⟩ := q3
      have e6 : (a.put (some 6) (.tuple #[.bool true, e'.key, e'.val])).eval (.tmp 6) = .tuple #[.bool true, e'.key, e'.val] := by rw [put_eval (by omega), if_pos rfl]
      simp only [execOp, e6]
      rfl
    simp only [wpOpsIn, Exit.then]
    generalize hA : ((a.put (some 6) (.tuple #[.bool true, e'.key, e'.val])).put (some 7) (.bool true)) = A
    have A0 : A.eval (.tmp 0) = Value.func (Fn.yield pl.blk) #[] #[] := by subst hA; rw [put_eval (by rw [s1]; omega), if_neg (by decide), put_eval (by omega), if_neg (by decide)]; exact f0
    have A5 : A.eval (.tmp 5) = .pointer (some ⟨w.heap.size, 0, none⟩) := by subst hA; rw [put_eval (by rw [s1]; omega), if_neg (by decide), put_eval (by omega), if_neg (by decide)]; exact f5
    have A7 : A.eval (.tmp 7) = .bool true := by subst hA; rw [put_eval (by rw [s1]; omega), if_pos rfl]
    have Asz : 14 ≤ A.tmps.size := by subst hA; rw [s1, s1]; exact fsz
    have Ad : A.defers = [] := by subst hA; rw [put_defers, put_defers]; exact fd
    clear hA
    refine wpIn_seq (wpIn_cond_true A7 (wpIn_skip ?_))
    simp only [Exit.then]
    refine wpIn_block (wpIn_seq (wpIn_region ?_))
    show wpOpsIn (fen none) 0 P #[o4, o5, o6] _ [0, 1, 2] A W3
    have hm3 : W3.heap[pm.blk]? = some (.map es1 clock) := by
      rw [hW3 _ (fun e => ?_)]; exact hm1
      exact hown ⟨mb, _, pm, hmap _ _ hJ, rfl, hpm', e⟩
    have hnb : (es1.toList.map (·.born)).Nodup := by rw [hes1.borns]; exact nodup_born hborn
    refine ops_value (o := o4) rfl q4 (by intro c; simp) (w' := W3) (v := .tuple #[e'.key, e'.val]) ?_ ?_
    · obtain ⟨dst, op, ty, pos, after, guard⟩ := o4
      obtain ⟨_, rfl, _⟩ := q4
      simp only [execOp, A5, Sem.run_bind]
      rw [run_entry_at W3 w.heap.size pm.blk clock _ es1 clock e' hit3 hm3 (by simpa using he1) hnb]; rfl
    refine ops_value (o := o5) rfl q5 (by intro c; simp) (w' := W3) (v := e'.key) ?_ ?_
    · obtain ⟨dst, op, ty, pos, after, guard⟩ := o5
      obtain ⟨_, rfl, _⟩ := q5
      have e8 : (A.put (some 8) (.tuple #[e'.key, e'.val])).eval (.tmp 8) = .tuple #[e'.key, e'.val] := by rw [put_eval (by omega), if_pos rfl]
      simp only [execOp, e8]
      rfl
    refine ops_value (o := o6) rfl q6 (by intro c; simp) (w' := W3) (v := e'.key) ?_ ?_
    · obtain ⟨dst, op, ty, pos, after, guard⟩ := o6
      obtain ⟨_, rfl, _⟩ := q6
      have e9 : ((A.put (some 8) (.tuple #[e'.key, e'.val])).put (some 9) e'.key).eval (.tmp 9) = e'.key := by rw [put_eval (by rw [s1]; omega), if_pos rfl]
      simp only [execOp, e9]
      rfl
    simp only [wpOpsIn, Exit.then]
    generalize hB : (((A.put (some 8) (.tuple #[e'.key, e'.val])).put (some 9) e'.key).put (some 3) e'.key) = B
    have B0 : B.eval (.tmp 0) = Value.func (Fn.yield pl.blk) #[] #[] := by subst hB; rw [put_eval (by rw [s1, s1]; omega), if_neg (by decide), put_eval (by rw [s1]; omega), if_neg (by decide), put_eval (by omega), if_neg (by decide)]; exact A0
    have B5 : B.eval (.tmp 5) = .pointer (some ⟨w.heap.size, 0, none⟩) := by subst hB; rw [put_eval (by rw [s1, s1]; omega), if_neg (by decide), put_eval (by rw [s1]; omega), if_neg (by decide), put_eval (by omega), if_neg (by decide)]; exact A5
    have B3 : B.eval (.tmp 3) = e'.key := by subst hB; rw [put_eval (by rw [s1, s1]; omega), if_pos rfl]
    have Bsz : 14 ≤ B.tmps.size := by subst hB; rw [s1, s1, s1]; exact Asz
    have Bd : B.defers = [] := by subst hB; rw [put_defers, put_defers, put_defers]; exact Ad
    clear hB
    refine wpIn_seq (wpIn_region ?_)
    show wpOpsIn (fen none) 0 P #[o7, o8, o9, o10] _ [0, 1, 2, 3] B W3
    refine ops_value (o := o7) rfl q7 (by intro c; simp) (w' := W3) (v := Value.func (Fn.yield pl.blk) #[] #[]) ?_ ?_
    · obtain ⟨dst, op, ty, pos, after, guard⟩ := o7
      obtain ⟨_, rfl, _⟩ := q7
      simp only [execOp, B0]; rfl
    refine ops_value (o := o8) rfl q8 (by intro c; simp) (w' := W3) (v := e'.key) ?_ ?_
    · obtain ⟨dst, op, ty, pos, after, guard⟩ := o8
      obtain ⟨_, rfl, _⟩ := q8
      have e3 : (B.put (some 10) (Value.func (Fn.yield pl.blk) #[] #[])).eval (.tmp 3) = e'.key := by rw [put_eval (by omega), if_neg (by decide)]; exact B3
      simp only [execOp, e3]; rfl
    generalize hC : ((B.put (some 10) (Value.func (Fn.yield pl.blk) #[] #[])).put (some 11) e'.key) = C
    have C0 : C.eval (.tmp 0) = Value.func (Fn.yield pl.blk) #[] #[] := by subst hC; rw [put_eval (by rw [s1]; omega), if_neg (by decide), put_eval (by omega), if_neg (by decide)]; exact B0
    have C5 : C.eval (.tmp 5) = .pointer (some ⟨w.heap.size, 0, none⟩) := by subst hC; rw [put_eval (by rw [s1]; omega), if_neg (by decide), put_eval (by omega), if_neg (by decide)]; exact B5
    have C10 : C.eval (.tmp 10) = Value.func (Fn.yield pl.blk) #[] #[] := by subst hC; rw [put_eval (by rw [s1]; omega), if_neg (by decide), put_eval (by omega), if_pos rfl]
    have C11 : C.eval (.tmp 11) = e'.key := by subst hC; rw [put_eval (by rw [s1]; omega), if_pos rfl]
    have Csz : 14 ≤ C.tmps.size := by subst hC; rw [s1, s1]; exact Bsz
    have Cd : C.defers = [] := by subst hC; rw [put_defers, put_defers]; exact Bd
    clear hC
    -- the call of yield
    have hdl : dn.length < es.length := by
      have hsub2 : (dn ++ [e]).map (·.born) ⊆ es.map (·.born) := by
        intro x hx
        obtain ⟨y, hy, rfl⟩ := List.mem_map.1 hx
        refine List.mem_map.2 ⟨y, ?_, rfl⟩
        rcases List.mem_append.1 hy with h1 | h1
        · exact hsub y h1
        · rw [List.mem_singleton.1 h1]; exact hee
      have hnd2 : ((dn ++ [e]).map (·.born)).Nodup := by
        rw [List.map_append, List.nodup_append]
        exact ⟨hnd, by simp, fun x hx y hy e2 => by
          simp only [List.map_cons, List.map_nil, List.mem_singleton] at hy
          subst hy; subst e2; exact hnew hx⟩
      have := nodup_le hnd2 hsub2
      simp at this; omega
    obtain ⟨h2, hcall, hJ2⟩ := hstep (dn.map (·.key)) h1 e.key hJ (by simpa using hdl) (List.mem_map.2 ⟨e, hee, rfl⟩)
    have hER2 : VR ρ1 e.key e'.key := by
      have := hER.1
      exact this
    obtain ⟨f', tmps', assign', body', hy, hround⟩ := hc _ _ _ _ hcall ρ1 W3 [e'.key] hP3.hr ⟨_, [], rfl, hER2, rfl⟩ pl (hP.le _ _ hpl)
    have hcallrun : (execOp C.eval o9).run P W3 = .ok (.round pl.blk f' tmps' assign' body') W3 := by
      obtain ⟨dst, op, ty, pos, after, guard⟩ := o9
      obtain ⟨_, rfl, _⟩ := q9
      simp only [execOp, Go.resolve, C10, Deferred.ofValue, Sem.run_bind, Sem.run_pure, Result.andThen_ok, invoke, List.map_toArray, List.map_cons, List.map_nil, C11]
      simp only [Array.empty_append]
      exact hy
    have hdst9 : o9.dst = some 12 := q9.1
    have hg9 : Region.wanted o9 (yielded #[o7, o8, o9, o10] C.tmps) = true := by simp [Region.wanted, q9.2.2]
    simp only [wpOpsIn]
    rw [show (#[o7, o8, o9, o10] : Array Oper)[2]? = some o9 from rfl]
    simp only
    rw [if_pos hg9]
    refine ⟨fun _ _ => trivial, ?_⟩
    rw [Oper.semAt_eq _ _ _ (by rw [q9.2.1]; intro c e; cases e), hcallrun, Oper.uponIn_round]
    refine ⟨fun hd => (by cases hd), RoundIn.mono (F := fen none) hround fun en W4 hR => ?_⟩
    cases en with
    | panicked chain => exact hR.elim
    | outgrown => exact hR.elim
    | returned rv =>
      obtain ⟨ρ2, vr, hP4⟩ := hR
      cases vr
      rw [hdst9]
      rw [show (#[o7, o8, o9, o10] : Array Oper)[3]? = some o10 from rfl]
      simp only
      rw [if_pos (by simp [Region.wanted, q10.2.2])]
      refine ⟨fun _ _ => trivial, ?_⟩
      have hnot : (execOp (C.put (some 12) (.bool true)).eval o10).run P W4 = .ok (.value (.bool false)) W4 := by
        obtain ⟨dst, op, ty, pos, after, guard⟩ := o10
        obtain ⟨_, rfl, _⟩ := q10
        have e12 : (C.put (some 12) (.bool true)).eval (.tmp 12) = .bool true := by rw [put_eval (by omega), if_pos rfl]
        simp only [execOp, e12]; rfl
      rw [Oper.semAt_eq _ _ _ (by rw [q10.2.1]; intro c e; cases e), hnot, Oper.uponIn_value, q10.1]
      refine wpIn_cond_false (by rw [put_eval (by rw [s1]; omega), if_pos rfl]) (wpIn_skip ?_)
      simp only [Exit.inBlock, Exit.then]
      have hP5 := hP3.trans hP4
      have hown3 : ¬ Own ρ1 h1 w.heap.size := hown
      have hlt3 : w.heap.size < W3.heap.size := (Array.getElem?_eq_some_iff.1 hit3).1
      have hit4 : W4.heap[w.heap.size]? = some (.mapIter (some pm.blk) clock ((dn.map (·.born)).toArray.push e'.born) clock) := (hP4.fr.same _ hlt3 hown3).trans hit3
      refine ⟨⟨dn ++ [e], ρ2, h2, ?_, ?_, ?_, hP5, ?_, ?_, ?_, ?_, ?_, ?_⟩, ?_⟩
      · intro x hx
        rcases List.mem_append.1 hx with h1 | h1
        · exact hsub x h1
        · rw [List.mem_singleton.1 h1]; exact hee
      · rw [List.map_append, List.nodup_append]
        exact ⟨hnd, by simp, fun x hx y hy e2 => by
          simp only [List.map_cons, List.map_nil, List.mem_singleton] at hy
          subst hy; subst e2; exact hnew hx⟩
      · rw [List.map_append]; exact hJ2
      · rw [hit4, hER.2.2]; simp
      · exact fun ho => hown3 (hP4.own _ hlt3 ho)
      · rw [put_eval (by rw [s1]; omega), if_neg (by decide), put_eval (by omega), if_neg (by decide)]; exact C0
      · rw [put_eval (by rw [s1]; omega), if_neg (by decide), put_eval (by omega), if_neg (by decide)]; exact C5
      · rw [s1, s1]; exact Csz
      · rw [put_defers, put_defers]; exact Cd
      · simp only [hit4, hit, Array.size_push, List.size_toArray, List.length_map]
        omega
end
end Go.Am

/-
  AM, 38: a range over a map's keys (maps.Keys): they come each once, in some order.
-/
import Derived.Test.YtlfednnfkejcjaaQAmE
import Derived.Maps.RangeRun
set_option linter.unusedVariables false
set_option linter.unusedSimpArgs false

namespace Go.Am
section
variable {P : Program} {keep : Keeps} {call : CallFn}

/-- an operation without a guard -/
def IsOp (o : Oper) (dst : Option Tmp) (op : Op) : Prop := o.dst = dst ∧ o.op = op ∧ o.guard = none

theorem ops_value {ops : Array Oper} {i : Nat} {rest : List Nat} {o : Oper} {a : Act} {w w' : World} {v : Value} {dst : Option Tmp} {op : Op} {Q : Exit → Act → World → Prop} (ho : ops[i]? = some o) (hi : IsOp o dst op) (hnd : ∀ c, op ≠ .defer c)
    (hr : (execOp a.eval o).run P w = .ok (.value v) w') (h : wpOpsIn (fen none) 0 P ops Q rest (a.put dst v) w') : wpOpsIn (fen none) 0 P ops Q (i :: rest) a w := by
  obtain ⟨rfl, rfl, hg⟩ := hi
  have hw : Region.wanted o (yielded ops a.tmps) = true := by simp [Region.wanted, hg]
  simp only [wpOpsIn, ho]
  rw [if_pos hw]
  refine ⟨fun _ _ => trivial, ?_⟩
  rw [Oper.semAt_eq _ _ _ hnd, hr]
  exact h

theorem put_eval {a : Act} {d t : Nat} {v : Value} (hd : d < a.tmps.size) : (a.put (some d) v).eval (.tmp t) = if t = d then v else a.eval (.tmp t) := put_getD hd

/-- the code of the function that maps.Keys gives: m is what it holds, yield comes first -/
def KeysCode (tm : TypeId) (c : Code) : Prop := ∃ (i0 i1 i2 i3 b0 b1 : Nat) (o0 o1 o2 o3 o4 o5 o6 o7 o8 o9 o10 : Oper) (ts : Array TypeId) (tb : TypeId),
  c = .seq (.region i0 #[o0, o1] false) (.block b0 (.loop (.seq (.region i1 #[o2, o3] false) (.seq (.cond (.tmp 7) .skip (.exit b0)) (.block b1 (.seq (.region i2 #[o4, o5, o6] false) (.seq (.region i3 #[o7, o8, o9, o10] false) (.cond (.tmp 13) .ret .skip)))))))) ∧
  IsOp o0 (some 4) (.load tm (.tmp 1)) ∧ IsOp o1 (some 5) (.range tm (.tmp 4)) ∧ IsOp o2 (some 6) (.next (.tmp 5) false) ∧ IsOp o3 (some 7) (.extract (.tmp 6) 0) ∧
  IsOp o4 (some 8) (.entry (.tmp 5)) ∧ IsOp o5 (some 9) (.extract (.tmp 8) 0) ∧ IsOp o6 (some 3) (.assign (.tmp 9)) ∧
  IsOp o7 (some 10) (.move (.tmp 0)) ∧ IsOp o8 (some 11) (.move (.tmp 3)) ∧ IsOp o9 (some 12) (.call ⟨.value (.tmp 10), #[.tmp 11], ts⟩) ∧ IsOp o10 (some 13) (.unOp .not tb (.tmp 12))

/-- each entry is elder than the map's clock, and no two are of one age -/
def bornOk (es : List MEnt) (clock : Nat) : Prop := (∀ e ∈ es, e.born < clock) ∧ es.Pairwise fun e e' => e.born ≠ e'.born

theorem ERs.elem {ρ : Pls} : ∀ {es : List MEnt} {l : List MapEntry}, ERs ρ es l → ∀ e' ∈ l, ∃ e ∈ es, ER ρ e e'
  | [], l, h, e', he => by cases h; simp at he
  | e :: es, l, h, e', he => by
    obtain ⟨x, xs, rfl, h1, h2⟩ := h
    rcases List.mem_cons.1 he with rfl | he
    · exact ⟨e, List.mem_cons_self .., h1⟩
    · obtain ⟨y, hy, h3⟩ := ERs.elem h2 e' he; exact ⟨y, List.mem_cons_of_mem _ hy, h3⟩
theorem ERs.elem2 {ρ : Pls} : ∀ {es : List MEnt} {l : List MapEntry}, ERs ρ es l → ∀ e ∈ es, ∃ e' ∈ l, ER ρ e e'
  | [], l, h, e', he => by simp at he
  | e :: es, l, h, e', he => by
    obtain ⟨x, xs, rfl, h1, h2⟩ := h
    rcases List.mem_cons.1 he with rfl | he
    · exact ⟨x, List.mem_cons_self .., h1⟩
    · obtain ⟨y, hy, h3⟩ := ERs.elem2 h2 e' he; exact ⟨y, List.mem_cons_of_mem _ hy, h3⟩
theorem ERs.borns {ρ : Pls} : ∀ {es : List MEnt} {l : List MapEntry}, ERs ρ es l → l.map (·.born) = es.map (·.born)
  | [], l, h => by cases h; rfl
  | e :: es, l, h => by obtain ⟨x, xs, rfl, h1, h2⟩ := h; simp [h1.2.2, ERs.borns h2]

theorem nodup_born {es : List MEnt} {clock : Nat} (h : bornOk es clock) : (es.map (·.born)).Nodup := by
  unfold List.Nodup
  rw [List.pairwise_map]
  exact h.2
theorem born_inj {es : List MEnt} {clock : Nat} (h : bornOk es clock) {e d : MEnt} (he : e ∈ es) (hd : d ∈ es) (hb : e.born = d.born) : e = d := by
  have key : ∀ {l : List MEnt}, (l.Pairwise fun e e' => e.born ≠ e'.born) → ∀ e ∈ l, ∀ d ∈ l, e.born = d.born → e = d := by
    intro l hl
    induction l with
    | nil => intro e he; cases he
    | cons x l ih =>
      rw [List.pairwise_cons] at hl
      intro e he d hd hb
      rcases List.mem_cons.1 he with h1 | h1 <;> rcases List.mem_cons.1 hd with h2 | h2
      · rw [h1, h2]
      · subst h1; exact absurd hb (hl.1 d h2)
      · subst h2; exact absurd hb.symm (hl.1 e h1)
      · exact ih hl.2 e h1 d h2 hb
  exact key h.2 e he d hd hb

theorem nodup_le : ∀ {l m : List Nat}, l.Nodup → l ⊆ m → l.length ≤ m.length
  | [], m, _, _ => Nat.zero_le _
  | x :: l, m, hn, hs => by
    rw [List.nodup_cons] at hn
    have hx : x ∈ m := hs (List.mem_cons_self ..)
    have h1 := nodup_le (l := l) (m := m.erase x) hn.2 (fun y hy => by
      have : y ≠ x := fun e => hn.1 (e ▸ hy)
      exact (List.mem_erase_of_ne this).2 (hs (List.mem_cons_of_mem _ hy)))
    rw [List.length_erase_of_mem hx] at h1
    have : 0 < m.length := List.length_pos_of_mem hx
    simp only [List.length_cons]; omega
theorem nodup_map {α β : Type} {f : α → β} {l : List α} (h : (l.map f).Nodup) : l.Nodup := List.Pairwise.of_map f (fun _ _ hne e => hne (by rw [e])) h

/-- THE KEYS COME, each once, in some order; whatever the caller keeps between the rounds. -/
theorem keys_rel (_hn : NamesOk P) (hc : CallOk P keep call) {g : FuncId} {fn : Func} {c : Code} {tm tk te : TypeId} (hg : P.funcs[g]? = some fn) (hb : fn.body = some c) (hcode : KeysCode tm c) (hres : fn.results = #[]) (hnt : 14 ≤ fn.ntmps)
    (htm : P.underlying tm = some (.map tk te)) (hag : tAgg P tm = some false)
    {ρ : Pls} {h : Heap} {w : World} {l cb mb clock : Nat} {es : List MEnt} {avs : List Value} (hr : HR P keep ρ h w) (hv : VRs ρ [.func (.yield l) [] [], .ptr (some (cb, 0))] avs)
    (hld : h.ld1 cb 0 = some (.map (some mb))) (hmb : h.bs.gt mb = some (.map es clock)) (hborn : bornOk es clock)
    (J : List AV → Heap → Prop) (h0 : J [] h) (hmap : ∀ ks h', J ks h' → h'.bs.gt mb = some (.map es clock))
    (hstep : ∀ ks h' k, J ks h' → ks.length < es.length → k ∈ es.map (·.key) → ∃ h'', call (.loop l) [k] h' = some (.bool true, h'') ∧ J (ks ++ [k]) h'') :
    CallsIn (fen none) 0 P g avs.toArray w (fun e w' => ∃ v, e = .returned v ∧ ∃ π h', π.Perm (es.map (·.key)) ∧ J π h' ∧ ∃ ρ', Post P keep ρ h w ρ' h' w') := by
  obtain ⟨yv, cv, rfl, vy, vc⟩ := hv.two
  have vy' := vy
  have vc' := vc
  obtain ⟨pc, hpc, rfl⟩ := vc
  obtain ⟨fn', fa, ca, rfl, ⟨pl, hpl, hpl0, rfl⟩, hfa, hca⟩ := vy
  obtain rfl : fa = #[] := Array.toList_inj.1 hfa
  obtain rfl : ca = #[] := Array.toList_inj.1 hca
  obtain ⟨pm, es0, hpm, hpm0, hm0, hes0⟩ := hr.blk _ _ hmb
  refine callsIn_of_wp hg hb trivial ?_
  obtain ⟨i0, i1, i2, i3, b0, b1, o0, o1, o2, o3, o4, o5, o6, o7, o8, o9, o10, ts, tb, rfl, q0, q1, q2, q3, q4, q5, q6, q7, q8, q9, q10⟩ := hcode
  -- the frame at the begin
  generalize ha0 : ({ tmps := [Value.func (Fn.yield pl.blk) #[] #[], Value.pointer (some ⟨pc.blk, pc.off + 0, none⟩)].toArray ++ Array.replicate (fn.ntmps - [Value.func (Fn.yield pl.blk) #[] #[], Value.pointer (some ⟨pc.blk, pc.off + 0, none⟩)].toArray.size) undef, defers := [] } : Act) = a0
  have hsz0 : 14 ≤ a0.tmps.size := by subst ha0; simp; omega
  have hd0 : a0.defers = [] := by subst ha0; rfl
  have e0 : a0.eval (.tmp 0) = Value.func (Fn.yield pl.blk) #[] #[] := by subst ha0; simp only [Act.eval, Array.getD_eq_getD_getElem?]; rw [Array.getElem?_append_left (by simp)]; rfl
  have e1 : a0.eval (.tmp 1) = Value.pointer (some ⟨pc.blk, pc.off + 0, none⟩) := by subst ha0; simp only [Act.eval, Array.getD_eq_getD_getElem?]; rw [Array.getElem?_append_left (by simp)]; rfl
  clear ha0
  refine wpIn_seq (wpIn_region ?_)
  show wpOpsIn (fen none) 0 P #[o0, o1] _ [0, 1] a0 w
  -- the map is read
  obtain ⟨mv, hload, vm⟩ := load1_sound (t := tm) hag hr (show load1 h (.ptr (some (cb, 0))) = some (.map (some mb)) from hld) vc'
  obtain ⟨pm', hpm', _, rfl⟩ := vm
  rw [hpm] at hpm'; cases hpm'
  refine ops_value (o := o0) rfl q0 (by intro c; simp) (w' := w) (v := .map (some pm.blk)) ?_ ?_
  · obtain ⟨dst, op, ty, pos, after, guard⟩ := o0
    obtain ⟨_, rfl, _⟩ := q0
    simp only [execOp, e1, Sem.run_bind, hload, Result.andThen_ok, Sem.run_pure]
  have s1 : ∀ (a : Act) (d : Nat) (v : Value), (a.put (some d) v).tmps.size = a.tmps.size := fun a d v => put_size _ _ _
  -- the iterator
  refine ops_value (o := o1) rfl q1 (by intro c; simp) (w' := { w with heap := w.heap.push (.mapIter (some pm.blk) clock #[] clock) }) (v := .pointer (some ⟨w.heap.size, 0, none⟩)) ?_ ?_
  · obtain ⟨dst, op, ty, pos, after, guard⟩ := o1
    obtain ⟨_, rfl, _⟩ := q1
    have e4 : (a0.put (some 4) (.map (some pm.blk))).eval (.tmp 4) = .map (some pm.blk) := by rw [put_eval (by omega), if_pos rfl]
    simp only [execOp, e4, Instr.range, Sem.run_bind, run_underlying htm, Result.andThen_ok]
    simp [getObj, newObj, Sem.run, hm0]
  simp only [wpOpsIn, Exit.then]
  let W1 : World := { w with heap := w.heap.push (.mapIter (some pm.blk) clock #[] clock) }
  have hp1 : Post P keep ρ h w ρ h W1 := Post.grow hr rfl rfl rfl
  refine wpIn_block (wpIn_loop (fun a W => ∃ (dn : List MEnt) (ρ1 : Pls) (h1 : Heap), (∀ e ∈ dn, e ∈ es) ∧ (dn.map (·.born)).Nodup ∧ J (dn.map (·.key)) h1 ∧ Post P keep ρ h w ρ1 h1 W ∧
      W.heap[w.heap.size]? = some (.mapIter (some pm.blk) clock (dn.map (·.born)).toArray clock) ∧ ¬ Own ρ1 h1 w.heap.size ∧ a.eval (.tmp 0) = Value.func (Fn.yield pl.blk) #[] #[] ∧ a.eval (.tmp 5) = .pointer (some ⟨w.heap.size, 0, none⟩) ∧ 14 ≤ a.tmps.size ∧ a.defers = [])
    (fun _ W => match W.heap[w.heap.size]? with | some (.mapIter _ _ seen _) => es.length - seen.size | _ => 0) ?_ ?_)
  · refine ⟨[], ρ, h, (by intro e he; cases he), List.nodup_nil, h0, hp1, ?_, ?_, ?_, ?_, ?_, ?_⟩
    · show (w.heap.push _)[w.heap.size]? = _
      simp
    · intro ho; exact Nat.lt_irrefl _ (own_lt hr ho)
    · rw [put_eval (by rw [s1]; omega), if_neg (by decide), put_eval (by omega), if_neg (by decide)]; exact e0
    · rw [put_eval (by rw [s1]; omega), if_pos rfl]
    · rw [s1, s1]; exact hsz0
    · rw [put_defers, put_defers]; exact hd0
  intro a W hI
  obtain ⟨dn, ρ1, h1, hsub, hnd, hJ, hP, hit, hown, f0, f5, fsz, fd⟩ := hI
  -- the map, as it lies now
  obtain ⟨pm', es1, hpm', _, hm1, hes1⟩ := hP.hr.blk _ _ (hmap _ _ hJ)
  have := hP.le _ _ hpm; rw [hpm'] at this; cases this
  have hold : ∀ x ∈ es1.toList, x.born < clock := fun x hx => by
    obtain ⟨e, he, hER⟩ := hes1.elem x hx
    rw [hER.2.2]; exact hborn.1 e he
  refine wpIn_seq (wpIn_region ?_)
  show wpOpsIn (fen none) 0 P #[o2, o3] _ [0, 1] a W
  rcases run_next_at (P := P) W o2.type w.heap.size pm.blk clock clock (dn.map (·.born)).toArray es1 clock hit hm1 hold (Nat.le_refl _) with ⟨hleft, hnext⟩ | ⟨e', he', W2, hW2, hnext⟩
  · -- nothing is left
    refine ops_value (o := o2) rfl q2 (by intro c; simp) (w' := W) (v := .tuple #[.bool false]) ?_ ?_
    · obtain ⟨dst, op, ty, pos, after, guard⟩ := o2
      obtain ⟨_, rfl, _⟩ := q2
      simp only [execOp, f5, Sem.run_bind]
      rw [hnext]; rfl
    refine ops_value (o := o3) rfl q3 (by intro c; simp) (w' := W) (v := .bool false) ?_ ?_
    · obtain ⟨dst, op, ty, pos, after, guard⟩ := o3
      obtain ⟨_, rfl, _⟩ := q3
      have e6 : (a.put (some 6) (.tuple #[.bool false])).eval (.tmp 6) = .tuple #[.bool false] := by rw [put_eval (by omega), if_pos rfl]
      simp only [execOp, e6]
      rfl
    simp only [wpOpsIn, Exit.then]
    refine wpIn_seq (wpIn_cond_false (by rw [put_eval (by rw [s1]; omega), if_pos rfl]) (wpIn_exit ?_))
    simp only [Exit.then, Exit.inBlock, if_true]
    refine ⟨by rw [put_defers, put_defers]; exact fd, .tuple #[], ?_, .tuple #[], rfl, dn.map (·.key), h1, ?_, hJ, ρ1, hP⟩
    · simp [results, hres]
    · refine List.Perm.map _ ?_
      have hnd2 : dn.Nodup := nodup_map hnd
      have hes : es.Nodup := nodup_map (nodup_born hborn)
      refine (List.perm_ext_iff_of_nodup hnd2 hes).2 fun e => ⟨hsub e, fun he => ?_⟩
      obtain ⟨x, hx, hER⟩ := hes1.elem2 e he
      have hx2 : x ∉ leftOf es1 (dn.map (·.born)).toArray := by
        have : leftOf es1 (dn.map (·.born)).toArray = #[] := Array.eq_empty_of_size_eq_zero hleft
        rw [this]; simp
      simp only [leftOf, Array.mem_filter, not_and, Bool.not_eq_true', Bool.not_eq_false] at hx2
      have hc2 := hx2 (by simpa using hx)
      rw [hER.2.2] at hc2
      have : e.born ∈ dn.map (·.born) := by simpa using hc2
      obtain ⟨d, hd, hde⟩ := List.mem_map.1 this
      rw [← born_inj hborn (hsub d hd) he hde]; exact hd
  · -- one has come
    simp only [leftOf, Array.mem_toList_iff, Array.mem_filter, Bool.not_eq_true'] at he'
    obtain ⟨he1, he2⟩ := he'
    obtain ⟨e, hee, hER⟩ := hes1.elem e' (by simpa using he1)
    have hnew : e.born ∉ dn.map (·.born) := by
      rw [hER.2.2] at he2
      intro hx
      have : (dn.map (·.born)).toArray.contains e.born = true := by simpa using hx
      rw [this] at he2; cases he2
    let W3 : World := ChangeMaps.setBlock W2 w.heap.size (.mapIter (some pm.blk) clock ((dn.map (·.born)).toArray.push e'.born) clock)
    have hW2h : W2.heap = W.heap := by rcases hW2 with rfl | rfl <;> rfl
    have hW2o : W2.os = W.os ∧ W2.output = W.output := by rcases hW2 with rfl | rfl <;> exact ⟨rfl, rfl⟩
    have hlt : w.heap.size < W.heap.size := (Array.getElem?_eq_some_iff.1 hit).1
    have hW3 : ∀ k, k ≠ w.heap.size → W3.heap[k]? = W.heap[k]? := fun k hk => by
      show (W2.heap.setIfInBounds _ _)[k]? = _
      rw [Array.getElem?_setIfInBounds, if_neg (fun e => hk e.symm), hW2h]
    have hit3 : W3.heap[w.heap.size]? = some (.mapIter (some pm.blk) clock ((dn.map (·.born)).toArray.push e'.born) clock) := by
      show (W2.heap.setIfInBounds _ _)[w.heap.size]? = _
      rw [Array.getElem?_setIfInBounds, if_pos rfl, if_pos (by rw [hW2h]; exact hlt)]
    have hP3 : Post P keep ρ h w ρ1 h1 W3 := by
      refine ⟨hP.le, hP.hr.frame fun b x p hx hd hp => hW3 _ fun e => hown ⟨b, x, p, hx, hd, hp, e⟩, ⟨hW2o.1.trans hP.fr.os, hW2o.2.trans hP.fr.output, ?_, fun k hk ho => (hW3 k (by omega)).trans (hP.fr.sameW k hk ho)⟩, hP.own, hP.next, hP.new, hP.ownW⟩
      show w.heap.size ≤ (W2.heap.setIfInBounds _ _).size
      have := hP.fr.size
      simp [hW2h]; omega
    have hnext : (Instr.next (.pointer (some ⟨w.heap.size, 0, none⟩)) false o2.type).run P W = .ok (.tuple #[.bool true, e'.key, e'.val]) W3 := hnext
    refine ops_value (o := o2) rfl q2 (by intro c; simp) (w' := W3) (v := .tuple #[.bool true, e'.key, e'.val]) ?_ ?_
    · obtain ⟨dst, op, ty, pos, after, guard⟩ := o2
      obtain ⟨_, rfl, _⟩ := q2
      simp only [execOp, f5, Sem.run_bind]
      rw [hnext]; rfl
    refine ops_value (o := o3) rfl q3 (by intro c; simp) (w' := W3) (v := .bool true) ?_ ?_
    · obtain ⟨dst, op, ty, pos, after, guard⟩ := o3
      obtain ⟨_, rfl, _⟩ := q3
      have e6 : (a.put (some 6) (.tuple #[.bool true, e'.key, e'.val])).eval (.tmp 6) = .tuple #[.bool true, e'.key, e'.val] := by rw [put_eval (by omega), if_pos rfl]
      simp only [execOp, e6]
      rfl
    simp only [wpOpsIn, Exit.then]
    generalize hA : ((a.put (some 6) (.tuple #[.bool true, e'.key, e'.val])).put (some 7) (.bool true)) = A
    have A0 : A.eval (.tmp 0) = Value.func (Fn.yield pl.blk) #[] #[] := by subst hA; rw [put_eval (by rw [s1]; omega), if_neg (by decide), put_eval (by omega), if_neg (by decide)]; exact f0
    have A5 : A.eval (.tmp 5) = .pointer (some ⟨w.heap.size, 0, none⟩) := by subst hA; rw [put_eval (by rw [s1]; omega), if_neg (by decide), put_eval (by omega), if_neg (by decide)]; exact f5
    have A7 : A.eval (.tmp 7) = .bool true := by subst hA; rw [put_eval (by rw [s1]; omega), if_pos rfl]
    have Asz : 14 ≤ A.tmps.size := by subst hA; rw [s1, s1]; exact fsz
    have Ad : A.defers = [] := by subst hA; rw [put_defers, put_defers]; exact fd
    clear hA
    refine wpIn_seq (wpIn_cond_true A7 (wpIn_skip ?_))
    simp only [Exit.then]
    refine wpIn_block (wpIn_seq (wpIn_region ?_))
    show wpOpsIn (fen none) 0 P #[o4, o5, o6] _ [0, 1, 2] A W3
    have hm3 : W3.heap[pm.blk]? = some (.map es1 clock) := by
      rw [hW3 _ (fun e => ?_)]; exact hm1
      exact hown ⟨mb, _, pm, hmap _ _ hJ, rfl, hpm', e⟩
    have hnb : (es1.toList.map (·.born)).Nodup := by rw [hes1.borns]; exact nodup_born hborn
    refine ops_value (o := o4) rfl q4 (by intro c; simp) (w' := W3) (v := .tuple #[e'.key, e'.val]) ?_ ?_
    · obtain ⟨dst, op, ty, pos, after, guard⟩ := o4
      obtain ⟨_, rfl, _⟩ := q4
      simp only [execOp, A5, Sem.run_bind]
      rw [run_entry_at W3 w.heap.size pm.blk clock _ es1 clock e' hit3 hm3 (by simpa using he1) hnb]; rfl
    refine ops_value (o := o5) rfl q5 (by intro c; simp) (w' := W3) (v := e'.key) ?_ ?_
    · obtain ⟨dst, op, ty, pos, after, guard⟩ := o5
      obtain ⟨_, rfl, _⟩ := q5
      have e8 : (A.put (some 8) (.tuple #[e'.key, e'.val])).eval (.tmp 8) = .tuple #[e'.key, e'.val] := by rw [put_eval (by omega), if_pos rfl]
      simp only [execOp, e8]
      rfl
    refine ops_value (o := o6) rfl q6 (by intro c; simp) (w' := W3) (v := e'.key) ?_ ?_
    · obtain ⟨dst, op, ty, pos, after, guard⟩ := o6
      obtain ⟨_, rfl, _⟩ := q6
      have e9 : ((A.put (some 8) (.tuple #[e'.key, e'.val])).put (some 9) e'.key).eval (.tmp 9) = e'.key := by rw [put_eval (by rw [s1]; omega), if_pos rfl]
      simp only [execOp, e9]
      rfl
    simp only [wpOpsIn, Exit.then]
    generalize hB : (((A.put (some 8) (.tuple #[e'.key, e'.val])).put (some 9) e'.key).put (some 3) e'.key) = B
    have B0 : B.eval (.tmp 0) = Value.func (Fn.yield pl.blk) #[] #[] := by subst hB; rw [put_eval (by rw [s1, s1]; omega), if_neg (by decide), put_eval (by rw [s1]; omega), if_neg (by decide), put_eval (by omega), if_neg (by decide)]; exact A0
    have B5 : B.eval (.tmp 5) = .pointer (some ⟨w.heap.size, 0, none⟩) := by subst hB; rw [put_eval (by rw [s1, s1]; omega), if_neg (by decide), put_eval (by rw [s1]; omega), if_neg (by decide), put_eval (by omega), if_neg (by decide)]; exact A5
    have B3 : B.eval (.tmp 3) = e'.key := by subst hB; rw [put_eval (by rw [s1, s1]; omega), if_pos rfl]
    have Bsz : 14 ≤ B.tmps.size := by subst hB; rw [s1, s1, s1]; exact Asz
    have Bd : B.defers = [] := by subst hB; rw [put_defers, put_defers, put_defers]; exact Ad
    clear hB
    refine wpIn_seq (wpIn_region ?_)
    show wpOpsIn (fen none) 0 P #[o7, o8, o9, o10] _ [0, 1, 2, 3] B W3
    refine ops_value (o := o7) rfl q7 (by intro c; simp) (w' := W3) (v := Value.func (Fn.yield pl.blk) #[] #[]) ?_ ?_
    · obtain ⟨dst, op, ty, pos, after, guard⟩ := o7
      obtain ⟨_, rfl, _⟩ := q7
      simp only [execOp, B0]; rfl
    refine ops_value (o := o8) rfl q8 (by intro c; simp) (w' := W3) (v := e'.key) ?_ ?_
    · obtain ⟨dst, op, ty, pos, after, guard⟩ := o8
      obtain ⟨_, rfl, _⟩ := q8
      have e3 : (B.put (some 10) (Value.func (Fn.yield pl.blk) #[] #[])).eval (.tmp 3) = e'.key := by rw [put_eval (by omega), if_neg (by decide)]; exact B3
      simp only [execOp, e3]; rfl
    generalize hC : ((B.put (some 10) (Value.func (Fn.yield pl.blk) #[] #[])).put (some 11) e'.key) = C
    have C0 : C.eval (.tmp 0) = Value.func (Fn.yield pl.blk) #[] #[] := by subst hC; rw [put_eval (by rw [s1]; omega), if_neg (by decide), put_eval (by omega), if_neg (by decide)]; exact B0
    have C5 : C.eval (.tmp 5) = .pointer (some ⟨w.heap.size, 0, none⟩) := by subst hC; rw [put_eval (by rw [s1]; omega), if_neg (by decide), put_eval (by omega), if_neg (by decide)]; exact B5
    have C10 : C.eval (.tmp 10) = Value.func (Fn.yield pl.blk) #[] #[] := by subst hC; rw [put_eval (by rw [s1]; omega), if_neg (by decide), put_eval (by omega), if_pos rfl]
    have C11 : C.eval (.tmp 11) = e'.key := by subst hC; rw [put_eval (by rw [s1]; omega), if_pos rfl]
    have Csz : 14 ≤ C.tmps.size := by subst hC; rw [s1, s1]; exact Bsz
    have Cd : C.defers = [] := by subst hC; rw [put_defers, put_defers]; exact Bd
    clear hC
    -- the call of yield
    have hdl : dn.length < es.length := by
      have hsub2 : (dn ++ [e]).map (·.born) ⊆ es.map (·.born) := by
        intro x hx
        obtain ⟨y, hy, rfl⟩ := List.mem_map.1 hx
        refine List.mem_map.2 ⟨y, ?_, rfl⟩
        rcases List.mem_append.1 hy with h1 | h1
        · exact hsub y h1
        · rw [List.mem_singleton.1 h1]; exact hee
      have hnd2 : ((dn ++ [e]).map (·.born)).Nodup := by
        rw [List.map_append, List.nodup_append]
        exact ⟨hnd, by simp, fun x hx y hy e2 => by
          simp only [List.map_cons, List.map_nil, List.mem_singleton] at hy
          subst hy; subst e2; exact hnew hx⟩
      have := nodup_le hnd2 hsub2
      simp at this; omega
    obtain ⟨h2, hcall, hJ2⟩ := hstep (dn.map (·.key)) h1 e.key hJ (by simpa using hdl) (List.mem_map.2 ⟨e, hee, rfl⟩)
    have hER2 : VR ρ1 e.key e'.key := by
      have := hER.1
      exact this
    obtain ⟨f', tmps', assign', body', hy, hround⟩ := hc _ _ _ _ hcall ρ1 W3 [e'.key] hP3.hr ⟨_, [], rfl, hER2, rfl⟩ pl (hP.le _ _ hpl)
    have hcallrun : (execOp C.eval o9).run P W3 = .ok (.round pl.blk f' tmps' assign' body') W3 := by
      obtain ⟨dst, op, ty, pos, after, guard⟩ := o9
      obtain ⟨_, rfl, _⟩ := q9
      simp only [execOp, Go.resolve, C10, Deferred.ofValue, Sem.run_bind, Sem.run_pure, Result.andThen_ok, invoke, List.map_toArray, List.map_cons, List.map_nil, C11]
      simp only [Array.empty_append]
      exact hy
    have hdst9 : o9.dst = some 12 := q9.1
    have hg9 : Region.wanted o9 (yielded #[o7, o8, o9, o10] C.tmps) = true := by simp [Region.wanted, q9.2.2]
    simp only [wpOpsIn]
    rw [show (#[o7, o8, o9, o10] : Array Oper)[2]? = some o9 from rfl]
    simp only
    rw [if_pos hg9]
    refine ⟨fun _ _ => trivial, ?_⟩
    rw [Oper.semAt_eq _ _ _ (by rw [q9.2.1]; intro c e; cases e), hcallrun, Oper.uponIn_round]
    refine ⟨fun hd => (by cases hd), RoundIn.mono (F := fen none) hround fun en W4 hR => ?_⟩
    cases en with
    | panicked chain => exact hR.elim
    | outgrown => exact hR.elim
    | returned rv =>
      obtain ⟨ρ2, vr, hP4⟩ := hR
      cases vr
      rw [hdst9]
      rw [show (#[o7, o8, o9, o10] : Array Oper)[3]? = some o10 from rfl]
      simp only
      rw [if_pos (by simp [Region.wanted, q10.2.2])]
      refine ⟨fun _ _ => trivial, ?_⟩
      have hnot : (execOp (C.put (some 12) (.bool true)).eval o10).run P W4 = .ok (.value (.bool false)) W4 := by
        obtain ⟨dst, op, ty, pos, after, guard⟩ := o10
        obtain ⟨_, rfl, _⟩ := q10
        have e12 : (C.put (some 12) (.bool true)).eval (.tmp 12) = .bool true := by rw [put_eval (by omega), if_pos rfl]
        simp only [execOp, e12]; rfl
      rw [Oper.semAt_eq _ _ _ (by rw [q10.2.1]; intro c e; cases e), hnot, Oper.uponIn_value, q10.1]
      refine wpIn_cond_false (by rw [put_eval (by rw [s1]; omega), if_pos rfl]) (wpIn_skip ?_)
      simp only [Exit.inBlock, Exit.then]
      have hP5 := hP3.trans hP4
      have hown3 : ¬ Own ρ1 h1 w.heap.size := hown
      have hlt3 : w.heap.size < W3.heap.size := (Array.getElem?_eq_some_iff.1 hit3).1
      have hit4 : W4.heap[w.heap.size]? = some (.mapIter (some pm.blk) clock ((dn.map (·.born)).toArray.push e'.born) clock) := (hP4.fr.same _ hlt3 hown3).trans hit3
      refine ⟨⟨dn ++ [e], ρ2, h2, ?_, ?_, ?_, hP5, ?_, ?_, ?_, ?_, ?_, ?_⟩, ?_⟩
      · intro x hx
        rcases List.mem_append.1 hx with h1 | h1
        · exact hsub x h1
        · rw [List.mem_singleton.1 h1]; exact hee
      · rw [List.map_append, List.nodup_append]
        exact ⟨hnd, by simp, fun x hx y hy e2 => by
          simp only [List.map_cons, List.map_nil, List.mem_singleton] at hy
          subst hy; subst e2; exact hnew hx⟩
      · rw [List.map_append]; exact hJ2
      · rw [hit4, hER.2.2]; simp
      · exact fun ho => hown3 (hP4.own _ hlt3 ho)
      · rw [put_eval (by rw [s1]; omega), if_neg (by decide), put_eval (by omega), if_neg (by decide)]; exact C0
      · rw [put_eval (by rw [s1]; omega), if_neg (by decide), put_eval (by omega), if_neg (by decide)]; exact C5
      · rw [s1, s1]; exact Csz
      · rw [put_defers, put_defers]; exact Cd
      · simp only [hit4, hit, Array.size_push, List.size_toArray, List.length_map]
        omega
end
end Go.Am

/-
  AM, 39: slices.AppendSeq over the keys of a map: one round; a range whose callee ends in one of several ways.
-/
namespace Go.Am
section
variable {P : Program} {keep : Keeps} {call : CallFn} {lf : Nat}

/-! ### reading what was written -/
theorem new_get (h : Heap) (b : Nat) (x : Blk) (c : Nat) : (h.new b x).bs.gt c = if c = b then some x else h.bs.gt c := Tr.gt_up _ _ _ _
theorem new_next (h : Heap) (x : Blk) : (h.new h.next x).next = h.next + 1 := by
  rw [new_eq (Nat.le_refl _)]
theorem put_next (h : Heap) (b : Nat) (x : Blk) : (h.put b x).next = h.next := rfl
theorem theLoop_of {β : Type} {h : Heap} {b : Nat} {r : LRec} {f : LRec → Option β} (hb : h.bs.gt b = some (.loop r)) : h.theLoop b f = f r := by unfold Heap.theLoop; rw [hb]
theorem cells_of {β : Type} {h : Heap} {b : Nat} {t : Tr AV} {z : List AV} {n : Nat} {ro : Bool} {f : Tr AV → List AV → Nat → Bool → Option β} (hb : h.bs.gt b = some (.cells t z n ro)) : h.cells b f = f t z n ro := by unfold Heap.cells; rw [hb]
theorem ld1_of {h : Heap} {b o n : Nat} {t : Tr AV} {z : List AV} {ro : Bool} {v : AV} (hb : h.bs.gt b = some (.cells t z n ro)) (ho : o < n) (hv : cellAt t z o = some v) : h.ld1 b o = some v := by
  unfold Heap.ld1
  rw [cells_of hb]
  show (Bool.rec (motive := fun _ => Option AV) none (cellAt t z o) (Nat.ble (o + 1) n) : Option AV) = _
  rw [Nat.ble_eq_true_of_le ho, hv]
theorem loadC_of {t : Tr AV} {z : List AV} : ∀ {vs : List AV} {i : Nat}, (∀ j, j < vs.length → cellAt t z (i + j) = vs[j]?) → loadC t z vs.length i = some vs
  | [], i, _ => rfl
  | v :: vs, i, h => by
    rw [List.length_cons, loadC_succ]
    have h0 := h 0 (by simp)
    simp only [Nat.add_zero, List.getElem?_cons_zero] at h0
    rw [h0]
    have ih := loadC_of (t := t) (z := z) (vs := vs) (i := i + 1) (fun j hj => by
      have := h (j + 1) (by simp; omega)
      rw [show i + (j + 1) = i + 1 + j by omega] at this
      simpa using this)
    show ob (loadC t z vs.length (i + 1)) _ = _
    rw [ih]
theorem ld_of {h : Heap} {b o n : Nat} {t : Tr AV} {z : List AV} {ro : Bool} {vs : List AV} (hb : h.bs.gt b = some (.cells t z n ro)) (hn : o + vs.length ≤ n) (hv : ∀ j, j < vs.length → cellAt t z (o + j) = vs[j]?) : h.ld b o vs.length = some vs := by
  unfold Heap.ld
  rw [cells_of hb]
  show (Bool.rec (motive := fun _ => Option (List AV)) none (loadC t z vs.length o) (Nat.ble (o + vs.length) n) : Option (List AV)) = _
  rw [Nat.ble_eq_true_of_le hn]
  exact loadC_of hv
theorem st1_of {h : Heap} {b o n : Nat} {t : Tr AV} {z : List AV} {v : AV} (hb : h.bs.gt b = some (.cells t z n false)) (ho : o < n) (hv : v.one = true) : h.st1 b o v = some (h.put b (.cells (t.up (some v) o) z n false)) := by
  unfold Heap.st1
  rw [cells_of hb]
  show (Bool.rec (motive := fun _ => Option Heap) none (Bool.rec (motive := fun _ => Option Heap) none _ v.one) (Nat.ble (o + 1) n) : Option Heap) = _
  rw [Nat.ble_eq_true_of_le ho, hv]
theorem cellAt_fill (vs : List AV) (z : List AV) (i : Nat) (hi : i < vs.length) : cellAt (fillC vs .leaf 0) z i = vs[i]? := by
  unfold cellAt
  rw [gt_fillC, if_pos (by omega), Nat.sub_zero, List.getElem?_eq_getElem hi]
theorem cellAt_up (t : Tr AV) (z : List AV) (o i : Nat) (v : AV) : cellAt (t.up (some v) o) z i = if i = o then some v else cellAt t z i := by
  unfold cellAt
  rw [Tr.gt_up]
  split <;> rfl
theorem cellAt_fillOn (vs : List AV) (t : Tr AV) (z : List AV) (o i : Nat) : cellAt (fillC vs t o) z i = if o ≤ i ∧ i < o + vs.length then vs[i - o]? else cellAt t z i := by
  unfold cellAt
  rw [gt_fillC]
  split
  · rename_i h
    rw [List.getElem?_eq_getElem (by omega)]
  · rfl
theorem iff'_true {β : Type} (r : Option β) : iff' true r = r := rfl
theorem ob_some' {α β : Type} (x : α) (f : α → Option β) : ob (some x) f = f x := rfl

/-! ### What a slice holds -/
/-- a slice that append has made: its cells, 'sz' an element -/
def Grown (h : Heap) (lo : Nat) (e sz : Nat) (sv : AV) (cs : List AV) (n : Nat) : Prop :=
  (n = 0 ∧ cs = [] ∧ sv = .slice none 0 0 none) ∨
  ∃ id t z, lo ≤ id ∧ id < h.next ∧ sv = .slice (some (id, 0)) n n (some sz) ∧ h.bs.gt id = some (.cells t z (n * sz) false) ∧ fitsZ e z = true ∧ cs.length = n * sz ∧ (∀ i, i < n * sz → cellAt t z i = cs[i]?) ∧ 0 < n

/-- one element more -/
theorem grown_append {ts e sz bs : Nat} (hu : P.underlying ts = some (.slice e)) (hs : tSize P e = some (sz + 1)) (hb : tBytes P e = some bs) (hz : (tZero P e).map (fun z => Nat.beq (len' z.cells) (sz + 1)) = some true) {h : Heap} {lo : Nat} {sv : AV} {cs : List AV} {n : Nat}
    (hg : Grown h lo e (sz + 1) sv cs n) (hlo : lo ≤ h.next) (hroom : room bs (n + 1) = true) {x : Nat} {vs : List AV} {tx : Tr AV} {zx : List AV} {rx : Bool} (hx : h.bs.gt x = some (.cells tx zx (sz + 1) rx)) (hvs : vs.length = sz + 1) (hxv : ∀ j, j < vs.length → cellAt tx zx j = vs[j]?) (hone : allOne vs = true) :
    ∃ sv' h', appendS P ts sv (.slice (some (x, 0)) 1 1 none) h.next h = some (sv', h') ∧ h'.next = h.next + 1 ∧ Grown h' lo e (sz + 1) sv' (cs ++ vs) (n + 1) ∧ sv'.one = true ∧
      ∀ b, b < h.next → (∀ id, sv = .slice (some (id, 0)) n n (some (sz + 1)) → b ≠ id) → h'.bs.gt b = h.bs.gt b := by
  have hld : h.ld x 0 (1 * (sz + 1)) = some vs := by
    rw [Nat.one_mul, ← hvs]
    exact ld_of hx (by omega) (fun j hj => by rw [Nat.zero_add]; exact hxv j hj)
  have hsrc : srcOf (sz + 1) (fun n => n) (.slice (some (x, 0)) 1 1 none) h = some (vs, 1) := by
    show (Option.rec (motive := fun _ => Option (List AV × Nat)) none (fun vs => some (vs, 1)) (h.ld x 0 (1 * (sz + 1))) : Option (List AV × Nat)) = _
    rw [hld]
  have hunf : ∀ a len cap g, appendS P ts (.slice a len cap g) (.slice (some (x, 0)) 1 1 none) h.next h = iff' (and' (room bs (len + 1)) (Nat.beq (len' vs) (1 * (sz + 1)))) (appAt (sz + 1) e a len cap g h.next h vs 1) := by
    intro a len cap g
    unfold appendS
    rw [hu]
    simp only [hs, hb]
    rw [show (some (sz + 1) : Option Nat).getD 0 = sz + 1 from rfl, hz]
    show (Option.rec (motive := fun _ => Option (AV × Heap)) none _ (srcOf (sz + 1) (fun n => n) (.slice (some (x, 0)) 1 1 none) h) : Option (AV × Heap)) = _
    rw [hsrc]
    rfl
  have hl1 : Nat.beq (len' vs) (1 * (sz + 1)) = true := by rw [len'_eq, hvs, Nat.one_mul]; simp
  rcases hg with ⟨rfl, rfl, rfl⟩ | ⟨id, t, z, h1, h2, rfl, h3, h4, h5, h6, _⟩
  · refine ⟨.slice (some (h.next, 0)) 1 1 (some (sz + 1)), h.new h.next (.cells (fillC vs .leaf 0) (tyMark e false) (len' vs) false), ?_, new_next _ _, ?_, rfl, ?_⟩
    · rw [hunf, hroom, hl1]
      show iff' (allOne vs) _ = _
      rw [hone]; rfl
    · refine .inr ⟨h.next, fillC vs .leaf 0, tyMark e false, hlo, by rw [new_next]; omega, rfl, by rw [new_get, if_pos rfl, len'_eq, hvs, Nat.one_mul], ?_, by simp [hvs], fun i hi => ?_, by omega⟩
      · show (Bool.rec (motive := fun _ => Bool) (Nat.beq e e) false false : Bool) = true
        simp
      · rw [List.nil_append]; exact cellAt_fill _ _ _ (by omega)
    · intro b hb' _
      rw [new_get, if_neg (by omega)]
  · refine ⟨.slice (some (h.next, 0)) (n + 1) (n + 1) (some (sz + 1)), (h.put id .dead).new h.next (.cells (fillC vs t (n * (sz + 1))) z (n * (sz + 1) + 1 * (sz + 1)) false), ?_, ?_, ?_, rfl, ?_⟩
    · rw [hunf, hroom, hl1]
      have hble : Nat.ble (n + 1) n = false := by
        cases hx : Nat.ble (n + 1) n with
        | false => rfl
        | true => have := Nat.le_of_ble_eq_true hx; omega
      show (Bool.rec (motive := fun _ => Option (AV × Heap)) (iff' (Nat.beq (sz + 1) (sz + 1)) (appDead (sz + 1) (n + 1) e 0 n 1 vs id h.next h)) _ (Nat.ble (n + 1) n) : Option (AV × Heap)) = _
      rw [hble, show Nat.beq (sz + 1) (sz + 1) = true from by simp]
      show appDead (sz + 1) (n + 1) e 0 n 1 vs id h.next h = _
      unfold appDead
      rw [cells_of h3]
      have e1 : and' (and' (notB false) (allOne vs)) (fitsZ e z) = true := by rw [hone, h4]; rfl
      rw [e1, iff'_true]
      have e2 : and' (Nat.beq 0 0) (Nat.beq (Nat.mul n (sz + 1)) (n * (sz + 1))) = true := by
        rw [and'_eq, show Nat.mul n (sz + 1) = n * (sz + 1) from rfl]; simp
      rw [e2]
      rfl
    · show ((h.put id .dead).new h.next _).next = _
      rw [show h.next = (h.put id .dead).next from rfl, new_next]
    · refine .inr ⟨h.next, _, _, hlo, ?_, rfl, by rw [new_get, if_pos rfl, Nat.add_mul], h4, by rw [List.length_append, h5, hvs, Nat.add_mul, Nat.one_mul], fun i hi => ?_, by omega⟩
      · show h.next < ((h.put id .dead).new h.next _).next
        rw [show h.next = (h.put id .dead).next from rfl, new_next]; omega
      · rw [cellAt_fillOn]
        rw [Nat.add_mul, Nat.one_mul] at hi
        by_cases hlt : i < n * (sz + 1)
        · rw [if_neg (by omega), h6 i hlt, List.getElem?_append_left (by omega)]
        · rw [if_pos (by omega), List.getElem?_append_right (by omega), h5]
    · intro b hb' hne
      have := hne id rfl
      rw [new_get, if_neg (by omega), put_get, if_neg this]

/-! ### One round of AppendSeq's loop -/
/-- the loop's record: its code, where the slice lies -/
structure AppLoop (P : Program) (keep : Keeps) (rec : LRec) (B0 : Nat) (ts sz : Nat) (F1 : List AV → Option (Blk × (Nat → AV))) : Prop where
  st : rec.st = .ready
  pending : rec.pending = none
  params : rec.params = [7]
  slot : rec.tm.gt 2 = some (.ptr (some (B0, 0)))
  off : noOff rec.tm (ntOf P rec.fn) = true
  nt : 7 < ntOf P rec.fn
  keepD : keep rec.fn (ntOf P rec.fn) = false
  assign : compC P (keep rec.fn) (ntOf P rec.fn) rec.assign = .reg [] [(5, .tmp 7)]
  body : compC P (keep rec.fn) (ntOf P rec.fn) rec.body = .block 1 (.reg [⟨none, .ld1 (.tmp 2)⟩, ⟨none, .al F1 [.tmp 5]⟩, ⟨none, .ef (fun vs id h => l2 (fun s x => appendS P ts s x id h) vs) [.loc 1, .loc 0]⟩, ⟨none, .st1 (.tmp 2) (.loc 0)⟩] [])

theorem put_put_loop {h : Heap} {l : Nat} {x y : Blk} (b : Nat) : ((h.put l x).put l y).bs.gt b = if b = l then some y else h.bs.gt b := by
  rw [put_get, put_get]
  split <;> rfl

theorem app_round {prims : Prims} {n : Nat} {rec : LRec} {B0 ts e sz bs : Nat} {F1 : List AV → Option (Blk × (Nat → AV))} (hL : AppLoop P keep rec B0 ts sz F1)
    (hu : P.underlying ts = some (.slice e)) (hs : tSize P e = some (sz + 1)) (hbs : tBytes P e = some bs) (hz : (tZero P e).map (fun z => Nat.beq (len' z.cells) (sz + 1)) = some true)
    {h : Heap} {l lo : Nat} {sv k : AV} {cs : List AV} {m : Nat} (hl : h.bs.gt l = some (.loop rec)) (hln : l < h.next) (hB : B0 < h.next) (hlB : l ≠ B0) {tb : Tr AV} {zb : List AV} (hb0 : h.bs.gt B0 = some (.cells tb zb 1 false)) (hsv : cellAt tb zb 0 = some sv)
    (hg : Grown h lo e (sz + 1) sv cs m) (hlo : lo ≤ h.next) (hlol : l < lo) (hloB : B0 < lo) (hroom : room bs (m + 1) = true) (hF : F1 [k] = some (rowBlk k.cells, sliceTo 1)) (hk : k.cells.length = sz + 1) (hone : allOne k.cells = true) :
    ∃ h' sv' tb', callN P keep prims lf (n + 1) (.loop l) [k] h = some (.bool true, h') ∧ h'.bs.gt l = some (.loop rec) ∧ h'.bs.gt B0 = some (.cells tb' zb 1 false) ∧ cellAt tb' zb 0 = some sv' ∧ Grown h' lo e (sz + 1) sv' (cs ++ k.cells) (m + 1) ∧ h.next ≤ h'.next ∧
      ∀ b, b < lo → b ≠ l → b ≠ B0 → h'.bs.gt b = h.bs.gt b := by
  obtain ⟨st, pending, fn, tm, params, assign, body⟩ := rec
  obtain ⟨h1, h2, h3, h4, h5, h6, h7, h8, h9⟩ := hL
  simp only at h1 h2 h3 h4 h5 h6 h7 h8 h9
  subst h1 h2 h3
  generalize hRec : (⟨.ready, none, fn, tm, [7], assign, body⟩ : LRec) = rec at hl
  generalize hBusy : (⟨.busy, none, fn, tm, [7], assign, body⟩ : LRec) = rbusy
  let tm1 := tm.up (some k) 7
  let tm2 := tm1.up (some k) 5
  let hb := h.put l (.loop rbusy)
  have hbB : hb.bs.gt B0 = some (.cells tb zb 1 false) := by rw [put_get, if_neg (fun e => hlB e.symm)]; exact hb0
  have hbn : hb.next = h.next := rfl
  let hc := hb.new hb.next (rowBlk k.cells)
  have hcn : hc.next = h.next + 1 := new_next hb _
  have hcx : hc.bs.gt h.next = some (rowBlk k.cells) := by rw [new_get, hbn, if_pos rfl]
  have hcold : ∀ b, b < h.next → hc.bs.gt b = hb.bs.gt b := fun b hlt => by rw [new_get, hbn, if_neg (by omega)]
  have hgc : Grown hc lo e (sz + 1) sv cs m := by
    rcases hg with ⟨a, b, c⟩ | ⟨id, t, z, a1, a2, a3, a4, a5⟩
    · exact .inl ⟨a, b, c⟩
    · refine .inr ⟨id, t, z, a1, by omega, a3, ?_, a5⟩
      rw [hcold id a2, put_get, if_neg (by omega)]; exact a4
  have hcx' : hc.bs.gt h.next = some (.cells (fillC k.cells .leaf 0) [] (sz + 1) false) := by rw [hcx, len_rowBlk, hk]
  obtain ⟨sv', hd, ha1, ha2, ha3, ha4, ha5⟩ := grown_append (P := P) hu hs hbs hz hgc (by omega) hroom hcx' hk (fun j hj => cellAt_fill _ _ _ hj) hone
  have hdB : hd.bs.gt B0 = some (.cells tb zb 1 false) := by
    rw [ha5 B0 (by omega) (fun id e1 e2 => ?_), hcold B0 hB, hbB]
    rcases hgc with ⟨_, _, c⟩ | ⟨id', t, z, a1, a2, a3, _⟩
    · rw [c] at e1; cases e1
    · rw [a3] at e1; cases e1; omega
  have hdl : hd.bs.gt l = some (.loop rbusy) := by
    rw [ha5 l (by omega) (fun id e1 e2 => ?_), hcold l hln, put_get, if_pos rfl]
    rcases hgc with ⟨_, _, c⟩ | ⟨id', t, z, a1, a2, a3, _⟩
    · rw [c] at e1; cases e1
    · rw [a3] at e1; cases e1; omega
  have hst := st1_of (o := 0) hdB (by omega) ha4
  let he := hd.put B0 (.cells (tb.up (some sv') 0) zb 1 false)
  have hel : he.bs.gt l = some (.loop rbusy) := by rw [put_get, if_neg hlB]; exact hdl
  let h' := he.put l (.loop rec)
  refine ⟨h', sv', tb.up (some sv') 0, ?_, by rw [put_get, if_pos rfl], by rw [put_get, if_neg (fun e => hlB e.symm), put_get, if_pos rfl], by rw [cellAt_up, if_pos rfl], ?_, ?_, fun b hlt hbl hbB0 => ?_⟩
  · show callL P keep lf (callN P keep prims lf n) l [k] h = _
    unfold callL
    rw [theLoop_of hl]
    subst hRec
    simp only
    have e1 : setPs (ntOf P fn) [7] [k] tm = some tm1 := by
      rw [setPs_cons, show Nat.ble (7 + 1) (ntOf P fn) = true from Nat.ble_eq_true_of_le h6]
      rfl
    rw [e1, ob_some', h7, h5]
    show ob (execA (callN P keep prims lf n) lf (ntOf P fn) fn (some l) (compC P (keep fn) (ntOf P fn) assign) ⟨tm1, h⟩) _ = _
    rw [h8]
    have e2 : execA (callN P keep prims lf n) lf (ntOf P fn) fn (some l) (.reg [] [(5, .tmp 7)]) ⟨tm1, h⟩ = some (.normal, ⟨tm2, h⟩) := by
      show ob (ob (tm1.gt 7) (fun v => some (tm1.up (some v) 5))) (fun tm => some (Ex.normal, (⟨tm, h⟩ : St))) = _
      rw [show tm1.gt 7 = some k from by rw [Tr.gt_up, if_pos rfl]]
    rw [e2, ob_some']
    show h.theLoop l _ = _
    rw [theLoop_of hl]
    simp only
    rw [h9]
    have e3 : execA (callN P keep prims lf n) lf (ntOf P fn) fn (some l) (.block 1 (.reg [⟨none, .ld1 (.tmp 2)⟩, ⟨none, .al F1 [.tmp 5]⟩, ⟨none, .ef (fun vs id h => l2 (fun s x => appendS P ts s x id h) vs) [.loc 1, .loc 0]⟩, ⟨none, .st1 (.tmp 2) (.loc 0)⟩] [])) ⟨tm2, hb⟩ = some (.normal, ⟨tm2, he⟩) := by
      have g2 : tm2.gt 2 = some (.ptr (some (B0, 0))) := by rw [Tr.gt_up, if_neg (by decide), Tr.gt_up, if_neg (by decide)]; exact h4
      have g5 : tm2.gt 5 = some k := by rw [Tr.gt_up, if_pos rfl]
      have r1 : GIns.ev ⟨none, .ld1 (.tmp 2)⟩ [] .leaf tm2 (callN P keep prims lf n) hb.next hb = some (sv, hb) := by
        show ob (tm2.gt 2) (fun v => ob (load1 hb v) fun r => some (r, hb)) = _
        rw [g2, ob_some']
        show ob (hb.ld1 B0 0) _ = _
        rw [ld1_of hbB (by omega) hsv]
      have r2 : GIns.ev ⟨none, .al F1 [.tmp 5]⟩ [sv] .leaf tm2 (callN P keep prims lf n) hb.next hb = some (.slice (some (h.next, 0)) 1 1 none, hc) := by
        show ob (gets [.tmp 5] [sv] .leaf tm2) (fun us => ob (F1 us) fun r => some (r.2 hb.next, hb.new hb.next r.1)) = _
        have : gets [.tmp 5] [sv] .leaf tm2 = some [k] := by
          show ob (tm2.gt 5) _ = _
          rw [g5]
        rw [this, ob_some', hF]
        rfl
      have r3 : GIns.ev ⟨none, .ef (fun vs id h => l2 (fun s x => appendS P ts s x id h) vs) [.loc 1, .loc 0]⟩ [.slice (some (h.next, 0)) 1 1 none, sv] .leaf tm2 (callN P keep prims lf n) hc.next hc = some (sv', hd) := ha1
      have r4 : GIns.ev ⟨none, .st1 (.tmp 2) (.loc 0)⟩ [sv', .slice (some (h.next, 0)) 1 1 none, sv] .leaf tm2 (callN P keep prims lf n) hd.next hd = some (undefA, he) := by
        show ob (tm2.gt 2) (fun p => ob (some sv') fun v => store1 hd p v) = _
        rw [g2, ob_some', ob_some']
        show (Option.rec (motive := fun _ => Option (AV × Heap)) none (fun h => some (undefA, h)) (hd.st1 B0 0 sv') : Option (AV × Heap)) = _
        rw [hst]
      have hrun : runIs [⟨none, .ld1 (.tmp 2)⟩, ⟨none, .al F1 [.tmp 5]⟩, ⟨none, .ef (fun vs id h => l2 (fun s x => appendS P ts s x id h) vs) [.loc 1, .loc 0]⟩, ⟨none, .st1 (.tmp 2) (.loc 0)⟩] tm2 (callN P keep prims lf n) [] hb = some ([undefA, sv', .slice (some (h.next, 0)) 1 1 none, sv], he) := by
        rw [runIs_cons, r1]
        show runIs _ tm2 (callN P keep prims lf n) [sv] hb = _
        rw [runIs_cons, r2]
        show runIs _ tm2 (callN P keep prims lf n) [.slice (some (h.next, 0)) 1 1 none, sv] hc = _
        rw [runIs_cons, r3]
        show runIs _ tm2 (callN P keep prims lf n) [sv', .slice (some (h.next, 0)) 1 1 none, sv] hd = _
        rw [runIs_cons, r4]
        rfl
      show ob (ob (runIs _ tm2 (callN P keep prims lf n) [] hb) fun r => ob (putOuts [] r.1 tm2 tm2) fun tm => some (Ex.normal, (⟨tm, r.2⟩ : St))) (fun r => inBlk 1 r) = _
      rw [hrun]
      rfl
    have e4 : (({ st := LState.busy, pending := none, fn := fn, tm := tm, params := [7], assign := assign, body := body } : LRec)) = rbusy := hBusy
    show ob (execA (callN P keep prims lf n) lf (ntOf P fn) fn (some l) _ ⟨tm2, h.put l (.loop ⟨.busy, none, fn, tm, [7], assign, body⟩)⟩) _ = _
    rw [e4, e3, ob_some']
    unfold endRound
    rw [theLoop_of hel]
    subst hBusy
    rfl
  · rcases ha3 with ⟨a, b, c⟩ | ⟨id, t, z, a1, a2, a3, a4, a5⟩
    · exact .inl ⟨a, b, c⟩
    · refine .inr ⟨id, t, z, a1, a2, a3, ?_, a5⟩
      rw [put_get, if_neg (by omega), put_get, if_neg (by omega)]; exact a4
  · show h.next ≤ hd.next
    omega
  · rw [put_get, if_neg hbl, put_get, if_neg hbB0, ha5 b (by omega) (fun id e1 e2 => ?_), hcold b (by omega), put_get, if_neg hbl]
    rcases hgc with ⟨_, _, c⟩ | ⟨id', t, z, a1, a2, a3, _⟩
    · rw [c] at e1; cases e1
    · rw [a3] at e1; cases e1; omega
end
end Go.Am

/-
  AM, 44: the same machine, quicker in the kernel: what is handed on is taken apart at once.
-/
namespace Go.Am
noncomputable section
section
variable {β : Type}
def hk (h : Heap) (k : Heap → β) : β := Heap.rec (motive := fun _ => β) (fun bs n => k (Heap.mk bs n)) h
def rk (r : AV × Heap) (k : AV → Heap → β) : β := Prod.rec (motive := fun _ => β) (fun v h => Heap.rec (motive := fun _ => β) (fun bs n => k v (Heap.mk bs n)) h) r
def sk (s : St) (k : Tr AV → Heap → β) : β := St.rec (motive := fun _ => β) (fun tm h => Heap.rec (motive := fun _ => β) (fun bs n => k tm (Heap.mk bs n)) h) s
def pk {α γ : Type} (r : α × γ) (k : α → γ → β) : β := Prod.rec (motive := fun _ => β) k r
theorem hk_eq (h : Heap) (k : Heap → β) : hk h k = k h := by cases h; rfl
theorem rk_eq (r : AV × Heap) (k : AV → Heap → β) : rk r k = k r.1 r.2 := by obtain ⟨v, h⟩ := r; cases h; rfl
theorem sk_eq (s : St) (k : Tr AV → Heap → β) : sk s k = k s.tm s.hp := by obtain ⟨tm, h⟩ := s; cases h; rfl
theorem pk_eq {α γ : Type} (r : α × γ) (k : α → γ → β) : pk r k = k r.1 r.2 := rfl
end

theorem ob_congr {α β : Type} {x : Option α} {f g : α → Option β} (h : ∀ a, f a = g a) : ob x f = ob x g := by
  cases x with
  | none => rfl
  | some a => exact h a
theorem ob_of {α β : Type} {x y : Option α} {f g : α → Option β} (e : x = y) (h : ∀ a, f a = g a) : ob x f = ob y g := by
  subst e; exact ob_congr h

def runIsF (is : List GIns) : Tr AV → CallFn → List AV → Heap → Option (List AV × Heap) :=
  List.rec (motive := fun _ => Tr AV → CallFn → List AV → Heap → Option (List AV × Heap)) (fun _ _ loc h => some (loc, h))
    (fun i _ ih tm call loc h => ob (i.ev loc .leaf tm call h.next h) fun r => rk r fun v h' => ih tm call (v :: loc) h') is
theorem runIsF_eq (is : List GIns) : runIsF is = runIs is := by
  induction is with
  | nil => rfl
  | cons i is ih =>
    funext tm call loc h
    show ob (i.ev loc .leaf tm call h.next h) (fun r => rk r fun v h' => runIsF is tm call (v :: loc) h') = ob (i.ev loc .leaf tm call h.next h) fun r => runIs is tm call (r.1 :: loc) r.2
    refine ob_congr fun r => ?_
    rw [rk_eq, ih]

def runMatsF (base : Nat) (tm vs : Tr AV) (l : List (Nat × GIns)) : Heap → Option Heap :=
  List.rec (motive := fun _ => Heap → Option Heap) (fun h => some h) (fun x _ ih h => ob (x.2.blk vs tm) fun b => Option.rec (motive := fun _ => Option Heap) (ih h) (fun b => hk h fun h => ih (Heap.mk (h.bs.up (some b) (Nat.add base x.1)) h.next)) b) l
theorem runMatsF_eq (base : Nat) (tm vs : Tr AV) (l : List (Nat × GIns)) : runMatsF base tm vs l = runMats base tm vs l := by
  induction l with
  | nil => rfl
  | cons x l ih =>
    funext h
    show ob (x.2.blk vs tm) (fun b => Option.rec (motive := fun _ => Option Heap) (runMatsF base tm vs l h) (fun b => hk h fun h => runMatsF base tm vs l (Heap.mk (h.bs.up (some b) (Nat.add base x.1)) h.next)) b) = ob (x.2.blk vs tm) (fun b => Option.rec (motive := fun _ => Option Heap) (runMats base tm vs l h) (fun b => runMats base tm vs l (Heap.mk (h.bs.up (some b) (Nat.add base x.1)) h.next)) b)
    refine ob_congr fun b => ?_
    cases b with
    | none => rw [ih]
    | some b => rw [ih]; exact hk_eq _ _
def runActF (tm vs : Tr AV) (call : CallFn) (h : Heap) (k : Tr AV → Heap → Option (Tr AV × Heap)) (a : Option (Nat × GIns)) : Option (Tr AV × Heap) :=
  Option.rec (motive := fun _ => Option (Tr AV × Heap)) (k vs h) (fun x => ob (x.2.ev [] vs tm call h.next h) fun r => rk r fun v h' => k (vs.up (some v) x.1) h') a
def runStageF (base : Nat) (tm : Tr AV) (call : CallFn) (s : Stage) (k : Tr AV → Heap → Option (Tr AV × Heap)) (vs : Tr AV) (h : Heap) : Option (Tr AV × Heap) :=
  iff' (runCks base tm vs h s.own s.cks) (ob (runEvs base tm h s.own s.evs vs) fun vs => ob (runMatsF base tm vs s.mats h) fun h => hk h fun h => runActF tm vs call h k s.act)
def runStagesF (base : Nat) (tm : Tr AV) (call : CallFn) (ss : List Stage) : Tr AV → Heap → Option (Tr AV × Heap) :=
  List.rec (motive := fun _ => Tr AV → Heap → Option (Tr AV × Heap)) (fun vs h => some (vs, h)) (fun s _ ih => runStageF base tm call s ih) ss
theorem runActF_eq (tm vs : Tr AV) (call : CallFn) (h : Heap) (k : Tr AV → Heap → Option (Tr AV × Heap)) (a : Option (Nat × GIns)) : runActF tm vs call h k a = runAct tm vs call h k a := by
  cases a with
  | none => rfl
  | some x =>
    show ob (x.2.ev [] vs tm call h.next h) (fun r => rk r fun v h' => k (vs.up (some v) x.1) h') = ob (x.2.ev [] vs tm call h.next h) fun r => k (vs.up (some r.1) x.1) r.2
    exact ob_congr fun r => rk_eq _ _
theorem runStagesF_eq (base : Nat) (tm : Tr AV) (call : CallFn) (ss : List Stage) : runStagesF base tm call ss = runStages base tm call ss := by
  induction ss with
  | nil => rfl
  | cons s ss ih =>
    show runStageF base tm call s (runStagesF base tm call ss) = runStage base tm call s (runStages base tm call ss)
    rw [ih]
    funext vs h
    unfold runStageF runStage
    show iff' _ _ = iff' _ _
    refine congrArg (iff' _) (ob_congr fun vs => ?_)
    rw [runMatsF_eq]
    refine ob_congr fun h => ?_
    rw [hk_eq, runActF_eq]

def exK (e : Ex) (s : St) (f : Tr AV → Heap → XR) : XR := Ex.rec (motive := fun _ => XR) (sk s f) (some (.ret, s)) (fun id => some (.exit id, s)) (fun l => some (.goto l, s)) e
theorem exK_eq (r : Ex × St) (f : Tr AV → Heap → XR) (g : St → XR) (h : ∀ tm h, f tm h = g ⟨tm, h⟩) : exK r.1 r.2 f = thenX r g := by
  obtain ⟨e, s⟩ := r
  cases e with
  | normal => exact (sk_eq s f).trans (h _ _)
  | ret => rfl
  | exit id => rfl
  | goto l => rfl
def loopNF (body : Tr AV → Heap → XR) (n : Nat) : Tr AV → Heap → XR :=
  Nat.rec (motive := fun _ => Tr AV → Heap → XR) (fun _ _ => none) (fun _ ih tm h => ob (body tm h) fun r => pk r fun e s => exK e s ih) n
theorem loopNF_eq (body : Tr AV → Heap → XR) (b : St → XR) (hb : ∀ tm h, body tm h = b ⟨tm, h⟩) (n : Nat) : ∀ tm h, loopNF body n tm h = loopN b n ⟨tm, h⟩ := by
  induction n with
  | zero => intro tm h; rfl
  | succ n ih =>
    intro tm h
    show ob (body tm h) (fun r => pk r fun e s => exK e s (loopNF body n)) = ob (b ⟨tm, h⟩) fun r => thenX r (loopN b n)
    refine ob_of (hb tm h) fun r => ?_
    exact exK_eq r _ _ ih
/-- what a range's end leaves -/
def endRng (tm : Tr AV) (l : Nat) (h' : Heap) : XR :=
  h'.theLoop l fun b => match b.st with
      | .busy => none
      | _ => match b.pending with
        | none => some (.normal, ⟨tm, h'.put l (.loop { b with st := .exhausted })⟩)
        | some c => ob (jumpEx c) fun e => some (e, ⟨tm, h'.put l (.loop { b with st := .exhausted })⟩)
def runRangeF (call : CallFn) (nt : Nat) (f : FuncId) (ro : Option Nat) (ps : List Nat) (assign body : Code) (tm : Tr AV) (h : Heap) (fv : AV) : XR :=
  let l := h.next
  let enter : XR := ob (applyF call [.func (.yield l) [] []] (h.new l (.loop ⟨.ready, none, f, tm.up none nt, ps, assign, body⟩)) fv) fun r =>
    rk r fun _ h' => endRng tm l h'
  match ro with
  | none => enter
  | some l0 => h.theLoop l0 fun _ => enter
theorem runRangeF_eq (call : CallFn) (nt : Nat) (f : FuncId) (ro : Option Nat) (ps : List Nat) (assign body : Code) (tm : Tr AV) (h : Heap) (fv : AV) :
    runRangeF call nt f ro ps assign body tm h fv = runRange call nt f ro ps assign body ⟨tm, h⟩ fv := by
  have e : ob (applyF call [.func (.yield h.next) [] []] (h.new h.next (.loop ⟨.ready, none, f, tm.up none nt, ps, assign, body⟩)) fv) (fun r => rk r fun _ h' => endRng tm h.next h')
      = ob (applyF call [.func (.yield h.next) [] []] (h.new h.next (.loop ⟨.ready, none, f, tm.up none nt, ps, assign, body⟩)) fv) fun r => endRng tm h.next r.2 := ob_congr fun r => rk_eq _ _
  cases ro with
  | none => exact e
  | some l0 =>
    show Heap.theLoop h l0 (fun _ => _) = Heap.theLoop h l0 (fun _ => _)
    rw [show (fun _ : LRec => ob (applyF call [.func (.yield h.next) [] []] (h.new h.next (.loop ⟨.ready, none, f, tm.up none nt, ps, assign, body⟩)) fv) (fun r => rk r fun _ h' => endRng tm h.next h')) = (fun _ => ob (applyF call [.func (.yield h.next) [] []] (h.new h.next (.loop ⟨.ready, none, f, tm.up none nt, ps, assign, body⟩)) fv) fun r => endRng tm h.next r.2) from by funext _; exact e]
    rfl

def execF (call : CallFn) (lf : Nat) (nt : Nat) (f : FuncId) (ro : Option Nat) (c : AC) : Tr AV → Heap → XR :=
  AC.rec (motive := fun _ => Tr AV → Heap → XR)
    (fun tm h => some (.normal, ⟨tm, h⟩))
    (fun is outs tm h => ob (runIsF is tm call [] h) fun r => pk r fun loc h' => ob (putOuts outs loc tm tm) fun tm' => some (.normal, ⟨tm', h'⟩))
    (fun is outs nt xs tm h => Option.rec (motive := fun _ => XR) (ob (runIsF is tm call [] h) fun r => pk r fun loc h' => ob (putOuts outs loc tm tm) fun tm' => ob (gets xs loc .leaf tm) fun vs => iff' (isFn vs) (some (.normal, ⟨tm'.up (some (.tuple (.tuple vs :: putOff tm' nt))) nt, h'⟩))) (fun _ => none) ro)
    (fun n ss outs tm h => ob (runStagesF h.next tm call ss .leaf (Heap.mk h.bs (Nat.add h.next n))) fun r => pk r fun vs h' => ob (putOutsD outs vs tm) fun tm' => some (.normal, ⟨tm', h'⟩))
    (fun _ _ ea eb tm h => ob (ea tm h) fun r => pk r fun e s => exK e s eb)
    (fun c _ _ ea eb tm h => ob (c.get [] .leaf tm) fun v => eBool (fun b => Bool.rec (motive := fun _ => XR) (eb tm h) (ea tm h) b) v)
    (fun id _ ea tm h => ob (ea tm h) fun r => inBlk id r)
    (fun _ ea tm h => loopNF ea lf tm h)
    (fun g ps assign body tm h => ob (g.get [] .leaf tm) fun fv => runRangeF call nt f ro ps assign body tm h fv)
    (fun id tm h => some (.exit id, ⟨tm, h⟩))
    (fun tm h => some (.ret, ⟨tm, h⟩))
    (fun _ ea tm h => ob (ea tm h) fun r => Ex.rec (motive := fun _ => XR) (some r) (some r) (fun _ => some r) (fun _ => none) r.1)
    (fun _ _ => none) c
theorem execF_eq (call : CallFn) (lf nt : Nat) (f : FuncId) (ro : Option Nat) (c : AC) : ∀ tm h, execF call lf nt f ro c tm h = execA call lf nt f ro c ⟨tm, h⟩ := by
  induction c with
  | skip => intro tm h; rfl
  | reg is outs =>
    intro tm h
    show ob (runIsF is tm call [] h) _ = ob (runIs is tm call [] h) _
    rw [runIsF_eq]
    rfl
  | dfr is outs nt' xs =>
    intro tm h
    cases ro with
    | some _ => rfl
    | none =>
      show ob (runIsF is tm call [] h) _ = ob (runIs is tm call [] h) _
      rw [runIsF_eq]
      rfl
  | draw n ss outs =>
    intro tm h
    show ob (runStagesF h.next tm call ss .leaf (Heap.mk h.bs (Nat.add h.next n))) _ = ob (runStages h.next tm call ss .leaf (Heap.mk h.bs (Nat.add h.next n))) _
    rw [runStagesF_eq]
    rfl
  | seq a b iha ihb =>
    intro tm h
    exact ob_of (iha tm h) fun r => exK_eq r _ _ ihb
  | cond c a b iha ihb =>
    intro tm h
    refine ob_congr fun v => ?_
    rw [show (fun b => Bool.rec (motive := fun _ => XR) _ _ b) = _ from rfl]
    show eBool (fun b' => Bool.rec (motive := fun _ => XR) (execF call lf nt f ro b tm h) (execF call lf nt f ro a tm h) b') v = eBool (fun b' => Bool.rec (motive := fun _ => XR) (execA call lf nt f ro b ⟨tm, h⟩) (execA call lf nt f ro a ⟨tm, h⟩) b') v
    rw [iha, ihb]
  | block id a iha =>
    intro tm h
    exact ob_of (iha tm h) fun r => rfl
  | loop a iha =>
    intro tm h
    exact loopNF_eq _ _ iha lf tm h
  | rangeF g ps assign body =>
    intro tm h
    exact ob_congr fun fv => runRangeF_eq ..
  | exit id => intro tm h; rfl
  | ret => intro tm h; rfl
  | scope a iha =>
    intro tm h
    exact ob_of (iha tm h) fun r => rfl
  | bad => intro tm h; rfl

/-! ### Calls -/
def leaveF (P : Program) (keep : Keeps) (lf : Nat) (rec : CallFn) (nt : Nat) (tm : Tr AV) (h : Heap) : Option Heap :=
  Option.rec (motive := fun _ => Option Heap) (some h) (fun v => eTuple (fun ds => runDs P keep lf rec ds h) v) (tm.gt nt)
def endFF (P : Program) (keep : Keeps) (lf : Nat) (rec : CallFn) (nt : Nat) (res : List ResultVar) (e : Ex) (tm : Tr AV) (h : Heap) : Res :=
  let out : Res := ob (leaveF P keep lf rec nt tm h) fun h => hk h fun h => ob (resA P res ⟨tm, h⟩) fun vs => some (tupled vs, h)
  Ex.rec (motive := fun _ => Res) out out (fun _ => none) (fun _ => none) e
theorem endFF_eq (P : Program) (keep : Keeps) (lf : Nat) (rec : CallFn) (nt : Nat) (res : List ResultVar) (r : Ex × St) :
    (pk r fun e s => sk s fun tm h => endFF P keep lf rec nt res e tm h) = endFn P keep lf rec nt res r := by
  obtain ⟨e, tm, h⟩ := r
  cases h
  rfl
def callFF (P : Program) (keep : Keeps) (prims : Prims) (lf : Nat) (rec : CallFn) (f : FuncId) (args : List AV) (h : Heap) : Res :=
  Option.rec (motive := fun _ => Res)
    (ob (fnA P keep f) fun k => iff' (Nat.ble (len' args) k.nt) (ob (execF rec lf k.nt f none k.code (fillC args .leaf 0) h) fun r => pk r fun e s => sk s fun tm h => endFF P keep lf rec k.nt k.res e tm h))
    (fun r => r) (prims.fn f args h)
theorem callFF_eq (P : Program) (keep : Keeps) (prims : Prims) (lf : Nat) (rec : CallFn) : callFF P keep prims lf rec = callF P keep prims lf rec := by
  funext f args h
  show Option.rec (motive := fun _ => Res) _ _ _ = Option.rec (motive := fun _ => Res) _ _ _
  congr 1
  refine ob_congr fun k => ?_
  refine congrArg (iff' _) (ob_of (execF_eq ..) fun r => endFF_eq ..)
def lk (l : LRec) (k : LRec → Res) : Res := LRec.rec (motive := fun _ => Res) (fun a b c d e f g => k (LRec.mk a b c d e f g)) l
def callLF (P : Program) (keep : Keeps) (lf : Nat) (rec : CallFn) (l : Nat) (args : List AV) (h : Heap) : Res :=
  h.theLoop l fun b => lk b fun b => ob (setPs (ntOf P b.fn) b.params args b.tm) fun tm =>
    iff' (and' (notB (keep b.fn (ntOf P b.fn))) (noOff b.tm (ntOf P b.fn))) (ob (execF rec lf (ntOf P b.fn) b.fn (some l) (compC P (keep b.fn) (ntOf P b.fn) b.assign) tm h) fun r => pk r fun e s =>
      Ex.rec (motive := fun _ => Res) (sk s fun tm h =>
      h.theLoop l fun b' => lk b' fun b' => match b'.st with
        | .ready => ob (execF rec lf (ntOf P b.fn) b.fn (some l) (compC P (keep b.fn) (ntOf P b.fn) b.body) tm (h.put l (.loop { b' with st := .busy }))) fun r => pk r fun e s => sk s fun tm h => endRound l (e, ⟨tm, h⟩)
        | _ => none) none (fun _ => none) (fun _ => none) e)
theorem lk_eq (l : LRec) (k : LRec → Res) : lk l k = k l := by cases l; rfl
theorem callLF_eq (P : Program) (keep : Keeps) (lf : Nat) (rec : CallFn) : callLF P keep lf rec = callL P keep lf rec := by
  funext l args h
  unfold callLF callL
  congr 1
  funext b
  rw [lk_eq]
  refine ob_congr fun tm => ?_
  refine congrArg (iff' _) (ob_of (execF_eq ..) fun r => ?_)
  obtain ⟨e, tm, h⟩ := r
  cases e with
  | normal =>
    rw [pk_eq]
    dsimp only
    rw [sk_eq]
    refine congrArg (Heap.theLoop h l) ?_
    funext b'
    rw [lk_eq]
    cases b'.st with
    | ready =>
      refine ob_of (execF_eq ..) fun r => ?_
      obtain ⟨e, tm, h⟩ := r
      cases h
      rfl
    | _ => rfl
  | _ => rfl

/-- the machine, quicker -/
def callNF (P : Program) (keep : Keeps) (prims : Prims) (lf n : Nat) : CallFn :=
  Nat.rec (motive := fun _ => CallFn) (fun _ _ _ => none)
    (fun _ ih t args h => Tgt.rec (motive := fun _ => Res) (fun f => callFF P keep prims lf ih f args h) (fun l => callLF P keep lf ih l args h) t) n
theorem callNF_eq (P : Program) (keep : Keeps) (prims : Prims) (lf n : Nat) : callNF P keep prims lf n = callN P keep prims lf n := by
  induction n with
  | zero => rfl
  | succ n ih =>
    funext t args h
    cases t with
    | fn f =>
      show callFF P keep prims lf (callNF P keep prims lf n) f args h = callF P keep prims lf (callN P keep prims lf n) f args h
      rw [callFF_eq, ih]
    | loop l =>
      show callLF P keep lf (callNF P keep prims lf n) l args h = callL P keep lf (callN P keep prims lf n) l args h
      rw [callLF_eq, ih]
end
end Go.Am

/-
  AM, 45: a run on a part of the memory; runs told before, as answers.
-/
namespace Go.Am
section
variable {P : Program} {keep : Keeps} {ρ ρ' : Pls} {g h h' : Heap} {w w' : World}

/-- a part of a memory: some of its blocks, under the same numbers -/
def Heap.le (g h : Heap) : Prop := (∀ b x, g.bs.gt b = some x → h.bs.gt b = some x) ∧ g.next = h.next

theorem HR.sub (hl : g.le h) (hr : HR P keep ρ h w) : HR P keep ρ g w :=
  ⟨fun b p hp => by rw [hl.2]; exact hr.dom b p hp, fun b x hx => by rw [hl.2]; exact hr.has b x (hl.1 b x hx), fun b x hx => hr.blk b x (hl.1 b x hx),
   fun b b' x x' p p' h1 h2 => hr.inj b b' x x' p p' (hl.1 _ _ h1) (hl.1 _ _ h2)⟩
theorem Own.sub (hl : g.le h) {k : Nat} : Own ρ g k → Own ρ h k := fun ⟨b, x, p, h1, h2⟩ => ⟨b, x, p, hl.1 _ _ h1, h2⟩

theorem OwnW.sub (hl : g.le h) {k : Nat} : OwnW ρ g k → OwnW ρ h k := fun ⟨b, x, p, h1, h2⟩ => ⟨b, x, p, hl.1 _ _ h1, h2⟩

/-- run on a part; what is not wanted is let go -/
theorem Post.sub {g2 h2 : Heap} (hl : g.le h) (hp : Post P keep ρ g w ρ' h2 w') (hl2 : g2.le h2) : Post P keep ρ h w ρ' g2 w' :=
  ⟨hp.le, hp.hr.sub hl2, ⟨hp.fr.os, hp.fr.output, hp.fr.size, fun k hk ho => hp.fr.sameW k hk fun h => ho (h.sub hl)⟩,
   fun k hk ho => (hp.own k hk (ho.sub hl2)).sub hl, by rw [hl2.2, ← hl.2]; exact hp.next, fun b p hb hlt => hp.new b p hb (by rw [hl.2]; exact hlt),
   fun k hk ho => (hp.ownW k hk (ho.sub hl2)).sub hl⟩
theorem Ret.sub {g2 h2 : Heap} {v : AV} {e : Ending} (hl : g.le h) (hl2 : g2.le h2) (hr : Ret P keep ρ g w (v, h2) e w') : Ret P keep ρ h w (v, g2) e w' := by
  cases e with
  | returned u => obtain ⟨σ, hv, hp⟩ := hr; exact ⟨σ, hv, hp.sub hl hl2⟩
  | _ => exact hr.elim
end

noncomputable section
/-! ### Looked at -/
def optSub {α : Type} (f : α → α → Bool) (v w : Option α) : Bool := Option.rec (motive := fun _ => Bool) true (fun x => Option.rec (motive := fun _ => Bool) false (fun y => f x y) w) v
def Tr.sub {α : Type} (f : α → α → Bool) (t : Tr α) : Tr α → Bool :=
  Tr.rec (motive := fun _ => Tr α → Bool) (fun _ => true)
    (fun _ v _ sl sr s => Tr.rec (motive := fun _ => Bool) false (fun l' v' r' _ _ => and' (optSub f v v') (and' (sl l') (sr r'))) s) t
theorem Tr.sub_ok {α : Type} {f : α → α → Bool} : ∀ (t s : Tr α), Tr.sub f t s = true → ∀ n x, t.gt n = some x → ∃ y, s.gt n = some y ∧ f x y = true := by
  intro t
  induction t with
  | leaf => intro s _ n x hx; cases hx
  | node l v r ihl ihr =>
    intro s hs n x hx
    cases s with
    | leaf => cases hs
    | node l' v' r' =>
      have hs : and' (optSub f v v') (and' (Tr.sub f l l') (Tr.sub f r r')) = true := hs
      simp only [and'_eq, Bool.and_eq_true] at hs
      obtain ⟨h1, h2, h3⟩ := hs
      cases n with
      | zero =>
        rw [Tr.gt_zero] at hx ⊢
        subst hx
        cases v' with
        | none => cases h1
        | some y => exact ⟨y, rfl, h1⟩
      | succ m =>
        rw [Tr.gt_succ] at hx ⊢
        split at hx
        · rename_i hm; rw [if_pos hm]; exact ihl _ h2 _ _ hx
        · rename_i hm; rw [if_neg hm]; exact ihr _ h3 _ _ hx

def optSame {α : Type} (f : α → α → Bool) (v w : Option α) : Bool :=
  Option.rec (motive := fun _ => Bool) (Option.rec (motive := fun _ => Bool) true (fun _ => false) w) (fun x => Option.rec (motive := fun _ => Bool) false (fun y => f x y) w) v
def Tr.same {α : Type} (f : α → α → Bool) (t : Tr α) : Tr α → Bool :=
  Tr.rec (motive := fun _ => Tr α → Bool) (fun s => Tr.rec (motive := fun _ => Bool) true (fun _ _ _ _ _ => false) s)
    (fun _ v _ sl sr s => Tr.rec (motive := fun _ => Bool) false (fun l' v' r' _ _ => and' (optSame f v v') (and' (sl l') (sr r'))) s) t
theorem Tr.same_ok {α : Type} {f : α → α → Bool} (hf : ∀ x y, f x y = true → x = y) : ∀ (t s : Tr α), Tr.same f t s = true → t = s := by
  intro t
  induction t with
  | leaf => intro s hs; cases s with | leaf => rfl | node => cases hs
  | node l v r ihl ihr =>
    intro s hs
    cases s with
    | leaf => cases hs
    | node l' v' r' =>
      have hs : and' (optSame f v v') (and' (Tr.same f l l') (Tr.same f r r')) = true := hs
      simp only [and'_eq, Bool.and_eq_true] at hs
      obtain ⟨h1, h2, h3⟩ := hs
      obtain rfl := ihl _ h2
      obtain rfl := ihr _ h3
      cases v with
      | none => cases v' with | none => rfl | some y => cases h1
      | some x => cases v' with | none => cases h1 | some y => rw [hf x y h1]

def entSame (a b : MEnt) : Bool := and' (AV.same a.key b.key) (and' (AV.same a.val b.val) (Nat.beq a.born b.born))
def entsSame (l : List MEnt) : List MEnt → Bool :=
  List.rec (motive := fun _ => List MEnt → Bool) (fun m => List.rec (motive := fun _ => Bool) true (fun _ _ _ => false) m)
    (fun a _ ih m => List.rec (motive := fun _ => Bool) false (fun b m' _ => and' (entSame a b) (ih m')) m) l
theorem entsSame_ok : ∀ (l m : List MEnt), entsSame l m = true → l = m
  | [], [], _ => rfl
  | [], _ :: _, h => by cases h
  | _ :: _, [], h => by cases h
  | a :: l, b :: m, h => by
    have h : and' (and' (AV.same a.key b.key) (and' (AV.same a.val b.val) (Nat.beq a.born b.born))) (entsSame l m) = true := h
    simp only [and'_eq, Bool.and_eq_true] at h
    obtain ⟨⟨h1, h2, h3⟩, h4⟩ := h
    have e1 := same_eq _ _ h1
    have e2 := same_eq _ _ h2
    have e3 := Nat.eq_of_beq_eq_true h3
    obtain ⟨k, v, n⟩ := a
    obtain ⟨k', v', n'⟩ := b
    cases e1; cases e2; cases e3
    rw [entsSame_ok l m h4]

def Blk.same (x y : Blk) : Bool :=
  Blk.rec (motive := fun _ => Bool)
    (fun t z n ro => Blk.rec (motive := fun _ => Bool) (fun t' z' n' ro' => and' (Tr.same AV.same t t') (and' (AV.sames z z') (and' (Nat.beq n n') (eqB ro ro')))) false (fun _ _ => false) (fun _ _ => false) (fun _ => false) y)
    (Blk.rec (motive := fun _ => Bool) (fun _ _ _ _ => false) true (fun _ _ => false) (fun _ _ => false) (fun _ => false) y)
    (fun es c => Blk.rec (motive := fun _ => Bool) (fun _ _ _ _ => false) false (fun es' c' => and' (entsSame es es') (Nat.beq c c')) (fun _ _ => false) (fun _ => false) y)
    (fun _ _ => false) (fun _ => false) x
theorem Blk.same_ok (x y : Blk) (h : Blk.same x y = true) : x = y := by
  cases x with
  | cells t z n ro =>
    cases y with
    | cells t' z' n' ro' =>
      have h : and' (Tr.same AV.same t t') (and' (AV.sames z z') (and' (Nat.beq n n') (eqB ro ro'))) = true := h
      simp only [and'_eq, Bool.and_eq_true] at h
      obtain ⟨h1, h2, h3, h4⟩ := h
      obtain rfl := Tr.same_ok same_eq _ _ h1
      obtain rfl := sames_eq _ _ h2
      obtain rfl := Nat.eq_of_beq_eq_true h3
      cases ro <;> cases ro' <;> first | rfl | cases h4
    | _ => cases h
  | dead => cases y with | dead => rfl | _ => cases h
  | map es c =>
    cases y with
    | map es' c' =>
      have h : and' (entsSame es es') (Nat.beq c c') = true := h
      simp only [and'_eq, Bool.and_eq_true] at h
      obtain rfl := entsSame_ok _ _ h.1
      obtain rfl := Nat.eq_of_beq_eq_true h.2
      rfl
    | _ => cases h
  | _ => cases h
/-- is g a part of h? -/
def partB (g h : Heap) : Bool := and' (Nat.beq g.next h.next) (Tr.sub Blk.same g.bs h.bs)
theorem partB_ok {g h : Heap} (hp : partB g h = true) : g.le h := by
  unfold partB at hp
  simp only [and'_eq, Bool.and_eq_true] at hp
  refine ⟨fun b x hx => ?_, Nat.eq_of_beq_eq_true hp.1⟩
  obtain ⟨y, hy, e⟩ := Tr.sub_ok _ _ hp.2 b x hx
  rw [hy, Blk.same_ok _ _ e]

/-! ### A run that was told before -/
/-- is this what is answered? of the memory, a part -/
def answers (r : Res) (v : AV) (g : Heap) : Bool := Option.rec (motive := fun _ => Bool) false (fun r => and' (AV.same v r.1) (partB g r.2)) r
theorem answers_ok {r : Res} {v : AV} {g : Heap} (h : answers r v g = true) : ∃ h2, r = some (v, h2) ∧ g.le h2 := by
  cases r with
  | none => cases h
  | some r =>
    have h : and' (AV.same v r.1) (partB g r.2) = true := h
    simp only [and'_eq, Bool.and_eq_true] at h
    exact ⟨r.2, by rw [same_eq _ _ h.1], partB_ok h.2⟩
def snapP (f : FuncId) (args : List AV) (h : Heap) (v : AV) (g : Heap) : Prims :=
  ⟨fun f' args' h' => Bool.rec (motive := fun _ => Option Res) none (Bool.rec (motive := fun _ => Option Res) none (Bool.rec (motive := fun _ => Option Res) none (some (some (v, g))) (partB h h')) (AV.sames args args')) (and' (Nat.beq f f') (Nat.beq h.next h'.next))⟩
theorem snapP_ok {P : Program} {keep : Keeps} {prims : Prims} {lf n : Nat} (hm : P.follows .mixedOrders = true) (hn : NamesOk P) (hpr : PrimsOk P keep prims) {f : FuncId} {args : List AV} {h : Heap} {v : AV} {g : Heap}
    (hr : answers (callNF P keep prims lf n (.fn f) args h) v g = true) : PrimsOk P keep (snapP f args h v g) := by
  intro f' args' h' r hr' ρ w avs hh hv
  replace hr' : (Bool.rec (motive := fun _ => Option Res) none (Bool.rec (motive := fun _ => Option Res) none (Bool.rec (motive := fun _ => Option Res) none (some (some (v, g))) (partB h h')) (AV.sames args args')) (and' (Nat.beq f f') (Nat.beq h.next h'.next)) : Option Res) = some (some r) := hr'
  cases h1 : and' (Nat.beq f f') (Nat.beq h.next h'.next) with
  | false => rw [h1] at hr'; cases hr'
  | true =>
    rw [h1] at hr'
    cases h2 : AV.sames args args' with
    | false => rw [h2] at hr'; cases hr'
    | true =>
      rw [h2] at hr'
      cases h3 : partB h h' with
      | false => rw [h3] at hr'; cases hr'
      | true =>
        rw [h3] at hr'
        obtain rfl : (v, g) = r := Option.some.inj (Option.some.inj hr')
        simp only [and'_eq, Bool.and_eq_true] at h1
        obtain rfl := Nat.eq_of_beq_eq_true h1.1
        obtain rfl := sames_eq _ _ h2
        have hl := partB_ok h3
        obtain ⟨q, hq, hl2⟩ := answers_ok hr
        rw [callNF_eq] at hq
        obtain ⟨hb, hc⟩ := callN_sound (lf := lf) hm hn hpr n (.fn f) args h _ hq ρ w avs (hh.sub hl) hv
        exact ⟨hb, CallsIn.mono (F := fen none) hc fun e w' hR => hR.sub hl hl2⟩
end
end Go.Am

/-
  AM, 52: runs told before: within any greater memory (all else stays), and such that name no memory at all.
-/
namespace Go.Am
noncomputable section

/-! ### What names no block -/
mutual
def AV.flat : AV → Bool
  | .bool _ | .int _ _ | .str _ | .ptr none | .slice none _ _ _ | .map none | .nilFunc | .nilIface | .func (.func _) [] [] => true
  | .iface _ x => AV.flat x
  | .agg cs => AV.flats cs
  | .tuple cs => AV.flats cs
  | _ => false
def AV.flats : List AV → Bool
  | [] => true
  | x :: xs => AV.flat x && AV.flats xs
end
mutual
theorem VR.flat {ρ σ : Pls} : ∀ (x : AV) (v : Value), AV.flat x = true → VR ρ x v → VR σ x v
  | .bool _, _, _, hv => hv
  | .int _ _, _, _, hv => hv
  | .str _, _, _, hv => hv
  | .ptr none, _, _, hv => hv
  | .ptr (some (_, _)), _, hf, _ => by simp [AV.flat] at hf
  | .slice none _ _ _, _, _, hv => hv
  | .slice (some (_, _)) _ _ _, _, hf, _ => by simp [AV.flat] at hf
  | .map none, _, _, hv => hv
  | .map (some _), _, hf, _ => by simp [AV.flat] at hf
  | .func fn a b, _, hf, hv => by
    cases fn with
    | func f =>
      cases a with
      | nil =>
        cases b with
        | nil => exact hv
        | cons => simp [AV.flat] at hf
      | cons => simp [AV.flat] at hf
    | _ => simp [AV.flat] at hf
  | .nilFunc, _, _, hv => hv
  | .iface _ x, _, hf, hv => by
    obtain ⟨y, e, hy⟩ := hv
    exact ⟨y, e, VR.flat x y (by simpa [AV.flat] using hf) hy⟩
  | .nilIface, _, _, hv => hv
  | .agg cs, _, hf, hv => by
    obtain ⟨cs', e, hc⟩ := hv
    exact ⟨cs', e, VRs.flat cs _ (by simpa [AV.flat] using hf) hc⟩
  | .tuple cs, _, hf, hv => by
    obtain ⟨cs', e, hc⟩ := hv
    exact ⟨cs', e, VRs.flat cs _ (by simpa [AV.flat] using hf) hc⟩
theorem VRs.flat {ρ σ : Pls} : ∀ (x : List AV) (v : List Value), AV.flats x = true → VRs ρ x v → VRs σ x v
  | [], _, _, hv => hv
  | x :: xs, _, hf, hv => by
    obtain ⟨v, vs, e, h1, h2⟩ := hv
    have hf' : AV.flat x = true ∧ AV.flats xs = true := by simpa [AV.flats] using hf
    exact ⟨v, vs, e, VR.flat x v hf'.1 h1, VRs.flat xs vs hf'.2 h2⟩
end

/-- does it answer this, from nothing? -/
def says (r : Res) (v : AV) : Bool := Option.rec (motive := fun _ => Bool) false (fun r => AV.same v r.1) r
theorem says_ok {r : Res} {v : AV} (h : says r v = true) : ∃ q, r = some (v, q) := by
  cases r with
  | none => cases h
  | some r =>
    have h : AV.same v r.1 = true := h
    exact ⟨r.2, by rw [same_eq _ _ h]⟩

/-- a run told before that names no memory: it may stand anywhere, any number of times -/
def pureP (f : FuncId) (args : List AV) (v : AV) : Prims :=
  ⟨fun f' args' h' => Bool.rec (motive := fun _ => Option Res) none (Bool.rec (motive := fun _ => Option Res) none (some (some (v, h'))) (AV.sames args args')) (Nat.beq f f')⟩
theorem pureP_ok {P : Program} {keep : Keeps} {prims : Prims} {lf n : Nat} (hm : P.follows .mixedOrders = true) (hn : NamesOk P) (hpr : PrimsOk P keep prims) {f : FuncId} {args : List AV} {v : AV}
    (hfl : AV.flats (v :: args) = true) (hr : says (callNF P keep prims lf n (.fn f) args ⟨.leaf, 0⟩) v = true) : PrimsOk P keep (pureP f args v) := by
  intro f' args' h' r hr' ρ w avs hh hv
  replace hr' : (Bool.rec (motive := fun _ => Option Res) none (Bool.rec (motive := fun _ => Option Res) none (some (some (v, h'))) (AV.sames args args')) (Nat.beq f f') : Option Res) = some (some r) := hr'
  have hfl' : AV.flat v = true ∧ AV.flats args = true := by simpa [AV.flats] using hfl
  cases h1 : Nat.beq f f' with
  | false => rw [h1] at hr'; cases hr'
  | true =>
    rw [h1] at hr'
    cases h2 : AV.sames args args' with
    | false => rw [h2] at hr'; cases hr'
    | true =>
      rw [h2] at hr'
      obtain rfl : (v, h') = r := Option.some.inj (Option.some.inj hr')
      obtain rfl := Nat.eq_of_beq_eq_true h1
      obtain rfl := sames_eq _ _ h2
      obtain ⟨q, hq⟩ := says_ok hr
      rw [callNF_eq] at hq
      obtain ⟨hb, hc⟩ := callN_sound (lf := lf) hm hn hpr n (.fn f) args ⟨.leaf, 0⟩ _ hq (fun _ => none) w avs (empty_HR w) (VRs.flat _ _ hfl'.2 hv)
      refine ⟨hb, CallsIn.mono (F := fen none) hc fun e w' hR => ?_⟩
      cases e with
      | returned u =>
        obtain ⟨σ, hv', hp⟩ := hR
        have hno : ∀ k, k < w.heap.size → w'.heap[k]? = w.heap[k]? := fun k hk => hp.fr.same k hk (by rintro ⟨_, _, _, hx, _⟩; cases hx)
        refine ⟨ρ, VR.flat _ _ hfl'.1 hv', Pls.le_refl _, hh.frame fun b x p hx hd hpl => ?_, ⟨hp.fr.os, hp.fr.output, hp.fr.size, fun k hk _ => hno k hk⟩, fun _ _ h => h, Nat.le_refl _, fun _ _ h _ => h, fun _ _ h => h⟩
        obtain ⟨p', hp', hlt⟩ := (hh.blk b x hx).place hd
        rw [hpl] at hp'; cases hp'
        exact hno _ hlt
      | _ => exact hR.elim

/-! ### Within a greater memory -/
def optOr {α : Type} (v w : Option α) : Option α := Option.rec (motive := fun _ => Option α) w (fun x => some x) v
/-- one tree over another one -/
def Tr.over {α : Type} (t : Tr α) : Tr α → Tr α :=
  Tr.rec (motive := fun _ => Tr α → Tr α) (fun s => s)
    (fun l v r sl sr s => Tr.rec (motive := fun _ => Tr α) (.node l v r) (fun l' v' r' _ _ => .node (sl l') (optOr v v') (sr r')) s) t
theorem Tr.gt_over {α : Type} : ∀ (t s : Tr α) (n : Nat), (t.over s).gt n = optOr (t.gt n) (s.gt n) := by
  intro t
  induction t with
  | leaf => intro s n; rfl
  | node l v r ihl ihr =>
    intro s n
    cases s with
    | leaf =>
      show (Tr.node l v r).gt n = optOr ((Tr.node l v r).gt n) none
      cases (Tr.node l v r).gt n <;> rfl
    | node l' v' r' =>
      show (Tr.node (l.over l') (optOr v v') (r.over r')).gt n = _
      cases n with
      | zero => rw [Tr.gt_zero, Tr.gt_zero, Tr.gt_zero]
      | succ m =>
        rw [Tr.gt_succ, Tr.gt_succ, Tr.gt_succ]
        split
        · exact ihl l' _
        · exact ihr r' _
/-- each block of the first one is in the second one, and none is read only -/
def heldB (h g : Heap) : Bool := Tr.sub (fun x _ => notB x.ro) h.bs g.bs
theorem heldB_ok {h g : Heap} (hd : heldB h g = true) : ∀ b x, h.bs.gt b = some x → (∃ y, g.bs.gt b = some y) ∧ x.ro = false := by
  intro b x hx
  obtain ⟨y, hy, e⟩ := Tr.sub_ok _ _ hd b x hx
  refine ⟨⟨y, hy⟩, ?_⟩
  cases hro : x.ro with
  | false => rfl
  | true => rw [hro] at e; cases e

theorem Post.over {P : Program} {keep : Keeps} {ρ σ : Pls} {g h h' : Heap} {w w' : World} (hl : h.le h') (hr : HR P keep ρ h' w) (hd : ∀ b x, h.bs.gt b = some x → (∃ y, g.bs.gt b = some y) ∧ x.ro = false)
    (hp : Post P keep ρ h w σ g w') : Post P keep ρ h' w σ ⟨g.bs.over h'.bs, g.next⟩ w' := by
  have free : ∀ b x p, h'.bs.gt b = some x → g.bs.gt b = none → x.dead? = false → ρ b = some p → ¬ Own ρ h p.blk := by
    rintro b x p hx hg hdead hpb ⟨b2, x2, p2, h1, h2, h3, h4⟩
    obtain ⟨⟨y, hy⟩, hro⟩ := hd b2 x2 h1
    have hne : b2 ≠ b := by rintro rfl; rw [hg] at hy; cases hy
    exact hr.inj b2 b x2 x p2 p (hl.1 _ _ h1) hx h2 hdead (Or.inl hro) h3 hpb hne h4
  have get : ∀ b x, (g.bs.over h'.bs).gt b = some x → g.bs.gt b = some x ∨ (g.bs.gt b = none ∧ h'.bs.gt b = some x) := by
    intro b x hx
    rw [Tr.gt_over] at hx
    cases hg : g.bs.gt b with
    | none => rw [hg] at hx; exact Or.inr ⟨rfl, hx⟩
    | some y => rw [hg] at hx; exact Or.inl hx
  have old : ∀ b x p, h'.bs.gt b = some x → x.dead? = false → σ b = some p → ρ b = some p ∧ p.blk < w.heap.size := by
    intro b x p hx hdead hpb
    obtain ⟨p', hp', hlt⟩ := (hr.blk b x hx).place hdead
    have := hp.le _ _ hp'
    rw [hpb] at this; cases this
    exact ⟨hp', hlt⟩
  refine ⟨hp.le, ⟨hp.hr.dom, fun b x hx => ?_, fun b x hx => ?_, fun b b' x x' p p' hx hx' hdx hdx' hro hpb hpb' hne he => ?_⟩,
    ⟨hp.fr.os, hp.fr.output, hp.fr.size, fun k hk ho => hp.fr.sameW k hk fun h => ho (h.sub hl)⟩, fun k hk ho => ?_, ?_, fun b p hb hlt => hp.new b p hb (by rw [hl.2]; exact hlt), fun k hk ho => ?_⟩
  · rcases get b x hx with hg | ⟨_, hg⟩
    · exact hp.hr.has b x hg
    · exact Nat.lt_of_lt_of_le (hr.has b x hg) (by rw [← hl.2]; exact hp.next)
  · rcases get b x hx with hg | ⟨hn, hg⟩
    · exact hp.hr.blk b x hg
    · refine ((hr.blk b x hg).mono hp.le).frame fun p hdead hpb => ?_
      obtain ⟨hpo, hlt⟩ := old b x p hg hdead hpb
      exact hp.fr.same _ hlt (free b x p hg hn hdead hpo)
  · rcases get b x hx with hg | ⟨hn, hg⟩
    · rcases get b' x' hx' with hg' | ⟨hn', hg'⟩
      · exact hp.hr.inj b b' x x' p p' hg hg' hdx hdx' hro hpb hpb' hne he
      · obtain ⟨hpo, hlt⟩ := old b' x' p' hg' hdx' hpb'
        exact free b' x' p' hg' hn' hdx' hpo (hp.own _ hlt ⟨b, x, p, hg, hdx, hpb, he⟩)
    · obtain ⟨hpo, hlt⟩ := old b x p hg hdx hpb
      rcases get b' x' hx' with hg' | ⟨hn', hg'⟩
      · exact free b x p hg hn hdx hpo (hp.own _ hlt ⟨b', x', p', hg', hdx', hpb', he.symm⟩)
      · obtain ⟨hpo', _⟩ := old b' x' p' hg' hdx' hpb'
        exact hr.inj b b' x x' p p' hg hg' hdx hdx' hro hpo hpo' hne he
  · obtain ⟨b, x, p, hx, hdx, hpb, he⟩ := ho
    rcases get b x hx with hg | ⟨hn, hg⟩
    · exact (hp.own k hk ⟨b, x, p, hg, hdx, hpb, he⟩).sub hl
    · exact ⟨b, x, p, hg, hdx, (old b x p hg hdx hpb).1, he⟩
  · rw [← hl.2]; exact hp.next
  · obtain ⟨b, x, p, hx, hdx, hpb, he⟩ := ho
    rcases get b x hx with hg | ⟨hn, hg⟩
    · exact (hp.ownW k hk ⟨b, x, p, hg, hdx, hpb, he⟩).sub hl
    · exact ⟨b, x, p, hg, hdx, (old b x p hg (dead_of_fixed hdx) hpb).1, he⟩

/-- a run told before, within any greater memory: all else stays -/
def snapF (f : FuncId) (args : List AV) (h : Heap) (v : AV) (g : Heap) : Prims :=
  ⟨fun f' args' h' => Bool.rec (motive := fun _ => Option Res) none (Bool.rec (motive := fun _ => Option Res) none (Bool.rec (motive := fun _ => Option Res) none (some (some (v, ⟨g.bs.over h'.bs, g.next⟩))) (partB h h')) (AV.sames args args')) (and' (Nat.beq f f') (Nat.beq h.next h'.next))⟩
theorem snapF_ok {P : Program} {keep : Keeps} {prims : Prims} {lf n : Nat} (hm : P.follows .mixedOrders = true) (hn : NamesOk P) (hpr : PrimsOk P keep prims) {f : FuncId} {args : List AV} {h : Heap} {v : AV} {g : Heap}
    (hd : heldB h g = true) (hr : answers (callNF P keep prims lf n (.fn f) args h) v g = true) : PrimsOk P keep (snapF f args h v g) := by
  intro f' args' h' r hr' ρ w avs hh hv
  replace hr' : (Bool.rec (motive := fun _ => Option Res) none (Bool.rec (motive := fun _ => Option Res) none (Bool.rec (motive := fun _ => Option Res) none (some (some (v, ⟨g.bs.over h'.bs, g.next⟩))) (partB h h')) (AV.sames args args')) (and' (Nat.beq f f') (Nat.beq h.next h'.next)) : Option Res) = some (some r) := hr'
  cases h1 : and' (Nat.beq f f') (Nat.beq h.next h'.next) with
  | false => rw [h1] at hr'; cases hr'
  | true =>
    rw [h1] at hr'
    cases h2 : AV.sames args args' with
    | false => rw [h2] at hr'; cases hr'
    | true =>
      rw [h2] at hr'
      cases h3 : partB h h' with
      | false => rw [h3] at hr'; cases hr'
      | true =>
        rw [h3] at hr'
        obtain rfl : (v, (⟨g.bs.over h'.bs, g.next⟩ : Heap)) = r := Option.some.inj (Option.some.inj hr')
        simp only [and'_eq, Bool.and_eq_true] at h1
        obtain rfl := Nat.eq_of_beq_eq_true h1.1
        obtain rfl := sames_eq _ _ h2
        have hl := partB_ok h3
        obtain ⟨q, hq, hl2⟩ := answers_ok hr
        rw [callNF_eq] at hq
        obtain ⟨hb, hc⟩ := callN_sound (lf := lf) hm hn hpr n (.fn f) args h _ hq ρ w avs (hh.sub hl) hv
        refine ⟨hb, CallsIn.mono (F := fen none) hc fun e w' hR => ?_⟩
        cases e with
        | returned u =>
          obtain ⟨σ, hv', hp⟩ := hR
          exact ⟨σ, hv', (hp.sub ⟨fun _ _ h => h, rfl⟩ hl2).over hl hh (heldB_ok hd)⟩
        | _ => exact hR.elim
end
end Go.Am

/-
  AM, 60: running code by rules: what is to come lies on a stack. No program is named here.
-/
namespace Go.Am
noncomputable section

/-- what waits for a part of the code to end -/
inductive Wt where
  | seq (b : AC)
  | blk (id : Nat)
  | sco

abbrev XQ := Ex → Tr AV → Heap → Prop

def retK (X : AC → St → XR) (Q : XQ) : List Wt → Ex → Tr AV → Heap → Prop
  | [], e, tm, h => Q e tm h
  | .seq b :: k, .normal, tm, h => match X b ⟨tm, h⟩ with
    | some (e, s) => retK X Q k e s.tm s.hp
    | none => False
  | .seq _ :: k, e, tm, h => retK X Q k e tm h
  | .blk id :: k, .exit j, tm, h => if j = id then retK X Q k .normal tm h else retK X Q k (.exit j) tm h
  | .blk _ :: k, e, tm, h => retK X Q k e tm h
  | .sco :: _, .goto _, _, _ => False
  | .sco :: k, e, tm, h => retK X Q k e tm h

section
variable (call : CallFn) (lf nt : Nat) (f : FuncId) (ro : Option Nat)

/-- the code answers, and so does what waits for it -/
def run (c : AC) (k : List Wt) (tm : Tr AV) (h : Heap) (Q : XQ) : Prop :=
  match execA call lf nt f ro c ⟨tm, h⟩ with
  | some (e, s) => retK (execA call lf nt f ro) Q k e s.tm s.hp
  | none => False
/-- a part has ended so -/
def ret (e : Ex) (k : List Wt) (tm : Tr AV) (h : Heap) (Q : XQ) : Prop := retK (execA call lf nt f ro) Q k e tm h

variable {call lf nt f ro} {k : List Wt} {tm : Tr AV} {h : Heap} {Q : XQ}

theorem ret_nil {e : Ex} : ret call lf nt f ro e [] tm h Q = Q e tm h := rfl
theorem ret_seq {b : AC} : ret call lf nt f ro .normal (.seq b :: k) tm h Q = run call lf nt f ro b k tm h Q := rfl
theorem ret_seq_ret {b : AC} : ret call lf nt f ro .ret (.seq b :: k) tm h Q = ret call lf nt f ro .ret k tm h Q := rfl
theorem ret_seq_exit {b : AC} {j : Nat} : ret call lf nt f ro (.exit j) (.seq b :: k) tm h Q = ret call lf nt f ro (.exit j) k tm h Q := rfl
theorem ret_blk {id : Nat} : ret call lf nt f ro .normal (.blk id :: k) tm h Q = ret call lf nt f ro .normal k tm h Q := rfl
theorem ret_blk_ret {id : Nat} : ret call lf nt f ro .ret (.blk id :: k) tm h Q = ret call lf nt f ro .ret k tm h Q := rfl
theorem ret_blk_exit {id j : Nat} : ret call lf nt f ro (.exit j) (.blk id :: k) tm h Q = if j = id then ret call lf nt f ro .normal k tm h Q else ret call lf nt f ro (.exit j) k tm h Q := rfl
theorem ret_sco {e : Ex} (he : ∀ j, e ≠ .goto j) : ret call lf nt f ro e (.sco :: k) tm h Q = ret call lf nt f ro e k tm h Q := by
  cases e <;> first | rfl | exact absurd rfl (he _)

theorem run_skip : run call lf nt f ro .skip k tm h Q = ret call lf nt f ro .normal k tm h Q := rfl
theorem run_exit {id : Nat} : run call lf nt f ro (.exit id) k tm h Q = ret call lf nt f ro (.exit id) k tm h Q := rfl
theorem run_ret : run call lf nt f ro .ret k tm h Q = ret call lf nt f ro .ret k tm h Q := rfl
theorem run_seq {a b : AC} : run call lf nt f ro (.seq a b) k tm h Q = run call lf nt f ro a (.seq b :: k) tm h Q := by
  unfold run
  show (match ob (execA call lf nt f ro a ⟨tm, h⟩) (fun r => thenX r (execA call lf nt f ro b)) with | some (e, s) => _ | none => False) = _
  cases execA call lf nt f ro a ⟨tm, h⟩ with
  | none => rfl
  | some r => obtain ⟨e, s⟩ := r; cases e <;> rfl
theorem run_block {id : Nat} {a : AC} : run call lf nt f ro (.block id a) k tm h Q = run call lf nt f ro a (.blk id :: k) tm h Q := by
  unfold run
  show (match ob (execA call lf nt f ro a ⟨tm, h⟩) (fun r => inBlk id r) with | some (e, s) => _ | none => False) = _
  cases execA call lf nt f ro a ⟨tm, h⟩ with
  | none => rfl
  | some r =>
    obtain ⟨e, s⟩ := r
    cases e with
    | exit j =>
      show (match (Bool.rec (motive := fun _ => XR) (some (.exit j, s)) (some (.normal, s)) (Nat.beq j id) : XR) with | some (e, s) => _ | none => False) = (if j = id then _ else _)
      rw [bool_rec_beq]
      by_cases e : j = id
      · rw [if_pos e, if_pos e]
      · rw [if_neg e, if_neg e]
    | _ => rfl
theorem run_scope {a : AC} : run call lf nt f ro (.scope a) k tm h Q = run call lf nt f ro a (.sco :: k) tm h Q := by
  unfold run
  show (match ob (execA call lf nt f ro a ⟨tm, h⟩) (fun r => Ex.rec (motive := fun _ => XR) (some r) (some r) (fun _ => some r) (fun _ => none) r.1) with | some (e, s) => _ | none => False) = _
  cases execA call lf nt f ro a ⟨tm, h⟩ with
  | none => rfl
  | some r => obtain ⟨e, s⟩ := r; cases e <;> rfl
theorem run_cond {c : Opd} {a b : AC} {t : Bool} (hc : c.get [] .leaf tm = some (.bool t)) :
    run call lf nt f ro (.cond c a b) k tm h Q = if t = true then run call lf nt f ro a k tm h Q else run call lf nt f ro b k tm h Q := by
  unfold run
  show (match ob (c.get [] .leaf tm) (fun v => eBool (fun b' => Bool.rec (motive := fun _ => XR) (execA call lf nt f ro b ⟨tm, h⟩) (execA call lf nt f ro a ⟨tm, h⟩) b') v) with | some (e, s) => _ | none => False) = _
  rw [hc]
  cases t <;> rfl
theorem run_cond' {c : Opd} {a b : AC} : run call lf nt f ro (.cond c a b) k tm h Q = match c.get [] .leaf tm with
    | some (.bool b') => (match b' with | true => run call lf nt f ro a k tm h Q | false => run call lf nt f ro b k tm h Q)
    | _ => False := by
  cases hc : c.get [] .leaf tm with
  | none =>
    unfold run
    show (match ob (c.get [] .leaf tm) (fun v => eBool (fun b' => Bool.rec (motive := fun _ => XR) (execA call lf nt f ro b ⟨tm, h⟩) (execA call lf nt f ro a ⟨tm, h⟩) b') v) with | some (e, s) => _ | none => False) = _
    rw [hc]
  | some v =>
    cases v with
    | bool t => rw [run_cond hc]; cases t <;> simp
    | _ =>
      unfold run
      show (match ob (c.get [] .leaf tm) (fun v => eBool (fun b' => Bool.rec (motive := fun _ => XR) (execA call lf nt f ro b ⟨tm, h⟩) (execA call lf nt f ro a ⟨tm, h⟩) b') v) with | some (e, s) => _ | none => False) = _
      rw [hc]
      rfl
theorem run_reg {is : List GIns} {outs : List (Nat × Opd)} : run call lf nt f ro (.reg is outs) k tm h Q =
    match runIs is tm call [] h with
    | some (loc, h') => match putOuts outs loc tm tm with
      | some tm' => ret call lf nt f ro .normal k tm' h' Q
      | none => False
    | none => False := by
  unfold run
  show (match ob (runIs is tm call [] h) (fun r => ob (putOuts outs r.1 tm tm) fun tm' => some (Ex.normal, (⟨tm', r.2⟩ : St))) with | some (e, s) => _ | none => False) = _
  cases runIs is tm call [] h with
  | none => rfl
  | some r =>
    obtain ⟨loc, h'⟩ := r
    show (match ob (putOuts outs loc tm tm) (fun tm' => some (Ex.normal, (⟨tm', h'⟩ : St))) with | some (e, s) => _ | none => False) = (match putOuts outs loc tm tm with | some tm' => _ | none => False)
    cases putOuts outs loc tm tm <;> rfl
theorem run_draw {n : Nat} {ss : List Stage} {outs : List (Nat × Nat)} : run call lf nt f ro (.draw n ss outs) k tm h Q =
    match runStages h.next tm call ss .leaf ⟨h.bs, h.next + n⟩ with
    | some (vs, h') => match putOutsD outs vs tm with
      | some tm' => ret call lf nt f ro .normal k tm' h' Q
      | none => False
    | none => False := by
  unfold run
  show (match ob (runStages h.next tm call ss .leaf ⟨h.bs, Nat.add h.next n⟩) (fun r => ob (putOutsD outs r.1 tm) fun tm' => some (Ex.normal, (⟨tm', r.2⟩ : St))) with | some (e, s) => _ | none => False) = _
  show _ = (match runStages h.next tm call ss .leaf ⟨h.bs, Nat.add h.next n⟩ with | some (vs, h') => _ | none => False)
  cases runStages h.next tm call ss .leaf ⟨h.bs, Nat.add h.next n⟩ with
  | none => rfl
  | some r =>
    obtain ⟨loc, h'⟩ := r
    show (match ob (putOutsD outs loc tm) (fun tm' => some (Ex.normal, (⟨tm', h'⟩ : St))) with | some (e, s) => _ | none => False) = (match putOutsD outs loc tm with | some tm' => _ | none => False)
    cases putOutsD outs loc tm <;> rfl

/-- A LOOP, by what holds ahead of each round, and a number that falls. -/
theorem run_loop {c : AC} (I : Nat → Tr AV → Heap → Prop) {n : Nat} (h0 : I n tm h) (hn : n < lf)
    (step : ∀ n tm h, I n tm h → ∀ Q' : XQ, (∀ tm' h' n', n' < n → I n' tm' h' → Q' .normal tm' h') → (∀ e tm' h', e ≠ .normal → ret call lf nt f ro e k tm' h' Q → Q' e tm' h') → run call lf nt f ro c [] tm h Q') :
    run call lf nt f ro (.loop c) k tm h Q := by
  have key : ∀ m n tm h, I n tm h → n < m → match loopN (execA call lf nt f ro c) m ⟨tm, h⟩ with | some (e, s) => retK (execA call lf nt f ro) Q k e s.tm s.hp | none => False := by
    intro m
    induction m with
    | zero => intro n tm h _ hn; omega
    | succ m ih =>
      intro n tm h hI hn
      have hs := step n tm h hI (fun e tm' h' => match e with | .normal => ∃ n', n' < n ∧ I n' tm' h' | e => ret call lf nt f ro e k tm' h' Q) (fun tm' h' n' h1 h2 => ⟨n', h1, h2⟩) (fun e tm' h' he hr => by cases e <;> first | exact absurd rfl he | exact hr)
      unfold run at hs
      show (match ob (execA call lf nt f ro c ⟨tm, h⟩) (fun r => Ex.rec (motive := fun _ => XR) (loopN (execA call lf nt f ro c) m r.2) (some r) (fun _ => some r) (fun _ => some r) r.1) with | some (e, s) => _ | none => False)
      cases he : execA call lf nt f ro c ⟨tm, h⟩ with
      | none => rw [he] at hs; exact hs.elim
      | some r =>
        rw [he] at hs
        obtain ⟨e, s⟩ := r
        cases e with
        | normal =>
          obtain ⟨n', h1, h2⟩ := hs
          exact ih n' s.tm s.hp h2 (by omega)
        | ret => exact hs
        | exit j => exact hs
        | goto j => exact hs
  exact key lf n tm h h0 hn
end

/-! ### Rules, in short -/
abbrev RRet (c : AC) (e : Ex) : Prop := ∀ call lf nt f ro k tm h Q, run call lf nt f ro c k tm h Q = ret call lf nt f ro e k tm h Q
abbrev RSeq (c a b : AC) : Prop := ∀ call lf nt f ro k tm h Q, run call lf nt f ro c k tm h Q = run call lf nt f ro a (.seq b :: k) tm h Q
abbrev RBlk (c : AC) (id : Nat) (a : AC) : Prop := ∀ call lf nt f ro k tm h Q, run call lf nt f ro c k tm h Q = run call lf nt f ro a (.blk id :: k) tm h Q
abbrev RSco (c a : AC) : Prop := ∀ call lf nt f ro k tm h Q, run call lf nt f ro c k tm h Q = run call lf nt f ro a (.sco :: k) tm h Q
abbrev RCnd (c : AC) (t : Nat) (a b : AC) : Prop := ∀ call lf nt f ro k tm h Q, run call lf nt f ro c k tm h Q = match tm.gt t with
  | some (.bool b') => (match b' with | true => run call lf nt f ro a k tm h Q | false => run call lf nt f ro b k tm h Q)
  | _ => False
abbrev RReg (c : AC) (E : CallFn → Tr AV → Heap → Option (Tr AV × Heap)) : Prop := ∀ call lf nt f ro k tm h Q, run call lf nt f ro c k tm h Q = match E call tm h with
  | none => False
  | some (tm', h') => ret call lf nt f ro .normal k tm' h' Q
theorem rSkip : RRet .skip .normal := fun _ _ _ _ _ _ _ _ _ => run_skip
theorem rExit {id : Nat} : RRet (.exit id) (.exit id) := fun _ _ _ _ _ _ _ _ _ => run_exit
theorem rRet : RRet .ret .ret := fun _ _ _ _ _ _ _ _ _ => run_ret
theorem rSeq {a b : AC} : RSeq (.seq a b) a b := fun _ _ _ _ _ _ _ _ _ => run_seq
theorem rBlk {id : Nat} {a : AC} : RBlk (.block id a) id a := fun _ _ _ _ _ _ _ _ _ => run_block
theorem rSco {a : AC} : RSco (.scope a) a := fun _ _ _ _ _ _ _ _ _ => run_scope
theorem rCnd {t : Nat} {a b : AC} : RCnd (.cond (.tmp t) a b) t a b := fun _ _ _ _ _ _ _ _ _ => run_cond'
theorem rReg {is : List GIns} {outs : List (Nat × Opd)} {E : CallFn → Tr AV → Heap → Option (Tr AV × Heap)}
    (hE : (fun call tm h => E call tm h) = fun call tm h => ob (runIs is tm call [] h) fun r => ob (putOuts outs r.1 tm tm) fun tm' => some (tm', r.2)) : RReg (.reg is outs) E := fun call lf nt f ro k tm h Q => by
  rw [run_reg]
  have this : E call tm h = ob (runIs is tm call [] h) (fun r => ob (putOuts outs r.1 tm tm) fun tm' => some (tm', r.2)) := congrFun (congrFun (congrFun hE call) tm) h
  rw [this]
  cases runIs is tm call [] h with
  | none => rfl
  | some r =>
    obtain ⟨loc, h'⟩ := r
    show (match putOuts outs loc tm tm with | some tm' => ret call lf nt f ro .normal k tm' h' Q | none => False) = (match ob (putOuts outs loc tm tm) (fun tm' => some (tm', h')) with | none => False | some (tm', h') => ret call lf nt f ro .normal k tm' h' Q)
    cases putOuts outs loc tm tm <;> rfl
theorem rDrw {n : Nat} {ss : List Stage} {outs : List (Nat × Nat)} {E : CallFn → Tr AV → Heap → Option (Tr AV × Heap)}
    (hE : (fun call tm h => E call tm h) = fun call tm h => ob (runStages h.next tm call ss .leaf ⟨h.bs, h.next + n⟩) fun r => ob (putOutsD outs r.1 tm) fun tm' => some (tm', r.2)) : RReg (.draw n ss outs) E := fun call lf nt f ro k tm h Q => by
  rw [run_draw]
  have this : E call tm h = ob (runStages h.next tm call ss .leaf ⟨h.bs, h.next + n⟩) (fun r => ob (putOutsD outs r.1 tm) fun tm' => some (tm', r.2)) := congrFun (congrFun (congrFun hE call) tm) h
  rw [this]
  cases runStages h.next tm call ss .leaf ⟨h.bs, h.next + n⟩ with
  | none => rfl
  | some r =>
    obtain ⟨vs, h'⟩ := r
    show (match putOutsD outs vs tm with | some tm' => ret call lf nt f ro .normal k tm' h' Q | none => False) = (match ob (putOutsD outs vs tm) (fun tm' => some (tm', h')) with | none => False | some (tm', h') => ret call lf nt f ro .normal k tm' h' Q)
    cases putOutsD outs vs tm <;> rfl

/-- a function's code; the codes of a range over a function within it, by its path -/
def bodyC (P : Program) (f : FuncId) : Code := match P.funcs[f]? with
  | some fn => match fn.body with
    | some c => c
    | none => .skip
  | none => .skip
def subC : Code → List Nat → Nat → Code
  | .rangeFunc _ _ a b, [], j => match j with | 0 => a | _ => b
  | .rangeFunc _ _ a b, i :: p, j => match i with | 0 => subC a p j | _ => subC b p j
  | .seq a b, i :: p, j => match i with | 0 => subC a p j | _ => subC b p j
  | .cond _ a b, i :: p, j => match i with | 0 => subC a p j | _ => subC b p j
  | .block _ a, _ :: p, j => subC a p j
  | .loop a, _ :: p, j => subC a p j
  | .scope a, _ :: p, j => subC a p j
  | _, _, _ => .skip

/-- it answers so -/
def W {α : Type} (r : Option α) (Q : α → Prop) : Prop := ∃ v, r = some v ∧ Q v
def WC (r : Res) (Q : AV → Heap → Prop) : Prop := ∃ v h, r = some (v, h) ∧ Q v h

/-- A CALL. -/
theorem call_fn {P : Program} {keep : Keeps} {prims : Prims} {lf n : Nat} {f : FuncId} {args : List AV} {h : Heap} {k : FnA} (Q : AV → Heap → Prop) (hk : fnA P keep f = some k) (hp : prims.fn f args h = none) (hl : args.length ≤ k.nt)
    (hrun : ∀ Q' : XQ, (∀ e tm h vs, (e = .normal ∨ e = .ret) → tm.gt k.nt = none → resA P k.res ⟨tm, h⟩ = some vs → Q (tupled vs) h → Q' e tm h) → run (callN P keep prims lf n) lf k.nt f none k.code [] (fillC args .leaf 0) h Q') :
    WC (callN P keep prims lf (n + 1) (.fn f) args h) Q := by
  have hr := hrun (fun e tm h => (e = .normal ∨ e = .ret) ∧ tm.gt k.nt = none ∧ ∃ vs, resA P k.res ⟨tm, h⟩ = some vs ∧ Q (tupled vs) h) (fun e tm h vs h1 h2 h3 h4 => ⟨h1, h2, vs, h3, h4⟩)
  unfold run at hr
  show WC (Option.rec (motive := fun _ => Res) (ob (fnA P keep f) fun k => iff' (Nat.ble (len' args) k.nt) (ob (execA (callN P keep prims lf n) lf k.nt f none k.code ⟨fillC args .leaf 0, h⟩) fun r => endFn P keep lf (callN P keep prims lf n) k.nt k.res r)) (fun r => r) (prims.fn f args h)) Q
  rw [hp, hk]
  show WC (iff' (Nat.ble (len' args) k.nt) (ob (execA (callN P keep prims lf n) lf k.nt f none k.code ⟨fillC args .leaf 0, h⟩) fun r => endFn P keep lf (callN P keep prims lf n) k.nt k.res r)) Q
  rw [len'_eq, show Nat.ble args.length k.nt = true from Nat.ble_eq_true_of_le hl]
  show WC (ob (execA (callN P keep prims lf n) lf k.nt f none k.code ⟨fillC args .leaf 0, h⟩) fun r => endFn P keep lf (callN P keep prims lf n) k.nt k.res r) Q
  cases he : execA (callN P keep prims lf n) lf k.nt f none k.code ⟨fillC args .leaf 0, h⟩ with
  | none => rw [he] at hr; exact hr.elim
  | some r =>
    rw [he] at hr
    obtain ⟨e, s⟩ := r
    obtain ⟨h1, h2, vs, h3, h4⟩ := hr
    have hend : endFn P keep lf (callN P keep prims lf n) k.nt k.res (e, s) = some (tupled vs, s.hp) := by
      have hl : leaveD P keep lf (callN P keep prims lf n) k.nt s = some s.hp := by unfold leaveD; rw [show s.tm.gt k.nt = none from h2]
      have : (ob (leaveD P keep lf (callN P keep prims lf n) k.nt s) fun h => ob (resA P k.res ⟨s.tm, h⟩) fun vs => some (tupled vs, h)) = some (tupled vs, s.hp) := by
        rw [hl]
        show ob (resA P k.res ⟨s.tm, s.hp⟩) _ = _
        rw [show resA P k.res ⟨s.tm, s.hp⟩ = some vs from h3]
      rcases h1 with rfl | rfl
      · exact this
      · exact this
    exact ⟨_, _, hend, h4⟩
end
end Go.Am

/-
  AM, 61: what each operation gives, for running code by rules. No program is named here.
-/
namespace Go.Am

/-! ### Integers, bools, strings -/
theorem kEq_same {β : Type} (k : IntKind) (r : Option β) : kEq k k r = r := by cases k <;> rfl
theorem eInt_int {β : Type} (f : IntKind → Int → Option β) (k : IntKind) (n : Int) : eInt f (.int k n) = f k n := rfl
theorem eBool_bool {β : Type} (f : Bool → Option β) (b : Bool) : eBool f (.bool b) = f b := rfl
theorem eStr_str {β : Type} (f : List Nat → Option β) (s : List Nat) : eStr f (.str s) = f s := rfl
theorem ePtr_ptr {β : Type} (f : Nat → Nat → Option β) (b o : Nat) : ePtr f (.ptr (some (b, o))) = f b o := rfl
theorem eTuple_tuple {β : Type} (f : List AV → Option β) (vs : List AV) : eTuple f (.tuple vs) = f vs := rfl
section
variable {P : Program} {t : TypeId} {k : IntKind} {a b : Int} {s u : List Nat}
theorem b_lss : bin2 P .lss t (.int k a) (.int k b) = some (.bool (decide (a < b))) := by
  show kEq k k (yesB (ltI a b)) = _; rw [kEq_same, ltI_eq]; rfl
theorem b_leq : bin2 P .leq t (.int k a) (.int k b) = some (.bool (decide (a ≤ b))) := by
  show kEq k k (yesB (leI a b)) = _; rw [kEq_same, leI_eq]; rfl
theorem b_gtr : bin2 P .gtr t (.int k a) (.int k b) = some (.bool (decide (b < a))) := by
  show kEq k k (yesB (ltI b a)) = _; rw [kEq_same, ltI_eq]; rfl
theorem b_geq : bin2 P .geq t (.int k a) (.int k b) = some (.bool (decide (b ≤ a))) := by
  show kEq k k (yesB (leI b a)) = _; rw [kEq_same, leI_eq]; rfl
theorem b_add : bin2 P .add t (.int k a) (.int k b) = some (.int k (k.wrap (a + b))) := by
  show kEq k k (addI k a b) = _; rw [kEq_same, addI_eq]
theorem b_sub : bin2 P .sub t (.int k a) (.int k b) = some (.int k (k.wrap (a - b))) := by
  show kEq k k (subI k a b) = _; rw [kEq_same, subI_eq]
theorem b_mul : bin2 P .mul t (.int k a) (.int k b) = some (.int k (k.wrap (a * b))) := by
  show kEq k k (mulI k a b) = _; rw [kEq_same, mulI_eq]
theorem remI_eq (h : b ≠ 0) : remI k a b = some (.int k (a.tmod b)) := by
  cases a with
  | ofNat x =>
    cases b with
    | ofNat y =>
      cases y with
      | zero => exact absurd rfl h
      | succ y => rfl
    | negSucc y => show remSlow k _ _ = _; unfold remSlow; rw [if_neg h]
  | negSucc x => show remSlow k _ _ = _; unfold remSlow; rw [if_neg h]
theorem b_rem (h : b ≠ 0) : bin2 P .rem t (.int k a) (.int k b) = some (.int k (a.tmod b)) := by
  show kEq k k (remI k a b) = _; rw [kEq_same, remI_eq h]
theorem b_eql : bin2 P .eql t (.int k a) (.int k b) = some (.bool (decide (a = b))) := by
  show Option.rec (motive := fun _ => Option AV) none yesB (kEq k k (some (eqI a b))) = _
  rw [kEq_same, eqI_eq]; rfl
theorem b_neq : bin2 P .neq t (.int k a) (.int k b) = some (.bool (!decide (a = b))) := by
  show Option.rec (motive := fun _ => Option AV) none (fun b => yesB (notB b)) (kEq k k (some (eqI a b))) = _
  rw [kEq_same, eqI_eq]
  show yesB (notB (a == b)) = _
  rw [notB_eq]; rfl
theorem b_eqlS : bin2 P .eql t (.str s) (.str u) = some (.bool (decide (s = u))) := by
  show yesB (strEq s u) = _
  rw [strEq_eq]
  show some (AV.bool (s == u)) = _
  by_cases h : s = u <;> simp [h]
theorem b_neqS : bin2 P .neq t (.str s) (.str u) = some (.bool (!decide (s = u))) := by
  show yesB (notB (strEq s u)) = _
  rw [strEq_eq, notB_eq]
  show some (AV.bool (!(s == u))) = _
  by_cases h : s = u <;> simp [h]
theorem b_addS (h : s.length + u.length ≤ 1099511627776) : bin2 P .add t (.str s) (.str u) = some (.str (s ++ u)) := by
  show addS s u = _
  unfold addS
  rw [len'_eq, len'_eq, app'_eq, show Nat.ble (Nat.add s.length u.length) 1099511627776 = true from Nat.ble_eq_true_of_le h]
/-- bools held one against the other -/
theorem b_eqlB {x y : Bool} (hu : P.underlying t = some .bool) : bin2 P .eql t (.bool x) (.bool y) = some (.bool (x == y)) := by
  show Option.rec (motive := fun _ => Option AV) none yesB (eqPlain P 50 t (.bool x) (.bool y)) = _
  unfold eqPlain; rw [hu]
  show yesB (eqB x y) = _
  rw [eqB_eq]; rfl
theorem b_neqB {x y : Bool} (hu : P.underlying t = some .bool) : bin2 P .neq t (.bool x) (.bool y) = some (.bool (!(x == y))) := by
  show Option.rec (motive := fun _ => Option AV) none (fun b => yesB (notB b)) (eqPlain P 50 t (.bool x) (.bool y)) = _
  unfold eqPlain; rw [hu]
  show yesB (notB (eqB x y)) = _
  rw [eqB_eq, notB_eq]; rfl
/-- pointers, maps, slices against nil -/
theorem b_eqlP {e : TypeId} {x : Option (Nat × Nat)} (hu : P.underlying t = some (.pointer e)) : bin2 P .eql t (.ptr x) (.ptr none) = some (.bool x.isNone) := by
  show Option.rec (motive := fun _ => Option AV) none yesB (eqPlain P 50 t (.ptr x) (.ptr none)) = _
  unfold eqPlain; rw [hu]
  cases x <;> rfl
theorem b_neqP {e : TypeId} {x : Option (Nat × Nat)} (hu : P.underlying t = some (.pointer e)) : bin2 P .neq t (.ptr x) (.ptr none) = some (.bool x.isSome) := by
  show Option.rec (motive := fun _ => Option AV) none (fun b => yesB (notB b)) (eqPlain P 50 t (.ptr x) (.ptr none)) = _
  unfold eqPlain; rw [hu]
  cases x <;> rfl
theorem b_eqlM {e f : TypeId} {x : Option Nat} (hu : P.underlying t = some (.map e f)) : bin2 P .eql t (.map x) (.map none) = some (.bool x.isNone) := by
  show Option.rec (motive := fun _ => Option AV) none yesB (eqPlain P 50 t (.map x) (.map none)) = _
  unfold eqPlain; rw [hu]
  cases x <;> rfl
theorem b_neqM {e f : TypeId} {x : Option Nat} (hu : P.underlying t = some (.map e f)) : bin2 P .neq t (.map x) (.map none) = some (.bool x.isSome) := by
  show Option.rec (motive := fun _ => Option AV) none (fun b => yesB (notB b)) (eqPlain P 50 t (.map x) (.map none)) = _
  unfold eqPlain; rw [hu]
  cases x <;> rfl
theorem b_eqlL {e : TypeId} {x : Option (Nat × Nat)} {n c : Nat} {g : Option Nat} (hu : P.underlying t = some (.slice e)) : bin2 P .eql t (.slice x n c g) (.slice none 0 0 none) = some (.bool x.isNone) := by
  show Option.rec (motive := fun _ => Option AV) none yesB (eqPlain P 50 t (.slice x n c g) (.slice none 0 0 none)) = _
  unfold eqPlain; rw [hu]
  cases x <;> rfl
theorem b_neqL {e : TypeId} {x : Option (Nat × Nat)} {n c : Nat} {g : Option Nat} (hu : P.underlying t = some (.slice e)) : bin2 P .neq t (.slice x n c g) (.slice none 0 0 none) = some (.bool x.isSome) := by
  show Option.rec (motive := fun _ => Option AV) none (fun b => yesB (notB b)) (eqPlain P 50 t (.slice x n c g) (.slice none 0 0 none)) = _
  unfold eqPlain; rw [hu]
  cases x <;> rfl
end
theorem u_not {b : Bool} : un1 .not (.bool b) = some (.bool (!b)) := by show yesB (notB b) = _; rw [notB_eq]; rfl
theorem w_true {b : Bool} : wanted true (.bool b) = b := by show eqB b true = b; cases b <;> rfl
theorem w_false {b : Bool} : wanted false (.bool b) = !b := by show eqB b false = !b; cases b <;> rfl
theorem mx_int {k l : IntKind} {a b : Int} : folds max2 [.int k a, .int l b] = some (.int k (max a b)) := by
  have : Bool.rec (motive := fun _ => Int) a b (ltI a b) = max a b := by
    rw [ltI_eq]
    by_cases h : a < b
    · rw [show decide (a < b) = true from decide_eq_true h, show max a b = b from by omega]
    · rw [show decide (a < b) = false from decide_eq_false h, show max a b = a from by omega]
  show some (AV.int k (Bool.rec (motive := fun _ => Int) a b (ltI a b))) = _
  rw [this]
theorem mn_int {k l : IntKind} {a b : Int} : folds min2 [.int k a, .int l b] = some (.int k (min a b)) := by
  have : Bool.rec (motive := fun _ => Int) a b (ltI b a) = min a b := by
    rw [ltI_eq]
    by_cases h : b < a
    · rw [show decide (b < a) = true from decide_eq_true h, show min a b = b from by omega]
    · rw [show decide (b < a) = false from decide_eq_false h, show min a b = a from by omega]
  show some (AV.int k (Bool.rec (motive := fun _ => Int) a b (ltI b a))) = _
  rw [this]

/-- a number that fits stays -/
theorem wrap_i64 {n : Int} (h : -9223372036854775808 ≤ n) (h' : n ≤ 9223372036854775807) : IntKind.i64.wrap n = n := by
  simp [IntKind.wrap, IntKind.signed, IntKind.bits]
  omega
theorem wrap_u32 {n : Int} (h : 0 ≤ n) (h' : n ≤ 4294967295) : IntKind.u32.wrap n = n := by
  simp [IntKind.wrap, IntKind.signed, IntKind.bits]
  omega
theorem wrap_u8 {n : Int} (h : 0 ≤ n) (h' : n ≤ 255) : IntKind.u8.wrap n = n := by
  simp [IntKind.wrap, IntKind.signed, IntKind.bits]
  omega
theorem wrap_u16 {n : Int} (h : 0 ≤ n) (h' : n ≤ 65535) : IntKind.u16.wrap n = n := by
  simp [IntKind.wrap, IntKind.signed, IntKind.bits]
  omega

/-! ### Lists of operands -/
section
variable {β : Type}
theorem l1_one {f : AV → Option β} {a : AV} : l1 f [a] = f a := rfl
theorem l2_two {f : AV → AV → Option β} {a b : AV} : l2 f [a, b] = f a b := rfl
theorem l3_three {f : AV → AV → AV → Option β} {a b c : AV} : l3 f [a, b, c] = f a b c := rfl
end
theorem g_loc0 {a : AV} {l : List AV} {vs tm : Tr AV} : Opd.get (.loc 0) (a :: l) vs tm = some a := rfl
theorem g_locS {a : AV} {l : List AV} {vs tm : Tr AV} {n : Nat} : Opd.get (.loc (n + 1)) (a :: l) vs tm = Opd.get (.loc n) l vs tm := rfl
theorem g_tmp {l : List AV} {vs tm : Tr AV} {t : Nat} : Opd.get (.tmp t) l vs tm = tm.gt t := rfl
theorem g_cst {l : List AV} {vs tm : Tr AV} {v : AV} : Opd.get (.cst v) l vs tm = some v := rfl
theorem fill_nil {t : Tr AV} {i : Nat} : fillC [] t i = t := rfl
theorem fill_cons {v : AV} {vs : List AV} {t : Tr AV} {i : Nat} : fillC (v :: vs) t i = fillC vs (t.up (some v) i) (i + 1) := rfl
theorem gt_leaf {α : Type} {n : Nat} : (Tr.leaf : Tr α).gt n = none := rfl
theorem gt_same {α : Type} {t : Tr α} {x : Option α} {n : Nat} : (t.up x n).gt n = x := by rw [Tr.gt_up, if_pos rfl]
theorem gt_other {α : Type} {t : Tr α} {x : Option α} {n m : Nat} (h : (m == n) = false) : (t.up x n).gt m = t.gt m := by
  rw [Tr.gt_up, if_neg (by simpa using h)]
theorem t_nth {i : Nat} {vs : List AV} : nthTuple i (.tuple vs) = vs[i]? := by show nth vs i = _; rw [nth_eq]

theorem o_bool {b : Bool} : (AV.bool b).one = true := rfl
theorem o_int {k : IntKind} {n : Int} : (AV.int k n).one = true := rfl
theorem o_str {s : List Nat} : (AV.str s).one = true := rfl
theorem o_ptr {p : Option (Nat × Nat)} : (AV.ptr p).one = true := rfl
theorem o_slice {p : Option (Nat × Nat)} {n c : Nat} {g : Option Nat} : (AV.slice p n c g).one = true := rfl
theorem o_map {p : Option Nat} : (AV.map p).one = true := rfl

/-! ### Results -/
section
variable {P : Program} {tm : Tr AV} {h : Heap}
theorem resA_nil : resA P [] ⟨tm, h⟩ = some [] := rfl
theorem resA_tmp {t : Nat} {rs : List ResultVar} : resA P (.tmp t :: rs) ⟨tm, h⟩ = match tm.gt t with
    | none => none
    | some v => match resA P rs ⟨tm, h⟩ with
      | none => none
      | some vs => some (v :: vs) := by
  show ob (tm.gt t) (fun v => ob (resA P rs ⟨tm, h⟩) fun vs => some (v :: vs)) = _
  cases tm.gt t with
  | none => rfl
  | some v => cases resA P rs ⟨tm, h⟩ <;> rfl
theorem resA_cell {a t : Nat} {rs : List ResultVar} : resA P (.cell a t :: rs) ⟨tm, h⟩ = match tm.gt a with
    | none => none
    | some p => match resC P t h p with
      | none => none
      | some v => match resA P rs ⟨tm, h⟩ with
        | none => none
        | some vs => some (v :: vs) := by
  show ob (ob (tm.gt a) (resC P t h)) (fun v => ob (resA P rs ⟨tm, h⟩) fun vs => some (v :: vs)) = _
  cases tm.gt a with
  | none => rfl
  | some p =>
    show ob (resC P t h p) (fun v => ob (resA P rs ⟨tm, h⟩) fun vs => some (v :: vs)) = (match resC P t h p with
      | none => none
      | some v => match resA P rs ⟨tm, h⟩ with
        | none => none
        | some vs => some (v :: vs))
    cases resC P t h p with
    | none => rfl
    | some v =>
      show ob (resA P rs ⟨tm, h⟩) (fun vs => some (v :: vs)) = _
      cases resA P rs ⟨tm, h⟩ <;> rfl
theorem okP_true {v : AV} {b : Bool} : okPair true v b = .tuple [v, .bool b] := rfl
theorem okP_false {v : AV} {b : Bool} : okPair false v b = v := rfl
theorem tupled_nil : tupled [] = .tuple [] := rfl
theorem tupled_one {v : AV} : tupled [v] = v := rfl
theorem tupled_more {v u : AV} {r : List AV} : tupled (v :: u :: r) = .tuple (v :: u :: r) := rfl
end

/-! ### Memory -/
section
variable {h : Heap} {b o : Nat} {v : AV}
theorem m_load : load1 h (.ptr (some (b, o))) = h.ld1 b o := rfl
theorem m_loadN {n : Nat} : loadN n h (.ptr (some (b, o))) = match h.ld b o n with
    | none => none
    | some vs => some (.agg vs) := by
  show (Option.rec (motive := fun _ => Option AV) none (fun vs => some (.agg vs)) (h.ld b o n) : Option AV) = _
  cases h.ld b o n <;> rfl
theorem m_store : store1 h (.ptr (some (b, o))) v = match h.st1 b o v with
    | none => none
    | some h' => some (undefA, h') := by
  show (Option.rec (motive := fun _ => Option (AV × Heap)) none (fun h => some (undefA, h)) (h.st1 b o v) : Option (AV × Heap)) = _
  cases h.st1 b o v <;> rfl
theorem n_ptr {a : Nat × Nat} : notNil (.ptr (some a)) = some (.ptr (some a)) := rfl
end
end Go.Am

/-
  AM, 62: rows of cells in memory: reading, writing, growing. No program is named here.
-/
namespace Go.Am

/-- A block has just these cells. -/
def Rw (h : Heap) (b : Nat) (vs z : List AV) (ro : Bool) : Prop := ∃ t, h.bs.gt b = some (.cells t z vs.length ro) ∧ ∀ i, i < vs.length → cellAt t z i = vs[i]?
/-- the blocks of all elder numbers but these are the same -/
def Sm (F : Nat → Prop) (h h' : Heap) : Prop := h.next ≤ h'.next ∧ ∀ c, c < h.next → ¬ F c → h'.bs.gt c = h.bs.gt c
def NoB : Nat → Prop := fun _ => False

theorem Sm.refl (F : Nat → Prop) (h : Heap) : Sm F h h := ⟨Nat.le_refl _, fun _ _ _ => rfl⟩
theorem Sm.trans {F G H : Nat → Prop} {h h' h'' : Heap} (a : Sm F h h') (b : Sm G h' h'') (hF : ∀ c, c < h.next → F c → H c) (hG : ∀ c, c < h.next → G c → H c) : Sm H h h'' :=
  ⟨Nat.le_trans a.1 b.1, fun c hc hH => (b.2 c (Nat.lt_of_lt_of_le hc a.1) fun hg => hH (hG c hc hg)).trans (a.2 c hc fun hf => hH (hF c hc hf))⟩
theorem Sm.mono {F G : Nat → Prop} {h h' : Heap} (a : Sm F h h') (hG : ∀ c, c < h.next → F c → G c) : Sm G h h' := ⟨a.1, fun c hc hF => a.2 c hc fun hg => hF (hG c hc hg)⟩
theorem Sm.bump (h : Heap) (n : Nat) : ∃ hb, Heap.mk h.bs (h.next + n) = hb ∧ Sm NoB h hb ∧ hb.bs = h.bs ∧ hb.next = h.next + n := ⟨_, rfl, ⟨Nat.le_add_right _ _, fun _ _ _ => rfl⟩, rfl, rfl⟩
theorem Sm.no {F : Nat → Prop} {h h' : Heap} (a : Sm NoB h h') : Sm F h h' := a.mono fun _ _ h => h.elim

section
variable {h h' : Heap} {b : Nat} {vs z : List AV} {ro : Bool}
theorem Rw.same (hr : Rw h b vs z ro) (he : h'.bs.gt b = h.bs.gt b) : Rw h' b vs z ro := by obtain ⟨t, h1, h2⟩ := hr; exact ⟨t, he.trans h1, h2⟩
theorem Rw.sm {F : Nat → Prop} (hr : Rw h b vs z ro) (hs : Sm F h h') (hb : b < h.next) (hF : ¬ F b) : Rw h' b vs z ro := hr.same (hs.2 b hb hF)
theorem Rw.ld1 (hr : Rw h b vs z ro) (i : Nat) : h.ld1 b i = vs[i]? := by
  obtain ⟨t, h1, h2⟩ := hr
  unfold Heap.ld1 Heap.cells
  rw [h1]
  show (Bool.rec (motive := fun _ => Option AV) none (cellAt t z i) (Nat.ble (i + 1) vs.length) : Option AV) = _
  by_cases hi : i < vs.length
  · rw [show Nat.ble (i + 1) vs.length = true from Nat.ble_eq_true_of_le hi]; exact h2 i hi
  · rw [show Nat.ble (i + 1) vs.length = false from by cases hb : Nat.ble (i + 1) vs.length with | false => rfl | true => exact absurd (Nat.le_of_ble_eq_true hb) (by omega)]
    exact (List.getElem?_eq_none (by omega)).symm
theorem loadC_row {t : Tr AV} : ∀ (n i : Nat), i + n ≤ vs.length → (∀ i, i < vs.length → cellAt t z i = vs[i]?) → loadC t z n i = some ((vs.drop i).take n)
  | 0, i, _, _ => by rw [List.take_zero]; rfl
  | n + 1, i, h1, h2 => by
    rw [loadC_succ, h2 i (by omega), List.getElem?_eq_getElem (by omega), loadC_row n (i + 1) (by omega) h2]
    show some (vs[i] :: _) = _
    rw [List.drop_eq_getElem_cons (show i < vs.length by omega)]
    rfl
theorem Rw.ld (hr : Rw h b vs z ro) {i n : Nat} (hi : i + n ≤ vs.length) : h.ld b i n = some ((vs.drop i).take n) := by
  obtain ⟨t, h1, h2⟩ := hr
  unfold Heap.ld Heap.cells
  rw [h1]
  show (Bool.rec (motive := fun _ => Option (List AV)) none (loadC t z n i) (Nat.ble (i + n) vs.length) : Option (List AV)) = _
  rw [show Nat.ble (i + n) vs.length = true from Nat.ble_eq_true_of_le hi]
  exact loadC_row n i hi h2

/-- cells are put over others -/
def putL (vs : List AV) (o : Nat) (us : List AV) : List AV := vs.take o ++ (us ++ vs.drop (o + us.length))
theorem putL_length {o : Nat} {us : List AV} (ho : o + us.length ≤ vs.length) : (putL vs o us).length = vs.length := by
  unfold putL; simp; omega
theorem putL_get {o : Nat} {us : List AV} (ho : o + us.length ≤ vs.length) (i : Nat) : (putL vs o us)[i]? = if o ≤ i ∧ i < o + us.length then us[i - o]? else vs[i]? := by
  unfold putL
  by_cases h1 : i < o
  · rw [List.getElem?_append_left (by simp; omega), if_neg (by omega), List.getElem?_take_of_lt h1]
  · rw [List.getElem?_append_right (by simp; omega)]
    simp only [List.length_take]
    rw [show min o vs.length = o from by omega]
    by_cases h2 : i < o + us.length
    · rw [if_pos (by omega), List.getElem?_append_left (by omega)]
    · rw [if_neg (by omega), List.getElem?_append_right (by omega), List.getElem?_drop]
      congr 1; omega
theorem putL_one {o : Nat} {u : AV} (ho : o < vs.length) : putL vs o [u] = vs.set o u := by
  apply List.ext_getElem?
  intro i
  rw [putL_get (by simp; omega), List.getElem?_set]
  by_cases e : o = i
  · subst e; simp [ho]
  · rw [if_neg (by simp; omega), if_neg e]

/-- memory, cells written -/
noncomputable def Heap.wr (h : Heap) (b o : Nat) (us : List AV) : Heap := (h.sto b o us).getD h
theorem Rw.sto (hr : Rw h b vs z false) {o : Nat} {us : List AV} (ho : o + us.length ≤ vs.length) (h1 : us.all AV.one = true) :
    h.sto b o us = some (h.wr b o us) ∧ Rw (h.wr b o us) b (putL vs o us) z false ∧ (h.wr b o us).next = h.next ∧ ∀ c, c ≠ b → (h.wr b o us).bs.gt c = h.bs.gt c := by
  obtain ⟨t, g1, g2⟩ := hr
  have e : h.sto b o us = some (h.put b (.cells (fillC us t o) z vs.length false)) := by
    unfold Heap.sto Heap.cells
    rw [g1]
    show (Bool.rec (motive := fun _ => Option Heap) none (Bool.rec (motive := fun _ => Option Heap) none (some _) (allOne us)) (Nat.ble (o + len' us) vs.length) : Option Heap) = _
    rw [len'_eq, show Nat.ble (o + us.length) vs.length = true from Nat.ble_eq_true_of_le ho, allOne_eq, h1]
  have e2 : h.wr b o us = h.put b (.cells (fillC us t o) z vs.length false) := by unfold Heap.wr; rw [e]; rfl
  refine ⟨by rw [e, e2], ?_, by rw [e2]; rfl, fun c hc => by rw [e2, put_get, if_neg hc]⟩
  rw [e2]
  refine ⟨fillC us t o, by rw [put_get, if_pos rfl, putL_length ho], fun i hi => ?_⟩
  rw [putL_length ho] at hi
  rw [putL_get ho]
  unfold cellAt
  rw [gt_fillC]
  by_cases hin : o ≤ i ∧ i < o + us.length
  · rw [if_pos hin, if_pos hin, List.getElem?_eq_getElem (by omega)]
  · rw [if_neg hin, if_neg hin]; exact g2 i hi
theorem st1_eq_sto (h : Heap) (b o : Nat) (v : AV) : h.st1 b o v = h.sto b o [v] := by
  unfold Heap.st1 Heap.sto Heap.cells
  cases h.bs.gt b with
  | none => rfl
  | some x =>
    cases x with
    | cells t z n r =>
      cases r with
      | true => rfl
      | false =>
        show (Bool.rec (motive := fun _ => Option Heap) none (Bool.rec (motive := fun _ => Option Heap) none _ v.one) (Nat.ble (o + 1) n) : Option Heap) = (Bool.rec (motive := fun _ => Option Heap) none (Bool.rec (motive := fun _ => Option Heap) none _ (allOne [v])) (Nat.ble (o + 1) n) : Option Heap)
        rw [allOne_eq, show [v].all AV.one = v.one from by simp]
        rfl
    | _ => rfl
theorem Rw.st1 (hr : Rw h b vs z false) {o : Nat} {v : AV} (ho : o < vs.length) (h1 : v.one = true) :
    h.st1 b o v = some (h.wr b o [v]) ∧ Rw (h.wr b o [v]) b (vs.set o v) z false ∧ (h.wr b o [v]).next = h.next ∧ ∀ c, c ≠ b → (h.wr b o [v]).bs.gt c = h.bs.gt c := by
  obtain ⟨a, c, d, e⟩ := hr.sto (o := o) (us := [v]) (by simp only [List.length_cons, List.length_nil]; omega) (by simpa using h1)
  exact ⟨by rw [st1_eq_sto]; exact a, by rw [← putL_one ho]; exact c, d, e⟩

/-- a new row -/
theorem Rw.new {id : Nat} (hid : h.next ≤ id) : Rw (h.new id (.cells (fillC vs .leaf 0) z vs.length ro)) id vs z ro ∧ (h.new id (.cells (fillC vs .leaf 0) z vs.length ro)).next = id + 1 ∧ ∀ c, c ≠ id → (h.new id (.cells (fillC vs .leaf 0) z vs.length ro)).bs.gt c = h.bs.gt c := by
  rw [new_eq hid]
  refine ⟨⟨fillC vs .leaf 0, by show (h.bs.up _ id).gt id = _; rw [Tr.gt_up, if_pos rfl], fun i hi => ?_⟩, rfl, fun c hc => by show (h.bs.up _ id).gt c = _; rw [Tr.gt_up, if_neg hc]⟩
  unfold cellAt
  rw [gt_fillC, if_pos (by omega), Nat.sub_zero, List.getElem?_eq_getElem hi]
theorem new_next' {id : Nat} (hid : h.next ≤ id) (x : Blk) : (h.new id x).next = id + 1 := by rw [new_eq hid]
theorem new_get' {id : Nat} (hid : h.next ≤ id) (x : Blk) (c : Nat) : (h.new id x).bs.gt c = if c = id then some x else h.bs.gt c := by rw [new_eq hid]; exact Tr.gt_up _ _ _ _
end
end Go.Am

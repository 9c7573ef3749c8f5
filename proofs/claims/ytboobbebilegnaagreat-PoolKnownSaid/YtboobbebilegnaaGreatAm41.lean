/-
  AM, 41: slices.Collect, slices.Sorted: what they hand on; a row that another run has sorted.
-/
import Derived.Test.YtboobbebilegnaaGreatAm40
namespace Go.Am
section
variable {P : Program} {keep : Keeps}

/-- an operation that calls a function of the program's -/
theorem ops_call {ops : Array Oper} {i : Nat} {rest : List Nat} {o : Oper} {a : Act} {w : World} {dst : Tmp} {k : FuncId} {args : Array Operand} {ts : Array TypeId} {Q : Exit → Act → World → Prop} {S : Value → World → Prop} (hn : NamesOk P) (ho : ops[i]? = some o) (hi : IsOp o (some dst) (.call ⟨.value (.func k), args, ts⟩))
    (hk : ∃ fn c, P.funcs[k]? = some fn ∧ fn.body = some c) (hc : CallsIn (fen none) 0 P k (args.map a.eval) w (fun e w' => ∃ v, e = .returned v ∧ S v w'))
    (h : ∀ v w', S v w' → wpOpsIn (fen none) 0 P ops Q rest (a.put (some dst) v) w') : wpOpsIn (fen none) 0 P ops Q (i :: rest) a w := by
  obtain ⟨h1, h2, hg⟩ := hi
  obtain ⟨fn, c, hf, hb⟩ := hk
  have hw : Region.wanted o (yielded ops a.tmps) = true := by simp [Region.wanted, hg]
  simp only [wpOpsIn, ho]
  rw [if_pos hw]
  refine ⟨fun _ _ => trivial, ?_⟩
  have hrun : (execOp a.eval o).run P w = .ok (.enter k (args.map a.eval)) w := by
    obtain ⟨d, op, ty, pos, after, guard⟩ := o
    simp only at h2
    subst h2
    have e1 : (execOp a.eval ⟨d, .call ⟨.value (.func k), args, ts⟩, ty, pos, after, guard⟩) = callFunc k (#[] ++ args.map a.eval ++ #[]) := rfl
    rw [e1, Array.empty_append, Array.append_empty]
    exact run_callFunc hn hf hb
  rw [Oper.semAt_eq _ _ _ (by rw [h2]; intro c e; cases e), hrun, Oper.uponIn_enter, h1]
  refine ⟨fun e => (by cases e), CallsIn.mono (F := fen none) hc fun e w' hR => ?_⟩
  obtain ⟨v, rfl, hS⟩ := hR
  exact h v w' hS

theorem ops_nil {ops : Array Oper} {a : Act} {w : World} {Q : Exit → Act → World → Prop} (h : Q .normal a w) : wpOpsIn (fen none) 0 P ops Q [] a w := h

theorem ops_mv {ops : Array Oper} {i : Nat} {rest : List Nat} {o : Oper} {a : Act} {w : World} {x : Operand} {d : Tmp} {Q : Exit → Act → World → Prop} (ho : ops[i]? = some o) (hi : IsOp o (some d) (.move x) ∨ IsOp o (some d) (.assign x))
    (h : wpOpsIn (fen none) 0 P ops Q rest (a.put (some d) (a.eval x)) w) : wpOpsIn (fen none) 0 P ops Q (i :: rest) a w := by
  rcases hi with hi | hi
  · refine ops_value ho hi (by intro c e; cases e) (w' := w) (v := a.eval x) ?_ h
    obtain ⟨dst, op, ty, pos, after, guard⟩ := o
    obtain ⟨_, rfl, _⟩ := hi
    rfl
  · refine ops_value ho hi (by intro c e; cases e) (w' := w) (v := a.eval x) ?_ h
    obtain ⟨dst, op, ty, pos, after, guard⟩ := o
    obtain ⟨_, rfl, _⟩ := hi
    rfl

/-- the code of slices.Collect -/
def CollectCode (A : FuncId) (c : Code) : Prop := ∃ (i0 i1 : Nat) (o0 o1 o2 o3 : Oper) (ts : Array TypeId),
  c = .seq (.region i0 #[o0] false) (.seq (.region i1 #[o1, o2, o3] false) .ret) ∧
  IsOp o0 (some 2) (.assign (.const (.slice none 0 0))) ∧ IsOp o1 (some 3) (.move (.tmp 0)) ∧ IsOp o2 (some 4) (.call ⟨.value (.func A), #[.const (.slice none 0 0), .tmp 3], ts⟩) ∧ IsOp o3 (some 2) (.assign (.tmp 4))

theorem results_tmp {fn : Func} {a : Act} {t : Nat} {w : World} (h : fn.results = #[.tmp t]) : (results fn a.tmps).run P w = .ok (a.eval (.tmp t)) w := by
  unfold results
  rw [h]
  simp [Act.eval]

theorem collect_thru (hn : NamesOk P) {C A : FuncId} {fn : Func} {c : Code} (hf : P.funcs[C]? = some fn) (hb : fn.body = some c) (hcode : CollectCode A c) (hres : fn.results = #[.tmp 2]) (hnt : 5 ≤ fn.ntmps) (hA : ∃ fn c, P.funcs[A]? = some fn ∧ fn.body = some c)
    {sv : Value} {w : World} {S : Value → World → Prop} (h : CallsIn (fen none) 0 P A #[.slice none 0 0, sv] w (fun e w' => ∃ v, e = .returned v ∧ S v w')) :
    CallsIn (fen none) 0 P C #[sv] w (fun e w' => ∃ v, e = .returned v ∧ S v w') := by
  refine callsIn_of_wp hf hb trivial ?_
  obtain ⟨i0, i1, o0, o1, o2, o3, ts, rfl, q0, q1, q2, q3⟩ := hcode
  generalize ha0 : ({ tmps := #[sv] ++ Array.replicate (fn.ntmps - (#[sv] : Array Value).size) undef, defers := [] } : Act) = a0
  have hsz : 5 ≤ a0.tmps.size := by subst ha0; simp; omega
  have hd0 : a0.defers = [] := by subst ha0; rfl
  have e0 : a0.eval (.tmp 0) = sv := by subst ha0; simp only [Act.eval, Array.getD_eq_getD_getElem?]; rw [Array.getElem?_append_left (by simp)]; rfl
  clear ha0
  refine wpIn_seq (wpIn_region ?_)
  show wpOpsIn (fen none) 0 P #[o0] _ [0] a0 w
  refine ops_mv (o := o0) rfl (.inr q0) (ops_nil ?_)
  simp only [Exit.then]
  refine wpIn_seq (wpIn_region ?_)
  show wpOpsIn (fen none) 0 P #[o1, o2, o3] _ [0, 1, 2] _ w
  refine ops_mv (o := o1) rfl (.inl q1) ?_
  have e1 : (a0.put (some 2) (a0.eval (.const (.slice none 0 0)))).eval (.tmp 0) = sv := by rw [put_eval (by omega), if_neg (by decide)]; exact e0
  rw [e1]
  refine ops_call (o := o2) hn rfl q2 hA (S := S) ?_ (fun v w' hS => ?_)
  · have e2 : (#[.const (.slice none 0 0), .tmp 3] : Array Operand).map ((a0.put (some 2) (a0.eval (.const (.slice none 0 0)))).put (some 3) sv).eval = #[.slice none 0 0, sv] := by
      simp only [List.map_toArray, List.map_cons, List.map_nil]
      rw [put_eval (by rw [put_size]; omega), if_pos rfl]
      rfl
    rw [e2]; exact h
  · refine ops_mv (o := o3) rfl (.inr q3) (ops_nil ?_)
    simp only [Exit.then]
    refine wpIn_ret ⟨by simp only [put_defers]; exact hd0, v, ?_, v, rfl, hS⟩
    rw [results_tmp hres, put_eval (by simp only [put_size]; omega), if_pos rfl, put_eval (by simp only [put_size]; omega), if_pos rfl]

/-- the code of slices.Sorted -/
def SortedCode (C T : FuncId) (c : Code) : Prop := ∃ (i0 i1 i2 i3 : Nat) (o0 o1 o2 o3 o4 o5 o6 o7 : Oper) (ts tt : Array TypeId),
  c = .seq (.region i0 #[o0] false) (.seq (.region i1 #[o1, o2, o3] false) (.seq (.region i2 #[o4, o5] false) (.seq (.region i3 #[o6, o7] false) .ret))) ∧
  IsOp o0 (some 2) (.assign (.const (.slice none 0 0))) ∧ IsOp o1 (some 4) (.move (.tmp 0)) ∧ IsOp o2 (some 5) (.call ⟨.value (.func C), #[.tmp 4], ts⟩) ∧ IsOp o3 (some 3) (.assign (.tmp 5)) ∧
  IsOp o4 (some 6) (.move (.tmp 3)) ∧ IsOp o5 (some 7) (.call ⟨.value (.func T), #[.tmp 6], tt⟩) ∧ IsOp o6 (some 8) (.move (.tmp 3)) ∧ IsOp o7 (some 2) (.assign (.tmp 8))

theorem sorted_thru (hn : NamesOk P) {G C T : FuncId} {fn : Func} {c : Code} (hf : P.funcs[G]? = some fn) (hb : fn.body = some c) (hcode : SortedCode C T c) (hres : fn.results = #[.tmp 2]) (hnt : 9 ≤ fn.ntmps) (hC : ∃ fn c, P.funcs[C]? = some fn ∧ fn.body = some c) (hT : ∃ fn c, P.funcs[T]? = some fn ∧ fn.body = some c)
    {sv : Value} {w : World} {S S' : Value → World → Prop} (h : CallsIn (fen none) 0 P C #[sv] w (fun e w' => ∃ v, e = .returned v ∧ S v w')) (h2 : ∀ v w', S v w' → CallsIn (fen none) 0 P T #[v] w' (fun e w'' => ∃ u, e = .returned u ∧ S' v w'')) :
    CallsIn (fen none) 0 P G #[sv] w (fun e w' => ∃ v, e = .returned v ∧ S' v w') := by
  refine callsIn_of_wp hf hb trivial ?_
  obtain ⟨i0, i1, i2, i3, o0, o1, o2, o3, o4, o5, o6, o7, ts, tt, rfl, q0, q1, q2, q3, q4, q5, q6, q7⟩ := hcode
  generalize ha0 : ({ tmps := #[sv] ++ Array.replicate (fn.ntmps - (#[sv] : Array Value).size) undef, defers := [] } : Act) = a0
  have hsz : 9 ≤ a0.tmps.size := by subst ha0; simp; omega
  have hd0 : a0.defers = [] := by subst ha0; rfl
  have e0 : a0.eval (.tmp 0) = sv := by subst ha0; simp only [Act.eval, Array.getD_eq_getD_getElem?]; rw [Array.getElem?_append_left (by simp)]; rfl
  clear ha0
  refine wpIn_seq (wpIn_region ?_)
  show wpOpsIn (fen none) 0 P #[o0] _ [0] a0 w
  refine ops_mv (o := o0) rfl (.inr q0) (ops_nil ?_)
  simp only [Exit.then]
  generalize ha1 : a0.put (some 2) (a0.eval (.const (.slice none 0 0))) = a1
  have e1 : a1.eval (.tmp 0) = sv := by subst ha1; rw [put_eval (by omega), if_neg (by decide)]; exact e0
  have z1 : 9 ≤ a1.tmps.size := by subst ha1; rw [put_size]; exact hsz
  have d1 : a1.defers = [] := by subst ha1; rw [put_defers]; exact hd0
  clear ha1
  refine wpIn_seq (wpIn_region ?_)
  show wpOpsIn (fen none) 0 P #[o1, o2, o3] _ [0, 1, 2] _ w
  refine ops_mv (o := o1) rfl (.inl q1) ?_
  rw [e1]
  refine ops_call (o := o2) hn rfl q2 hC (S := S) ?_ (fun v w' hS => ?_)
  · have e2 : (#[.tmp 4] : Array Operand).map (a1.put (some 4) sv).eval = #[sv] := by
      simp only [List.map_toArray, List.map_cons, List.map_nil]
      rw [put_eval (by omega), if_pos rfl]
    rw [e2]; exact h
  · refine ops_mv (o := o3) rfl (.inr q3) (ops_nil ?_)
    simp only [Exit.then]
    generalize ha2 : (((a1.put (some 4) sv).put (some 5) v).put (some 3) (((a1.put (some 4) sv).put (some 5) v).eval (.tmp 5))) = a2
    have e3 : a2.eval (.tmp 3) = v := by subst ha2; rw [put_eval (by simp only [put_size]; omega), if_pos rfl, put_eval (by simp only [put_size]; omega), if_pos rfl]
    have z2 : 9 ≤ a2.tmps.size := by subst ha2; simp only [put_size]; exact z1
    have d2 : a2.defers = [] := by subst ha2; simp only [put_defers]; exact d1
    clear ha2
    refine wpIn_seq (wpIn_region ?_)
    show wpOpsIn (fen none) 0 P #[o4, o5] _ [0, 1] _ w'
    refine ops_mv (o := o4) rfl (.inl q4) ?_
    rw [e3]
    refine ops_call (o := o5) hn rfl q5 hT (S := fun _ w'' => S' v w'') ?_ (fun u w'' hS2 => ops_nil ?_)
    · have e4 : (#[.tmp 6] : Array Operand).map (a2.put (some 6) v).eval = #[v] := by
        simp only [List.map_toArray, List.map_cons, List.map_nil]
        rw [put_eval (by omega), if_pos rfl]
      rw [e4]; exact h2 v w' hS
    · simp only [Exit.then]
      refine wpIn_seq (wpIn_region ?_)
      show wpOpsIn (fen none) 0 P #[o6, o7] _ [0, 1] _ w''
      refine ops_mv (o := o6) rfl (.inl q6) (ops_mv (o := o7) rfl (.inr q7) (ops_nil ?_))
      simp only [Exit.then]
      refine wpIn_ret ⟨by simp only [put_defers]; exact d2, v, ?_, v, rfl, hS2⟩
      rw [results_tmp hres, put_eval (by simp only [put_size]; omega), if_pos rfl, put_eval (by simp only [put_size]; omega), if_pos rfl, put_eval (by simp only [put_size]; omega), if_neg (by decide), put_eval (by omega), if_neg (by decide)]
      exact congrArg (fun x => Result.ok x w'') e3
end
end Go.Am

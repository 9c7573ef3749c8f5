/-
  AM, 2: code is compiled; calls.
-/
import Derived.Test.YtboobbebilegnaaGreatAm1
namespace Go.Am
noncomputable section

/-! ### A region that draws its order -/
def Ins.eff : Ins → Bool
  | .st1 .. | .ef .. | .cl .. => true
  | _ => false
def Ins.reads : Ins → Bool
  | .ld1 .. | .ldn .. | .rd .. => true
  | _ => false
def Ins.allocs : Ins → Bool
  | .al .. => true
  | _ => false
def Ins.isBad : Ins → Bool
  | .bad => true
  | _ => false

/-- does operation i wait for operation j? -/
def bef (b : Array Nat) (i j : Nat) : Bool := (b.getD i 0).testBit j

/-- the last of the operations before i that writes temporary t -/
def writer (ops : Array Oper) (t : Nat) : Nat → Option Nat
  | 0 => none
  | i + 1 => if ((ops[i]?).bind (·.dst)) = some t then some i else writer ops t i

def findOpi (keep : Nat → Bool) (ops : Array Oper) (i t : Nat) : Option Opd :=
  match writer ops t i with
  | some j => some (.opi j)
  | none => if keep t then some (.tmp t) else none

/-- the temporaries that an operation names, its guard's among them -/
def namesOf (ops : Array Oper) (o : Oper) : List Nat :=
  (o.op.operands.toList.filterMap fun x => match x with | .tmp t => some t | _ => none) ++
  (match o.guard with | some (j, _) => ((ops[j]?).bind (·.dst)).toList | none => []) ++ o.dst.toList

/-- only the temporaries that it names -/
def findN (keep : Nat → Bool) (ops : Array Oper) (o : Oper) (i t : Nat) : Option Opd := if (namesOf ops o).contains t then findOpi keep ops i t else none

def compD1 (P : Program) (keep : Nat → Bool) (nt : Nat) (ops : Array Oper) (i : Nat) : GIns :=
  match ops[i]? with
  | some o => if okDst nt o.dst then compG (findN keep ops o i) ops o.guard (compOp P (findN keep ops o i) o.op) else ⟨none, .bad⟩
  | none => ⟨none, .bad⟩

/-- each two operations of which one writes what the other names wait one for the other -/
def namesOk (ops : Array Oper) (b : Array Nat) : Bool :=
  (List.range ops.size).all fun i => (List.range ops.size).all fun j =>
    i == j || bef b i j || bef b j i ||
      (match ops[i]?, ops[j]? with
        | some x, some y => (match y.dst with | some d => !(namesOf ops x).contains d | none => true)
        | _, _ => false)

/-- of the operations that write, how many i waits for -/
def loOf (b : Array Nat) (es : List Nat) (i : Nat) : Nat := (es.filter fun e => bef b i e).length
/-- of the operations that write, how many do not wait for i -/
def hiOf (b : Array Nat) (es : List Nat) (i : Nat) : Nat := (es.filter fun e => !bef b e i).length

def chainOk (b : Array Nat) : List Nat → Bool
  | [] => true
  | e :: es => es.all (fun f => bef b f e) && chainOk b es

def stageAt (b : Array Nat) (gs : List (Nat × GIns)) (es : List Nat) (r : Nat) (act : Option (Nat × GIns)) : Stage :=
  { cks := gs.filter fun x => x.2.i.reads && decide (loOf b es x.1 < r ∧ r ≤ hiOf b es x.1),
    evs := gs.filter fun x => !x.2.i.eff && decide (loOf b es x.1 = r),
    mats := gs.filter fun x => x.2.i.allocs && decide (hiOf b es x.1 = r),
    act }

def stagesOf (b : Array Nat) (gs : List (Nat × GIns)) (es : List Nat) : Nat → List (Nat × GIns) → List Stage
  | r, [] => [stageAt b gs es r none]
  | r, x :: xs => stageAt b gs es r (some x) :: stagesOf b gs es (r + 1) xs

/-- every binding edge points back, and names a guard's operation -/
def edgesOk (ops : Array Oper) (b : Array Nat) : Bool :=
  ops.toList.zipIdx.all fun (o, i) => o.after.all (fun e => !Region.binds .any e || decide (e.on < i)) &&
    (match o.guard with | some (j, _) => bef b i j | none => true) &&
    (List.range i).all (fun j => (match (ops[j]?).bind (·.dst) with | some d => !(namesOf ops o).contains d || bef b i j | none => true))

def compD (P : Program) (keep : Nat → Bool) (nt : Nat) (ops : Array Oper) : Option (List Stage × List (Nat × Nat)) :=
  let b := Region.before ops
  let gs := (List.range ops.size).map fun i => (i, compD1 P keep nt ops i)
  let acts := gs.filter fun x => x.2.i.eff
  let es := acts.map (·.1)
  if namesOk ops b && chainOk b es && edgesOk ops b && gs.all (fun x => !x.2.i.isBad) then
    some (stagesOf b gs es 0 acts, outsOf (keep) 0 (ops.toList.reverse.map (·.dst)) [] |>.map fun x => (x.1, ops.size - 1 - x.2))
  else none

def compC (P : Program) (keep : Nat → Bool) (nt : Nat) : Code → AC
  | .skip => .skip
  | .region _ ops true => match compD P keep nt ops with
    | some (ss, outs) => .draw ops.size ss outs
    | none => .bad
  | .region _ ops false => compR P keep nt ops
  | .seq a b => .seq (compC P keep nt a) (compC P keep nt b)
  | .cond c a b => match resolve (fun t => if keep t then some (.tmp t) else none) c with
    | some c => .cond c (compC P keep nt a) (compC P keep nt b)
    | none => .bad
  | .block id c => .block id (compC P keep nt c)
  | .loop c => .loop (compC P keep nt c)
  | .rangeFunc g ps a b => match resolve (fun t => if keep t then some (.tmp t) else none) g with
    | some g => .rangeF g ps.toList a b
    | none => .bad
  | .exit id => .exit id
  | .ret => .ret
  | .scope c => .scope (compC P keep nt c)
  | .label _ => .skip
  | _ => .bad

/-! ### Calls -/
/-- which temporaries are kept, function by function -/
abbrev Keeps := FuncId → Nat → Bool

structure FnA where
  code : AC
  res : List ResultVar
  nt : Nat
  plain : Bool  -- has it neither a range over a function nor a call that is put off?

def plainC : Code → Bool
  | .region _ ops _ => (deferLast ops.toList).isNone
  | .seq a b | .cond _ a b => plainC a && plainC b
  | .rangeFunc .. => false
  | .block _ c | .loop c | .scope c => plainC c
  | _ => true
def okRes (keep : Nat → Bool) : List ResultVar → Bool
  | [] => true
  | .tmp t :: rs => keep t && okRes keep rs
  | .cell a _ :: rs => keep a && okRes keep rs

def fnA (P : Program) (keep : Keeps) (f : FuncId) : Option FnA :=
  match P.funcs[f]? with
  | some fn => match fn.body with
    | some c => if okRes (keep f) fn.results.toList && !(keep f fn.ntmps) then some ⟨compC P (keep f) fn.ntmps c, fn.results.toList, fn.ntmps, plainC c⟩ else none
    | none => none
  | none => none
def ntOf (P : Program) (f : FuncId) : Nat := match P.funcs[f]? with | some fn => fn.ntmps | none => 0

/-- one result -/
def resC (P : Program) (t : TypeId) : Heap → AV → Option AV :=
  match tSize P t, tAgg P t with
  | some _, some false => load1
  | some n, some true => loadN n
  | _, _ => fun _ _ => none
def res1 (P : Program) (r : ResultVar) : St → Option AV :=
  match r with
  | .tmp t => fun s => s.tm.gt t
  | .cell a t => fun s => ob (s.tm.gt a) (resC P t s.hp)
def resA (P : Program) (rs : List ResultVar) : St → Option (List AV) :=
  List.rec (motive := fun _ => St → Option (List AV)) (fun _ => some []) (fun r _ ih s => ob (res1 P r s) fun v => ob (ih s) fun vs => some (v :: vs)) rs
def tupled (vs : List AV) : AV := List.rec (motive := fun _ => AV) (.tuple []) (fun v r _ => List.rec (motive := fun _ => AV) v (fun _ _ _ => .tuple vs) r) vs
/-- a call that was put off -/
def callD (P : Program) (keep : Keeps) (lf : Nat) (rec : CallFn) (f : FuncId) (args : List AV) (h : Heap) : Option Heap :=
  ob (fnA P keep f) fun k => iff' (and' k.plain (Nat.ble (len' args) k.nt)) (ob (execA rec lf k.nt f none k.code ⟨fillC args .leaf 0, h⟩) fun r =>
    let out : Option Heap := ob (resA P k.res r.2) fun _ => some r.2.hp
    Ex.rec (motive := fun _ => Option Heap) out out (fun _ => none) (fun _ => none) r.1)
def applyD (P : Program) (keep : Keeps) (lf : Nat) (rec : CallFn) (v : AV) (h : Heap) : Option Heap :=
  eTuple (fun vs => List.rec (motive := fun _ => Option Heap) none (fun f args _ =>
    eFunc (fun g first cap => Fn.rec (motive := fun _ => Option Heap) (fun i => callD P keep lf rec i (app' first (app' args cap)) h) (fun _ => none) (fun _ _ => none) (fun _ _ _ _ => none) (fun _ => none) g) f) vs) v
def runDs (P : Program) (keep : Keeps) (lf : Nat) (rec : CallFn) (ds : List AV) : Heap → Option Heap :=
  List.rec (motive := fun _ => Heap → Option Heap) (fun h => some h) (fun d _ ih h => ob (applyD P keep lf rec d h) ih) ds
/-- what was put off, last one first -/
def leaveD (P : Program) (keep : Keeps) (lf : Nat) (rec : CallFn) (nt : Nat) (s : St) : Option Heap :=
  Option.rec (motive := fun _ => Option Heap) (some s.hp) (fun v => eTuple (fun ds => runDs P keep lf rec ds s.hp) v) (s.tm.gt nt)
def endFn (P : Program) (keep : Keeps) (lf : Nat) (rec : CallFn) (nt : Nat) (res : List ResultVar) (r : Ex × St) : Res :=
  let out : Res := ob (leaveD P keep lf rec nt r.2) fun h => ob (resA P res ⟨r.2.tm, h⟩) fun vs => some (tupled vs, h)
  Ex.rec (motive := fun _ => Res) out out (fun _ => none) (fun _ => none) r.1

/-- calls that are answered otherwise -/
structure Prims where
  fn : FuncId → List AV → Heap → Option Res

def callF (P : Program) (keep : Keeps) (prims : Prims) (lf : Nat) (rec : CallFn) (f : FuncId) (args : List AV) (h : Heap) : Res :=
  Option.rec (motive := fun _ => Res)
    (ob (fnA P keep f) fun k => iff' (Nat.ble (len' args) k.nt) (ob (execA rec lf k.nt f none k.code ⟨fillC args .leaf 0, h⟩) fun r => endFn P keep lf rec k.nt k.res r))
    (fun r => r) (prims.fn f args h)

def setPs (nt : Nat) (ps : List Nat) : List AV → Tr AV → Option (Tr AV) :=
  List.rec (motive := fun _ => List AV → Tr AV → Option (Tr AV)) (fun vs tm => l0 (some tm) vs)
    (fun t _ ih vs tm => List.rec (motive := fun _ => Option (Tr AV)) none (fun v r _ => iff' (Nat.ble (Nat.succ t) nt) (ih r (tm.up (some v) t))) vs) ps

def endRound (l : Nat) (r : Ex × St) : Res :=
  r.2.hp.theLoop l fun b => match b.st with
    | .busy => match r.1 with
      | .normal => some (.bool true, r.2.hp.put l (.loop { b with st := .ready, pending := none }))
      | .ret => some (.bool false, r.2.hp.put l (.loop { b with st := .done, pending := some .ret }))
      | .exit id => some (.bool false, r.2.hp.put l (.loop { b with st := .done, pending := some (.exit id) }))
      | .goto t => some (.bool false, r.2.hp.put l (.loop { b with st := .done, pending := some (.goto t) }))
    | _ => none

def onlyNormal (r : Ex × St) (f : St → Res) : Res := Ex.rec (motive := fun _ => Res) (f r.2) none (fun _ => none) (fun _ => none) r.1

def noOff (tm : Tr AV) (nt : Nat) : Bool := Option.rec (motive := fun _ => Bool) true (fun _ => false) (tm.gt nt)
def callL (P : Program) (keep : Keeps) (lf : Nat) (rec : CallFn) (l : Nat) (args : List AV) (h : Heap) : Res :=
  h.theLoop l fun b => ob (setPs (ntOf P b.fn) b.params args b.tm) fun tm =>
    iff' (and' (notB (keep b.fn (ntOf P b.fn))) (noOff b.tm (ntOf P b.fn))) (ob (execA rec lf (ntOf P b.fn) b.fn (some l) (compC P (keep b.fn) (ntOf P b.fn) b.assign) ⟨tm, h⟩) fun r => onlyNormal r fun s =>
      s.hp.theLoop l fun b' => match b'.st with
        | .ready => ob (execA rec lf (ntOf P b.fn) b.fn (some l) (compC P (keep b.fn) (ntOf P b.fn) b.body) ⟨s.tm, s.hp.put l (.loop { b' with st := .busy })⟩) fun r => endRound l r
        | _ => none)

def callN (P : Program) (keep : Keeps) (prims : Prims) (lf n : Nat) : CallFn :=
  Nat.rec (motive := fun _ => CallFn) (fun _ _ _ => none)
    (fun _ ih t args h => Tgt.rec (motive := fun _ => Res) (fun f => callF P keep prims lf ih f args h) (fun l => callL P keep lf ih l args h) t) n

/-! ### Which temporaries to keep: those that are read outside the region that writes them -/
def liveOps (ops : Array Oper) : List Nat → List Oper → List Nat
  | _, [] => []
  | wr, o :: os =>
    ((namesOf ops { o with dst := none }).filter fun t => !wr.contains t) ++ liveOps ops (match o.dst with | some d => d :: wr | none => wr) os
def liveC : Code → List Nat
  | .region _ ops _ => liveOps ops [] ops.toList
  | .seq a b => liveC a ++ liveC b
  | .cond c a b => (match c with | .tmp t => [t] | _ => []) ++ (liveC a ++ liveC b)
  | .block _ c | .loop c | .scope c => liveC c
  | .rangeFunc f _ a b => (match f with | .tmp t => [t] | _ => []) ++ (liveC a ++ liveC b)
  | _ => []
def keepOf (P : Program) (f : FuncId) : List Nat :=
  match P.funcs[f]? with
  | some fn => match fn.body with
    | some c => (liveC c ++ fn.results.toList.map fun (r : ResultVar) => match r with | .tmp t => t | .cell a _ => a).eraseDups
    | none => []
  | none => []
def keepF (P : Program) : Keeps := fun f t => (keepOf P f).contains t

end
end Go.Am

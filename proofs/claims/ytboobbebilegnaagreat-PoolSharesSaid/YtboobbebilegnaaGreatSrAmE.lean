/- A part of the proof of the law PoolShares. -/
import Derived.Test.YtboobbebilegnaaGreatSrAmD
import Derived.Deep.Slices
import Derived.ChangeArms
import Derived.OpenShut
open Nat (reduceEqDiff reduceAdd reduceMul)
set_option linter.unusedVariables false
set_option linter.unusedSimpArgs false
set_option linter.constructorNameAsVariable false
set_option linter.defProp false
set_option maxRecDepth 20000

namespace Go.Am
noncomputable section
def cf (n:Nat):bN:=.cst (.func (.func n) [] [])
theorem zgU {n:Nat} {loc:List AV} {vs tm:Tr AV}:(cf n).get loc vs tm=some (.func (.func n) [] []):=rfl
theorem zde {call:an} {us first cap:List AV} {h:ac} {n:Nat}:gF call us h (.func (.func n) first cap)=call (.fn n) (first++(us++cap)) h:=by
 show call (.fn n) (dS first (dS us cap)) h=_
 rw [cj,cj]
theorem Lo {call:an} {us first cap:List AV} {h:ac} {l:Nat}:gF call us h (.func (.yield l) first cap)=call (.loop l) (first++us) h:=by
 show call (.loop l) (dS first us) h=_
 rw [cj]
section
variable {tm vs:Tr AV} {call:an} {loc:List AV} {h:ac} {is:List aw} {x y z:bN} {xs:List bN}
theorem zbH:be [] loc vs tm=some []:=rfl
theorem Vo:be (x::xs) loc vs tm=match x.get loc vs tm with
  | none=>none
  | some v=>match be xs loc vs tm with
   | none=>none
   | some us=>some (v::us):=by
 show (Option.rec (motive:=fun _=>Option (List AV)) none (fun v=>Option.rec (motive:=fun _=>Option (List AV)) none (fun us=>some (v::us)) (be xs loc vs tm)) (x.get loc vs tm):Option (List AV))=_
 cases x.get loc vs tm with
 | none=>rfl
 | some v=>cases be xs loc vs tm <;> rfl
theorem zb8 {tm0:Tr AV}:bf [] loc tm0 tm=some tm:=rfl
theorem VN {tm0:Tr AV} {t:Nat} {outs:List (Nat×bN)}:bf ((t,x)::outs) loc tm0 tm=match x.get loc .leaf tm0 with
  | none=>none
  | some v=>bf outs loc tm0 (tm.up (some v) t):=by
 show ob (x.get loc .leaf tm0) (fun v=>bf outs loc tm0 (tm.up (some v) t))=_
 cases x.get loc .leaf tm0 <;> rfl
theorem zcH:aT [] tm call loc h=some (loc,h):=rfl
theorem zfl {i:kn} {w:Bool}:aT (⟨some (x,w),i⟩::is) tm call loc h=match x.get loc .leaf tm with
  | none=>none
  | some v=>match wanted w v with
   | true=>aT (⟨none,i⟩::is) tm call loc h
   | false=>aT is tm call (aJ::loc) h:=by
 show ob (ob (x.get loc .leaf tm) fun v=>Bool.rec (motive:=fun _=>dA) (some (aJ,h)) (i.ev loc .leaf tm call h.next h) (wanted w v)) (fun r=>aT is tm call (r.1::loc) r.2)=_
 cases x.get loc .leaf tm with
 | none=>rfl
 | some v =>
  show ob (Bool.rec (motive:=fun _=>dA) (some (aJ,h)) (i.ev loc .leaf tm call h.next h) (wanted w v)) (fun r=>aT is tm call (r.1::loc) r.2)=match wanted w v with | true=>_ | false=>_
  cases wanted w v <;> rfl
theorem zfm:aT (⟨none,.mv x⟩::is) tm call loc h=match x.get loc .leaf tm with
  | none=>none
  | some v=>aT is tm call (v::loc) h:=by
 show ob (ob (x.get loc .leaf tm) fun v=>some (v,h)) (fun r=>aT is tm call (r.1::loc) r.2)=_
 cases x.get loc .leaf tm <;> rfl
theorem zfn {f:AV->Option AV}:aT (⟨none,.p1 f x⟩::is) tm call loc h=match x.get loc .leaf tm with
  | none=>none
  | some a=>match f a with
   | none=>none
   | some v=>aT is tm call (v::loc) h:=by
 show ob (ob (x.get loc .leaf tm) fun v=>ob (f v) fun r=>some (r,h)) (fun r=>aT is tm call (r.1::loc) r.2)=_
 cases x.get loc .leaf tm with
 | none=>rfl
 | some a=>show ob (ob (f a) fun r=>some (r,h)) _=match f a with | none=>none | some v=>_;cases f a <;> rfl
theorem zfo {f:AV->AV->Option AV}:aT (⟨none,.p2 f x y⟩::is) tm call loc h=match x.get loc .leaf tm with
  | none=>none
  | some a=>match y.get loc .leaf tm with
   | none=>none
   | some b=>match f a b with
    | none=>none
    | some v=>aT is tm call (v::loc) h:=by
 show ob (ob (x.get loc .leaf tm) fun v=>ob (y.get loc .leaf tm) fun u=>ob (f v u) fun r=>some (r,h)) (fun r=>aT is tm call (r.1::loc) r.2)=_
 cases x.get loc .leaf tm with
 | none=>rfl
 | some a =>
  show ob (ob (y.get loc .leaf tm) fun u=>ob (f a u) fun r=>some (r,h)) _=match y.get loc .leaf tm with | none=>none | some b=>_
  cases y.get loc .leaf tm with
  | none=>rfl
  | some b=>show ob (ob (f a b) fun r=>some (r,h)) _=match f a b with | none=>none | some v=>_;cases f a b <;> rfl
theorem WB:aT (⟨none,.pick x y z⟩::is) tm call loc h=match x.get loc .leaf tm with
  | some (.bool t)=>match (match t with | true=>y.get loc .leaf tm | false=>z.get loc .leaf tm) with
   | none=>none
   | some v=>aT is tm call (v::loc) h
  | _=>none:=by
 show ob (ob (x.get loc .leaf tm) fun v=>cH (fun t=>ob (Bool.rec (motive:=fun _=>Option AV) (z.get loc .leaf tm) (y.get loc .leaf tm) t) fun r=>some (r,h)) v) (fun r=>aT is tm call (r.1::loc) r.2)=_
 cases x.get loc .leaf tm with
 | none=>rfl
 | some v =>
  cases v with
  | bool t =>
   cases t with
   | true=>show ob (ob (y.get loc .leaf tm) fun r=>some (r,h)) _=match y.get loc .leaf tm with | none=>none | some v=>_;cases y.get loc .leaf tm <;> rfl
   | false=>show ob (ob (z.get loc .leaf tm) fun r=>some (r,h)) _=match z.get loc .leaf tm with | none=>none | some v=>_;cases z.get loc .leaf tm <;> rfl
  | _=>rfl
theorem zfp {f:List AV->Option AV}:aT (⟨none,.pn f xs⟩::is) tm call loc h=match be xs loc .leaf tm with
  | none=>none
  | some us=>match f us with
   | none=>none
   | some v=>aT is tm call (v::loc) h:=by
 show ob (ob (be xs loc .leaf tm) fun us=>ob (f us) fun r=>some (r,h)) (fun r=>aT is tm call (r.1::loc) r.2)=_
 cases be xs loc .leaf tm with
 | none=>rfl
 | some a=>show ob (ob (f a) fun r=>some (r,h)) _=match f a with | none=>none | some v=>_;cases f a <;> rfl
theorem zcF:aT (⟨none,.ld1 x⟩::is) tm call loc h=match x.get loc .leaf tm with
  | none=>none
  | some a=>match am h a with
   | none=>none
   | some v=>aT is tm call (v::loc) h:=by
 show ob (ob (x.get loc .leaf tm) fun v=>ob (am h v) fun r=>some (r,h)) (fun r=>aT is tm call (r.1::loc) r.2)=_
 cases x.get loc .leaf tm with
 | none=>rfl
 | some a=>show ob (ob (am h a) fun r=>some (r,h)) _=match am h a with | none=>none | some v=>_;cases am h a <;> rfl
theorem zcG {s:Nat}:aT (⟨none,.ldn s x⟩::is) tm call loc h=match x.get loc .leaf tm with
  | none=>none
  | some a=>match di s h a with
   | none=>none
   | some v=>aT is tm call (v::loc) h:=by
 show ob (ob (x.get loc .leaf tm) fun v=>ob (di s h v) fun r=>some (r,h)) (fun r=>aT is tm call (r.1::loc) r.2)=_
 cases x.get loc .leaf tm with
 | none=>rfl
 | some a=>show ob (ob (di s h a) fun r=>some (r,h)) _=match di s h a with | none=>none | some v=>_;cases di s h a <;> rfl
theorem zfq {f:List AV->ac->Option AV}:aT (⟨none,.rd f xs⟩::is) tm call loc h=match be xs loc .leaf tm with
  | none=>none
  | some us=>match f us h with
   | none=>none
   | some v=>aT is tm call (v::loc) h:=by
 show ob (ob (be xs loc .leaf tm) fun us=>ob (f us h) fun r=>some (r,h)) (fun r=>aT is tm call (r.1::loc) r.2)=_
 cases be xs loc .leaf tm with
 | none=>rfl
 | some a=>show ob (ob (f a h) fun r=>some (r,h)) _=match f a h with | none=>none | some v=>_;cases f a h <;> rfl
theorem zfi {f:List AV->Option (cX×(Nat->AV))}:aT (⟨none,.al f xs⟩::is) tm call loc h=match be xs loc .leaf tm with
  | none=>none
  | some us=>match f us with
   | none=>none
   | some (b,v)=>aT is tm call (v h.next::loc) (h.new h.next b):=by
 show ob (ob (be xs loc .leaf tm) fun us=>ob (f us) fun r=>some (r.2 h.next,h.new h.next r.1)) (fun r=>aT is tm call (r.1::loc) r.2)=_
 cases be xs loc .leaf tm with
 | none=>rfl
 | some a=>show ob (ob (f a) fun r=>some (r.2 h.next,h.new h.next r.1)) _=match f a with | none=>none | some (b,v)=>_;cases f a <;> rfl
theorem zcI:aT (⟨none,.st1 x y⟩::is) tm call loc h=match x.get loc .leaf tm with
  | none=>none
  | some a=>match y.get loc .leaf tm with
   | none=>none
   | some b=>match aW h a b with
    | none=>none
    | some (v,h')=>aT is tm call (v::loc) h':=by
 show ob (ob (x.get loc .leaf tm) fun p=>ob (y.get loc .leaf tm) fun v=>aW h p v) (fun r=>aT is tm call (r.1::loc) r.2)=_
 cases x.get loc .leaf tm with
 | none=>rfl
 | some a =>
  show ob (ob (y.get loc .leaf tm) fun v=>aW h a v) _=match y.get loc .leaf tm with | none=>none | some b=>_
  cases y.get loc .leaf tm with
  | none=>rfl
  | some b=>show ob (aW h a b) _=match aW h a b with | none=>none | some (v,h')=>_;cases aW h a b <;> rfl
theorem zfk {f:List AV->Nat->ac->Option (AV×ac)}:aT (⟨none,.ef f xs⟩::is) tm call loc h=match be xs loc .leaf tm with
  | none=>none
  | some us=>match f us h.next h with
   | none=>none
   | some (v,h')=>aT is tm call (v::loc) h':=by
 show ob (ob (be xs loc .leaf tm) fun us=>f us h.next h) (fun r=>aT is tm call (r.1::loc) r.2)=_
 cases be xs loc .leaf tm with
 | none=>rfl
 | some a=>show ob (f a h.next h) _=match f a h.next h with | none=>none | some (v,h')=>_;cases f a h.next h <;> rfl
theorem zfj:aT (⟨none,.cl x xs⟩::is) tm call loc h=match x.get loc .leaf tm with
  | none=>none
  | some g=>match be xs loc .leaf tm with
   | none=>none
   | some us=>match gF call us h g with
    | none=>none
    | some (v,h')=>aT is tm call (v::loc) h':=by
 show ob (ob (x.get loc .leaf tm) fun f=>ob (be xs loc .leaf tm) fun us=>gF call us h f) (fun r=>aT is tm call (r.1::loc) r.2)=_
 cases x.get loc .leaf tm with
 | none=>rfl
 | some g =>
  show ob (ob (be xs loc .leaf tm) fun us=>gF call us h g) _=match be xs loc .leaf tm with | none=>none | some us=>_
  cases be xs loc .leaf tm with
  | none=>rfl
  | some us=>show ob (gF call us h g) _=match gF call us h g with | none=>none | some (v,h')=>_;cases gF call us h g <;> rfl
end
abbrev Xh (c:AC) (is:List aw) (outs:List (Nat×bN)):Prop:=∀ call lf nt f ro k tm h Q,run call lf nt f ro c k tm h Q=match aT is tm call [] h with
 | none=>False
 | some (loc,h')=>match bf outs loc tm tm with
  | none=>False
  | some tm'=>ret call lf nt f ro .normal k tm' h' Q
theorem zg0 {c:AC} {is:List aw} {outs:List (Nat×bN)} (hc:c=.reg is outs):Xh c is outs:=fun call lf nt f ro k tm h Q=>by
 subst hc
 rw [WD]
 cases aT is tm call [] h with
 | none=>rfl
 | some r =>
  obtain ⟨loc,h'⟩:=r
  show (match bf outs loc tm tm with | some tm'=>ret call lf nt f ro .normal k tm' h' Q | none=>False)=(match bf outs loc tm tm with | none=>False | some tm'=>ret call lf nt f ro .normal k tm' h' Q)
  cases bf outs loc tm tm <;> rfl
theorem zg1 {c a b:AC} (hc:c=.seq a b):Uc c a b:=by subst hc;exact zfg
theorem zgY {c a:AC} {id:Nat} (hc:c=.block id a):T9 c id a:=by subst hc;exact zfd
theorem zgZ {c a b:AC} {t:Nat} (hc:c=.cond (.tmp t) a b):Ua c t a b:=by subst hc;exact zfe
theorem zeV {a b:AC}:Uc (.seq a b) a b:=zfg
theorem zeT {a:AC} {id:Nat}:T9 (.block id a) id a:=zfd
theorem zeU {a b:AC} {t:Nat}:Ua (.cond (.tmp t) a b) t a b:=zfe
theorem zbJ {call:an} {lf nt:Nat} {f:FuncId} {ro:Option Nat} {k:List Wt} {tm:Tr AV} {h:ac} {Q:XQ} {a b:AC} {t:Bool}:run call lf nt f ro (.cond (.cst (.bool t)) a b) k tm h Q=match t with | true=>run call lf nt f ro a k tm h Q | false=>run call lf nt f ro b k tm h Q:=by
 rw [zQ (t:=t) rfl];cases t <;> simp
structure Tg {α β : Type} (f:α->Option β) where
def tg {α β : Type} {f:α->Option β}:Tg f:=⟨⟩
def B {α β : Type} (x:Option α) (f:α->Option β) (_:Tg f):Option β:=match x with
 | none=>none
 | some a=>f a
theorem zaU {α β : Type} {a:α} {f:α->Option β} {t:Tg f}:B (some a) f t=f a:=by
 have h:∀ x:Option α,x=some a->B x f t=f a:=fun x hx=>by subst hx;rfl
 exact h _ rfl
structure Tk {α : Type} (f:α->Bool) where
def tk {α : Type} {f:α->Bool}:Tk f:=⟨⟩
def Ck {α : Type} (x:Option α) (f:α->Bool) (_:Tk f):Bool:=match x with
 | none=>false
 | some a=>f a
theorem T2 {α : Type} {a:α} {f:α->Bool} {t:Tk f}:Ck (some a) f t=f a:=by
 have h:∀ x:Option α,x=some a->Ck x f t=f a:=fun x hx=>by subst hx;rfl
 exact h _ rfl
def cJ (w:Bool) (v:AV) (e:Option AV):Option AV:=match wanted w v with
 | true=>e
 | false=>some aJ
theorem zdc {w:Bool} {v:AV} {e:Option AV}:cJ w v e=match wanted w v with
 | true=>e
 | false=>some aJ:=by unfold cJ;cases wanted w v <;> rfl
def kn.q (i:kn) (vs tm:Tr AV) (id:Nat) (h:ac):Option AV :=
 kn.rec (motive:=fun _=>Option AV) (fun x=>x.get [] vs tm) (fun f x=>ob (x.get [] vs tm) f) (fun f x y=>ob (x.get [] vs tm) fun a=>ob (y.get [] vs tm) fun b=>f a b)
  (fun c a b=>ob (c.get [] vs tm) fun v=>cH (fun t=>Bool.rec (motive:=fun _=>Option AV) (b.get [] vs tm) (a.get [] vs tm) t) v)
  (fun f xs=>ob (be xs [] vs tm) f) (fun x=>ob (x.get [] vs tm) (am h)) (fun s x=>ob (x.get [] vs tm) (di s h)) (fun f xs=>ob (be xs [] vs tm) fun us=>f us h)
  (fun f xs=>ob (be xs [] vs tm) fun us=>ob (f us) fun r=>some (r.2 id)) (fun _ _=>none) (fun _ _=>none) (fun _ _=>none) none i
theorem gS {α : Type} {h:ac} (x:Option α):ob (ob x fun r=>some (r,h)) (fun r=>some r.1)=x:=by cases x <;> rfl
theorem kn.q_eq (i:kn) (vs tm:Tr AV) (id:Nat) (h:ac):i.q vs tm id h=i.quiet vs tm id h:=by
 cases i with
 | mv x=>exact (gS (h:=h) (x.get [] vs tm)).symm
 | p1 f x =>
  show ob (x.get [] vs tm) f=ob (ob (x.get [] vs tm) fun v=>ob (f v) fun r=>some (r,h)) fun r=>some r.1
  cases x.get [] vs tm with
  | none=>rfl
  | some a=>exact (gS (h:=h) (f a)).symm
 | p2 f x y =>
  show (ob (x.get [] vs tm) fun a=>ob (y.get [] vs tm) fun b=>f a b)=ob (ob (x.get [] vs tm) fun v=>ob (y.get [] vs tm) fun u=>ob (f v u) fun r=>some (r,h)) fun r=>some r.1
  cases x.get [] vs tm with
  | none=>rfl
  | some a =>
   show (ob (y.get [] vs tm) fun b=>f a b)=ob (ob (y.get [] vs tm) fun u=>ob (f a u) fun r=>some (r,h)) fun r=>some r.1
   cases y.get [] vs tm with
   | none=>rfl
   | some b=>exact (gS (h:=h) (f a b)).symm
 | pick c a b =>
  show (ob (c.get [] vs tm) fun v=>cH (fun t=>Bool.rec (motive:=fun _=>Option AV) (b.get [] vs tm) (a.get [] vs tm) t) v)=ob (ob (c.get [] vs tm) fun v=>cH (fun t=>ob (Bool.rec (motive:=fun _=>Option AV) (b.get [] vs tm) (a.get [] vs tm) t) fun r=>some (r,h)) v) fun r=>some r.1
  cases c.get [] vs tm with
  | none=>rfl
  | some v =>
   cases v with
   | bool t=>cases t;exact (gS (h:=h) (b.get [] vs tm)).symm;exact (gS (h:=h) (a.get [] vs tm)).symm
   | _=>rfl
 | pn f xs =>
  show ob (be xs [] vs tm) f=ob (ob (be xs [] vs tm) fun v=>ob (f v) fun r=>some (r,h)) fun r=>some r.1
  cases be xs [] vs tm with
  | none=>rfl
  | some a=>exact (gS (h:=h) (f a)).symm
 | ld1 x =>
  show ob (x.get [] vs tm) (am h)=ob (ob (x.get [] vs tm) fun v=>ob (am h v) fun r=>some (r,h)) fun r=>some r.1
  cases x.get [] vs tm with
  | none=>rfl
  | some a=>exact (gS (h:=h) (am h a)).symm
 | ldn s x =>
  show ob (x.get [] vs tm) (di s h)=ob (ob (x.get [] vs tm) fun v=>ob (di s h v) fun r=>some (r,h)) fun r=>some r.1
  cases x.get [] vs tm with
  | none=>rfl
  | some a=>exact (gS (h:=h) (di s h a)).symm
 | rd f xs =>
  show (ob (be xs [] vs tm) fun us=>f us h)=ob (ob (be xs [] vs tm) fun us=>ob (f us h) fun r=>some (r,h)) fun r=>some r.1
  cases be xs [] vs tm with
  | none=>rfl
  | some a=>exact (gS (h:=h) (f a h)).symm
 | _=>rfl
def aw.q (x:aw) (vs tm:Tr AV) (id:Nat) (h:ac):Option AV :=
 Option.rec (motive:=fun _=>Option AV) (x.i.q vs tm id h)
  (fun g=>ob (g.1.get [] vs tm) fun v=>Bool.rec (motive:=fun _=>Option AV) (some aJ) (x.i.q vs tm id h) (wanted g.2 v)) x.g
theorem aw.q_eq (x:aw) (vs tm:Tr AV) (id:Nat) (h:ac):x.q vs tm id h=x.quiet vs tm id h:=by
 unfold aw.q aw.quiet
 rw [kn.q_eq]
def oQ (base:Nat) (tm vs:Tr AV) (own:Nat×aw->List (Nat×aw)) (h:ac) (x:Nat×aw):Option AV :=
 ob (ck base tm vs (own x) h) fun hx=>x.2.q vs tm (Nat.add base x.1) hx
theorem uQ (base:Nat) (tm vs:Tr AV) (own:Nat×aw->List (Nat×aw)) (h:ac) (x:Nat×aw):oQ base tm vs own h x=fj base tm vs own h x:=by
 unfold oQ fj
 congr 1
 funext hx
 exact aw.q_eq ..
def UA (base:Nat) (tm vs:Tr AV) (h:ac) (own:Nat×aw->List (Nat×aw)) (l:List (Nat×aw)):Bool :=
 List.rec (motive:=fun _=>Bool) true (fun x _ ih=>Option.rec (motive:=fun _=>Bool) false (fun v=>Option.rec (motive:=fun _=>Bool) false (fun u=>bT (AV.same v u) ih) (vs.gt x.1)) (oQ base tm vs own h x)) l
theorem HY (base:Nat) (tm vs:Tr AV) (h:ac) (own:Nat×aw->List (Nat×aw)):∀ l,UA base tm vs h own l=i8 base tm vs h own l
 | []=>rfl
 | x::l=>by
  show (Option.rec (motive:=fun _=>Bool) false (fun v=>Option.rec (motive:=fun _=>Bool) false (fun u=>bT (AV.same v u) (UA base tm vs h own l)) (vs.gt x.1)) (oQ base tm vs own h x):Bool)=_
  rw [uQ,HY base tm vs h own l];rfl
section
variable {β : Type}
def Sf (base:Nat) (tm:Tr AV) (h:ac) (own:Nat×aw->List (Nat×aw)) (l:List (Nat×aw)) (kf:Tr AV->Option β):Tr AV->Option β :=
 List.rec (motive:=fun _=>Tr AV->Option β) kf (fun x _ ih vs=>ob (oQ base tm vs own h x) fun v=>ih (vs.up (some v) x.1)) l
theorem H1 (base:Nat) (tm:Tr AV) (h:ac) (own:Nat×aw->List (Nat×aw)) (kf:Tr AV->Option β):∀ l vs,Sf base tm h own l kf vs=ob (gM base tm h own l vs) kf
 | [],_=>rfl
 | x::l,vs=>by
  show ob (oQ base tm vs own h x) (fun v=>Sf base tm h own l kf (vs.up (some v) x.1))=ob (ob (fj base tm vs own h x) fun v=>gM base tm h own l (vs.up (some v) x.1)) kf
  rw [uQ]
  cases fj base tm vs own h x with
  | none=>rfl
  | some v=>exact H1 base tm h own kf l _
def uI (base:Nat) (tm vs:Tr AV) (l:List (Nat×aw)) (kf:ac->Option β):ac->Option β :=
 List.rec (motive:=fun _=>ac->Option β) kf (fun x _ ih h=>ob (x.2.blk vs tm) fun b=>Option.rec (motive:=fun _=>Option β) (ih h) (fun b=>ih (ac.mk (h.bs.up (some b) (Nat.add base x.1)) h.next)) b) l
theorem zl (base:Nat) (tm vs:Tr AV) (kf:ac->Option β):∀ l h,uI base tm vs l kf h=ob (ck base tm vs l h) kf
 | [],_=>rfl
 | x::l,h=>by
  show ob (x.2.blk vs tm) (fun b=>Option.rec (motive:=fun _=>Option β) (uI base tm vs l kf h) (fun b=>uI base tm vs l kf (ac.mk (h.bs.up (some b) (Nat.add base x.1)) h.next)) b)=ob (ob (x.2.blk vs tm) fun b=>Option.rec (motive:=fun _=>Option ac) (ck base tm vs l h) (fun b=>ck base tm vs l (ac.mk (h.bs.up (some b) (Nat.add base x.1)) h.next)) b) kf
  cases x.2.blk vs tm with
  | none=>rfl
  | some b=>cases b <;> exact zl base tm vs kf l _
def zaY (tm vs:Tr AV) (call:an) (h:ac) (kf:Tr AV->ac->Option β) (a:Option (Nat×aw)):Option β :=
 Option.rec (motive:=fun _=>Option β) (kf vs h) (fun x=>ob (x.2.ev [] vs tm call h.next h) fun r=>kf (vs.up (some r.1) x.1) r.2) a
def nZ (base:Nat) (tm:Tr AV) (call:an) (ss:List gk) (kf:Tr AV->ac->Option β):Tr AV->ac->Option β :=
 List.rec (motive:=fun _=>Tr AV->ac->Option β) kf (fun s _ ih vs h=>aV (UA base tm vs h s.own s.cks) (Sf base tm h s.own s.evs (fun vs=>uI base tm vs s.mats (fun h=>zaY tm vs call h ih s.act) h) vs)) ss
theorem mQ (base:Nat) (tm:Tr AV) (call:an) (kf:Tr AV->ac->Option β):∀ ss vs h,nZ base tm call ss kf vs h=ob (bw base tm call ss vs h) fun r=>kf r.1 r.2
 | [],_,_=>rfl
 | s::ss,vs,h=>by
  show aV (UA base tm vs h s.own s.cks) (Sf base tm h s.own s.evs (fun vs=>uI base tm vs s.mats (fun h=>zaY tm vs call h (nZ base tm call ss kf) s.act) h) vs)=ob (aV (i8 base tm vs h s.own s.cks) (ob (gM base tm h s.own s.evs vs) fun vs=>ob (ck base tm vs s.mats h) fun h=>sL tm vs call h (bw base tm call ss) s.act)) fun r=>kf r.1 r.2
  rw [HY]
  cases i8 base tm vs h s.own s.cks with
  | false=>rfl
  | true =>
   show Sf base tm h s.own s.evs _ vs=ob (ob (gM base tm h s.own s.evs vs) _) _
   rw [H1]
   cases gM base tm h s.own s.evs vs with
   | none=>rfl
   | some vs =>
    show uI base tm vs s.mats _ h=ob (ob (ck base tm vs s.mats h) _) _
    rw [zl]
    cases ck base tm vs s.mats h with
    | none=>rfl
    | some h =>
     show zaY tm vs call h (nZ base tm call ss kf) s.act=ob (sL tm vs call h (bw base tm call ss) s.act) _
     cases s.act with
     | none=>exact mQ base tm call kf ss vs h
     | some x =>
      show ob (x.2.ev [] vs tm call h.next h) (fun r=>nZ base tm call ss kf (vs.up (some r.1) x.1) r.2)=ob (ob (x.2.ev [] vs tm call h.next h) fun r=>bw base tm call ss (vs.up (some r.1) x.1) r.2) _
      cases x.2.ev [] vs tm call h.next h with
      | none=>rfl
      | some r=>exact mQ base tm call kf ss _ _
end
theorem b8 {c:AC} {n:Nat} {ss:List gk} {outs:List (Nat×Nat)} {E:an->Tr AV->ac->Option (Tr AV×ac)} (hc:c=.draw n ss outs)
  (hE:(fun call tm h=>E call tm h)=fun call tm h=>nZ h.next tm call ss (fun vs h'=>ob (bP outs vs tm) fun tm'=>some (tm',h')) .leaf ⟨h.bs,Nat.add h.next n⟩):bY c E:=by
 subst hc
 refine zg8 ?_
 rw [hE]
 funext call tm h
 exact mQ h.next tm call _ ss .leaf _
end
end Go.Am
namespace Go.Am
section
variable {P:Program} {t e:TypeId} {k l:IntKind} {s:Nat}
theorem VW {a b:Int} (h:b≠0):Kl k a b=some (.int k (k.wrap (a.tdiv b))):=by
 cases a with
 | ofNat x =>
  cases b with
  | ofNat y =>
   cases y with
   | zero=>exact absurd rfl h
   | succ y=>show oI k (Nat.div x (y+1))=_;rw [jC];rfl
  | negSucc y=>show iP k _ _=_;unfold iP;rw [if_neg h];rfl
 | negSucc x=>show iP k _ _=_;unfold iP;rw [if_neg h];rfl
theorem un {a b:Int} (h:b≠0):ag P .quo t (.int k a) (.int k b)=some (.int k (k.wrap (a.tdiv b))):=by
 show qi k k (Kl k a b)=_;rw [cy,VW h]
theorem CL {g:Nat->Nat->Nat} {f:IntKind->Int->Int->Option AV} {x y:Nat} (hx:x<=dG k) (hy:y<=dG k):ox g f k (x:Int) (y:Int)=some (.int k (k.wrap ((g x y:Nat):Int))):=by
 show (Bool.rec (motive:=fun _=>Option AV) (f k x y) (Bool.rec (motive:=fun _=>Option AV) (f k x y) (oI k (g x y)) (Nat.ble y (dG k))) (Nat.ble x (dG k)):Option AV)=_
 rw [Nat.ble_eq_true_of_le hx,Nat.ble_eq_true_of_le hy]
 show oI k (g x y)=_
 rw [jC]
theorem zdh {x y:Nat} (hx:x<=dG k) (hy:y<=dG k):ag P .and t (.int k (x:Int)) (.int k (y:Int))=some (.int k (k.wrap ((x&&&y:Nat):Int))):=by
 show qi k k (ox Nat.land xI k x y)=_;rw [cy,CL hx hy];rfl
theorem zgb {x y:Nat} (hx:x<=dG k) (hy:y<=dG k):ag P .or t (.int k (x:Int)) (.int k (y:Int))=some (.int k (k.wrap ((x|||y:Nat):Int))):=by
 show qi k k (ox Nat.lor orS k x y)=_;rw [cy,CL hx hy];rfl
theorem zdp {a:Int} {n:Nat} (h:n<=k.bits):ag P .shl t (.int k a) (.int l (n:Int))=some (.int k (k.wrap (a*2^n))):=by
 show zR k a (n:Int)=_
 unfold zR
 rw [if_neg (by omega),show min (n:Int).toNat k.bits=n by omega];rfl
theorem tz {n:Int} (h:0<=n) (h':n<=18446744073709551615):IntKind.u64.wrap n=n:=by
 simp [IntKind.wrap,IntKind.signed,IntKind.bits]
 omega
theorem zcO {n b o:Nat} (hu:P.underlying t=some (.array n e)) (hs:aC P e=some s):aU P t false false false [.ptr (some (b,o))]=some (.slice (some (b,o)) n n none):=by
 show bZ P t (.ptr (some (b,o))) none none none=_
 unfold bZ;rw [hu];simp only [hs]
 show some (AV.slice (some (b,o+0*s)) (n - 0) (n - 0) none)=_
 rw [Nat.zero_mul,Nat.add_zero,Nat.sub_zero]
theorem KE {n b o hi:Nat} (hu:P.underlying t=some (.array n e)) (hs:aC P e=some s) (h:hi<=n):aU P t false true false [.ptr (some (b,o)),.int k (hi:Int)]=some (.slice (some (b,o)) hi n none):=by
 show bZ P t (.ptr (some (b,o))) none (some (.int k (hi:Int))) none=_
 unfold bZ;rw [hu];simp only [hs]
 show bF n n (some (.int k (hi:Int))) (fun x=>some (.slice (some (b,o+0*s)) (x - 0) (n - 0) none))=_
 rw [cZ h,Nat.zero_mul,Nat.add_zero,Nat.sub_zero];rfl
theorem lJ (l:List Nat):(l.map aQ).all AV.one=true:=by
 rw [List.all_eq_true];intro x hx;obtain ⟨i,_,rfl⟩:=List.mem_map.1 hx;rfl
theorem Cc {c:Nat} (h:c<256):iU (aQ c)=some c:=by
 show aV true (aV (Nat.ble c 255) (some c))=_
 rw [show Nat.ble c 255=true from Nat.ble_eq_true_of_le (by omega)];rfl
theorem qU:∀ {l:List Nat},(∀ c,c∈l->c<256)->f9 (l.map aQ)=some l
 | [],_=>rfl
 | c::l,h=>by
  show (Option.rec (motive:=fun _=>Option (List Nat)) none (fun c=>Option.rec (motive:=fun _=>Option (List Nat)) none (fun l=>some (c::l)) (f9 (l.map aQ))) (iU (aQ c)):Option (List Nat))=_
  rw [Cc (h c (List.mem_cons_self ..)),qU fun x hx=>h x (List.mem_cons_of_mem _ hx)]
theorem SQ (hu:P.underlying e=some (.int .u8)) {h:ac} {b o n c:Nat} {g:Option Nat} {m:List Nat} (hb:∀ c,c∈m->c<256) (hl:h.ld b o n=some (m.map aQ)):jr P e (.slice (some (b,o)) n c g) h=some (.str m):=by
 unfold jr;rw [hu];simp only [hl,qU hb];rfl
theorem R9 (hu:P.underlying t=some (.slice e)) (hs:aC P e=some s) {h:ac} {b o n c:Nat} {g:Option Nat} {vs z:List AV} {m:List Nat} (hr:Rw h b vs z false) (hm:m.length<=n) (ho:o+m.length<=vs.length) :
  ∃ h',kI P t (.slice (some (b,o)) n c g) (.str m) h=some (.int .i64 (m.length:Int),h')/\Rw h' b (eD vs o (m.map aQ)) z false/\h'.next=h.next/\∀ c,c≠b->h'.bs.gt c=h.bs.gt c:=by
 obtain ⟨a,b',d,e'⟩:=hr.sto (o:=o) (us:=m.map aQ) (by simpa using ho) (lJ m)
 refine ⟨_,?_,b',d,e'⟩
 unfold kI
 rw [hu];simp only [hs]
 show (Option.rec (motive:=fun _=>Option (AV×ac)) none (fun src=>ju (.int .i64 (Int.ofNat src.2)) (h.sto b o src.1)) (cI s (fun x=>jq x n) (.str m) h):Option (AV×ac))=_
 have hmin:jq m.length n=m.length:=by
  show (Bool.rec (motive:=fun _=>Nat) n m.length (Nat.ble m.length n):Nat)=_
  rw [show Nat.ble m.length n=true from Nat.ble_eq_true_of_le hm]
 have:cI s (fun x=>jq x n) (.str m) h=some (m.map aQ,m.length):=by
  show some (kz (gC (jq (bp m) n) m),jq (bp m) n)=_
  rw [aO,hmin,eG,List.take_length,lI]
 rw [this]
 show ju (.int .i64 (Int.ofNat m.length)) (h.sto b o (m.map aQ))=_
 rw [a];rfl
theorem UD (hu:P.underlying t=some (.slice e)) (hs:aC P e=some s) {h:ac} {b o n c b2 o2 n2 c2:Nat} {g g2:Option Nat} {vs z us:List AV} (hr:Rw h b vs z false) (hn:n2<=n) (h0:0<n2) (hl:h.ld b2 o2 (n2*s)=some us) (h1:us.all AV.one=true) (ho:o+us.length<=vs.length) :
  ∃ h',kI P t (.slice (some (b,o)) n c g) (.slice (some (b2,o2)) n2 c2 g2) h=some (.int .i64 (n2:Int),h')/\Rw h' b (eD vs o us) z false/\h'.next=h.next/\∀ c,c≠b->h'.bs.gt c=h.bs.gt c:=by
 obtain ⟨a,b',d,e'⟩:=hr.sto (o:=o) (us:=us) ho h1
 refine ⟨_,?_,b',d,e'⟩
 unfold kI
 rw [hu];simp only [hs]
 show (Option.rec (motive:=fun _=>Option (AV×ac)) none (fun src=>ju (.int .i64 (Int.ofNat src.2)) (h.sto b o src.1)) (cI s (fun x=>jq x n) (.slice (some (b2,o2)) n2 c2 g2) h):Option (AV×ac))=_
 have hmin:jq n2 n=n2:=by
  show (Bool.rec (motive:=fun _=>Nat) n n2 (Nat.ble n2 n):Nat)=_
  rw [show Nat.ble n2 n=true from Nat.ble_eq_true_of_le hn]
 have:cI s (fun x=>jq x n) (.slice (some (b2,o2)) n2 c2 g2) h=some (us,n2):=by
  show (Bool.rec (motive:=fun _=>Option (List AV×Nat)) (Option.rec (motive:=fun _=>Option (List AV×Nat)) none (fun vs=>some (vs,jq n2 n)) (h.ld b2 o2 (jq n2 n*s))) (some ([],0)) (Nat.beq n2 0):Option (List AV×Nat))=_
  rw [hmin,hl]
  cases n2 with
  | zero=>omega
  | succ n2=>rfl
 rw [this]
 show ju (.int .i64 (Int.ofNat n2)) (h.sto b o us)=_
 rw [a];rfl
theorem IZ {by':Nat} {z:AV} (hu:P.underlying t=some (.slice e)) (hs:aC P e=some s) (hz:cd P e=some z) (hb:cF P e=some by') (hzl:z.cells.length=s) (h1:z.cells.all AV.one=true) {n:Nat} (hn:n<1099511627776) (hby:by'*n<=140737488355328) :
  dE P t (.int k (n:Int)) (.int l (n:Int))=some (.cells .leaf z.cells (n*s) false,fun b=>.slice (some (b,0)) n n none):=by
 unfold dE
 rw [hu];simp only [hs,hz,hb]
 show (if 0<=(n:Int)/\(n:Int)<=(n:Int)/\(n:Int)<2^40/\(by':Int)*(n:Int)<=2^47/\z.cells.length=s/\bO z.cells=true then some (cX.cells .leaf z.cells ((n:Int).toNat*s) false,fun b=>AV.slice (some (b,0)) (n:Int).toNat (n:Int).toNat none) else none)=_
 rw [if_pos ⟨by omega,by omega,by omega,by rw [← Int.natCast_mul];omega,hzl,by rw [bI];exact h1⟩];rfl
theorem nz (z:List AV) (hz:0<z.length):∀ (n i:Nat),i<n*z.length->(List.replicate n z).flatten[i]?=z[i%z.length]?
 | 0,i,h=>by omega
 | n+1,i,h=>by
  rw [List.replicate_succ,List.flatten_cons]
  by_cases hi:i<z.length
  ·rw [List.getElem?_append_left hi,Nat.mod_eq_of_lt hi]
  ·rw [List.getElem?_append_right (by omega),nz z hz n (i - z.length) (by rw [Nat.succ_mul] at h;omega),← Nat.mod_eq_sub_mod (by omega)]
theorem nB (z:List AV) (n:Nat):(List.replicate n z).flatten.length=n*z.length:=by
 induction n with
 | zero=>simp
 | succ n ih=>rw [List.replicate_succ,List.flatten_cons,List.length_append,ih,Nat.succ_mul];omega
theorem Rw.zeros (h:ac) {id n s:Nat} {z:List AV} {ro:Bool} (hid:h.next<=id) (hs:z.length=s) (h0:0<s) :
  ∃ h1,h.new id (.cells .leaf z (n*s) ro)=h1/\Rw h1 id (List.replicate n z).flatten z ro/\h1.next=id+1/\∀ c,c≠id->h1.bs.gt c=h.bs.gt c:=by
 subst hs
 refine ⟨_,rfl,⟨.leaf,?_,fun i hi=>?_⟩,cM hid _,fun c hc=>by rw [bX hid,if_neg hc]⟩
 ·rw [bX hid,if_pos rfl,nB]
 ·rw [nB] at hi
  rw [nz z h0 n i hi]
  unfold aR
  rw [gt_leaf]
  show SO z (i%bp z)=_
  rw [mK,aO]
end
theorem R4 {P:Program} {keep:aK} {prims:Prims} {lf n:Nat} {f:FuncId} {k:cA} {args:List AV} {h:ac} (Q:AV->ac->Prop)
  (hk:ci P keep f=some k) (hp:prims.fn f args h=none) (hl:args.length<=k.nt)
  (hrun:∀ Q':XQ,(∀ e tm h h' vs,(e=.normal∨e=.ret)->gI P keep lf (callN P keep prims lf n) k.nt ⟨tm,h⟩=some h'->dz P k.res ⟨tm,h'⟩=some vs->Q (dV vs) h'->Q' e tm h)->run (callN P keep prims lf n) lf k.nt f none k.code [] (az args .leaf 0) h Q') :
  WC (callN P keep prims lf (n+1) (.fn f) args h) Q:=by
 have hr:=hrun (fun e tm h=>(e=.normal∨e=.ret)/\∃ h',gI P keep lf (callN P keep prims lf n) k.nt ⟨tm,h⟩=some h'/\∃ vs,dz P k.res ⟨tm,h'⟩=some vs/\Q (dV vs) h') (fun e tm h h' vs h1 h2 h3 h4=>⟨h1,h',h2,vs,h3,h4⟩)
 unfold run at hr
 show WC (Option.rec (motive:=fun _=>dA) (ob (ci P keep f) fun k=>aV (Nat.ble (bp args) k.nt) (ob (aZ (callN P keep prims lf n) lf k.nt f none k.code ⟨az args .leaf 0,h⟩) fun r=>kM P keep lf (callN P keep prims lf n) k.nt k.res r)) (fun r=>r) (prims.fn f args h)) Q
 rw [hp,hk]
 show WC (aV (Nat.ble (bp args) k.nt) (ob (aZ (callN P keep prims lf n) lf k.nt f none k.code ⟨az args .leaf 0,h⟩) fun r=>kM P keep lf (callN P keep prims lf n) k.nt k.res r)) Q
 rw [aO,show Nat.ble args.length k.nt=true from Nat.ble_eq_true_of_le hl]
 show WC (ob (aZ (callN P keep prims lf n) lf k.nt f none k.code ⟨az args .leaf 0,h⟩) fun r=>kM P keep lf (callN P keep prims lf n) k.nt k.res r) Q
 cases he:aZ (callN P keep prims lf n) lf k.nt f none k.code ⟨az args .leaf 0,h⟩ with
 | none=>rw [he] at hr;exact hr.elim
 | some r =>
  rw [he] at hr
  obtain ⟨e,s⟩:=r
  obtain ⟨h1,h',h2,vs,h3,h4⟩:=hr
  have hend:kM P keep lf (callN P keep prims lf n) k.nt k.res (e,s)=some (dV vs,h'):=by
   have:(ob (gI P keep lf (callN P keep prims lf n) k.nt s) fun h=>ob (dz P k.res ⟨s.tm,h⟩) fun vs=>some (dV vs,h))=some (dV vs,h'):=by
    rw [show gI P keep lf (callN P keep prims lf n) k.nt s=some h' from h2]
    show ob (dz P k.res ⟨s.tm,h'⟩) _=_
    rw [show dz P k.res ⟨s.tm,h'⟩=some vs from h3]
   rcases h1 with rfl | rfl
   ·exact this
   ·exact this
  exact ⟨_,_,hend,h4⟩
end Go.Am
namespace Go.Am
noncomputable section
abbrev zf7 (c:AC) (is:List aw) (outs:List (Nat×bN)) (nt:Nat) (xs:List bN):Prop:=∀ call lf nt' f k tm h Q,run call lf nt' f none c k tm h Q=match aT is tm call [] h with
 | none=>False
 | some (loc,h')=>match bf outs loc tm tm with
  | none=>False
  | some tm'=>match be xs loc .leaf tm with
   | none=>False
   | some vs=>match qh vs with
    | true=>ret call lf nt' f none .normal k (tm'.up (some (.tuple (.tuple vs::bt tm' nt))) nt) h' Q
    | false=>False
theorem zeS {c:AC} {is:List aw} {outs:List (Nat×bN)} {nt:Nat} {xs:List bN} (hc:c=.dfr is outs nt xs):zf7 c is outs nt xs:=fun call lf nt' f k tm h Q=>by
 subst hc
 unfold run
 show (match (ob (aT is tm call [] h) fun r=>ob (bf outs r.1 tm tm) fun tm'=>ob (be xs r.1 .leaf tm) fun vs=>aV (qh vs) (some (.normal,⟨tm'.up (some (.tuple (.tuple vs::bt tm' nt))) nt,r.2⟩)):XR) with | some (e,s)=>nR _ Q k e s.tm s.hp | none=>False)=_
 cases aT is tm call [] h with
 | none=>rfl
 | some r =>
  obtain ⟨loc,h'⟩:=r
  show (match (ob (bf outs loc tm tm) fun tm'=>ob (be xs loc .leaf tm) fun vs=>aV (qh vs) (some (.normal,⟨tm'.up (some (.tuple (.tuple vs::bt tm' nt))) nt,h'⟩)):XR) with | some (e,s)=>nR _ Q k e s.tm s.hp | none=>False)=match bf outs loc tm tm with | none=>False | some tm'=>_
  cases bf outs loc tm tm with
  | none=>rfl
  | some tm' =>
   show (match (ob (be xs loc .leaf tm) fun vs=>aV (qh vs) (some (.normal,⟨tm'.up (some (.tuple (.tuple vs::bt tm' nt))) nt,h'⟩)):XR) with | some (e,s)=>nR _ Q k e s.tm s.hp | none=>False)=match be xs loc .leaf tm with | none=>False | some vs=>_
   cases be xs loc .leaf tm with
   | none=>rfl
   | some vs =>
    show (match (aV (qh vs) (some (.normal,⟨tm'.up (some (.tuple (.tuple vs::bt tm' nt))) nt,h'⟩)):XR) with | some (e,s)=>nR _ Q k e s.tm s.hp | none=>False)=match qh vs with | true=>_ | false=>False
    cases qh vs <;> rfl
theorem Kj {tm:Tr AV} {nt:Nat}:bt tm nt=match tm.gt nt with
  | some (.tuple l)=>l
  | _=>[]:=by
 unfold bt
 cases tm.gt nt with
 | none=>rfl
 | some v=>cases v <;> rfl
theorem Vr {f:Nat} {a b:List AV} {l:List AV}:qh (.func (.func f) a b::l)=true:=rfl
theorem J2 {P:Program} {keep:aK} {lf:Nat} {rec:an} {nt i:Nat} {tm:Tr AV} {h h':ac} {caps:List AV} (ht:tm.gt nt=some (.tuple [.tuple [.func (.func i) [] caps]])) (hc:pB P keep lf rec i caps h=some h'):gI P keep lf rec nt ⟨tm,h⟩=some h':=by
 unfold gI
 show (Option.rec (motive:=fun _=>Option ac) (some h) (fun v=>oE (fun ds=>sM P keep lf rec ds h) v) (tm.gt nt):Option ac)=_
 rw [ht]
 show ob (AE P keep lf rec (.tuple [.func (.func i) [] caps]) h) (fun h=>some h)=_
 show ob (pB P keep lf rec i caps h) (fun h=>some h)=_
 rw [hc]
theorem R3 {P:Program} {keep:aK} {prims:Prims} {lf n i:Nat} {k:cA} {caps:List AV} {h:ac} (Q:ac->Prop) (hk:ci P keep i=some k) (hp:k.plain=true) (hl:caps.length<=k.nt)
  (hrun:∀ Q':XQ,(∀ e tm h' vs,(e=.normal∨e=.ret)->dz P k.res ⟨tm,h'⟩=some vs->Q h'->Q' e tm h')->run (callN P keep prims lf n) lf k.nt i none k.code [] (az caps .leaf 0) h Q') :
  ∃ h',pB P keep lf (callN P keep prims lf n) i caps h=some h'/\Q h':=by
 have hr:=hrun (fun e tm h'=>(e=.normal∨e=.ret)/\∃ vs,dz P k.res ⟨tm,h'⟩=some vs/\Q h') (fun e tm h' vs h1 h2 h3=>⟨h1,vs,h2,h3⟩)
 unfold run at hr
 unfold pB
 rw [hk]
 show ∃ h',aV (bT k.plain (Nat.ble (bp caps) k.nt)) (ob (aZ (callN P keep prims lf n) lf k.nt i none k.code ⟨az caps .leaf 0,h⟩) fun r =>
  Ex.rec (motive:=fun _=>Option ac) (ob (dz P k.res r.2) fun _=>some r.2.hp) (ob (dz P k.res r.2) fun _=>some r.2.hp) (fun _=>none) (fun _=>none) r.1)=some h'/\Q h'
 rw [hp,aO,show Nat.ble caps.length k.nt=true from Nat.ble_eq_true_of_le hl]
 show ∃ h',(ob (aZ (callN P keep prims lf n) lf k.nt i none k.code ⟨az caps .leaf 0,h⟩) fun r =>
  Ex.rec (motive:=fun _=>Option ac) (ob (dz P k.res r.2) fun _=>some r.2.hp) (ob (dz P k.res r.2) fun _=>some r.2.hp) (fun _=>none) (fun _=>none) r.1)=some h'/\Q h'
 cases he:aZ (callN P keep prims lf n) lf k.nt i none k.code ⟨az caps .leaf 0,h⟩ with
 | none=>rw [he] at hr;exact hr.elim
 | some r =>
  rw [he] at hr
  obtain ⟨e,s⟩:=r
  obtain ⟨h1,vs,h2,h3⟩:=hr
  refine ⟨s.hp,?_,h3⟩
  have h2:dz P k.res s=some vs:=h2
  rcases h1 with rfl | rfl
  ·show ob (dz P k.res s) (fun _=>some s.hp)=_
   rw [h2]
  ·show ob (dz P k.res s) (fun _=>some s.hp)=_
   rw [h2]
end
end Go.Am
namespace Go.Am
open Go.ChangeShapes Go.WideShapes Go.Deep
def ot {α : Type} (P:Program) (A:TypeId->List α->Prop):List TypeId->List α->Prop
 | [],cs=>cs=[]
 | t::ts,cs=>∃ a b,cs=a++b/\a.length=P.cellsOf t/\A t a/\ot P A ts b
theorem sQ {α : Type} {P:Program} {A:TypeId->List α->Prop} {t1 t2 t3:TypeId} {cs:List α} (h:ot P A [t1,t2,t3] cs):∃ a b c,cs=a++(b++c)/\A t1 a/\A t2 b/\A t3 c:=by
 obtain ⟨a,_,rfl,_,h1,b,_,rfl,_,h2,c,_,rfl,_,h3,rfl⟩:=h
 exact ⟨a,b,c,by rw [List.append_nil],h1,h2,h3⟩
def fT (P:Program) (h:ac):Nat->TypeId->List AV->Prop
 | 0,_,_=>False
 | n+1,t,cs=>match P.underlying t with
  | some .bool=>∃ b,cs=[.bool b]
  | some (.int k)=>∃ i,cs=[.int k i]/\k.min<=i/\i<=k.max
  | some .string=>∃ s,cs=[.str s]/\∀ (i c:Nat),s[i]?=some c->c<256
  | some (.slice e)=>∃ v N rows,cs=[v]/\mX h v N (P.cellsOf e) rows/\ot P (fT P h n) (List.replicate N e) rows
  | some (.struct fs)=>ot P (fT P h n) (fs.toList.map (·.type)) cs
  | some (.array m e)=>ot P (fT P h n) (List.replicate m e) cs
  | _=>False
def pL (P:Program):Nat->List Field->Nat->Bool
 | o,[],m=>o==m
 | o,f::fs,m=>f.offset==o&&pL P (o+P.cellsOf f.type) fs m
def i6 (P:Program):Nat->TypeId->Bool
 | 0,_=>false
 | n+1,t=>match P.underlying t with
  | some .bool=>P.cellsOf t==1
  | some (.int _)=>P.cellsOf t==1
  | some .string=>P.cellsOf t==1
  | some (.slice e)=>P.cellsOf t==1&&(decide (0<P.cellsOf e)&&i6 P n e)
  | some (.struct fs)=>pL P 0 fs.toList (P.cellsOf t)&&fs.toList.all fun f=>i6 P n f.type
  | some (.array m e)=>(m*P.cellsOf e==P.cellsOf t)&&i6 P n e
  | _=>false
structure Jk (W:World) (i:Nat) (A:ac->List AV->Prop) (cvs:List Value) (its:List dh) (cs:List AV):Prop where
 vr:∀ l1 l2:List dh,l1.length=i->bH (vn (l1++its++l2)) cs cvs
 a:∀ l1 l2:List dh,l1.length=i->A (Jr (l1++its++l2)) cs
 ok:∀ l1 l2:List dh,l1.length=i->∀ it,it∈its->Xd W (vn (l1++its++l2)) it
 one:cs.all AV.one=true
section
variable {P:Program} {W:World}
theorem lK {i:Nat} {A B:ac->List AV->Prop} {cvs:List Value} (h:∀ h cs,A h cs->B h cs) (hc:∃ its cs,Jk W i A cvs its cs):∃ its cs,Jk W i B cvs its cs:=by
 obtain ⟨its,cs,⟨v,a,o,n⟩⟩:=hc
 exact ⟨its,cs,⟨v,fun l1 l2 hl=>h _ _ (a l1 l2 hl),o,n⟩⟩
theorem lL {A:ac->TypeId->List AV->Prop} {T:TypeId->List Value->Prop}:∀ (ts:List TypeId) (cvs:List Value),(∀ t,t∈ts->∀ seg,T t seg->∀ i,∃ its cs,Jk W i (fun h=>A h t) seg its cs)->ot P T ts cvs->∀ i,∃ its cs,Jk W i (fun h=>ot P (A h) ts) cvs its cs
 | [],cvs,_,h,i=>⟨[],[],⟨fun _ _ _=>h,fun _ _ _=>rfl,(fun _ _ _ _ h=>by cases h),rfl⟩⟩
 | t::ts,cvs,hA,h,i=>by
  obtain ⟨a,b,rfl,hl,ht,hs⟩:=h
  obtain ⟨its1,cs1,⟨v1,a1,o1,n1⟩⟩:=hA t (List.mem_cons_self ..) a ht i
  obtain ⟨its2,cs2,⟨v2,a2,o2,n2⟩⟩:=lL ts b (fun t' ht'=>hA t' (List.mem_cons_of_mem _ ht')) hs (i+its1.length)
  have e1:∀ l1 l2:List dh,l1++(its1++its2)++l2=l1++its1++(its2++l2):=fun l1 l2=>by simp
  have e2:∀ l1 l2:List dh,l1++(its1++its2)++l2=(l1++its1)++its2++l2:=fun l1 l2=>by simp
  have hl2:∀ l1:List dh,l1.length=i->(l1++its1).length=i+its1.length:=fun l1 h=>by simp [h]
  refine ⟨its1++its2,cs1++cs2,⟨fun l1 l2 h=>bH.append (e1 l1 l2▸v1 l1 _ h) (e2 l1 l2▸v2 _ l2 (hl2 l1 h)),fun l1 l2 h=>⟨cs1,cs2,rfl,?_,e1 l1 l2▸a1 l1 _ h,e2 l1 l2▸a2 _ l2 (hl2 l1 h)⟩,fun l1 l2 h it hit=>?_,by rw [List.all_append,n1,n2];rfl⟩⟩
  ·rw [← hl];exact (v1 l1 [] h).length
  ·rcases List.mem_append.1 hit with hit | hit
   ·exact e1 l1 l2▸o1 l1 _ h it hit
   ·exact e2 l1 l2▸o2 _ l2 (hl2 l1 h) it hit
theorem pU {T:TypeId->List Value->Prop} {cs:List Value}:∀ (fs:List Field) (o:Nat),pL P o fs cs.length=true->(∀ f,f∈fs->T f.type ((cs.drop f.offset).take (P.cellsOf f.type)))->o<=cs.length->ot P T (fs.map (·.type)) (cs.drop o)
 | [],o,hl,_,_=>by
  have:o=cs.length:=by simpa [pL] using hl
  show cs.drop o=[]
  rw [this,List.drop_length]
 | f::fs,o,hl,hT,ho=>by
  simp only [pL,Bool.and_eq_true,beq_iff_eq] at hl
  obtain ⟨h1,h2⟩:=hl
  have hle:∀ (fs:List Field) (o:Nat),pL P o fs cs.length=true->o<=cs.length:=by
   intro fs
   induction fs with
   | nil =>
    intro o h
    have:o=cs.length:=by simpa [pL] using h
    omega
   | cons f fs ih =>
    intro o h
    simp only [pL,Bool.and_eq_true] at h
    have:=ih _ h.2
    omega
  have hle:=hle fs _ h2
  refine ⟨(cs.drop o).take (P.cellsOf f.type),cs.drop (o+P.cellsOf f.type),?_,by rw [List.length_take,List.length_drop];show _=P.cellsOf f.type;omega,h1▸hT f (List.mem_cons_self ..),pU fs _ h2 (fun g hg=>hT g (List.mem_cons_of_mem _ hg)) hle⟩
  rw [← List.drop_drop,List.take_append_drop]
theorem oT {T:TypeId->List Value->Prop} {e:TypeId}:∀ (n:Nat) (cs:List Value),cs.length=n*P.cellsOf e->(∀ i,i<n->T e ((cs.drop (i*P.cellsOf e)).take (P.cellsOf e)))->ot P T (List.replicate n e) cs
 | 0,cs,hl,_=>by
  rw [Nat.zero_mul] at hl
  exact List.eq_nil_of_length_eq_zero hl
 | n+1,cs,hl,hT=>by
  rw [Nat.add_mul,Nat.one_mul] at hl
  refine ⟨cs.take (P.cellsOf e),cs.drop (P.cellsOf e),(List.take_append_drop _ _).symm,by rw [List.length_take];omega,by have:=hT 0 (by omega);rw [Nat.zero_mul] at this;exact this,oT n _ (by rw [List.length_drop];omega) fun i hi=>?_⟩
  have:=hT (i+1) (by omega)
  rw [List.drop_drop]
  rw [Nat.add_mul,Nat.one_mul,Nat.add_comm] at this
  exact this
section
variable {H:Type} {enc:TypeId×Value->H} {base:Nat}
theorem nv:∀ (m:Nat) (t:TypeId) (n:Nat) (cvs:List Value) (x:DataW H×List MemPlace),i6 P m t=true->DataW.trod enc P W base (fun _=>true) true n t cvs=some x->∀ i,∃ its cs,Jk W i (fun h=>fT P h m t) cvs its cs
 | 0,_,_,_,_,hp,_,_=>by cases hp
 | m+1,t,n,cvs,x,hp,hx,i=>by
  unfold i6 at hp
  cases hu:P.underlying t with
  | none=>rw [hu] at hp;cases hp
  | some ty =>
   rw [hu] at hp
   cases ty with
   | bool =>
    refine lK (A:=fun h cs=>∃ b,cs=[.bool b]) (fun h cs hA=>by unfold fT;rw [hu];exact hA) ?_
    obtain ⟨b,rfl,_⟩:=DataW.trod_bool hu hx
    exact ⟨[],[.bool b],⟨fun _ _ _=>⟨_,_,rfl,rfl,rfl⟩,fun _ _ _=>⟨b,rfl⟩,(fun _ _ _ _ h=>by cases h),rfl⟩⟩
   | int k =>
    refine lK (A:=fun h cs=>∃ i,cs=[.int k i]/\k.min<=i/\i<=k.max) (fun h cs hA=>by unfold fT;rw [hu];exact hA) ?_
    obtain ⟨j,rfl,_,w⟩:=DataW.trod_int hu hx
    simp only [Lit.wf,Bool.and_eq_true,decide_eq_true_eq] at w
    exact ⟨[],[.int k j],⟨fun _ _ _=>⟨_,_,rfl,rfl,rfl⟩,fun _ _ _=>⟨j,rfl,w.1,w.2⟩,(fun _ _ _ _ h=>by cases h),rfl⟩⟩
   | string =>
    refine lK (A:=fun h cs=>∃ s,cs=[.str s]/\∀ (i c:Nat),s[i]?=some c->c<256) (fun h cs hA=>by unfold fT;rw [hu];exact hA) ?_
    obtain ⟨s,rfl,_⟩:=DataW.trod_string hu hx
    refine ⟨[],[.str (s.data.toList.map (·.toNat))],⟨fun _ _ _=>⟨_,_,rfl,⟨s,rfl,rfl⟩,rfl⟩,fun _ _ _=>⟨_,rfl,fun j c hc=>?_⟩,(fun _ _ _ _ h=>by cases h),rfl⟩⟩
    rw [List.getElem?_map] at hc
    cases hy:s.data.toList[j]? with
    | none=>rw [hy] at hc;cases hc
    | some y=>rw [hy] at hc;cases hc;exact y.toNat_lt
   | struct fs =>
    refine lK (A:=fun h cs=>ot P (fT P h m) (fs.toList.map (·.type)) cs) (fun h cs hA=>by unfold fT;rw [hu];exact hA) ?_
    simp only [Bool.and_eq_true] at hp
    obtain ⟨xs,n',_,_,hlen,hxl,hf⟩:=DataW.trod_struct hu hx
    have hs:=pU (P:=P) (T:=fun t seg=>i6 P m t=true/\∃ x,DataW.trod enc P W base (fun _=>true) true n' t seg=some x) (cs:=cvs) fs.toList 0 (hlen▸hp.1) (fun f hfm=>⟨List.all_eq_true.1 hp.2 f hfm,by
     obtain ⟨j,hj⟩:=List.getElem?_of_mem hfm
     have hj':fs[j]?=some f:=by rw [← Array.getElem?_toList];exact hj
     have hlt:j<xs.length:=by rw [hxl];exact (Array.getElem?_eq_some_iff.1 hj').1
     exact ⟨_,(hf j f hj').trans (List.getElem?_eq_getElem hlt)⟩⟩) (Nat.zero_le _)
    exact lL _ _ (fun t' _ seg ⟨h1,x',h2⟩ i=>nv m t' n' seg x' h1 h2 i) hs i
   | array k e =>
    refine lK (A:=fun h cs=>ot P (fT P h m) (List.replicate k e) cs) (fun h cs hA=>by unfold fT;rw [hu];exact hA) ?_
    simp only [Bool.and_eq_true,beq_iff_eq] at hp
    obtain ⟨xs,n',_,_,hlen,hxl,hf⟩:=DataW.trod_array hu hx
    have hs:=oT (P:=P) (T:=fun t seg=>i6 P m t=true/\∃ x,DataW.trod enc P W base (fun _=>true) true n' t seg=some x) k cvs (by rw [hlen,hp.1]) (fun j hj=>⟨hp.2,_,(hf j hj).trans (List.getElem?_eq_getElem (by omega))⟩)
    exact lL _ _ (fun t' _ seg ⟨h1,x',h2⟩ i=>nv m t' n' seg x' h1 h2 i) hs i
   | slice e =>
    refine lK (A:=fun h cs=>∃ v N rows,cs=[v]/\mX h v N (P.cellsOf e) rows/\ot P (fT P h m) (List.replicate N e) rows) (fun h cs hA=>by unfold fT;rw [hu];exact hA) ?_
    simp only [Bool.and_eq_true,decide_eq_true_eq] at hp
    obtain ⟨_,hpos,hpe⟩:=hp
    have hat:∀ (l1 l2:List dh) (it:dh),l1.length=i->(l1++it::l2)[i]?=some it:=fun l1 l2 it hl=>by subst hl;simp
    rcases open_slice hu hx with ⟨rfl,_⟩|⟨a,len,cap,mm,n',D,Pl,rfl,_,hle,_,hm,_,hi⟩
    ·exact ⟨[],[.slice none 0 0 none],⟨fun _ _ _=>⟨_,_,rfl,⟨rfl,rfl,rfl,rfl⟩,rfl⟩,fun _ _ _=>⟨_,0,[],rfl,⟨by simp,none,0,none,rfl,fun _=>rfl,(fun _ _ e=>by cases e)⟩,rfl⟩,(fun _ _ _ _ h=>by cases h),rfl⟩⟩
    ·have hm:mm=cap:=hm
     subst hm
     by_cases h0:mm=0
     ·subst h0
      obtain rfl:len=0:=by omega
      refine ⟨[⟨none,⟨0,0,0⟩⟩],[.slice (some (i,0)) 0 0 none],⟨fun l1 l2 hl=>⟨_,_,rfl,⟨⟨0,0,0⟩,a,0,?_,rfl,Nat.le_refl _,Nat.le_refl _,fun _=>rfl,(fun _ e=>by cases e),fun h=>absurd rfl h⟩,rfl⟩,fun l1 l2 hl=>⟨_,0,[],rfl,⟨by simp,some (i,0),0,none,rfl,(fun e=>by cases e),fun b o e=>?_⟩,rfl⟩,(fun _ _ _ it h=>?_),rfl⟩⟩
      ·unfold vn;rw [List.append_assoc];rw [show l1++([(⟨none,⟨0,0,0⟩⟩:dh)]++l2)=l1++⟨none,⟨0,0,0⟩⟩::l2 from rfl,hat l1 l2 _ hl];rfl
      ·cases e
       rw [List.append_assoc,show l1++([(⟨none,⟨0,0,0⟩⟩:dh)]++l2)=l1++⟨none,⟨0,0,0⟩⟩::l2 from rfl]
       exact ⟨CK (hat l1 l2 _ hl),fun h=>absurd h (Nat.lt_irrefl 0)⟩
      ·rw [List.mem_singleton.1 h];intro cs e;cases e
     · 
      obtain ⟨cs0,hc0,_⟩:=hi 0 (by omega)
      obtain ⟨_,hl0,hat0⟩:=World.cells?_some hc0
      obtain ⟨blk,off,spot⟩:=a
      have hadd:∀ j,(⟨blk,off,spot⟩:Addr).add j=if j=0 then ⟨blk,off,spot⟩ else ⟨blk,off+j,none⟩:=fun j=>rfl
      have h00:=hat0 0 (by omega)
      rw [Nat.zero_mul,add_add,hadd,if_pos rfl,List.getElem?_eq_getElem (by omega)] at h00
      have hex:∃ c e fz,W.heap[blk]?=some (.cells c e fz)/\spot=none:=by
       unfold World.cell? at h00
       cases hh:W.heap[blk]? with
       | none=>rw [hh] at h00;cases h00
       | some ob =>
        rw [hh] at h00
        cases ob with
        | cells c e fz =>
         cases spot with
         | none=>exact ⟨c,e,fz,rfl,rfl⟩
         | some k=>cases h00
        | _=>cases h00
      obtain ⟨c,e',fz,hblk,rfl⟩:=hex
      have hcell:∀ j w,W.cell? ((⟨blk,off,none⟩:Addr).add j)=some w->c[off+j]?=some w:=fun j w hw=>by
       rw [hadd] at hw
       split at hw
       ·rename_i e0;subst e0;rw [cD hblk] at hw;exact hw
       ·rw [cD hblk] at hw;exact hw
      
      have hrow:∀ k,k<=mm->∃ cv:List Value,cv.length=k*P.cellsOf e/\(∀ j,j<cv.length->c[off+j]?=cv[j]?)/\∀ j,j<k->∃ x,DataW.trod enc P W base (fun _=>true) true n' e ((cv.drop (j*P.cellsOf e)).take (P.cellsOf e))=some x:=by
       intro k
       induction k with
       | zero=>intro _;exact ⟨[],by simp,(fun j h=>absurd h (Nat.not_lt_zero _)),(fun j h=>absurd h (Nat.not_lt_zero _))⟩
       | succ k ih =>
        intro hk
        obtain ⟨cv,q1,q2,q3⟩:=ih (by omega)
        obtain ⟨cs',hc,ht⟩:=hi k (by omega)
        obtain ⟨_,hl',hat'⟩:=World.cells?_some hc
        refine ⟨cv++cs',by rw [List.length_append,q1,hl',Nat.add_mul,Nat.one_mul],fun j hj=>?_,fun j hj=>?_⟩
        ·by_cases hj':j<cv.length
         ·rw [List.getElem?_append_left hj'];exact q2 j hj'
         ·rw [List.length_append] at hj
          rw [List.getElem?_append_right (by omega)]
          have h1:=hat' (j - cv.length) (by omega)
          rw [add_add,List.getElem?_eq_getElem (by omega)] at h1
          rw [List.getElem?_eq_getElem (by omega)]
          have h2:=hcell _ _ h1
          rw [show k*P.cellsOf e+(j - cv.length)=j by omega] at h2
          exact h2
        ·by_cases hj':j<k
         ·obtain ⟨x',hx'⟩:=q3 j hj'
          have h1:j*P.cellsOf e+P.cellsOf e<=cv.length:=by
           rw [q1,← Nat.succ_mul];exact Nat.mul_le_mul_right _ hj'
          refine ⟨x',?_⟩
          rw [List.drop_append_of_le_length (by omega),List.take_append_of_le_length (by rw [List.length_drop];omega)]
          exact hx'
         ·obtain rfl:j=k:=by omega
          refine ⟨(D j,Pl j),?_⟩
          rw [← q1,List.drop_left' rfl,List.take_of_length_le (by omega)]
          exact ht
      obtain ⟨cv,q1,q2,q3⟩:=hrow len hle
      obtain ⟨cvm,r1,r2,_⟩:=hrow mm (Nat.le_refl _)
      have hcpos:0<mm*P.cellsOf e:=Nat.mul_pos (by omega) hpos
      have hsz:off+mm*P.cellsOf e<=c.size:=by
       have h1:=r2 (mm*P.cellsOf e - 1) (by omega)
       rw [List.getElem?_eq_getElem (by omega)] at h1
       have:=(Array.getElem?_eq_some_iff.1 h1).1
       omega
      have hs:=oT (P:=P) (T:=fun t seg=>i6 P m t=true/\∃ x,DataW.trod enc P W base (fun _=>true) true n' t seg=some x) (e:=e) len cv q1 (fun j hj=>⟨hpe,q3 j hj⟩)
      obtain ⟨its,cs,⟨v1,a1,o1,n1⟩⟩:=lL (A:=fun h=>fT P h m) _ _ (fun t' _ seg ⟨h1,x',h2⟩ i=>nv m t' n' seg x' h1 h2 i) hs (i+1)
      have hcl:cs.length=len*P.cellsOf e:=by
       have:=(v1 (List.replicate (i+1) ⟨none,⟨0,0,0⟩⟩) [] (by simp)).length
       rw [this,q1]
      have hle2:len*P.cellsOf e<=mm*P.cellsOf e:=Nat.mul_le_mul_right _ hle
      have el:∀ l1 l2:List dh,l1++((⟨some cs,⟨blk,off,c.size⟩⟩:dh)::its)++l2=l1++⟨some cs,⟨blk,off,c.size⟩⟩::(its++l2):=fun l1 l2=>by simp
      have er:∀ l1 l2:List dh,l1++((⟨some cs,⟨blk,off,c.size⟩⟩:dh)::its)++l2=(l1++[⟨some cs,⟨blk,off,c.size⟩⟩])++its++l2:=fun l1 l2=>by simp
      refine ⟨⟨some cs,⟨blk,off,c.size⟩⟩::its,[.slice (some (i,0)) len mm none],⟨fun l1 l2 hl=>⟨_,_,rfl,⟨⟨blk,off,c.size⟩,⟨blk,off,none⟩,mm,?_,rfl,hle,Nat.le_refl _,fun _=>rfl,(fun _ e=>by cases e),fun _=>rfl⟩,rfl⟩,fun l1 l2 hl=>⟨_,len,cs,rfl,⟨hcl,some (i,0),mm,none,rfl,(fun e=>by cases e),fun b o eo=>?_⟩,?_⟩,fun l1 l2 hl it hit=>?_,rfl⟩⟩
      ·rw [el];unfold vn;rw [hat l1 _ _ hl];rfl
      ·cases eo
       rw [el]
       refine ⟨CK (hat l1 _ _ hl),fun _=>?_⟩
       rw [(Ui (hat l1 _ _ hl)).ld (by omega),List.drop_zero,List.take_of_length_le (by omega)]
      ·rw [er]
       exact a1 _ l2 (by simp [hl])
      ·rcases List.mem_cons.1 hit with rfl | hit
       ·intro xs hxs
        cases hxs
        refine ⟨c,e',fz,hblk,rfl,by show off+cs.length<=c.size;omega,fun j w hw=>?_⟩
        obtain ⟨cw,hcw,hvw⟩:=(v1 (l1++[⟨some cs,⟨blk,off,c.size⟩⟩]) l2 (by simp [hl])).get j w hw
        have hjl:=(List.getElem?_eq_some_iff.1 hcw).1
        refine ⟨List.all_eq_true.1 n1 w (List.mem_of_getElem? hw),cw,(q2 j hjl).trans hcw,?_⟩
        rw [er];exact hvw
       ·rw [er]
        exact o1 _ l2 (by simp [hl]) it hit
   | _=>cases hp
theorem Ug {m:Nat} {t:TypeId} {cvs:Array Value} {d:DataW H} {p:List MemPlace} (hp:i6 P m t=true) (h:DataW.Trod enc P W base (fun _=>true) true t (.agg cvs) d p) (i:Nat) :
  ∃ its cs,Jk W i (fun h=>fT P h m t) cvs.toList its cs/\∀ l1 l2:List dh,l1.length=i->VR (vn (l1++its++l2)) (.agg cs) (.agg cvs):=by
 obtain ⟨n,hn⟩:=h
 obtain ⟨its,cs,hc⟩:=nv m t n cvs.toList _ hp hn i
 exact ⟨its,cs,hc,fun l1 l2 h=>⟨cvs,rfl,hc.vr l1 l2 h⟩⟩
end
end
end Go.Am
namespace Go.Am
structure qI (W:List Nat) (U:Nat->Bool):Prop where
 len:W.length=4
 lt:∀ w,w∈W->w<2^64
 bit:∀ k,k<256->(W.getD (k / 64) 0).testBit (k%64)=U k
theorem qI.zero:qI [0,0,0,0] fun _=>false:=by
 refine ⟨rfl,fun w hw=>?_,fun k hk=>?_⟩
 ·simp only [List.mem_cons,List.not_mem_nil,or_false,or_self] at hw;subst hw;decide
 ·have:([0,0,0,0]:List Nat).getD (k / 64) 0=0:=by
   have h4:k / 64<4:=by omega
   match k / 64,h4 with
   | 0,_=>rfl
   | 1,_=>rfl
   | 2,_=>rfl
   | 3,_=>rfl
  rw [this,Nat.zero_testBit]
theorem Uf {w i:Nat}:w&&&2^i=if w.testBit i then 2^i else 0:=by
 apply Nat.eq_of_testBit_eq
 intro j
 rw [Nat.testBit_and,Nat.testBit_two_pow]
 by_cases e:i=j
 ·subst e
  cases w.testBit i with
  | true=>rw [if_pos rfl,Nat.testBit_two_pow];simp
  | false=>rw [if_neg (by decide),Nat.zero_testBit];rfl
 ·cases w.testBit i with
  | true=>rw [if_pos rfl,Nat.testBit_two_pow,decide_eq_false e,Bool.and_false]
  | false=>rw [if_neg (by decide),Nat.zero_testBit,decide_eq_false e,Bool.and_false]
theorem qI.ask {W:List Nat} {U:Nat->Bool} (h:qI W U) {k:Nat} (hk:k<256):(W.getD (k / 64) 0&&&2^(k%64))=if U k then 2^(k%64) else 0:=by
 rw [Uf,h.bit k hk]
theorem zb6 {w i j:Nat}:(w|||2^i).testBit j=(w.testBit j||decide (i=j)):=by
 rw [Nat.testBit_or,Nat.testBit_two_pow]
theorem qI.use {W:List Nat} {U:Nat->Bool} (h:qI W U) {k:Nat} (hk:k<256):qI (W.set (k / 64) (W.getD (k / 64) 0|||2^(k%64))) (fun j=>U j||decide (j=k)):=by
 have hl:=h.len
 have h4:k / 64<W.length:=by omega
 refine ⟨by rw [List.length_set];exact hl,fun w hw=>?_,fun j hj=>?_⟩
 ·rcases List.mem_or_eq_of_mem_set hw with h1 | rfl
  ·exact h.lt w h1
  ·have hm:W.getD (k / 64) 0∈W:=by rw [List.getD_eq_getElem?_getD,List.getElem?_eq_getElem h4];exact List.getElem_mem h4
   exact Nat.or_lt_two_pow (h.lt _ hm) (Nat.pow_lt_pow_right (by decide) (Nat.mod_lt _ (by decide)))
 ·by_cases e:j / 64=k / 64
  ·have:(W.set (k / 64) (W.getD (k / 64) 0|||2^(k%64))).getD (j / 64) 0=W.getD (j / 64) 0|||2^(k%64):=by
    rw [e,List.getD_eq_getElem?_getD,List.getElem?_set_self h4];rfl
   rw [this,zb6,h.bit j hj]
   congr 1
   rw [decide_eq_decide]
   omega
  ·have:(W.set (k / 64) (W.getD (k / 64) 0|||2^(k%64))).getD (j / 64) 0=W.getD (j / 64) 0:=by
    rw [List.getD_eq_getElem?_getD,List.getElem?_set_ne (fun h=>e h.symm),← List.getD_eq_getElem?_getD]
   rw [this,h.bit j hj,show decide (j=k)=false from decide_eq_false (fun h=>e (by rw [h])),Bool.or_false]
theorem qI.word {W:List Nat} {U:Nat->Bool} (h:qI W U) {k:Nat} (hk:k<256):W[k / 64]?=some (W.getD (k / 64) 0)/\W.getD (k / 64) 0<2^64:=by
 have hl:=h.len
 have h4:k / 64<W.length:=by omega
 rw [List.getD_eq_getElem?_getD,List.getElem?_eq_getElem h4]
 exact ⟨rfl,h.lt _ (List.getElem_mem h4)⟩
theorem zy {i:Nat} (h:i<64):2^i<=9223372036854775808:=by
 have:2^i<=2^63:=Nat.pow_le_pow_right (by decide) (by omega)
 exact this
theorem Rw.mat (h:ac) {id n:Nat} {vs z:List AV} {ro:Bool} (hn:n=vs.length) :
  ∃ h1,ac.mk (h.bs.up (some (.cells (az vs .leaf 0) z n ro)) id) h.next=h1/\Rw h1 id vs z ro/\h1.next=h.next/\∀ c,c≠id->h1.bs.gt c=h.bs.gt c:=by
 subst hn
 refine ⟨_,rfl,⟨az vs .leaf 0,by show (h.bs.up _ id).gt id=_;rw [Tr.gt_up,if_pos rfl],fun i hi=>?_⟩,rfl,fun c hc=>by show (h.bs.up _ id).gt c=_;rw [Tr.gt_up,if_neg hc]⟩
 unfold aR
 rw [cr,if_pos (by omega),Nat.sub_zero,List.getElem?_eq_getElem hi]
end Go.Am
/- A part of the proof of the law PoolShares. -/
import Derived.Test.YtboobbebilegnaaGreatSrAmB
import Derived.Orders
import Derived.OrdersIn
import Derived.Below
open Nat (reduceEqDiff reduceAdd reduceMul)
set_option linter.unusedVariables false
set_option linter.unusedSimpArgs false
set_option linter.constructorNameAsVariable false
set_option linter.defProp false
set_option maxRecDepth 20000

namespace Go.Am
section
variable {P:Program} {keep:aK} {w:World} {ρ : aL} {h:ac}
theorem uM {call:an} {kp:Nat->Bool} {nt sz:Nat} {tm:Tr AV} {ops:Array Oper} {ro:Option Nat} {Q:Exit->Act->World->Prop} (hn:NamesOk P) (hc:dR P keep call) (tl:List Oper) (ks:List Nat) :
  ∀ (rest:List Oper) (i n:Nat) (env:List (Nat×bN)) (loc:List AV) (h:ac) (w:World) (ρ : aL) (a:Act) (r:List AV×ac),
   ops.toList.drop i=rest++tl->lG kp nt sz tm n env loc ρ a->HR P keep ρ h w->aT (dW P kp nt ops n env rest).1 tm call loc h=some r ->
   (∀ ρ' a' w',lG kp nt sz tm (dW P kp nt ops n env rest).2.1 (dW P kp nt ops n env rest).2.2 r.1 ρ' a'->a'.defers=a.defers->bv P keep ρ h w ρ' r.2 w'->wpOpsIn (dM ro) 0 P ops Q ks a' w') ->
   wpOpsIn (dM ro) 0 P ops Q (List.range' i rest.length++ks) a w:=by
 intro rest
 induction rest with
 | nil =>
  intro i n env loc h w ρ a r _ hi hr hrun hq
  cases hrun
  exact hq ρ a w hi rfl (bv.refl hr)
 | cons o rest ih =>
  intro i n env loc h w ρ a r hdrop hi hr hrun hq
  have hlt:i<ops.toList.length:=by
   rcases Nat.lt_or_ge i ops.toList.length with h1 | h1
   ·exact h1
   ·rw [List.drop_eq_nil_of_le h1] at hdrop;cases hdrop
  have ho:ops[i]?=some o:=by
   have:=List.drop_eq_getElem_cons hlt
   rw [hdrop] at this
   simp only [List.cons_append,List.cons.injEq] at this
   rw [← Array.getElem?_toList,List.getElem?_eq_getElem hlt,← this.1]
  have hdrop':ops.toList.drop (i+1)=rest++tl:=by
   have:=List.drop_eq_getElem_cons hlt
   rw [hdrop] at this
   simp only [List.cons_append,List.cons.injEq] at this
   exact this.2.symm
  rw [List.length_cons,List.range'_succ,List.cons_append]
  have slow:∀ (g:aw),g=(if kh nt o.dst then re (cE kp env n) ops o.guard (dw P (cE kp env n) o.op) else ⟨none,.bad⟩) ->
    aT (g::(dW P kp nt ops (n+1) ((match o.dst with | some d=>[(d,.loc n)] | none=>[])++env) rest).1) tm call loc h=some r ->
    (∀ ρ' a' w',lG kp nt sz tm (dW P kp nt ops (n+1) ((match o.dst with | some d=>[(d,.loc n)] | none=>[])++env) rest).2.1 (dW P kp nt ops (n+1) ((match o.dst with | some d=>[(d,.loc n)] | none=>[])++env) rest).2.2 r.1 ρ' a'->a'.defers=a.defers->bv P keep ρ h w ρ' r.2 w'->wpOpsIn (dM ro) 0 P ops Q ks a' w') ->
    wpOpsIn (dM ro) 0 P ops Q (i::(List.range' (i+1) rest.length++ks)) a w:=by
   intro g hg hrun hq
   rw [ir] at hrun
   obtain ⟨r1,h1,h2⟩:=af.1 hrun
   cases hok:kh nt o.dst with
   | false=>rw [hok] at hg;subst hg;cases h1
   | true =>
    rw [hok,if_pos rfl] at hg
    subst hg
    refine yZ hn hc hr hi.ok (Nat.le_refl _) ho h1 (fun ρ' v w' hv hpost=>?_)
    exact ih (i+1) (n+1) _ (r1.1::loc) r1.2 w' ρ' (a.put o.dst v) r hdrop' (hi.next hpost.le hok hv) hpost.hr h2
     (fun ρ'' a' w'' hi' hd' hp'=>hq ρ'' a' w'' hi' (hd'.trans (ba _ _ _)) (hpost.trans hp'))
  unfold dW at hrun hq
  cases hm:rW o with
  | none =>
   simp only [hm,Option.bind_none] at hrun hq
   exact slow _ rfl hrun hq
  | some xd =>
   obtain ⟨x,d⟩:=xd
   simp only [hm,Option.bind_some] at hrun hq
   cases hx:Am.resolve (eK kp env) x with
   | none=>simp only [hx] at hrun hq;exact slow _ rfl hrun hq
   | some y =>
    simp only [hx] at hrun hq
    obtain ⟨hg,hdst,hop⟩:=zo hm
    cases hok:kh nt o.dst with
    | false=>rw [hok] at hrun;cases hrun
    | true =>
     rw [hok] at hrun hq
     simp only [if_true] at hrun hq
     have hw:Region.wanted o (yielded ops a.tmps)=true:=by simp [Region.wanted,hg]
     simp only [wpOpsIn,ho]
     rw [if_pos hw]
     refine ⟨fun _ _=>trivial,?_⟩
     have hsem:o.semAt (dM ro).round a.eval=pure (.value (a.eval x)):=by
      rw [Oper.semAt_eq _ _ _ (by intro c e;rcases hop with h1 | h1 <;> (rw [h1] at e;cases e))]
      obtain ⟨dst,op,ty,pos,after,guard⟩:=o
      simp only at hop
      rcases hop with rfl | rfl <;> rfl
     rw [hsem,Sem.run_pure,Oper.uponIn_value,hdst]
     rw [hdst] at hok
     exact ih (i+1) n _ loc h w ρ _ r hdrop' (hi.alias hok hx) hr hrun (fun ρ'' a' w'' hi' hd' hp'=>hq ρ'' a' w'' hi' (hd'.trans (ba _ _ _)) hp')
end
end Go.Am
namespace Go.Am
section
variable {P:Program} {keep:aK} {w:World} {ρ : aL} {h:ac}
theorem wV (o:Nat×bN) (os:List (Nat×bN)) (loc:List AV) (tm0 tm:Tr AV):bf (o::os) loc tm0 tm=ob (o.2.get loc .leaf tm0) fun v=>bf os loc tm0 (tm.up (some v) o.1):=rfl
theorem kY:∀ {outs:List (Nat×bN)} {loc:List AV} {tm0 tm tm':Tr AV},bf outs loc tm0 tm=some tm' ->
  ∀ t,(∃ x v,(t,x)∈outs/\x.get loc .leaf tm0=some v/\tm'.gt t=some v)∨((∀ x,(t,x)∉outs)/\tm'.gt t=tm.gt t)
 | [],loc,tm0,tm,tm',h,t=>by cases h;exact .inr ⟨fun x hx=>(by cases hx),rfl⟩
 | o::os,loc,tm0,tm,tm',h,t=>by
  rw [wV] at h
  obtain ⟨v,h1,h2⟩:=af.1 h
  rcases kY h2 t with ⟨x,u,g1,g2,g3⟩|⟨g1,g2⟩
  ·exact .inl ⟨x,u,List.mem_cons_of_mem _ g1,g2,g3⟩
  ·rw [Tr.gt_up] at g2
   by_cases e:t=o.1
   ·rw [if_pos e] at g2
    exact .inl ⟨o.2,v,by rw [e];exact List.mem_cons_self ..,h1,g2⟩
   ·rw [if_neg e] at g2
    refine .inr ⟨fun x hx=>?_,g2⟩
    rcases List.mem_cons.1 hx with e2 | hx
    ·exact e (by rw [← e2])
    ·exact g1 x hx
theorem kX {kp:Nat->Bool} {n t:Nat} {y:bN}:∀ {env:List (Nat×bN)} {seen:List Nat},(t,y)∈dI kp n env seen->t∉seen/\∃ x,eX t env=some x/\y=lu n x
 | [],seen,h=>by cases h
 | x::env,seen,h=>by
  simp only [dI] at h
  split at h
  ·rename_i hc
   simp only [Bool.and_eq_true,Bool.not_eq_true',List.contains_eq_mem,decide_eq_false_iff_not] at hc
   rcases List.mem_cons.1 h with e | h
   ·cases e
    exact ⟨hc.2,x.2,by simp [eX],rfl⟩
   ·obtain ⟨h1,z,h2,h3⟩:=kX h
    simp only [List.mem_cons,not_or] at h1
    exact ⟨h1.2,z,by simp only [eX];rw [if_neg (fun e=>h1.1 e.symm)];exact h2,h3⟩
  ·rename_i hc
   obtain ⟨h1,z,h2,h3⟩:=kX h
   by_cases e:x.1=t
   · 
    refine ⟨h1,?_⟩
    simp only [Bool.and_eq_true,Bool.not_eq_true',List.contains_eq_mem,decide_eq_false_iff_not,not_and,Decidable.not_not] at hc
    cases hk:kp x.1 with
    | true=>exact absurd (e▸hc hk) h1
    | false =>
     exfalso
     have:∀ {env:List (Nat×bN)} {seen:List Nat} {y:bN},(t,y)∈dI kp n env seen->kp t=true:=by
      intro env
      induction env with
      | nil=>intro seen y h;cases h
      | cons z env ih =>
       intro seen y h
       simp only [dI] at h
       split at h
       ·rename_i hc
        simp only [Bool.and_eq_true] at hc
        rcases List.mem_cons.1 h with e | h
        ·cases e;exact hc.1
        ·exact ih h
       ·exact ih h
     have:=this h
     rw [← e,hk] at this;cases this
   ·exact ⟨h1,z,by simp only [eX];rw [if_neg e];exact h2,h3⟩
theorem kW {kp:Nat->Bool} {n t:Nat} {x:bN} (hk:kp t=true):∀ {env:List (Nat×bN)} {seen:List Nat},eX t env=some x->t∉seen->∃ y,(t,y)∈dI kp n env seen
 | [],seen,h,_=>by cases h
 | z::env,seen,h,hs=>by
  simp only [eX] at h
  simp only [dI]
  by_cases e:z.1=t
  ·rw [if_pos]
   ·exact ⟨_,by rw [e];exact List.mem_cons_self ..⟩
   ·rw [e,hk];simpa using hs
  ·rw [if_neg e] at h
   split
   ·obtain ⟨y,h1⟩:=kW (n:=n) hk (seen:=z.1::seen) h (by simp only [List.mem_cons,not_or];exact ⟨fun h=>e h.symm,hs⟩)
    exact ⟨y,List.mem_cons_of_mem _ h1⟩
   ·exact kW hk h hs
theorem getD_some {arr:Array Value} {t:Nat} (h:t<arr.size):arr[t]?=some (arr.getD t undef):=by
 rw [Array.getD_eq_getD_getElem?,Array.getElem?_eq_getElem h];rfl
theorem jN {kp:Nat->Bool} {n t:Nat}:∀ {env:List (Nat×bN)} {seen:List Nat} {y:bN},(t,y)∈dI kp n env seen->kp t=true
 | [],seen,y,h=>by cases h
 | z::env,seen,y,h=>by
  simp only [dI] at h
  split at h
  ·rename_i hc
   simp only [Bool.and_eq_true] at hc
   rcases List.mem_cons.1 h with e | h
   ·cases e;exact hc.1
   ·exact jN h
  ·exact jN h
theorem I2 {kp:Nat->Bool} {nt:Nat} {tm tm':Tr AV} {n sz:Nat} {env:List (Nat×bN)} {loc:List AV} {σ : aL} {a a':Act} (ht:TR kp nt ρ tm a.tmps) (hsz:sz=a.tmps.size) (hi:lG kp nt sz tm n env loc σ a') (hout:bf (dI kp n env []) loc tm tm=some tm'):TR kp nt σ tm' a'.tmps:=by
 refine ⟨by rw [hi.size,hsz];exact ht.1,fun t v hk hv=>?_⟩
 rcases kY hout t with ⟨x,u,g1,g2,g3⟩|⟨g1,g2⟩
 ·rw [g3] at hv;cases hv
  obtain ⟨_,z,h2,rfl⟩:=kX g1
  have hlt:t<a'.tmps.size:=by rw [hi.size];exact Nat.lt_of_lt_of_le (hi.dsts t z (lU h2)) hi.nt
  refine ⟨_,getD_some hlt,hi.ok t (lu _ z) v ?_ g2⟩
  simp [cE,eK,h2]
 ·rw [g2] at hv
  obtain ⟨cv,h1,_⟩:=ht.2 t v hk hv
  have hlt:t<a'.tmps.size:=by rw [hi.size,hsz];exact (Array.getElem?_eq_some_iff.1 h1).1
  refine ⟨_,getD_some hlt,hi.ok t (.tmp t) v ?_ hv⟩
  cases hq:eX t env with
  | some z =>
   obtain ⟨y,h3⟩:=kW (n:=n) hk hq (by simp:t∉([]:List Nat))
   exact absurd h3 (g1 y)
  | none=>simp only [cE,eK,hq,if_pos hk];rfl
theorem uN {kp:Nat->Bool} {tm tm':Tr AV} {n D:Nat} {env:List (Nat×bN)} {loc:List AV} (hD:kp D=false) (hout:bf (dI kp n env []) loc tm tm=some tm'):tm'.gt D=tm.gt D:=by
 rcases kY hout D with ⟨x,u,g1,_,_⟩|⟨_,g2⟩
 ·rw [jN g1] at hD;cases hD
 ·exact g2
theorem uD {kp:Nat->Bool} {nt:Nat} {tm:Tr AV} {a:Act} (ht:TR kp nt ρ tm a.tmps):lG kp nt a.tmps.size tm 0 [] [] ρ a:=by
 refine ⟨fun t x v hx hg=>?_,rfl,fun _ _ hm=>(by cases hm),fun _ _ hm=>(by cases hm),rfl,ht.1⟩
 simp only [cE,eK,eX] at hx
 split at hx
 ·rename_i hk
  cases hx
  obtain ⟨cv,h1,h2⟩:=ht.2 t v hk hg
  rw [Array.getD_eq_getD_getElem?,h1];exact h2
 ·cases hx
theorem kK:∀ {os l:List Oper} {xs:List Operand},fo os=some (l,xs)->∃ o,os=l++[o]/\qw o=some xs
 | [],l,xs,h=>by cases h
 | [o],l,xs,h=>by
  simp only [fo,Option.map_eq_some_iff] at h
  obtain ⟨ys,h1,h2⟩:=h
  cases h2
  exact ⟨o,rfl,h1⟩
 | o::p::os,l,xs,h=>by
  simp only [fo,Option.map_eq_some_iff] at h
  obtain ⟨⟨l',ys⟩,h1,h2⟩:=h
  cases h2
  obtain ⟨q,h3,h4⟩:=kK (os:=p::os) h1
  exact ⟨q,by rw [h3];rfl,h4⟩
theorem wo {o:Oper} {xs:List Operand} (h:qw o=some xs):∃ f args ts,o.guard=none/\o.op=.defer ⟨.value f,args,ts⟩/\o.dst=none/\xs=f::args.toList:=by
 obtain ⟨dst,op,ty,pos,after,guard⟩:=o
 unfold qw at h
 split at h
 ·rename_i f args ts h1 h2 h3
  cases h
  exact ⟨f,args,ts,h1,h2,h3,rfl⟩
 ·cases h
theorem uv {kp:Nat->Bool} {nt:Nat} {ops:Array Oper} {is:List aw} {outs:List (Nat×bN)} (h:jk P kp nt ops=.reg is outs) :
  fo ops.toList=none/\is=(dW P kp nt ops 0 [] ops.toList).1/\outs=dI kp (dW P kp nt ops 0 [] ops.toList).2.1 (dW P kp nt ops 0 [] ops.toList).2.2 []:=by
 unfold jk at h
 split at h
 ·dsimp only at h;split at h <;> cases h
 ·rename_i hd
  simp only [AC.reg.injEq] at h
  exact ⟨hd,h.1.symm,h.2.symm⟩
theorem Ko {call:an} {kp:Nat->Bool} {nt id:Nat} {tm tm':Tr AV} {ops:Array Oper} {ro:Option Nat} {Q:Exit->Act->World->Prop} {a:Act} {is:List aw} {outs:List (Nat×bN)} {r:List AV×ac}
  (hn:NamesOk P) (hc:dR P keep call) (hr:HR P keep ρ h w) (ht:TR kp nt ρ tm a.tmps) (hcomp:jk P kp nt ops=.reg is outs) (hrun:aT is tm call [] h=some r) (hout:bf outs r.1 tm tm=some tm')
  (hq:∀ ρ' a' w',TR kp nt ρ' tm' a'.tmps->a'.defers=a.defers->bv P keep ρ h w ρ' r.2 w'->Q .normal a' w'):(Code.region id ops false).wpIn (dM ro) 0 P Q a w:=by
 refine wpIn_region ?_
 obtain ⟨_,rfl,rfl⟩:=uv hcomp
 have key:=uM (ro:=ro) (Q:=Q) (ops:=ops) hn hc [] [] ops.toList 0 0 [] [] h w ρ a r (by simp) (uD ht) hr hrun (fun ρ' a' w' hi hd hp=>?_)
 ·rw [List.range_eq_range']
  simpa using key
 ·exact hq ρ' a' w' (I2 ht rfl hi hout) hd hp
theorem JO {call:an} {kp:Nat->Bool} {nt nt' id:Nat} {tm tm':Tr AV} {ops:Array Oper} {Q:Exit->Act->World->Prop} {a:Act} {is:List aw} {outs:List (Nat×bN)} {xs:List bN} {r:List AV×ac} {vs:List AV}
  (hn:NamesOk P) (hc:dR P keep call) (hr:HR P keep ρ h w) (ht:TR kp nt ρ tm a.tmps) (hcomp:jk P kp nt ops=.dfr is outs nt' xs) (hrun:aT is tm call [] h=some r) (hout:bf outs r.1 tm tm=some tm') (hg:be xs r.1 .leaf tm=some vs)
  (hq:∀ ρ' a' w' (i:FuncId) (first cap:Array Value) (args:List Value) (fa ca as:List AV),TR kp nt ρ' tm' a'.tmps->vs=.func (.func i) fa ca::as->bH ρ' ca cap.toList->bH ρ' fa first.toList->bH ρ' as args ->
   a'.defers={target:=.fn (.func i) cap,args:=first++args.toArray }::a.defers->bv P keep ρ h w ρ' r.2 w'->Q .normal a' w')
  (hfn:∀ v as,vs=v::as->∃ i fa ca,v=.func (.func i) fa ca):nt'=nt/\(Code.region id ops false).wpIn (dM none) 0 P Q a w:=by
 unfold jk at hcomp
 split at hcomp
 case h_2=>cases hcomp
 rename_i l ys hd
 dsimp only at hcomp
 split at hcomp
 case h_2=>cases hcomp
 rename_i zs hz
 simp only [AC.dfr.injEq] at hcomp
 obtain ⟨rfl,rfl,rfl,rfl⟩:=hcomp
 refine ⟨rfl,wpIn_region ?_⟩
 obtain ⟨o,hos,ho⟩:=kK hd
 obtain ⟨f,args,ts,h1,h2,h3,rfl⟩:=wo ho
 have hlen:ops.size=l.length+1:=by rw [← Array.length_toList,hos];simp
 have key:=uM (ro:=none) (Q:=Q) (ops:=ops) hn hc [o] [l.length] l 0 0 [] [] h w ρ a r (by simpa using hos) (uD ht) hr hrun (fun ρ' a' w' hi hd hp=>?_)
 ·rw [List.range_eq_range',hlen,List.range'_concat]
  simpa using key
 ·have hoi:ops[l.length]?=some o:=by rw [← Array.getElem?_toList,hos];simp
  have hw:Region.wanted o (yielded ops a'.tmps)=true:=by simp [Region.wanted,h1]
  simp only [wpOpsIn,hoi]
  rw [if_pos hw]
  refine ⟨fun _ _=>trivial,?_⟩
  have hvs:=cP hi.ok hz hg
  cases vs with
  | nil=>cases hvs
  | cons v as =>
   obtain ⟨i,fa,ca,rfl⟩:=hfn v as rfl
   obtain ⟨cv,cvs,e1,v1,v2⟩:=hvs
   simp only [List.map_cons,List.cons.injEq] at e1
   obtain ⟨e1,e2⟩:=e1
   obtain ⟨fn',first,cap,e3,hf,va,vc⟩:=v1
   cases hf
   have hsem:o.semAt (dM none).round a'.eval=pure (.defer {target:=.fn (.func i) cap,args:=first++cvs.toArray }):=by
    show o.semAt none a'.eval=_
    obtain ⟨dst,op,ty,pos,after,guard⟩:=o
    simp only at h2
    subst h2
    have hmap:(args.map a'.eval)=cvs.toArray:=by apply Array.toList_inj.1;simpa using e2
    simp only [Oper.semAt,execOp,Go.resolve,e1,e3,Deferred.ofValue,hmap]
    rfl
   rw [hsem,Sem.run_pure]
   simp only [Oper.uponIn,h3,Act.put]
   exact hq ρ' _ w' i first cap cvs fa ca as (show TR _ _ ρ' tm' a'.tmps from I2 ht rfl hi hout) rfl vc va v2 (by simp [hd]) hp
end
end Go.Am
namespace Go.Am
section
variable {P:Program} {keep:aK} {w:World} {ρ : aL} {h:ac}
def qP (vs vs':Tr AV):Prop:=∀ j u,vs.gt j=some u->vs'.gt j=some u
theorem qP.refl (vs:Tr AV):qP vs vs:=fun _ _ h=>h
theorem qP.trans {a b c:Tr AV} (h1:qP a b) (h2:qP b c):qP a c:=fun j u h=>h2 j u (h1 j u h)
theorem cB {vs vs' tm:Tr AV} (hs:qP vs vs') {loc:List AV} {x:bN} {v:AV} (h:x.get loc vs tm=some v):x.get loc vs' tm=some v:=by
 cases x with
 | opi j=>exact hs j v h
 | _=>exact h
theorem fp {vs vs' tm:Tr AV} (hs:qP vs vs') {loc:List AV}:∀ {xs:List bN} {us:List AV},be xs loc vs tm=some us->be xs loc vs' tm=some us
 | [],us,h=>h
 | x::xs,us,h=>by
  rw [lS] at h ⊢
  obtain ⟨v,h1,h2⟩:=af.1 h
  obtain ⟨us',h3,h4⟩:=af.1 h2
  rw [cB hs h1]
  show ob (be xs loc vs' tm) _=_
  rw [fp hs h3]
  exact h4
theorem wx {vs vs' tm:Tr AV} (hs:qP vs vs') {loc:List AV} {call:an} {id:Nat} {i:kn} {r:AV×ac} (hi:i.ev loc vs tm call id h=some r):i.ev loc vs' tm call id h=some r:=by
 cases i with
 | mv x =>
  obtain ⟨v,h1,h2⟩:=af.1 (show ob (x.get loc vs tm) (fun v=>some (v,h))=some r from hi)
  exact af.2 ⟨v,cB hs h1,h2⟩
 | p1 f x =>
  obtain ⟨v,h1,h2⟩:=af.1 (show ob (x.get loc vs tm) (fun v=>ob (f v) fun r=>some (r,h))=some r from hi)
  exact af.2 ⟨v,cB hs h1,h2⟩
 | p2 f x y =>
  obtain ⟨v,h1,h2⟩:=af.1 (show ob (x.get loc vs tm) (fun v=>ob (y.get loc vs tm) fun u=>ob (f v u) fun r=>some (r,h))=some r from hi)
  obtain ⟨u,h3,h4⟩:=af.1 h2
  exact af.2 ⟨v,cB hs h1,af.2 ⟨u,cB hs h3,h4⟩⟩
 | pick c x y =>
  obtain ⟨v,h1,h2⟩:=af.1 (show ob (c.get loc vs tm) (fun v=>cH (fun t=>ob (Bool.rec (motive:=fun _=>Option AV) (y.get loc vs tm) (x.get loc vs tm) t) fun r=>some (r,h)) v)=some r from hi)
  obtain ⟨t,e,h3⟩:=fV h2
  subst e
  obtain ⟨s,h5,h6⟩:=af.1 h3
  refine af.2 ⟨_,cB hs h1,?_⟩
  show ob (Bool.rec (motive:=fun _=>Option AV) (y.get loc vs' tm) (x.get loc vs' tm) t) (fun r=>some (r,h))=some r
  refine af.2 ⟨s,?_,h6⟩
  cases t with
  | true=>exact cB hs h5
  | false=>exact cB hs h5
 | pn f xs =>
  obtain ⟨v,h1,h2⟩:=af.1 (show ob (be xs loc vs tm) (fun v=>ob (f v) fun r=>some (r,h))=some r from hi)
  exact af.2 ⟨v,fp hs h1,h2⟩
 | ld1 x =>
  obtain ⟨v,h1,h2⟩:=af.1 (show ob (x.get loc vs tm) (fun v=>ob (am h v) fun r=>some (r,h))=some r from hi)
  exact af.2 ⟨v,cB hs h1,h2⟩
 | ldn s x =>
  obtain ⟨v,h1,h2⟩:=af.1 (show ob (x.get loc vs tm) (fun v=>ob (di s h v) fun r=>some (r,h))=some r from hi)
  exact af.2 ⟨v,cB hs h1,h2⟩
 | rd f xs =>
  obtain ⟨v,h1,h2⟩:=af.1 (show ob (be xs loc vs tm) (fun v=>ob (f v h) fun r=>some (r,h))=some r from hi)
  exact af.2 ⟨v,fp hs h1,h2⟩
 | al f xs =>
  obtain ⟨v,h1,h2⟩:=af.1 (show ob (be xs loc vs tm) (fun v=>ob (f v) fun r=>some (r.2 id,h.new id r.1))=some r from hi)
  exact af.2 ⟨v,fp hs h1,h2⟩
 | st1 x y =>
  obtain ⟨v,h1,h2⟩:=af.1 (show ob (x.get loc vs tm) (fun p=>ob (y.get loc vs tm) fun v=>aW h p v)=some r from hi)
  obtain ⟨u,h3,h4⟩:=af.1 h2
  exact af.2 ⟨v,cB hs h1,af.2 ⟨u,cB hs h3,h4⟩⟩
 | ef f xs =>
  obtain ⟨v,h1,h2⟩:=af.1 (show ob (be xs loc vs tm) (fun v=>f v id h)=some r from hi)
  exact af.2 ⟨v,fp hs h1,h2⟩
 | cl g xs =>
  obtain ⟨fv,h1,h2⟩:=af.1 (show ob (g.get loc vs tm) (fun f=>ob (be xs loc vs tm) fun us=>gF call us h f)=some r from hi)
  obtain ⟨us,h3,h4⟩:=af.1 h2
  exact af.2 ⟨fv,cB hs h1,af.2 ⟨us,fp hs h3,h4⟩⟩
 | bad=>cases hi
theorem zF {i:kn} {vs tm:Tr AV} {id:Nat} (h1:i.eff=false) (h2:i.allocs=false) (h3:i.isBad=false):i.quiet vs tm id h=ob (i.ev [] vs tm (fun _ _ _=>none) id h) fun r=>some r.1:=by
 cases i <;> first | rfl | (cases h1;done) | (cases h2;done) | (cases h3;done)
theorem sI {vs vs' tm:Tr AV} (hs:qP vs vs') {id:Nat} {i:kn} {v:AV} (hi:i.quiet vs tm id h=some v):i.quiet vs' tm id h=some v:=by
 by_cases hal:i.allocs=true
 ·cases i with
  | al f xs =>
   obtain ⟨us,h1,h2⟩:=af.1 (show ob (be xs [] vs tm) (fun us=>ob (f us) fun r=>some (r.2 id))=some v from hi)
   exact af.2 ⟨us,fp hs h1,h2⟩
  | _=>cases hal
 ·by_cases he:i.eff=true
  ·cases i <;> first | cases hi | cases he
  ·by_cases hb:i.isBad=true
   ·cases i <;> first | cases hi | cases hb
   ·rw [zF (by simpa using he) (by simpa using hal) (by simpa using hb)] at hi ⊢
    obtain ⟨r,h1,h2⟩:=af.1 hi
    exact af.2 ⟨r,wx hs h1,h2⟩
theorem yY {vs vs' tm:Tr AV} (hs:qP vs vs') {id:Nat} {x:aw} {v:AV} (hi:x.quiet vs tm id h=some v):x.quiet vs' tm id h=some v:=by
 obtain ⟨g,i⟩:=x
 cases g with
 | none=>exact sI hs hi
 | some g =>
  obtain ⟨u,h1,h2⟩:=af.1 (show ob (g.1.get [] vs tm) (fun v=>Bool.rec (motive:=fun _=>Option AV) (some aJ) (i.quiet vs tm id h) (wanted g.2 v))=some v from hi)
  refine af.2 ⟨u,cB hs h1,?_⟩
  cases hw:wanted g.2 u with
  | true=>rw [hw] at h2;exact sI hs h2
  | false=>rw [hw] at h2;exact h2
theorem Sn {vs vs' tm:Tr AV} (hs:qP vs vs') {loc:List AV} {call:an} {id:Nat} {x:aw} {r:AV×ac} (hi:x.ev loc vs tm call id h=some r):x.ev loc vs' tm call id h=some r:=by
 obtain ⟨g,i⟩:=x
 cases g with
 | none=>exact wx hs hi
 | some g =>
  obtain ⟨u,h1,h2⟩:=af.1 (show ob (g.1.get loc vs tm) (fun v=>Bool.rec (motive:=fun _=>dA) (some (aJ,h)) (i.ev loc vs tm call id h) (wanted g.2 v))=some r from hi)
  refine af.2 ⟨u,cB hs h1,?_⟩
  cases hw:wanted g.2 u with
  | true=>rw [hw] at h2;exact wx hs h2
  | false=>rw [hw] at h2;exact h2
theorem Lu {vs vs' tm:Tr AV} (hs:qP vs vs') {x:aw} {b:Option cX} (hi:x.blk vs tm=some b):x.blk vs' tm=some b:=by
 obtain ⟨g,i⟩:=x
 cases i with
 | al f xs =>
  have made:∀ {b:Option cX},(ob (be xs [] vs tm) fun us=>ob (f us) fun r=>some (some r.1))=some b->(ob (be xs [] vs' tm) fun us=>ob (f us) fun r=>some (some r.1))=some b:=by
   intro b hb
   obtain ⟨us,h1,h2⟩:=af.1 hb
   exact af.2 ⟨us,fp hs h1,h2⟩
  cases g with
  | none=>exact made hi
  | some g =>
   obtain ⟨u,h1,h2⟩:=af.1 (show ob (g.1.get [] vs tm) (fun v=>Bool.rec (motive:=fun _=>Option (Option cX)) (some none) (ob (be xs [] vs tm) fun us=>ob (f us) fun r=>some (some r.1)) (wanted g.2 v))=some b from hi)
   refine af.2 ⟨u,cB hs h1,?_⟩
   cases hw:wanted g.2 u with
   | true=>rw [hw] at h2;exact made h2
   | false=>rw [hw] at h2;exact h2
 | _=>cases hi
theorem pS {vs tm:Tr AV} {id:Nat} {i:kn} {h':ac} {v:AV} (hn:i.reads=false) (hi:i.quiet vs tm id h=some v):i.quiet vs tm id h'=some v:=by
 cases i with
 | mv x =>
  obtain ⟨r,h1,h2⟩:=af.1 (show ob (ob (x.get [] vs tm) (fun v=>some (v,h))) (fun r=>some r.1)=some v from hi)
  obtain ⟨u,h3,h4⟩:=af.1 h1
  cases h4;cases h2
  exact af.2 ⟨(u,h'),af.2 ⟨u,h3,rfl⟩,rfl⟩
 | p1 f x =>
  obtain ⟨r,h1,h2⟩:=af.1 (show ob (ob (x.get [] vs tm) (fun v=>ob (f v) fun r=>some (r,h))) (fun r=>some r.1)=some v from hi)
  obtain ⟨u,h3,h4⟩:=af.1 h1
  obtain ⟨u2,h5,h6⟩:=af.1 h4
  cases h6;cases h2
  exact af.2 ⟨(u2,h'),af.2 ⟨u,h3,af.2 ⟨u2,h5,rfl⟩⟩,rfl⟩
 | p2 f x y =>
  obtain ⟨r,h1,h2⟩:=af.1 (show ob (ob (x.get [] vs tm) (fun v=>ob (y.get [] vs tm) fun u=>ob (f v u) fun r=>some (r,h))) (fun r=>some r.1)=some v from hi)
  obtain ⟨u,h3,h4⟩:=af.1 h1
  obtain ⟨u1,h3',h4'⟩:=af.1 h4
  obtain ⟨u2,h5,h6⟩:=af.1 h4'
  cases h6;cases h2
  exact af.2 ⟨(u2,h'),af.2 ⟨u,h3,af.2 ⟨u1,h3',af.2 ⟨u2,h5,rfl⟩⟩⟩,rfl⟩
 | pick c x y =>
  obtain ⟨r,h1,h2⟩:=af.1 (show ob (ob (c.get [] vs tm) (fun v=>cH (fun t=>ob (Bool.rec (motive:=fun _=>Option AV) (y.get [] vs tm) (x.get [] vs tm) t) fun r=>some (r,h)) v)) (fun r=>some r.1)=some v from hi)
  obtain ⟨u,h3,h4⟩:=af.1 h1
  obtain ⟨t,e,h5⟩:=fV h4
  subst e
  obtain ⟨s,h6,h7⟩:=af.1 h5
  cases h7;cases h2
  exact af.2 ⟨(s,h'),af.2 ⟨_,h3,af.2 ⟨s,h6,rfl⟩⟩,rfl⟩
 | pn f xs =>
  obtain ⟨r,h1,h2⟩:=af.1 (show ob (ob (be xs [] vs tm) (fun v=>ob (f v) fun r=>some (r,h))) (fun r=>some r.1)=some v from hi)
  obtain ⟨u,h3,h4⟩:=af.1 h1
  obtain ⟨u2,h5,h6⟩:=af.1 h4
  cases h6;cases h2
  exact af.2 ⟨(u2,h'),af.2 ⟨u,h3,af.2 ⟨u2,h5,rfl⟩⟩,rfl⟩
 | al f xs=>exact hi
 | ld1 x=>cases hn
 | ldn s x=>cases hn
 | rd f xs=>cases hn
 | _=>cases hi
theorem nF {vs tm:Tr AV} {id:Nat} {x:aw} {h':ac} {v:AV} (hn:x.i.reads=false) (hi:x.quiet vs tm id h=some v):x.quiet vs tm id h'=some v:=by
 obtain ⟨g,i⟩:=x
 cases g with
 | none=>exact pS hn hi
 | some g =>
  obtain ⟨u,h1,h2⟩:=af.1 (show ob (g.1.get [] vs tm) (fun v=>Bool.rec (motive:=fun _=>Option AV) (some aJ) (i.quiet vs tm id h) (wanted g.2 v))=some v from hi)
  refine af.2 ⟨u,h1,?_⟩
  cases hw:wanted g.2 u with
  | true=>rw [hw] at h2;exact pS hn h2
  | false=>rw [hw] at h2;exact h2
theorem zE {find:Nat->Option bN} {vs tm:Tr AV} {a:Act} {o:Oper} {i:kn} {id:Nat} {v:AV} (hg:qJ P keep find o i) (hal:i.allocs=false) (hr:HR P keep ρ h w) (he:gZ find [] vs tm ρ a) (hq:i.quiet vs tm id h=some v) :
  ei P w ρ (execOp a.eval o) v:=by
 cases i with
 | mv x =>
  obtain ⟨r,h1,h2⟩:=af.1 (show ob (ob (x.get [] vs tm) (fun v=>some (v,h))) (fun r=>some r.1)=some v from hq)
  obtain ⟨u,h3,h4⟩:=af.1 h1
  cases h4;cases h2
  exact hg [] vs tm ρ h w a hr he _ h3
 | p1 f x =>
  obtain ⟨r,h1,h2⟩:=af.1 (show ob (ob (x.get [] vs tm) (fun v=>ob (f v) fun r=>some (r,h))) (fun r=>some r.1)=some v from hq)
  obtain ⟨u,h3,h4⟩:=af.1 h1
  obtain ⟨u2,h5,h6⟩:=af.1 h4
  cases h6;cases h2
  exact hg [] vs tm ρ h w a hr he _ _ h3 h5
 | p2 f x y =>
  obtain ⟨r,h1,h2⟩:=af.1 (show ob (ob (x.get [] vs tm) (fun v=>ob (y.get [] vs tm) fun u=>ob (f v u) fun r=>some (r,h))) (fun r=>some r.1)=some v from hq)
  obtain ⟨u,h3,h4⟩:=af.1 h1
  obtain ⟨u1,h3',h4'⟩:=af.1 h4
  obtain ⟨u2,h5,h6⟩:=af.1 h4'
  cases h6;cases h2
  exact hg [] vs tm ρ h w a hr he _ _ _ h3 h3' h5
 | pick c x y =>
  obtain ⟨r,h1,h2⟩:=af.1 (show ob (ob (c.get [] vs tm) (fun v=>cH (fun t=>ob (Bool.rec (motive:=fun _=>Option AV) (y.get [] vs tm) (x.get [] vs tm) t) fun r=>some (r,h)) v)) (fun r=>some r.1)=some v from hq)
  obtain ⟨u,h3,h4⟩:=af.1 h1
  obtain ⟨t,e,h5⟩:=fV h4
  subst e
  obtain ⟨s,h6,h7⟩:=af.1 h5
  cases h7;cases h2
  exact hg [] vs tm ρ h w a hr he t s h3 (by cases t <;> exact h6)
 | pn f xs =>
  obtain ⟨r,h1,h2⟩:=af.1 (show ob (ob (be xs [] vs tm) (fun v=>ob (f v) fun r=>some (r,h))) (fun r=>some r.1)=some v from hq)
  obtain ⟨u,h3,h4⟩:=af.1 h1
  obtain ⟨u2,h5,h6⟩:=af.1 h4
  cases h6;cases h2
  exact hg [] vs tm ρ h w a hr he _ _ h3 h5
 | ld1 x =>
  obtain ⟨r,h1,h2⟩:=af.1 (show ob (ob (x.get [] vs tm) (fun v=>ob (am h v) fun r=>some (r,h))) (fun r=>some r.1)=some v from hq)
  obtain ⟨u,h3,h4⟩:=af.1 h1
  obtain ⟨u2,h5,h6⟩:=af.1 h4
  cases h6;cases h2
  exact hg [] vs tm ρ h w a hr he _ _ h3 h5
 | ldn s x =>
  obtain ⟨r,h1,h2⟩:=af.1 (show ob (ob (x.get [] vs tm) (fun v=>ob (di s h v) fun r=>some (r,h))) (fun r=>some r.1)=some v from hq)
  obtain ⟨u,h3,h4⟩:=af.1 h1
  obtain ⟨u2,h5,h6⟩:=af.1 h4
  cases h6;cases h2
  exact hg [] vs tm ρ h w a hr he _ _ h3 h5
 | rd f xs =>
  obtain ⟨r,h1,h2⟩:=af.1 (show ob (ob (be xs [] vs tm) (fun v=>ob (f v h) fun r=>some (r,h))) (fun r=>some r.1)=some v from hq)
  obtain ⟨u,h3,h4⟩:=af.1 h1
  obtain ⟨u2,h5,h6⟩:=af.1 h4
  cases h6;cases h2
  exact hg [] vs tm ρ h w a hr he _ _ h3 h5
 | al f xs=>cases hal
 | _=>cases hq
end
end Go.Am
namespace Go.Am
section
variable {base:Nat} {tm:Tr AV} {call:an}
theorem jQ (x:Nat×aw) (l:List (Nat×aw)) (h:ac) (vs:Tr AV):ck base tm vs (x::l) h=ob (x.2.blk vs tm) fun b=>Option.rec (motive:=fun _=>Option ac) (ck base tm vs l h) (fun b=>ck base tm vs l ⟨h.bs.up (some b) (base+x.1),h.next⟩) b:=rfl
theorem nT {vs vs':Tr AV} (hs:qP vs vs'):∀ {l:List (Nat×aw)} {h hm:ac},ck base tm vs l h=some hm->ck base tm vs' l h=some hm:=by
 intro l
 induction l with
 | nil=>intro h hm hr;exact hr
 | cons x l ih =>
  intro h hm hr
  rw [jQ] at hr ⊢
  obtain ⟨b,h1,h2⟩:=af.1 hr
  refine af.2 ⟨b,Lu hs h1,?_⟩
  cases b with
  | none=>exact ih h2
  | some b=>exact ih h2
theorem lm {own:Nat×aw->List (Nat×aw)} {h:ac} {x:Nat×aw} {v:AV} {vs vs':Tr AV} (hs:qP vs vs') (hq:fj base tm vs own h x=some v):fj base tm vs' own h x=some v:=by
 obtain ⟨hx,h1,h2⟩:=af.1 hq
 exact af.2 ⟨hx,nT hs h1,yY hs h2⟩
theorem zM (own:Nat×aw->List (Nat×aw)) (x:Nat×aw) (l:List (Nat×aw)) (h:ac) (vs:Tr AV):gM base tm h own (x::l) vs=ob (fj base tm vs own h x) fun v=>gM base tm h own l (vs.up (some v) x.1):=rfl
theorem zN {own:Nat×aw->List (Nat×aw)} {h:ac}:∀ {l:List (Nat×aw)} {vs vs':Tr AV},gM base tm h own l vs=some vs'->l.Pairwise (fun x y=>x.1≠y.1)->(∀ x∈l,vs.gt x.1=none) ->
  qP vs vs'/\(∀ i,(∀ x∈l,x.1≠i)->vs'.gt i=vs.gt i)/\∀ x∈l,∃ v,vs'.gt x.1=some v/\fj base tm vs' own h x=some v:=by
 intro l
 induction l with
 | nil=>intro vs vs' hr _ _;cases hr;exact ⟨qP.refl _,fun _ _=>rfl,fun x hx=>(by cases hx)⟩
 | cons x l ih =>
  intro vs vs' hr hp hf
  rw [zM] at hr
  obtain ⟨v,h1,h2⟩:=af.1 hr
  rw [List.pairwise_cons] at hp
  have hs:qP vs (vs.up (some v) x.1):=by
   intro j u hj
   rw [Tr.gt_up]
   by_cases e:j=x.1
   ·subst e;rw [hf x (List.mem_cons_self ..)] at hj;cases hj
   ·rw [if_neg e];exact hj
  obtain ⟨g1,g2,g3⟩:=ih h2 hp.2 (fun y hy=>by
   rw [Tr.gt_up,if_neg (fun e=>hp.1 y hy e.symm)];exact hf y (List.mem_cons_of_mem _ hy))
  have hx:vs'.gt x.1=some v:=by
   rw [g2 x.1 (fun y hy e=>hp.1 y hy e.symm),Tr.gt_up,if_pos rfl]
  refine ⟨hs.trans g1,fun i hi=>?_,fun y hy=>?_⟩
  ·rw [g2 i (fun y hy=>hi y (List.mem_cons_of_mem _ hy)),Tr.gt_up,if_neg (fun e=>hi x (List.mem_cons_self ..) e.symm)]
  ·rcases List.mem_cons.1 hy with rfl | hy
   ·exact ⟨v,hx,lm (hs.trans g1) h1⟩
   ·exact g3 y hy
theorem zL {own:Nat×aw->List (Nat×aw)} {h:ac} {vs:Tr AV}:∀ {l:List (Nat×aw)},i8 base tm vs h own l=true->∀ x∈l,∃ v,vs.gt x.1=some v/\fj base tm vs own h x=some v:=by
 intro l
 induction l with
 | nil=>intro _ x hx;cases hx
 | cons y l ih =>
  intro hc x hx
  have hc:(Option.rec (motive:=fun _=>Bool) false (fun v=>Option.rec (motive:=fun _=>Bool) false (fun u=>bT (AV.same v u) (i8 base tm vs h own l)) (vs.gt y.1)) (fj base tm vs own h y):Bool)=true:=hc
  cases hq:fj base tm vs own h y with
  | none=>rw [hq] at hc;cases hc
  | some v =>
   rw [hq] at hc
   cases hv:vs.gt y.1 with
   | none=>rw [hv] at hc;cases hc
   | some u =>
    rw [hv] at hc
    have hc:bT (AV.same v u) (i8 base tm vs h own l)=true:=hc
    rw [ax,Bool.and_eq_true] at hc
    obtain rfl:=nU _ _ hc.1
    rcases List.mem_cons.1 hx with rfl | hx
    ·exact ⟨v,hv,hq⟩
    ·exact ih hc.2 x hx
section
variable (gs:List (Nat×aw)) (b:Array Nat) (es:List Nat) (base:Nat) (tm vsF:Tr AV) (call:an) (hF:ac)
def Lj (r:Nat) (h hm:ac):Prop :=
 (∀ x∈gs,x.2.i.eff=false->iZ b es x.1<=r->r<=ia b es x.1->(x.2.i.reads=true∨iZ b es x.1=r)->∃ v,vsF.gt x.1=some v/\fj base tm vsF (nM b gs es r) h x=some v) /\
 ck base tm vsF (gs.filter fun x=>x.2.i.allocs&&decide (ia b es x.1=r)) h=some hm
def Xj:Nat->List (Nat×aw)->ac->Prop
 | r,[],h=>Lj gs b es base tm vsF r h hF
 | r,x::xs,h=>∃ hm v h',Lj gs b es base tm vsF r h hm/\vsF.gt x.1=some v/\x.2.ev [] vsF tm call hm.next hm=some (v,h')/\Xj (r+1) xs h'
end
theorem fm:∀ {gs:List (Nat×aw)},gs.Pairwise (fun x y=>x.1≠y.1)->∀ {x y},x∈gs->y∈gs->x.1=y.1->x=y:=by
 intro gs
 induction gs with
 | nil=>intro _ x y hx;cases hx
 | cons z gs ih =>
  intro hp x y hx hy e
  rw [List.pairwise_cons] at hp
  rcases List.mem_cons.1 hx with hx1 | hx1
  ·rcases List.mem_cons.1 hy with hy1 | hy1
   ·rw [hx1,hy1]
   ·exact absurd (hx1▸e) (hp.1 y hy1)
  ·rcases List.mem_cons.1 hy with hy1 | hy1
   ·exact absurd (hy1▸e.symm) (hp.1 x hx1)
   ·exact ih hp.2 hx1 hy1 e
theorem sV {gs:List (Nat×aw)} {b:Array Nat} {es:List Nat} {r:Nat} {vs vs1:Tr AV} {h:ac} (hp:gs.Pairwise (fun x y=>x.1≠y.1))
  (hck:i8 base tm vs h (nM b gs es r) (gs.filter fun x=>x.2.i.reads&&decide (iZ b es x.1<r/\r<=ia b es x.1))=true)
  (hev:gM base tm h (nM b gs es r) (gs.filter fun x=>!x.2.i.eff&&decide (iZ b es x.1=r)) vs=some vs1)
  (hf:∀ x∈gs,x.2.i.eff=false->iZ b es x.1=r->vs.gt x.1=none) :
  qP vs vs1/\(∀ i,(∀ x∈gs,x.2.i.eff=false->iZ b es x.1=r->x.1≠i)->vs1.gt i=vs.gt i) /\
   ∀ vsF,qP vs1 vsF->∀ x∈gs,x.2.i.eff=false->iZ b es x.1<=r->r<=ia b es x.1->(x.2.i.reads=true∨iZ b es x.1=r)->∃ v,vsF.gt x.1=some v/\fj base tm vsF (nM b gs es r) h x=some v:=by
 have hm:∀ {x},x∈(gs.filter fun x=>!x.2.i.eff&&decide (iZ b es x.1=r))↔x∈gs/\x.2.i.eff=false/\iZ b es x.1=r:=by
  intro x;simp only [List.mem_filter,Bool.and_eq_true,Bool.not_eq_true',decide_eq_true_eq]
 obtain ⟨g1,g2,g3⟩:=zN hev (hp.filter _) (fun x hx=>let ⟨a1,a2,a3⟩:=hm.1 hx;hf x a1 a2 a3)
 refine ⟨g1,fun i hi=>g2 i fun x hx=>let ⟨a1,a2,a3⟩:=hm.1 hx;hi x a1 a2 a3,fun vsF hs x hx he hlo hhi hr=>?_⟩
 by_cases hlr:iZ b es x.1=r
 ·obtain ⟨v,h1,h2⟩:=g3 x (hm.2 ⟨hx,he,hlr⟩)
  exact ⟨v,hs _ _ h1,lm hs h2⟩
 ·have hrd:=hr.resolve_right hlr
  obtain ⟨v,h1,h2⟩:=zL hck x (by simp only [List.mem_filter,Bool.and_eq_true,decide_eq_true_eq];exact ⟨hx,hrd,by omega,hhi⟩)
  exact ⟨v,hs _ _ (g1 _ _ h1),lm (g1.trans hs) h2⟩
theorem ly (s:gk) (ss:List gk) (vs:Tr AV) (h:ac):bw base tm call (s::ss) vs h =
  aV (i8 base tm vs h s.own s.cks) (ob (gM base tm h s.own s.evs vs) fun vs=>ob (ck base tm vs s.mats h) fun h=>sL tm vs call h (bw base tm call ss) s.act):=rfl
theorem B9 {gs:List (Nat×aw)} {b:Array Nat} {es:List Nat} {vsF:Tr AV} {hF:ac} (hp:gs.Pairwise (fun x y=>x.1≠y.1)) :
  ∀ {acts:List (Nat×aw)} {r:Nat} {vs:Tr AV} {h:ac},bw base tm call (ar b gs es r acts) vs h=some (vsF,hF)->(∀ x∈acts,x∈gs/\x.2.i.eff=true)->acts.Pairwise (fun x y=>x.1≠y.1) ->
   (∀ x∈gs,(x.2.i.eff=false/\r<=iZ b es x.1)∨x∈acts->vs.gt x.1=none)->qP vs vsF/\Xj gs b es base tm vsF call hF r acts h:=by
 intro acts
 induction acts with
 | nil =>
  intro r vs h hr ha hap hf
  simp only [ar] at hr
  rw [ly] at hr
  obtain ⟨hck,hr⟩:=aE.1 hr
  obtain ⟨vs1,hev,hr⟩:=af.1 hr
  obtain ⟨hm,hmt,hr⟩:=af.1 hr
  cases hr
  obtain ⟨g1,_,g3⟩:=sV hp hck hev (fun x hx he hlo=>hf x hx (.inl ⟨he,by omega⟩))
  exact ⟨g1,g3 _ (qP.refl _),hmt⟩
 | cons x acts ih =>
  intro r vs h hr ha hap hf
  simp only [ar] at hr
  rw [ly] at hr
  obtain ⟨hck,hr⟩:=aE.1 hr
  obtain ⟨vs1,hev,hr⟩:=af.1 hr
  obtain ⟨hm,hmt,hr⟩:=af.1 hr
  obtain ⟨q,hq,hr⟩:=af.1 (show ob (x.2.ev [] vs1 tm call hm.next hm) (fun r1=>bw base tm call (ar b gs es (r+1) acts) (vs1.up (some r1.1) x.1) r1.2)=some (vsF,hF) from hr)
  obtain ⟨g1,g2,g3⟩:=sV hp hck hev (fun x hx he hlo=>hf x hx (.inl ⟨he,by omega⟩))
  rw [List.pairwise_cons] at hap
  obtain ⟨hxg,hxe⟩:=ha x (List.mem_cons_self ..)
  have hx1:vs1.gt x.1=none:=by
   rw [g2 x.1 (fun y hy he _ e=>by
    have:=fm hp hy hxg e
    subst this;rw [hxe] at he;cases he)]
   exact hf x hxg (.inr (List.mem_cons_self ..))
  have hs12:qP vs1 (vs1.up (some q.1) x.1):=by
   intro j u hj
   rw [Tr.gt_up]
   by_cases e:j=x.1
   ·subst e;rw [hx1] at hj;cases hj
   ·rw [if_neg e];exact hj
  obtain ⟨g4,g5⟩:=ih hr (fun y hy=>ha y (List.mem_cons_of_mem _ hy)) hap.2 (fun y hy hc=>by
   have hne:y.1≠x.1:=by
    intro e
    rcases hc with ⟨he,_⟩ | hc
    ·have:=fm hp hy hxg e
     subst this;rw [hxe] at he;cases he
    ·exact hap.1 y hc e.symm
   rw [Tr.gt_up,if_neg hne,g2 y.1 (fun z hz he hlo e=>by
    have:=fm hp hz hy e
    subst this
    rcases hc with ⟨_,h2⟩ | hc
    ·omega
    ·rw [(ha z (List.mem_cons_of_mem _ hc)).2] at he;cases he)]
   rcases hc with ⟨he,h2⟩ | hc
   ·exact hf y hy (.inl ⟨he,by omega⟩)
   ·exact hf y hy (.inr (List.mem_cons_of_mem _ hc)))
  refine ⟨(g1.trans hs12).trans g4,hm,q.1,q.2,⟨g3 _ (hs12.trans g4),nT (hs12.trans g4) hmt⟩,g4 _ _ ?_,Sn (hs12.trans g4) hq,g5⟩
  rw [Tr.gt_up,if_pos rfl]
theorem Xj.get {gs:List (Nat×aw)} {b:Array Nat} {es:List Nat} {vsF:Tr AV} {hF:ac}:∀ {acts:List (Nat×aw)} {r:Nat} {h:ac},Xj gs b es base tm vsF call hF r acts h->∃ hm,Lj gs b es base tm vsF r h hm
 | [],_,_,hr=>⟨_,hr⟩
 | _::_,_,_,hr=>let ⟨hm,_,_,h1,_⟩:=hr;⟨hm,h1⟩
theorem Xj.all {gs:List (Nat×aw)} {b:Array Nat} {es:List Nat} {vsF:Tr AV} {hF:ac}:∀ {acts:List (Nat×aw)} {r:Nat} {h:ac},Xj gs b es base tm vsF call hF r acts h ->
  ∀ x∈gs,x.2.i.eff=false->x.2.i.reads=false->r<=iZ b es x.1->iZ b es x.1<=r+acts.length->iZ b es x.1<=ia b es x.1->∃ v,vsF.gt x.1=some v/\∀ h',x.2.quiet vsF tm (base+x.1) h'=some v:=by
 intro acts
 induction acts with
 | nil =>
  intro r h hr x hx he hrd h1 h2 h3
  have e:iZ b es x.1=r:=by simp only [List.length_nil] at h2;omega
  obtain ⟨v,g1,g2⟩:=hr.1 x hx he (by omega) (by omega) (.inr e)
  obtain ⟨_,_,g2⟩:=af.1 g2
  exact ⟨v,g1,fun h'=>nF hrd g2⟩
 | cons y acts ih =>
  intro r h hr x hx he hrd h1 h2 h3
  obtain ⟨hm,v,h',hst,_,_,hrun⟩:=hr
  by_cases e:iZ b es x.1=r
  ·obtain ⟨v,g1,g2⟩:=hst.1 x hx he (by omega) (by omega) (.inr e)
   obtain ⟨_,_,g2⟩:=af.1 g2
   exact ⟨v,g1,fun h'=>nF hrd g2⟩
  ·exact ih hrun x hx he hrd (by omega) (by simp only [List.length_cons] at h2;omega) h3
end
end Go.Am
namespace Go.Am
def fH (acc:Array Nat) (o:Oper):Array Nat:=acc.push (o.after.foldl (fun s e=>if Region.binds .any e then s|||2^e.on|||acc.getD e.on 0 else s) 0)
theorem Js (ops:Array Oper):Region.before ops=ops.toList.foldl fH #[]:=by
 unfold Region.before
 rw [← Array.foldl_toList];rfl
theorem ow:∀ (l:List Oper) (acc:Array Nat),(l.foldl fH acc).size=acc.size+l.length
 | [],acc=>rfl
 | o::l,acc=>by rw [List.foldl_cons,ow l];simp [fH];omega
theorem qS:∀ (l:List Oper) (acc:Array Nat) (i:Nat),i<acc.size->(l.foldl fH acc).getD i 0=acc.getD i 0
 | [],acc,i,_=>rfl
 | o::l,acc,i,h=>by
  rw [List.foldl_cons,qS l _ i (by simp [fH];omega)]
  simp only [fH,Array.getD_eq_getD_getElem?,Array.getElem?_push]
  rw [if_neg (by omega)]
theorem yW {acc:Array Nat} {j:Nat}:∀ (l:List Edge) (s:Nat),(l.foldl (fun s e=>if Region.binds .any e then s|||2^e.on|||acc.getD e.on 0 else s) s).testBit j=true ->
  s.testBit j=true∨∃ e∈l,Region.binds .any e=true/\(j=e.on∨(acc.getD e.on 0).testBit j=true)
 | [],s,h=>.inl h
 | e::l,s,h=>by
  rw [List.foldl_cons] at h
  rcases yW l _ h with h1|⟨e',h1,h2⟩
  ·by_cases hb:Region.binds .any e=true
   ·rw [if_pos hb] at h1
    simp only [Nat.testBit_or,Bool.or_eq_true,Nat.testBit_two_pow,decide_eq_true_eq] at h1
    rcases h1 with (h1 | h1) | h1
    ·exact .inl h1
    ·exact .inr ⟨e,List.mem_cons_self ..,hb,.inl h1.symm⟩
    ·exact .inr ⟨e,List.mem_cons_self ..,hb,.inr h1⟩
   ·rw [if_neg hb] at h1;exact .inl h1
  ·exact .inr ⟨e',List.mem_cons_of_mem _ h1,h2⟩
theorem px {ops:Array Oper} {i j:Nat} (hlt:∀ o,ops[i]?=some o->∀ e∈o.after,Region.binds .any e=true->e.on<i) (h:lH (Region.before ops) i j=true) :
  ∃ o,ops[i]?=some o/\∃ e∈o.after,Region.binds .any e=true/\(j=e.on∨lH (Region.before ops) e.on j=true):=by
 unfold lH at h ⊢
 rw [Js] at h ⊢
 have hi:i<ops.toList.length:=by
  rcases Nat.lt_or_ge i ops.toList.length with h1 | h1
  ·exact h1
  ·rw [Array.getD_eq_getD_getElem?,Array.getElem?_eq_none (by rw [ow];simpa using h1)] at h
   simp at h
 have hsplit:ops.toList=ops.toList.take i++(ops.toList[i]::ops.toList.drop (i+1)):=by rw [← List.drop_eq_getElem_cons hi];simp
 have ho:ops[i]?=some ops.toList[i]:=by rw [← Array.getElem?_toList];exact List.getElem?_eq_getElem hi
 refine ⟨_,ho,?_⟩
 have hacc:((ops.toList.take i).foldl fH #[]).size=i:=by
  have:i<ops.size:=by simpa using hi
  rw [ow];simp;omega
 have hval:(ops.toList.foldl fH #[]).getD i 0=(ops.toList[i].after.foldl (fun s e=>if Region.binds .any e then s|||2^e.on|||((ops.toList.take i).foldl fH #[]).getD e.on 0 else s) 0):=by
  conv=>lhs;rw [hsplit]
  rw [List.foldl_append,List.foldl_cons,qS _ _ _ (by simp [fH,hacc])]
  simp only [fH,Array.getD_eq_getD_getElem?,Array.getElem?_push]
  rw [if_pos hacc.symm];rfl
 rw [hval,← Array.foldl_toList] at h
 rcases yW _ _ h with h1|⟨e,h1,h2,h3⟩
 ·simp at h1
 ·have h1:=Array.mem_toList_iff.1 h1
  refine ⟨e,h1,h2,h3.imp id fun h3=>?_⟩
  have hon:=hlt _ ho e h1 h2
  rw [← h3]
  conv=>lhs;rw [hsplit]
  rw [List.foldl_append,qS _ _ _ (by rw [hacc];exact hon)]
structure qm (ops:Array Oper):Prop where
 back:∀ i o,ops[i]?=some o->∀ e∈o.after,Region.binds .any e=true->e.on<i
 guard:∀ i o j want,ops[i]?=some o->o.guard=some (j,want)->lH (Region.before ops) i j=true
 first:∀ i o j d,ops[i]?=some o->j<i->(ops[j]?).bind (·.dst)=some d->d∈fL ops o->lH (Region.before ops) i j=true
 names:∀ i j o d,ops[i]?=some o->j<ops.size->i≠j->(ops[j]?).bind (·.dst)=some d->d∈fL ops o->lH (Region.before ops) i j=true∨lH (Region.before ops) j i=true
theorem So {ops:Array Oper} (h1:wQ ops (Region.before ops)=true) (h2:wv ops (Region.before ops)=true):qm ops:=by
 have he:∀ i o,ops[i]?=some o->(∀ e∈o.after,Region.binds .any e=true->e.on<i)/\(∀ j want,o.guard=some (j,want)->lH (Region.before ops) i j=true) /\
   ∀ j,j<i->∀ d,(ops[j]?).bind (·.dst)=some d->d∈fL ops o->lH (Region.before ops) i j=true:=by
  intro i o ho
  unfold wv at h2
  rw [List.all_eq_true] at h2
  have hm:(o,i)∈ops.toList.zipIdx:=by
   rw [List.mem_zipIdx_iff_getElem?,Array.getElem?_toList];exact ho
  have:=h2 _ hm
  simp only [Bool.and_eq_true] at this
  obtain ⟨⟨g1,g2⟩,g3⟩:=this
  refine ⟨fun e hm hb=>?_,fun j want hg=>?_,fun j hj d hd hn=>?_⟩
  ·rw [Array.all_eq_true'] at g1
   have:=g1 e hm
   simpa [hb] using this
  ·rw [hg] at g2;exact g2
  ·rw [List.all_eq_true] at g3
   have:=g3 j (List.mem_range.2 hj)
   rw [hd] at this
   simpa [hn] using this
 refine ⟨fun i o ho=>(he i o ho).1,fun i o j want ho hg=>(he i o ho).2.1 j want hg,fun i o j d ho hj hd hn=>(he i o ho).2.2 j hj d hd hn,fun i j o d ho hj hne hd hn=>?_⟩
 unfold wQ at h1
 rw [List.all_eq_true] at h1
 have hi:i<ops.size:=(Array.getElem?_eq_some_iff.1 ho).1
 have:=h1 i (List.mem_range.2 hi)
 rw [List.all_eq_true] at this
 have:=this j (List.mem_range.2 hj)
 obtain ⟨oj,hoj⟩:∃ oj,ops[j]?=some oj:=⟨_,Array.getElem?_eq_getElem hj⟩
 rw [ho,hoj] at this
 rw [hoj] at hd
 have hd:oj.dst=some d:=hd
 simp only [hd] at this
 simp only [Bool.or_eq_true,beq_iff_eq,Bool.not_eq_true',List.contains_eq_mem,decide_eq_false_iff_not] at this
 rcases this with ((h | h) | h) | h
 ·exact absurd h hne
 ·exact .inl h
 ·exact .inr h
 ·exact absurd hn h
theorem AH {ops:Array Oper} (hg:qm ops):∀ (i j:Nat),lH (Region.before ops) i j=true->j<i:=by
 intro i
 induction i using Nat.strongRecOn with
 | _ i ih =>
  intro j h
  obtain ⟨o,ho,e,he,hb,h1⟩:=px (fun o ho=>hg.back i o ho) h
  have:=hg.back i o ho e he hb
  rcases h1 with rfl | h1
  ·exact this
  ·exact Nat.lt_trans (ih _ this j h1) this
theorem qa {ops:Array Oper} {t:Nat}:∀ {i j:Nat},mT ops t i=some j->j<i/\(ops[j]?).bind (·.dst)=some t/\∀ k,j<k->k<i->(ops[k]?).bind (·.dst)≠some t
 | 0,j,h=>by cases h
 | i+1,j,h=>by
  simp only [mT] at h
  split at h
  ·rename_i hd
   cases h
   exact ⟨by omega,hd,fun k h1 h2=>by omega⟩
  ·rename_i hd
   obtain ⟨h1,h2,h3⟩:=qa h
   refine ⟨by omega,h2,fun k hk1 hk2=>?_⟩
   by_cases e:k=i
   ·subst e;exact hd
   ·exact h3 k hk1 (by omega)
theorem pZ {ops:Array Oper} {t:Nat}:∀ {i:Nat},mT ops t i=none->∀ k,k<i->(ops[k]?).bind (·.dst)≠some t
 | 0,_,k,hk=>absurd hk (Nat.not_lt_zero _)
 | i+1,h,k,hk=>by
  simp only [mT] at h
  split at h
  ·cases h
  ·rename_i hd
   by_cases e:k=i
   ·subst e;exact hd
   ·exact pZ h k (by omega)
end Go.Am
namespace Go.Am
section
variable {P:Program} {keep:aK} {w:World} {ρ : aL} {h:ac} {kp:Nat->Bool} {nt:Nat} {ops:Array Oper} {i:Nat}
theorem gV (hb:(cq P kp nt ops i).i.isBad=false):∃ o,ops[i]?=some o/\kh nt o.dst=true/\(cq P kp nt ops i).i=dw P (findN kp ops o i) o.op /\
  (((cq P kp nt ops i).g=none/\o.guard=none)∨∃ j want d c,o.guard=some (j,want)/\(ops[j]?).bind (·.dst)=some d/\findN kp ops o i d=some c/\(cq P kp nt ops i).g=some (c,want)):=by
 unfold cq at hb ⊢
 cases ho:ops[i]? with
 | none=>rw [ho] at hb;cases hb
 | some o =>
  rw [ho] at hb
  simp only at hb ⊢
  cases hd:kh nt o.dst with
  | false=>rw [hd] at hb;cases hb
  | true =>
   rw [hd] at hb
   simp only [if_true] at hb ⊢
   refine ⟨o,rfl,hd,?_⟩
   cases hg:o.guard with
   | none=>exact ⟨rfl,.inl ⟨rfl,rfl⟩⟩
   | some jw =>
    obtain ⟨j,want⟩:=jw
    rw [hg] at hb
    simp only [re] at hb ⊢
    cases hdd:(ops[j]?).bind (·.dst) with
    | none=>rw [hdd] at hb;cases hb
    | some d =>
     rw [hdd] at hb
     simp only at hb ⊢
     cases hc:findN kp ops o i d with
     | none=>rw [hc] at hb;cases hb
     | some c=>exact ⟨rfl,.inr ⟨j,want,d,c,rfl,hdd,hc,rfl⟩⟩
variable {vs tm:Tr AV} {a:Act} {ro:Option Nat} {Q:Exit->Act->World->Prop} {K:Act->World->Prop} {o:Oper}
theorem dQ (ho:ops[i]?=some o) (hw:Region.wanted o (yielded ops a.tmps)=true) (h:o.wpIn (dM ro) 0 P a w K Q):wpOpIn (dM ro) 0 P ops Q i K a w:=by
 unfold wpOpIn;rw [ho];simp only [hw,if_true];exact h
theorem mS (ho:ops[i]?=some o) (hw:Region.wanted o (yielded ops a.tmps)=false) (h:K (a.put o.dst undef) w):wpOpIn (dM ro) 0 P ops Q i K a w:=by
 unfold wpOpIn;rw [ho];simp only [hw,Bool.false_eq_true,if_false];exact ⟨fun _ _=>trivial,h⟩
theorem zw {find:Nat->Option bN} (hb:(dw P find o.op).isBad=false):∀ c,o.op≠.defer c:=by
 intro c e;rw [e] at hb;cases hb
theorem mD (hb:(cq P kp nt ops i).i.isBad=false) (ho:ops[i]?=some o) (he:gZ (findN kp ops o i) [] vs tm ρ a) :
  ((cq P kp nt ops i).g=none/\Region.wanted o (yielded ops a.tmps)=true)∨∃ c want,(cq P kp nt ops i).g=some (c,want)/\∀ v,c.get [] vs tm=some v->Region.wanted o (yielded ops a.tmps)=wanted want v:=by
 obtain ⟨o',ho',_,_,hg⟩:=gV hb
 rw [ho] at ho';cases ho'
 rcases hg with ⟨h1,h2⟩|⟨j,want,d,c,h1,h2,h3,h4⟩
 ·exact .inl ⟨h1,by simp [Region.wanted,h2]⟩
 ·exact .inr ⟨c,want,h4,fun v hv=>oe he h1 h2 h3 hv⟩
theorem BP (hr:HR P keep ρ h w) (hb:(cq P kp nt ops i).i.isBad=false) (ho:ops[i]?=some o) (he:gZ (findN kp ops o i) [] vs tm ρ a) (hal:(cq P kp nt ops i).i.allocs=false) {id:Nat} {u:AV}
  (hq:(cq P kp nt ops i).quiet vs tm id h=some u) (hK:∀ v,VR ρ u v->K (a.put o.dst v) w):wpOpIn (dM ro) 0 P ops Q i K a w:=by
 obtain ⟨o',ho',_,hi,_⟩:=gV hb
 rw [ho] at ho';cases ho'
 have hgood:=kH (P:=P) (keep:=keep) (find:=findN kp ops o i) o
 have run:(cq P kp nt ops i).i.quiet vs tm id h=some u->o.wpIn (dM ro) 0 P a w K Q:=by
  intro hq
  rw [hi] at hq hal hb
  obtain ⟨v,h1,h2⟩:=zE hgood hal hr he hq
  refine ⟨fun _ _=>trivial,?_⟩
  rw [Oper.semAt_eq _ _ _ (zw hb),h1]
  exact hK v h2
 cases hd:cq P kp nt ops i with
 | mk g x =>
  rcases mD hb ho he with ⟨h1,h2⟩|⟨c,want,h1,h2⟩
  ·rw [hd] at h1 hq run
   simp only at h1;subst h1
   exact dQ ho h2 (run hq)
  ·rw [hd] at h1 hq run
   simp only at h1;subst h1
   obtain ⟨v,g1,g2⟩:=af.1 (show ob (c.get [] vs tm) (fun v=>Bool.rec (motive:=fun _=>Option AV) (some aJ) (x.quiet vs tm id h) (wanted want v))=some u from hq)
   have hw:=h2 v g1
   cases hwv:wanted want v with
   | true=>rw [hwv] at g2 hw;exact dQ ho hw (run g2)
   | false=>rw [hwv] at g2 hw;cases g2;exact mS ho hw (hK undef (VR.undef ρ))
theorem AB (hr:HR P keep ρ h w) (hb:(cq P kp nt ops i).i.isBad=false) (ho:ops[i]?=some o) (he:gZ (findN kp ops o i) [] vs tm ρ a) (hal:(cq P kp nt ops i).i.allocs=true) {id:Nat} {u:AV}
  (hq:(cq P kp nt ops i).quiet vs tm id h=some u) (hid:ρ id=none) (hK0:(cq P kp nt ops i).blk vs tm=some none->∀ v,VR ρ u v->K (a.put o.dst v) w)
  (hK1:∀ y v w' SP sz,(cq P kp nt ops i).blk vs tm=some (some y)->w'.os=w.os->w'.output=w.output->w'.heap=w.heap.push SP->BR P keep (ρ.up id ⟨w.heap.size,0,sz⟩) id y w'->VR (ρ.up id ⟨w.heap.size,0,sz⟩) u v->K (a.put o.dst v) w') :
  wpOpIn (dM ro) 0 P ops Q i K a w:=by
 obtain ⟨o',ho',_,hi,_⟩:=gV hb
 rw [ho] at ho';cases ho'
 have hgood:=kH (P:=P) (keep:=keep) (find:=findN kp ops o i) o
 cases hd:cq P kp nt ops i with
 | mk g x =>
  rw [hd] at hi hal
  cases x with
  | al f xs =>
   simp only at hi
   rw [← hi] at hgood
   have run:∀ {us:List AV} {r:cX×(Nat->AV)},be xs [] vs tm=some us->f us=some r->r.2 id=u->(cq P kp nt ops i).blk vs tm=some (some r.1)->o.wpIn (dM ro) 0 P a w K Q:=by
    intro us r h1 h2 h3 h4
    obtain ⟨SP,sz,v,w',g1,g2,g3,g4,g5⟩:=hgood [] vs tm ρ h w a hr he us r h1 h2
    obtain ⟨g6,g7⟩:=g5 id hid
    refine ⟨fun _ _=>trivial,?_⟩
    rw [Oper.semAt_eq _ _ _ (zw (by rw [← hi];rfl)),g1]
    rw [h3] at g7
    exact hK1 r.1 v w' SP sz h4 g2 g3 g4 g6 g7
   rcases mD hb ho he with ⟨h1,h2⟩|⟨c,want,h1,h2⟩
   ·rw [hd] at h1 hq
    simp only at h1;subst h1
    obtain ⟨us,g1,g2⟩:=af.1 (show ob (be xs [] vs tm) (fun us=>ob (f us) fun r=>some (r.2 id))=some u from hq)
    obtain ⟨r,g3,g4⟩:=af.1 g2
    refine dQ ho h2 (run g1 g3 (Option.some.inj g4) ?_)
    rw [hd]
    exact af.2 ⟨us,g1,af.2 ⟨r,g3,rfl⟩⟩
   ·rw [hd] at h1 hq
    simp only at h1;subst h1
    obtain ⟨v,g1,g2⟩:=af.1 (show ob (c.get [] vs tm) (fun v=>Bool.rec (motive:=fun _=>Option AV) (some aJ) (ob (be xs [] vs tm) (fun us=>ob (f us) fun r=>some (r.2 id))) (wanted want v))=some u from hq)
    have hw:=h2 v g1
    cases hwv:wanted want v with
    | true =>
     rw [hwv] at g2 hw
     obtain ⟨us,g3,g4⟩:=af.1 (show ob (be xs [] vs tm) (fun us=>ob (f us) fun r=>some (r.2 id))=some u from g2)
     obtain ⟨r,g5,g6⟩:=af.1 g4
     refine dQ ho hw (run g3 g5 (Option.some.inj g6) ?_)
     rw [hd]
     show ob (c.get [] vs tm) (fun v=>Bool.rec (motive:=fun _=>Option (Option cX)) (some none) (ob (be xs [] vs tm) fun us=>ob (f us) fun r=>some (some r.1)) (wanted want v))=_
     rw [g1]
     show (Bool.rec (motive:=fun _=>Option (Option cX)) (some none) (ob (be xs [] vs tm) fun us=>ob (f us) fun r=>some (some r.1)) (wanted want v):Option (Option cX))=_
     rw [hwv]
     exact af.2 ⟨us,g3,af.2 ⟨r,g5,rfl⟩⟩
    | false =>
     rw [hwv] at g2 hw;cases g2
     refine mS ho hw (hK0 ?_ undef (VR.undef ρ))
     rw [hd]
     show ob (c.get [] vs tm) (fun v=>Bool.rec (motive:=fun _=>Option (Option cX)) (some none) (ob (be xs [] vs tm) fun us=>ob (f us) fun r=>some (some r.1)) (wanted want v))=_
     rw [g1]
     show (Bool.rec (motive:=fun _=>Option (Option cX)) (some none) (ob (be xs [] vs tm) fun us=>ob (f us) fun r=>some (some r.1)) (wanted want v):Option (Option cX))=_
     rw [hwv]
  | _=>cases hal
theorem Lm {call:an} (hn:NamesOk P) (hc:dR P keep call) (hr:HR P keep ρ h w) (hb:(cq P kp nt ops i).i.isBad=false) (ho:ops[i]?=some o) (he:gZ (findN kp ops o i) [] vs tm ρ a) {id:Nat} {r:AV×ac} (hid:h.next<=id)
  (hq:(cq P kp nt ops i).ev [] vs tm call id h=some r) (hK:∀ ρ' v w',VR ρ' r.1 v->bv P keep ρ h w ρ' r.2 w'->K (a.put o.dst v) w'):wpOpIn (dM ro) 0 P ops Q i K a w:=by
 obtain ⟨o',ho',_,hi,_⟩:=gV hb
 rw [ho] at ho';cases ho'
 cases hd:cq P kp nt ops i with
 | mk g x =>
  rw [hd] at hi hq
  simp only at hi;subst hi
  rcases mD hb ho he with ⟨h1,h2⟩|⟨c,want,h1,h2⟩
  ·rw [hd] at h1
   simp only at h1;subst h1
   exact dQ ho h2 (jT hn hc hr he hid hq hK)
  ·rw [hd] at h1
   simp only at h1;subst h1
   obtain ⟨v,g1,g2⟩:=af.1 (show ob (c.get [] vs tm) (fun v=>Bool.rec (motive:=fun _=>dA) (some (aJ,h)) ((dw P (findN kp ops o i) o.op).ev [] vs tm call id h) (wanted want v))=some r from hq)
   have hw:=h2 v g1
   cases hwv:wanted want v with
   | true=>rw [hwv] at g2 hw;exact dQ ho hw (jT hn hc hr he hid g2 hK)
   | false=>rw [hwv] at g2 hw;cases g2;exact mS ho hw (hK ρ undef w (VR.undef ρ) (bv.refl hr))
end
end Go.Am
namespace Go.Am
section
variable {P:Program} {keep:aK} {w w':World} {ρ : aL} {h:ac}
theorem HR.mat (hr:HR P keep ρ h w) {b:Nat} {p:Pl} {y:cX} (hp:ρ b=some p) (hbn:b<h.next) (hb:BR P keep ρ b y w) (hfree:¬mu ρ h p.blk) :
  HR P keep ρ ⟨h.bs.up (some y) b,h.next⟩ w/\∀ k,mu ρ ⟨h.bs.up (some y) b,h.next⟩ k->mu ρ h k∨k=p.blk:=by
 have hget:∀ c,(h.bs.up (some y) b).gt c=if c=b then some y else h.bs.gt c:=fun c=>Tr.gt_up _ _ _ _
 refine ⟨⟨hr.dom,fun c z hz=>?_,fun c z hz=>?_,fun c c' z z' q q' hz hz' hd hd' hrw hq hq' hne=>?_⟩,fun k hk=>?_⟩
 ·simp only [hget] at hz
  by_cases e:c=b
  ·subst e;exact hbn
  ·rw [if_neg e] at hz;exact hr.has _ _ hz
 ·simp only [hget] at hz
  by_cases e:c=b
  ·subst e;rw [if_pos rfl] at hz;cases hz;exact hb
  ·rw [if_neg e] at hz;exact hr.blk c z hz
 ·simp only [hget] at hz hz'
  by_cases e:c=b
  ·subst e
   have e':c'≠c:=fun e=>hne e.symm
   rw [if_neg e'] at hz'
   rw [hp] at hq;cases hq
   exact fun e=>hfree ⟨c',z',q',hz',hd',hq',e.symm⟩
  ·rw [if_neg e] at hz
   by_cases e':c'=b
   ·subst e'
    rw [hp] at hq';cases hq'
    exact fun e=>hfree ⟨c,z,q,hz,hd,hq,e⟩
   ·rw [if_neg e'] at hz'
    exact hr.inj c c' z z' q q' hz hz' hd hd' hrw hq hq' hne
 ·obtain ⟨c,z,q,hz,hd,hq,rfl⟩:=hk
  simp only [hget] at hz
  by_cases e:c=b
  ·subst e;rw [hp] at hq;cases hq;exact .inr rfl
  ·rw [if_neg e] at hz;exact .inl ⟨c,z,q,hz,hd,hq,rfl⟩
theorem HR.more (hr:HR P keep ρ h w) {b:Nat} {p:Pl} {o:Obj} (hb:ρ b=none) (hbn:b<h.next) (hheap:w'.heap=w.heap.push o) :
  HR P keep (ρ.up b p) h w'/\∀ k,mu (ρ.up b p) h k->mu ρ h k:=by
 have hle:ρ.le (ρ.up b p):=aL.le_up hb
 have live:∀ c z q,h.bs.gt c=some z->z.dead?=false->(ρ.up b p) c=some q->ρ c=some q:=by
  intro c z q hz hd hq
  obtain ⟨q',hq',_⟩:=(hr.blk c z hz).place hd
  have:=hle _ _ hq'
  rw [hq] at this;cases this;exact hq'
 refine ⟨⟨fun c q hc=>?_,hr.has,fun c z hz=>?_,fun c c' z z' q q' hz hz' hd hd' hrw hq hq' hne=>?_⟩,fun k hk=>?_⟩
 ·unfold aL.up at hc
  by_cases e:c=b
  ·subst e;exact hbn
  ·rw [if_neg e] at hc;exact hr.dom _ _ hc
 ·refine ((hr.blk c z hz).frame fun q hd hq=>?_).mono hle
  obtain ⟨q',hq',hlt⟩:=(hr.blk c z hz).place hd
  rw [hq] at hq';cases hq'
  rw [hheap,Array.getElem?_push,if_neg (by omega)]
 ·exact hr.inj c c' z z' q q' hz hz' hd hd' hrw (live _ _ _ hz hd hq) (live _ _ _ hz' hd' hq') hne
 ·obtain ⟨c,z,q,hz,hd,hq,rfl⟩:=hk
  exact ⟨c,z,q,hz,hd,live _ _ _ hz hd hq,rfl⟩
theorem HR.more_ownW (hr:HR P keep ρ h w) {b:Nat} {p:Pl} (hb:ρ b=none):∀ k,jc (ρ.up b p) h k->jc ρ h k:=by
 intro k ⟨c,z,q,hz,hd,hq,e⟩
 obtain ⟨q',hq',_⟩:=(hr.blk c z hz).place (mj hd)
 have:=(aL.le_up (p:=p) hb) _ _ hq'
 rw [hq] at this;cases this
 exact ⟨c,z,q,hz,hd,hq',e⟩
theorem J9 {base:Nat} {tm vsF:Tr AV}:∀ {l:List (Nat×aw)} {h hm:ac},ck base tm vsF l h=some hm ->
  (∀ x∈l,∀ y,x.2.blk vsF tm=some (some y)->∃ p,ρ (base+x.1)=some p) ->
  ∀ k,jc ρ hm k->jc ρ h k∨∃ x∈l,∃ p,ρ (base+x.1)=some p/\k=p.blk:=by
 intro l
 induction l with
 | nil=>intro h hm hr _ k hk;cases hr;exact .inl hk
 | cons x l ih =>
  intro h hm hr hx k hk
  rw [jQ] at hr
  obtain ⟨b,h1,h2⟩:=af.1 hr
  cases b with
  | none =>
   rcases ih h2 (fun y hy=>hx y (List.mem_cons_of_mem _ hy)) k hk with g|⟨y,hy,r⟩
   ·exact .inl g
   ·exact .inr ⟨y,List.mem_cons_of_mem _ hy,r⟩
  | some b =>
   obtain ⟨p,hpp⟩:=hx x (List.mem_cons_self ..) b h1
   rcases ih h2 (fun y hy=>hx y (List.mem_cons_of_mem _ hy)) k hk with ⟨c,z,q,hz,hd,hq,rfl⟩|⟨y,hy,r⟩
   ·simp only [Tr.gt_up] at hz
    by_cases e:c=base+x.1
    ·subst e;rw [hpp] at hq;cases hq;exact .inr ⟨x,List.mem_cons_self ..,p,hpp,rfl⟩
    ·rw [if_neg e] at hz;exact .inl ⟨c,z,q,hz,hd,hq,rfl⟩
   ·exact .inr ⟨y,List.mem_cons_of_mem _ hy,r⟩
theorem zm {base:Nat} {tm vsF:Tr AV}:∀ {l:List (Nat×aw)} {h hm:ac},ck base tm vsF l h=some hm->HR P keep ρ h w->l.Pairwise (fun x y=>x.1≠y.1) ->
  (∀ x∈l,∀ y,x.2.blk vsF tm=some (some y)->∃ p,ρ (base+x.1)=some p/\BR P keep ρ (base+x.1) y w/\¬mu ρ h p.blk) ->
  (∀ x∈l,∀ y∈l,x.1≠y.1->∀ p q,ρ (base+x.1)=some p->ρ (base+y.1)=some q->p.blk≠q.blk) ->
  HR P keep ρ hm w/\hm.next=h.next/\∀ k,mu ρ hm k->mu ρ h k∨∃ x∈l,∃ p,ρ (base+x.1)=some p/\x.2.blk vsF tm≠some none/\k=p.blk:=by
 intro l
 induction l with
 | nil=>intro h hm hr hh _ _ _;cases hr;exact ⟨hh,rfl,fun k hk=>.inl hk⟩
 | cons x l ih =>
  intro h hm hr hh hp hx hs
  rw [jQ] at hr
  obtain ⟨b,h1,h2⟩:=af.1 hr
  rw [List.pairwise_cons] at hp
  cases b with
  | none =>
   obtain ⟨g1,g2,g3⟩:=ih h2 hh hp.2 (fun y hy=>hx y (List.mem_cons_of_mem _ hy)) (fun y hy z hz=>hs y (List.mem_cons_of_mem _ hy) z (List.mem_cons_of_mem _ hz))
   exact ⟨g1,g2,fun k hk=>(g3 k hk).imp id fun ⟨y,hy,r⟩=>⟨y,List.mem_cons_of_mem _ hy,r⟩⟩
  | some b =>
   obtain ⟨p,hpp,hbr,hno⟩:=hx x (List.mem_cons_self ..) b h1
   obtain ⟨m1,m2⟩:=hh.mat hpp (hh.dom _ _ hpp) hbr hno
   obtain ⟨g1,g2,g3⟩:=ih h2 m1 hp.2 (fun y hy z hz=>by
    obtain ⟨q,a1,a2,a3⟩:=hx y (List.mem_cons_of_mem _ hy) z hz
    refine ⟨q,a1,a2,fun ho=>?_⟩
    rcases m2 _ ho with ho | ho
    ·exact a3 ho
    ·exact hs y (List.mem_cons_of_mem _ hy) x (List.mem_cons_self ..) (fun e=>hp.1 y hy e.symm) q p a1 hpp ho)
    (fun y hy z hz=>hs y (List.mem_cons_of_mem _ hy) z (List.mem_cons_of_mem _ hz))
   refine ⟨g1,g2,fun k hk=>?_⟩
   rcases g3 k hk with ho|⟨y,hy,r⟩
   ·rcases m2 k ho with ho | ho
    ·exact .inl ho
    ·exact .inr ⟨x,List.mem_cons_self ..,p,hpp,(by rw [h1];intro e;cases e),ho⟩
   ·exact .inr ⟨y,List.mem_cons_of_mem _ hy,r⟩
end
structure DC where
 P:Program
 keep:aK
 kp:Nat->Bool
 nt:Nat
 ops:Array Oper
 call:an
 tm:Tr AV
 vsF:Tr AV
 hF:ac
 ρ0:aL
 h0:ac
 w0:World
 a0:Act
namespace DC
def b (c:DC):Array Nat:=Region.before c.ops
noncomputable def gs (c:DC):List (Nat×aw):=(List.range c.ops.size).map fun i=>(i,cq c.P c.kp c.nt c.ops i)
noncomputable def es (c:DC):List Nat:=(c.gs.filter fun x=>x.2.i.eff).map (·.1)
def dst (c:DC) (j:Nat):Option Nat:=(c.ops[j]?).bind (·.dst)
noncomputable def f (c:DC) (i:Nat):aw:=cq c.P c.kp c.nt c.ops i
end DC
structure DI (c:DC) (S:Nat->Prop) (done:List Nat) (rest:List (Nat×aw)) (h:ac) (ρ : aL) (a:Act) (w:World):Prop where
 run:Xj c.gs c.b c.es c.h0.next c.tm c.vsF c.call c.hF done.length rest h
 split:c.es=done++rest.map (·.1)
 doneS:∀ e∈done,S e
 restS:∀ x∈rest,¬S x.1
 restG:∀ x∈rest,x.2=c.f x.1
 down:∀ i j,S i->lH c.b i j=true->S j
 hr:HR c.P c.keep ρ h w
 hn:c.h0.next+c.ops.size<=h.next
 le:c.ρ0.le ρ
 fr:Fr c.ρ0 c.h0 c.w0 w
 own:∀ k,k<c.w0.heap.size->mu ρ h k->mu c.ρ0 c.h0 k
 ownW:∀ k,k<c.w0.heap.size->jc ρ h k->jc c.ρ0 c.h0 k
 new:∀ b p,ρ b=some p->b<c.h0.next->c.ρ0 b=some p
 size:a.tmps.size=c.a0.tmps.size
 defers:a.defers=c.a0.defers
 tm0:∀ t,(∀ j,S j->c.dst j≠some t)->a.tmps.getD t undef=c.a0.tmps.getD t undef
 tm1:∀ j t v,S j->c.dst j=some t->(∀ j',S j'->c.dst j'=some t->j'<=j)->c.vsF.gt j=some v->VR ρ v (a.tmps.getD t undef)
 pend:∀ i y,i<c.ops.size->S i->done.length<=ia c.b c.es i->(c.f i).blk c.vsF c.tm=some (some y) ->
  ∃ p,ρ (c.h0.next+i)=some p/\BR c.P c.keep ρ (c.h0.next+i) y w/\c.w0.heap.size<=p.blk/\p.blk<w.heap.size/\¬mu ρ h p.blk
 sep:∀ i i' p p',i<c.ops.size->i'<c.ops.size->i≠i'->ρ (c.h0.next+i)=some p->ρ (c.h0.next+i')=some p'->p.blk≠p'.blk
 old:∀ i p,i<c.ops.size->ρ (c.h0.next+i)=some p->c.w0.heap.size<=p.blk/\p.blk<w.heap.size
 free:∀ i,i<c.ops.size->¬S i->ρ (c.h0.next+i)=none
structure T4 (c:DC):Prop where
 graph:qm c.ops
 chain:lM c.b c.es=true
 good:∀ i,i<c.ops.size->(c.f i).i.isBad=false
 names:NamesOk c.P
 calls:dR c.P c.keep c.call
 still:∀ i,i<c.ops.size->(c.f i).i.eff=false->(c.f i).i.reads=false->∃ v,c.vsF.gt i=some v/\∀ h,(c.f i).quiet c.vsF c.tm (c.h0.next+i) h=some v
 tr:TR c.kp c.nt c.ρ0 c.tm c.a0.tmps
end Go.Am
namespace Go.Am
section
variable {c:DC} {S:Nat->Prop} {done:List Nat} {rest:List (Nat×aw)} {h:ac} {ρ : aL} {a:Act} {w:World} {i:Nat} {o:Oper}
theorem iK (c:DC):c.gs.Pairwise (fun x y=>x.1≠y.1):=by
 unfold DC.gs
 rw [List.pairwise_map]
 exact List.nodup_range.imp fun h=>h
theorem jL {x:Nat×aw}:x∈c.gs↔x.1<c.ops.size/\x.2=c.f x.1:=by
 unfold DC.gs DC.f
 rw [List.mem_map]
 constructor
 ·rintro ⟨i,hi,rfl⟩;exact ⟨List.mem_range.1 hi,rfl⟩
 ·rintro ⟨h1,h2⟩;exact ⟨x.1,List.mem_range.2 h1,by rw [← h2]⟩
theorem wO {e:Nat}:e∈c.es↔e<c.ops.size/\(c.f e).i.eff=true:=by
 unfold DC.es
 rw [List.mem_map]
 constructor
 ·rintro ⟨x,hx,rfl⟩
  rw [List.mem_filter] at hx
  obtain ⟨h1,h2⟩:=jL.1 hx.1
  exact ⟨h1,by rw [← h2];exact hx.2⟩
 ·rintro ⟨h1,h2⟩
  exact ⟨(e,c.f e),List.mem_filter.2 ⟨jL.2 ⟨h1,rfl⟩,h2⟩,rfl⟩
theorem oC (ho:c.ops[i]?=some o):c.dst i=o.dst:=by unfold DC.dst;rw [ho];rfl
theorem rn {j t:Nat} (h:c.dst j=some t):j<c.ops.size:=by
 unfold DC.dst at h
 cases hj:c.ops[j]? with
 | none=>rw [hj] at h;cases h
 | some x=>exact (Array.getElem?_eq_some_iff.1 hj).1
theorem JP (ho:c.ops[i]?=some o) {t:Nat} (h:c.dst i=some t):t∈fL c.ops o:=by
 rw [oC ho] at h
 unfold fL
 simp [h]
theorem oO (k:T4 c) (d:DI c S done rest h ρ a w) (hS:¬S i) (ho:c.ops[i]?=some o) {t j:Nat} (ht:t∈fL c.ops o) (hj:S j) (hd:c.dst j=some t):j<i:=by
 rcases Nat.lt_trichotomy j i with h1 | h1 | h1
 ·exact h1
 ·subst h1;exact absurd hj hS
 ·rcases k.graph.names i j o t ho (rn hd) (by omega) hd ht with h2 | h2
  ·have:=AH k.graph i j h2;omega
  ·exact absurd (d.down j i hj h2) hS
theorem zbz (k:T4 c) (d:DI c S done rest h ρ a w) (hS:¬S i) (hready:∀ j,lH c.b i j=true->S j) (ho:c.ops[i]?=some o):gZ (findN c.kp c.ops o i) [] c.vsF c.tm ρ a:=by
 intro t x v hx hg
 unfold findN at hx
 split at hx
 ·rename_i hn
  have hn:t∈fL c.ops o:=by simpa using hn
  unfold H2 at hx
  cases hw:mT c.ops t i with
  | some j =>
   rw [hw] at hx;cases hx
   obtain ⟨h1,h2,h3⟩:=qa hw
   have hj:S j:=hready j (k.graph.first i o j t ho h1 h2 hn)
   refine d.tm1 j t v hj h2 (fun j' hj' hd'=>?_) hg
   have:=oO k d hS ho hn hj' hd'
   rcases Nat.lt_or_ge j j' with h4 | h4
   ·exact absurd hd' (h3 j' h4 this)
   ·exact h4
  | none =>
   rw [hw] at hx
   simp only at hx
   split at hx
   ·rename_i hk
    cases hx
    have e:=d.tm0 t (fun j hj hd=>pZ hw j (oO k d hS ho hn hj hd) hd)
    obtain ⟨cv,h1,h2⟩:=k.tr.2 t v hk hg
    rw [e,Array.getD_eq_getD_getElem?,h1]
    exact h2.mono d.le
   ·cases hx
 ·cases hx
theorem sH (k:T4 c) (d:DI c S done rest h ρ a w) (hi:i<c.ops.size) (hS:¬S i) (ho:c.ops[i]?=some o) {ρ':aL} (hl:ρ.le ρ') {v:Value} (hv:∀ u,c.vsF.gt i=some u->VR ρ' u v) :
  (∀ t,(∀ j,(S j∨j=i)->c.dst j≠some t)->(a.put o.dst v).tmps.getD t undef=c.a0.tmps.getD t undef) /\
  ∀ j t u,(S j∨j=i)->c.dst j=some t->(∀ j',(S j'∨j'=i)->c.dst j'=some t->j'<=j)->c.vsF.gt j=some u->VR ρ' u ((a.put o.dst v).tmps.getD t undef):=by
 have hok:kh c.nt o.dst=true:=by
  obtain ⟨o',ho',h1,_⟩:=gV (k.good i hi)
  rw [ho] at ho';cases ho';exact h1
 have hother:∀ t,o.dst≠some t->(a.put o.dst v).tmps.getD t undef=a.tmps.getD t undef:=by
  intro t ht
  cases hd:o.dst with
  | none=>rfl
  | some q =>
   rw [hd] at hok ht
   have hlt:q<a.tmps.size:=by rw [d.size];exact Nat.lt_of_lt_of_le (kV hok) k.tr.1
   rw [lh hlt,if_neg (fun e=>ht (by rw [e]))]
 refine ⟨fun t ht=>?_,fun j t u hj hd hmax hu=>?_⟩
 ·rw [hother t (by rw [← oC ho];exact ht i (.inr rfl))]
  exact d.tm0 t fun j hj=>ht j (.inl hj)
 ·by_cases e:j=i
  ·subst e
   rw [oC ho] at hd
   rw [hd] at hok ⊢
   have hlt:t<a.tmps.size:=by rw [d.size];exact Nat.lt_of_lt_of_le (kV hok) k.tr.1
   rw [lh hlt,if_pos rfl]
   exact hv u hu
  ·have hj':S j:=hj.resolve_right e
   have hne:o.dst≠some t:=by
    intro e2
    have h1:=hmax i (.inr rfl) (by rw [oC ho];exact e2)
    have h2:=oO k d hS ho (JP ho (by rw [oC ho];exact e2)) hj' hd
    omega
   rw [hother t hne]
   exact (d.tm1 j t u hj' hd (fun j' h1 h2=>hmax j' (.inl h1) h2) hu).mono hl
theorem zeY (d:DI c S done rest h ρ a w) (hready:∀ j,lH c.b i j=true->S j):iZ c.b c.es i<=done.length:=by
 unfold iZ
 rw [d.split,List.filter_append]
 have:(rest.map (·.1)).filter (fun e=>lH c.b i e)=[]:=by
  rw [List.filter_eq_nil_iff]
  intro e he hb
  obtain ⟨x,hx,rfl⟩:=List.mem_map.1 he
  exact d.restS x hx (hready _ hb)
 rw [this,List.append_nil]
 exact List.length_filter_le _ _
theorem yL (d:DI c S done rest h ρ a w) (hS:¬S i):done.filter (fun e=>!lH c.b e i)=done:=by
 rw [List.filter_eq_self]
 intro e he
 cases hb:lH c.b e i with
 | false=>rfl
 | true=>exact absurd (d.down e i (d.doneS e he) hb) hS
theorem zeX (d:DI c S done rest h ρ a w) (hS:¬S i):done.length<=ia c.b c.es i:=by
 unfold ia
 rw [d.split,List.filter_append,yL d hS,List.length_append]
 omega
theorem DI.quiet (k:T4 c) (d:DI c S done rest h ρ a w) (hi:i<c.ops.size) (hS:¬S i) (hready:∀ j,lH c.b i j=true->S j) (ho:c.ops[i]?=some o) (he:(c.f i).i.eff=false)
  (hb:∀ y,(c.f i).blk c.vsF c.tm≠some (some y)) {v:Value} (hv:∀ u,c.vsF.gt i=some u->VR ρ u v):DI c (fun j=>S j∨j=i) done rest h ρ (a.put o.dst v) w:=by
 obtain ⟨t0,t1⟩:=sH k d hi hS ho (aL.le_refl ρ) hv
 refine {d with doneS:=fun e h=>.inl (d.doneS e h),restS:=fun x hx hs=>?_,down:=fun i' j hs hbf=>?_,size:=(cC _ _ _).trans d.size,defers:=(ba _ _ _).trans d.defers,tm0:=t0,tm1:=t1,pend:=fun i' y h1 h2 h3 h4=>?_,free:=fun i' h1 h2=>d.free i' h1 fun hs=>h2 (.inl hs) }
 ·rcases hs with hs | hs
  ·exact d.restS x hx hs
  ·have:x.1∈c.es:=by rw [d.split];exact List.mem_append_right _ (List.mem_map_of_mem hx)
   rw [hs] at this
   rw [(wO.1 this).2] at he;cases he
 ·rcases hs with hs | hs
  ·exact .inl (d.down i' j hs hbf)
  ·subst hs;exact .inl (hready j hbf)
 ·rcases h2 with h2 | h2
  ·exact d.pend i' y h1 h2 h3 h4
  ·subst h2;exact absurd h4 (hb y)
theorem DI.alloc (k:T4 c) (d:DI c S done rest h ρ a w) (hi:i<c.ops.size) (hS:¬S i) (hready:∀ j,lH c.b i j=true->S j) (ho:c.ops[i]?=some o) (he:(c.f i).i.eff=false)
  {y:cX} {v:Value} {w':World} {SP:Obj} {sz:Nat} (hblk:(c.f i).blk c.vsF c.tm=some (some y)) (hos:w'.os=w.os) (hout:w'.output=w.output) (hheap:w'.heap=w.heap.push SP)
  (hbr:BR c.P c.keep (ρ.up (c.h0.next+i) ⟨w.heap.size,0,sz⟩) (c.h0.next+i) y w') (hv:∀ u,c.vsF.gt i=some u->VR (ρ.up (c.h0.next+i) ⟨w.heap.size,0,sz⟩) u v) :
  DI c (fun j=>S j∨j=i) done rest h (ρ.up (c.h0.next+i) ⟨w.heap.size,0,sz⟩) (a.put o.dst v) w':=by
 have hfree:=d.free i hi hS
 have hle:ρ.le (ρ.up (c.h0.next+i) ⟨w.heap.size,0,sz⟩):=aL.le_up hfree
 obtain ⟨t0,t1⟩:=sH k d hi hS ho hle hv
 have hlt:c.h0.next+i<h.next:=by have:=d.hn;omega
 obtain ⟨m1,m2⟩:=d.hr.more (p:=⟨w.heap.size,0,sz⟩) hfree hlt hheap
 have hsz:w'.heap.size=w.heap.size+1:=by rw [hheap];simp
 have hsame:∀ n,n<w.heap.size->w'.heap[n]?=w.heap[n]?:=fun n hn=>by rw [hheap,Array.getElem?_push,if_neg (by omega)]
 have hup:∀ j p,j<c.ops.size->(ρ.up (c.h0.next+i) ⟨w.heap.size,0,sz⟩) (c.h0.next+j)=some p->(j=i/\p=⟨w.heap.size,0,sz⟩)∨(j≠i/\ρ (c.h0.next+j)=some p):=by
  intro j p _ hp
  unfold aL.up at hp
  by_cases e:j=i
  ·subst e;rw [if_pos rfl] at hp;cases hp;exact .inl ⟨rfl,rfl⟩
  ·rw [if_neg (by omega)] at hp;exact .inr ⟨e,hp⟩
 have hw0:c.w0.heap.size<=w.heap.size:=d.fr.size
 refine {run:=d.run,split:=d.split,doneS:=fun e h=>.inl (d.doneS e h),restS:=fun x hx hs=>?_,restG:=d.restG,down:=fun i' j hs hb=>?_,hr:=m1,hn:=d.hn,le:=aL.le_trans d.le hle,fr:=⟨hos.trans d.fr.os,hout.trans d.fr.output,by omega,fun n hn ho=>(hsame n (by omega)).trans (d.fr.sameW n hn ho)⟩,own:=fun n hn ho=>d.own n hn (m2 n ho),ownW:=fun n hn ho=>d.ownW n hn (d.hr.more_ownW hfree n ho),new:=fun b p hp hlt=>?_,size:=(cC _ _ _).trans d.size,defers:=(ba _ _ _).trans d.defers,tm0:=t0,tm1:=t1,pend:=fun i' y' h1 h2 h3 h4=>?_,sep:=fun j j' p p' hj hj' hne hp hp'=>?_,old:=fun j p hj hp=>?_,free:=fun i' h1 h2=>?_ }
 ·rcases hs with hs | hs
  ·exact d.restS x hx hs
  ·have:x.1∈c.es:=by rw [d.split];exact List.mem_append_right _ (List.mem_map_of_mem hx)
   rw [hs] at this
   rw [(wO.1 this).2] at he;cases he
 ·rcases hs with hs | hs
  ·exact .inl (d.down i' j hs hb)
  ·subst hs;exact .inl (hready j hb)
 ·unfold aL.up at hp
  rw [if_neg (by omega)] at hp
  exact d.new b p hp hlt
 ·by_cases e:i'=i
  ·subst e
   rw [hblk] at h4;cases h4
   refine ⟨_,aL.up_same _ _ _,hbr,hw0,by rw [hsz];exact Nat.lt_succ_self _,fun ho=>?_⟩
   obtain ⟨b,z,q,hz,hd,hq,e⟩:=m2 _ ho
   obtain ⟨q',hq',hlt'⟩:=(d.hr.blk b z hz).place hd
   rw [hq] at hq';cases hq'
   simp only at e;omega
  ·obtain ⟨p,g1,g2,g3,g4,g5⟩:=d.pend i' y' h1 (h2.resolve_right e) h3 h4
   refine ⟨p,hle _ _ g1,(g2.frame fun q _ hq=>?_).mono hle,g3,by omega,fun ho=>g5 (m2 _ ho)⟩
   rw [g1] at hq;cases hq
   exact hsame _ g4
 ·rcases hup j p hj hp with ⟨e1,e2⟩|⟨e1,e2⟩ <;> rcases hup j' p' hj' hp' with ⟨e3,e4⟩|⟨e3,e4⟩
  ·omega
  ·have:=(d.old j' p' hj' e4).2;subst e2;simp only;omega
  ·have:=(d.old j p hj e2).2;subst e4;simp only;omega
  ·exact d.sep j j' p p' hj hj' hne e2 e4
 ·rcases hup j p hj hp with ⟨e1,e2⟩|⟨e1,e2⟩
  ·subst e2;simp only;omega
  ·have:=d.old j p hj e2;omega
 ·unfold aL.up
  have hne:i'≠i:=fun e=>h2 (.inr e)
  rw [if_neg (by omega)]
  exact d.free i' h1 fun hs=>h2 (.inl hs)
end
end Go.Am
namespace Go.Am
section
variable {c:DC} {S:Nat->Prop} {done:List Nat} {rest:List (Nat×aw)} {h:ac} {ρ : aL} {a:Act} {w:World} {i:Nat} {o:Oper}
theorem DI.lay (d:DI c S done rest h ρ a w) {hm:ac} (hst:Lj c.gs c.b c.es c.h0.next c.tm c.vsF done.length h hm) (hall:∀ j,j<c.ops.size->ia c.b c.es j=done.length->S j) :
  HR c.P c.keep ρ hm w/\hm.next=h.next/\∀ k,mu ρ hm k->mu ρ h k∨∃ j p,j<c.ops.size/\S j/\ia c.b c.es j=done.length/\ρ (c.h0.next+j)=some p/\k=p.blk:=by
 have hm':∀ {x},x∈(c.gs.filter fun x=>x.2.i.allocs&&decide (ia c.b c.es x.1=done.length))->x.1<c.ops.size/\x.2=c.f x.1/\ia c.b c.es x.1=done.length:=by
  intro x hx
  simp only [List.mem_filter,Bool.and_eq_true,decide_eq_true_eq] at hx
  obtain ⟨h1,h2⟩:=jL.1 hx.1
  exact ⟨h1,h2,hx.2.2⟩
 obtain ⟨g1,g2,g3⟩:=zm hst.2 d.hr ((iK c).filter _) (fun x hx y hy=>by
   obtain ⟨h1,h2,h3⟩:=hm' hx
   rw [h2] at hy
   obtain ⟨p,q1,q2,_,_,q3⟩:=d.pend x.1 y h1 (hall _ h1 h3) (by omega) hy
   exact ⟨p,q1,q2,q3⟩)
  (fun x hx y hy hne p q hp hq=>d.sep x.1 y.1 p q (hm' hx).1 (hm' hy).1 hne hp hq)
 refine ⟨g1,g2,fun k hk=>(g3 k hk).imp id fun ⟨x,hx,p,hp,_,e⟩=>?_⟩
 obtain ⟨h1,h2,h3⟩:=hm' hx
 exact ⟨x.1,p,h1,hall _ h1 h3,h3,hp,e⟩
theorem DI.layW (d:DI c S done rest h ρ a w) {hm:ac} (hst:Lj c.gs c.b c.es c.h0.next c.tm c.vsF done.length h hm) (hall:∀ j,j<c.ops.size->ia c.b c.es j=done.length->S j) :
  ∀ k,jc ρ hm k->jc ρ h k∨∃ j p,j<c.ops.size/\ρ (c.h0.next+j)=some p/\k=p.blk:=by
 have hm':∀ {x},x∈(c.gs.filter fun x=>x.2.i.allocs&&decide (ia c.b c.es x.1=done.length))->x.1<c.ops.size/\x.2=c.f x.1/\ia c.b c.es x.1=done.length:=by
  intro x hx
  simp only [List.mem_filter,Bool.and_eq_true,decide_eq_true_eq] at hx
  obtain ⟨h1,h2⟩:=jL.1 hx.1
  exact ⟨h1,h2,hx.2.2⟩
 have g3:=J9 (ρ:=ρ) hst.2 (fun x hx y hy=>by
   obtain ⟨h1,h2,h3⟩:=hm' hx
   rw [h2] at hy
   obtain ⟨p,q1,_⟩:=d.pend x.1 y h1 (hall _ h1 h3) (by omega) hy
   exact ⟨p,q1⟩)
 exact fun k hk=>(g3 k hk).imp id fun ⟨x,hx,p,hp,e⟩=>⟨x.1,p,(hm' hx).1,hp,e⟩
theorem ut:∀ {l:List Nat} {x:Nat} {r:List Nat} {b:Array Nat},lM b (l++x::r)=true->∀ y∈r,lH b y x=true
 | [],x,r,b,h,y,hy=>by
  simp only [List.nil_append,lM,Bool.and_eq_true,List.all_eq_true] at h
  exact h.1 y hy
 | z::l,x,r,b,h,y,hy=>by
  simp only [List.cons_append,lM,Bool.and_eq_true] at h
  exact ut h.2 y hy
theorem DI.head (k:T4 c) (d:DI c S done rest h ρ a w) (hi:i<c.ops.size) (hS:¬S i) (hready:∀ j,lH c.b i j=true->S j) (he:(c.f i).i.eff=true):∃ xs,rest=(i,c.f i)::xs:=by
 have hm:i∈c.es:=wO.2 ⟨hi,he⟩
 rw [d.split] at hm
 rcases List.mem_append.1 hm with hm | hm
 ·exact absurd (d.doneS i hm) hS
 ·cases rest with
  | nil=>cases hm
  | cons x xs =>
   rw [List.map_cons] at hm
   rcases List.mem_cons.1 hm with e | hm
   ·exact ⟨xs,by rw [show x=(i,c.f i) from Prod.ext e.symm (by rw [d.restG x (List.mem_cons_self ..),← e])]⟩
   ·have:=ut (l:=done) (x:=x.1) (r:=xs.map (·.1)) (by rw [← List.map_cons (f:=fun x:Nat×aw=>x.1),← d.split];exact k.chain) i hm
    exact absurd (hready _ this) (d.restS x (List.mem_cons_self ..))
theorem DI.due (d:DI c S done ((i,c.f i)::rest) h ρ a w) (hready:∀ j,lH c.b i j=true->S j):∀ j,j<c.ops.size->ia c.b c.es j=done.length->S j:=by
 intro j _ hj
 by_cases hS:S j
 ·exact hS
 ·have hd:=yL d hS
  unfold ia at hj
  rw [d.split,List.filter_append,hd,List.length_append] at hj
  have hnil:(((i,c.f i)::rest).map (·.1)).filter (fun e=>!lH c.b e j)=[]:=List.length_eq_zero_iff.1 (by omega)
  rw [List.map_cons,List.filter_eq_nil_iff] at hnil
  have:=hnil i (List.mem_cons_self ..)
  simp only [Bool.not_eq_true',Bool.not_eq_false] at this
  exact hready j this
theorem DI.act (k:T4 c) (d:DI c S done ((i,c.f i)::rest) h ρ a w) (hi:i<c.ops.size) (hS:¬S i) (hready:∀ j,lH c.b i j=true->S j) (ho:c.ops[i]?=some o) (he:(c.f i).i.eff=true)
  {hm h':ac} {u:AV} (hnx:hm.next=h.next) (hown:∀ k,mu ρ hm k->mu ρ h k∨∃ j p,j<c.ops.size/\S j/\ia c.b c.es j=done.length/\ρ (c.h0.next+j)=some p/\k=p.blk)
  (hownW:∀ k,jc ρ hm k->jc ρ h k∨∃ j p,j<c.ops.size/\ρ (c.h0.next+j)=some p/\k=p.blk)
  (hu:c.vsF.gt i=some u) (hrun:Xj c.gs c.b c.es c.h0.next c.tm c.vsF c.call c.hF (done.length+1) rest h') {ρ':aL} {v:Value} {w':World} (hv:VR ρ' u v) (hp:bv c.P c.keep ρ hm w ρ' h' w') :
  DI c (fun j=>S j∨j=i) (done++[i]) rest h' ρ' (a.put o.dst v) w':=by
 obtain ⟨t0,t1⟩:=sH k d hi hS ho hp.le (v:=v) (fun u' hu'=>by rw [hu] at hu';cases hu';exact hv)
 have hw0:c.w0.heap.size<=w.heap.size:=d.fr.size
 have hnew:∀ j p,j<c.ops.size->ρ' (c.h0.next+j)=some p->ρ (c.h0.next+j)=some p:=fun j p hj h1=>hp.new _ p h1 (by rw [hnx];have:=d.hn;omega)
 have hsame:∀ n,n<c.w0.heap.size->mu ρ hm n->mu c.ρ0 c.h0 n:=by
  intro n hn h1
  rcases hown n h1 with h1|⟨j,p,hj,_,_,hpp,e⟩
  ·exact d.own n hn h1
  ·have:=d.old j p hj hpp;omega
 have hsameW:∀ n,n<c.w0.heap.size->jc ρ hm n->jc c.ρ0 c.h0 n:=by
  intro n hn h1
  rcases hownW n h1 with h1|⟨j,p,hj,hpp,e⟩
  ·exact d.ownW n hn h1
  ·have:=d.old j p hj hpp;omega
 have hnodup:(done++i::rest.map (·.1)).Nodup:=by
  have:=d.split
  rw [List.map_cons] at this
  rw [← this]
  unfold DC.es
  rw [List.Nodup,List.pairwise_map]
  exact ((iK c).filter _).imp fun h=>h
 refine {run:=(by rw [List.length_append];exact hrun),split:=(by rw [d.split];simp),doneS:=fun e hm=>?_,restS:=fun x hx hs=>?_,restG:=fun x hx=>d.restG x (List.mem_cons_of_mem _ hx),down:=fun i' j hs hb=>?_,hr:=hp.hr,hn:=Nat.le_trans d.hn (by rw [← hnx];exact hp.next),le:=aL.le_trans d.le hp.le,fr:=⟨hp.fr.os.trans d.fr.os,hp.fr.output.trans d.fr.output,Nat.le_trans d.fr.size hp.fr.size,fun n hn ho=>(hp.fr.sameW n (by omega) fun h1=>ho (hsameW n hn h1)).trans (d.fr.sameW n hn ho)⟩,own:=fun n hn h1=>hsame n hn (hp.own n (by omega) h1),ownW:=fun n hn h1=>hsameW n hn (hp.ownW n (by omega) h1),new:=fun b p h1 h2=>d.new b p (hp.new b p h1 (by rw [hnx];have:=d.hn;omega)) h2,size:=(cC _ _ _).trans d.size,defers:=(ba _ _ _).trans d.defers,tm0:=t0,tm1:=t1,pend:=fun i' y' h1 h2 h3 h4=>?_,sep:=fun j j' p p' hj hj' hne h1 h2=>d.sep j j' p p' hj hj' hne (hnew j p hj h1) (hnew j' p' hj' h2),old:=fun j p hj h1=>?_,free:=fun i' h1 h2=>?_ }
 ·rcases List.mem_append.1 hm with hm | hm
  ·exact .inl (d.doneS e hm)
  ·exact .inr (List.mem_singleton.1 hm)
 ·rcases hs with hs | hs
  ·exact d.restS x (List.mem_cons_of_mem _ hx) hs
  ·have h1:=(List.nodup_append.1 hnodup).2.1
   rw [List.nodup_cons] at h1
   exact h1.1 (by rw [← hs];exact List.mem_map_of_mem hx)
 ·rcases hs with hs | hs
  ·exact .inl (d.down i' j hs hb)
  ·subst hs;exact .inl (hready j hb)
 ·rw [List.length_append,List.length_singleton] at h3
  have hne:i'≠i:=by
   intro e
   subst e
   cases hx:(c.f i').i with
   | al f xs=>rw [hx] at he;cases he
   | _=>unfold aw.blk at h4;rw [hx] at h4;cases h4
  obtain ⟨p,g1,g2,g3,g4,g5⟩:=d.pend i' y' h1 (h2.resolve_right hne) (by omega) h4
  have hno:¬mu ρ hm p.blk:=by
   intro h5
   rcases hown _ h5 with h5|⟨j,q,hj,_,hh,hq,e⟩
   ·exact g5 h5
   ·by_cases e2:i'=j
    ·subst e2;omega
    ·exact d.sep i' j p q h1 hj e2 g1 hq e
  refine ⟨p,hp.le _ _ g1,(g2.frame fun q _ hq=>?_).mono hp.le,g3,Nat.lt_of_lt_of_le g4 hp.fr.size,fun h5=>hno (hp.own _ g4 h5)⟩
  rw [g1] at hq;cases hq
  exact hp.fr.same _ g4 hno
 ·have:=d.old j p hj (hnew j p hj h1)
  have:=hp.fr.size
  omega
 ·cases hc:ρ' (c.h0.next+i') with
  | none=>rfl
  | some p =>
   have:=hnew i' p h1 hc
   rw [d.free i' h1 fun hs=>h2 (.inl hs)] at this;cases this
theorem DI.finish (d:DI c S done rest h ρ a w) (hall:∀ j,j<c.ops.size->S j):bv c.P c.keep c.ρ0 c.h0 c.w0 ρ c.hF w:=by
 have hnil:rest=[]:=by
  cases rest with
  | nil=>rfl
  | cons x xs =>
   have hx:x.1∈c.es:=by rw [d.split];exact List.mem_append_right _ (by simp)
   exact absurd (hall _ (wO.1 hx).1) (d.restS x (List.mem_cons_self ..))
 subst hnil
 obtain ⟨h1,h2,h3⟩:=d.lay (hm:=c.hF) d.run (fun j hj _=>hall j hj)
 have h4:=d.layW (hm:=c.hF) d.run (fun j hj _=>hall j hj)
 refine ⟨d.le,h1,d.fr,fun n hn ho=>?_,by rw [h2];have:=d.hn;omega,d.new,fun n hn ho=>?_⟩
 ·rcases h3 n ho with ho|⟨j,p,hj,_,_,hp,e⟩
  ·exact d.own n hn ho
  ·have:=d.old j p hj hp;omega
 ·rcases h4 n ho with ho|⟨j,p,hj,hp,e⟩
  ·exact d.ownW n hn ho
  ·have:=d.old j p hj hp;omega
end
end Go.Am
namespace Go.Am
section
variable {c:DC} {ro:Option Nat} {Q:Exit->Act->World->Prop}
theorem iY {α : Type} {p q:α->Bool}:∀ {l:List α},(∀ x∈l,p x=true->q x=true)->(l.filter p).length<=(l.filter q).length
 | [],_=>Nat.le_refl _
 | x::l,h=>by
  have ih:=iY (l:=l) fun y hy=>h y (List.mem_cons_of_mem _ hy)
  simp only [List.filter_cons]
  cases hp:p x with
  | true=>rw [h x (List.mem_cons_self ..) hp];simp;exact ih
  | false=>cases hq:q x <;> simp <;> omega
theorem ml {α : Type} {p q:α->Bool}:∀ {l:List α} {x:α},x∈l->p x=false->q x=true->(∀ x∈l,p x=true->q x=true)->(l.filter p).length<(l.filter q).length
 | y::l,x,hx,hp,hq,h=>by
  have ih:=iY (l:=l) fun y hy=>h y (List.mem_cons_of_mem _ hy)
  simp only [List.filter_cons]
  rcases List.mem_cons.1 hx with e | hx
  ·subst e
   rw [hp,hq];simp;omega
  ·have ih2:=ml hx hp hq fun y hy=>h y (List.mem_cons_of_mem _ hy)
   cases hp2:p y with
   | true=>rw [h y (List.mem_cons_self ..) hp2];simp;exact ih2
   | false=>cases hq2:q y <;> simp <;> omega
theorem jm {l:Array Bool} {j:Nat} (h:j<l.size) (x y:Bool):l.getD j x=l.getD j y:=by simp [Array.getD_eq_getD_getElem?,h]
theorem rL {l:Array Bool} {i j:Nat} (hi:i<l.size):((l.setIfInBounds i true).getD j false=true)↔(l.getD j false=true∨j=i):=by
 simp only [Array.getD_eq_getD_getElem?,Array.getElem?_setIfInBounds]
 by_cases e:i=j
 ·subst e;simp [hi]
 ·rw [if_neg e]
  constructor
  ·exact .inl
  ·rintro (h | h)
   ·exact h
   ·exact absurd h.symm e
theorem Sc (k:T4 c) (hq:∀ S done rest h ρ a w,DI c S done rest h ρ a w->(∀ j,j<c.ops.size->S j)->Q .normal a w) :
  ∀ (fuel:Nat) (listed:Array Bool) (done:List Nat) (rest:List (Nat×aw)) (h:ac) (ρ : aL) (a:Act) (w:World),listed.size=c.ops.size->DI c (fun j=>listed.getD j false=true) done rest h ρ a w ->
   ((List.range c.ops.size).filter fun i=>!listed.getD i true).length<=fuel->wpAnyIn (dM ro) 0 c.P .any c.ops Q fuel listed a w:=by
 have stop:∀ (listed:Array Bool) (done:List Nat) (rest:List (Nat×aw)) (h:ac) (ρ : aL) (a:Act) (w:World),listed.size=c.ops.size->DI c (fun j=>listed.getD j false=true) done rest h ρ a w->Region.ready .any c.ops listed=[]->Q .normal a w:=by
  intro listed done rest h ρ a w hsz d hr
  refine hq _ done rest h ρ a w d fun j=>?_
  induction j using Nat.strongRecOn with
  | _ j ih =>
   intro hj
   cases hl:listed.getD j false with
   | true=>rfl
   | false =>
    obtain ⟨o,ho⟩:∃ o,c.ops[j]?=some o:=⟨_,Array.getElem?_eq_getElem hj⟩
    have:j∈Region.ready .any c.ops listed:=mem_ready.2 ⟨by rw [jm (by omega) true false];exact hl,o,ho,fun e he hb=>ih e.on (k.graph.back j o ho e he hb) (by have:=k.graph.back j o ho e he hb;omega)⟩
    rw [hr] at this;cases this
 intro fuel
 induction fuel with
 | zero =>
  intro listed done rest h ρ a w hsz d hf
  have hnil:Region.ready .any c.ops listed=[]:=by
   cases hr:Region.ready .any c.ops listed with
   | nil=>rfl
   | cons i r =>
    have hi:i∈Region.ready .any c.ops listed:=by rw [hr];exact List.mem_cons_self ..
    obtain ⟨h1,o,ho,_⟩:=mem_ready.1 hi
    have hlt:i<c.ops.size:=(Array.getElem?_eq_some_iff.1 ho).1
    have hm:i∈((List.range c.ops.size).filter fun i=>!listed.getD i true):=List.mem_filter.2 ⟨List.mem_range.2 hlt,by rw [h1];rfl⟩
    have:=List.length_pos_of_mem hm
    omega
  exact ⟨hnil,stop listed done rest h ρ a w hsz d hnil⟩
 | succ fuel ih =>
  intro listed done rest h ρ a w hsz d hf
  refine ⟨stop listed done rest h ρ a w hsz d,fun i hi=>?_⟩
  obtain ⟨h1,o,ho,hpre⟩:=mem_ready.1 hi
  have hlt:i<c.ops.size:=(Array.getElem?_eq_some_iff.1 ho).1
  have hS:¬(listed.getD i false=true):=by rw [jm (by omega) false true,h1];simp
  have hready:∀ j,lH c.b i j=true->listed.getD j false=true:=by
   intro j hj
   obtain ⟨o',ho',e,he,hb,h2⟩:=px (fun o ho=>k.graph.back i o ho) hj
   rw [ho] at ho';cases ho'
   rcases h2 with rfl | h2
   ·exact hpre e he hb
   ·exact d.down _ _ (hpre e he hb) h2
  have hgood:=k.good i hlt
  have henv:=zbz k d hS hready ho
  
  have next:∀ {done':List Nat} {rest':List (Nat×aw)} {h':ac} {ρ':aL} {a':Act} {w':World},DI c (fun j=>listed.getD j false=true∨j=i) done' rest' h' ρ' a' w'->wpAnyIn (dM ro) 0 c.P .any c.ops Q fuel (listed.setIfInBounds i true) a' w':=by
   intro done' rest' h' ρ' a' w' d'
   have hS':(fun j=>(listed.setIfInBounds i true).getD j false=true)=(fun j=>listed.getD j false=true∨j=i):=funext fun j=>propext (rL (by omega))
   refine ih _ done' rest' h' ρ' a' w' (by simp [hsz]) (by rw [hS'];exact d') ?_
   have hlt2:((List.range c.ops.size).filter fun j=>!(listed.setIfInBounds i true).getD j true).length<((List.range c.ops.size).filter fun i=>!listed.getD i true).length:=by
    refine ml (x:=i) (List.mem_range.2 hlt) ?_ (by rw [h1];rfl) fun j hj hp=>?_
    ·rw [jm (by simp;omega) true false,(rL (by omega)).2 (.inr rfl)];rfl
    ·have hjl:j<listed.size:=by have:=List.mem_range.1 hj;omega
     cases hlj:listed.getD j true with
     | false=>rfl
     | true =>
      rw [jm (by simp;omega) true false,(rL (by omega)).2 (.inl (by rw [jm hjl false true];exact hlj))] at hp
      cases hp
   omega
  by_cases heff:(c.f i).i.eff=true
  ·obtain ⟨xs,hrest⟩:=d.head k hlt hS hready heff
   subst hrest
   obtain ⟨hm,u,h',hst,hu,hev,hrun⟩:=d.run
   obtain ⟨l1,l2,l3⟩:=d.lay hst (d.due hready)
   refine Lm (h:=hm) k.names k.calls l1 hgood ho henv (Nat.le_refl _) hev (fun ρ' v w' hv hp=>next (d.act k hlt hS hready ho heff l2 l3 (d.layW hst (d.due hready)) hu hrun hv hp))
  ·have heff:(c.f i).i.eff=false:=by simpa using heff
   by_cases hal:(c.f i).i.allocs=true
   ·have hrd:(c.f i).i.reads=false:=by
     cases hx:(c.f i).i with
     | al f xs=>rfl
     | _=>rw [hx] at hal;cases hal
    obtain ⟨u,hu,hqt⟩:=k.still i hlt heff hrd
    refine AB d.hr hgood ho henv hal (hqt h) (d.free i hlt hS) (fun hb v hv=>?_) (fun y v w' SP sz hb hos hout hheap hbr hv=>?_)
    ·exact next (d.quiet k hlt hS hready ho heff (fun y e=>by rw [show (c.f i).blk c.vsF c.tm=some none from hb] at e;cases e) (fun u' hu'=>by rw [hu] at hu';cases hu';exact hv))
    ·exact next (d.alloc k hlt hS hready ho heff hb hos hout hheap hbr (fun u' hu'=>by rw [hu] at hu';cases hu';exact hv))
   ·have hal:(c.f i).i.allocs=false:=by simpa using hal
    have hqt:∃ u hx,c.vsF.gt i=some u/\HR c.P c.keep ρ hx w/\(c.f i).quiet c.vsF c.tm (c.h0.next+i) hx=some u:=by
     cases hrd:(c.f i).i.reads with
     | false=>obtain ⟨u,hu,hqt⟩:=k.still i hlt heff hrd;exact ⟨u,h,hu,d.hr,hqt h⟩
     | true =>
      obtain ⟨hm,hst⟩:=d.run.get
      obtain ⟨u,hu,hq⟩:=hst.1 (i,c.f i) (jL.2 ⟨hlt,rfl⟩) heff (zeY d hready) (zeX d hS) (.inl hrd)
      obtain ⟨hx,h2,h3⟩:=af.1 hq
      have hown:∀ {x},x∈nM c.b c.gs c.es done.length (i,c.f i)->x.1<c.ops.size/\x.2=c.f x.1/\listed.getD x.1 false=true/\done.length<=ia c.b c.es x.1:=by
       intro x hx
       unfold nM at hx
       rw [hrd] at hx
       have hx:x∈c.gs.filter fun y=>y.2.i.allocs&&lH c.b i y.1&&decide (done.length<=ia c.b c.es y.1):=hx
       simp only [List.mem_filter,Bool.and_eq_true,decide_eq_true_eq] at hx
       obtain ⟨q1,⟨_,q2⟩,q3⟩:=hx
       obtain ⟨q4,q5⟩:=jL.1 q1
       exact ⟨q4,q5,hready _ q2,q3⟩
      have hpw:(nM c.b c.gs c.es done.length (i,c.f i)).Pairwise (fun x y=>x.1≠y.1):=by
       unfold nM
       rw [hrd]
       exact (iK c).filter _
      obtain ⟨g1,_,_⟩:=zm h2 d.hr hpw (fun x hx y hy=>by
        obtain ⟨q1,q2,q3,q4⟩:=hown hx
        rw [q2] at hy
        obtain ⟨p,r1,r2,_,_,r3⟩:=d.pend x.1 y q1 q3 q4 hy
        exact ⟨p,r1,r2,r3⟩)
       (fun x hx y hy hne p q hp hq=>d.sep x.1 y.1 p q (hown hx).1 (hown hy).1 hne hp hq)
      exact ⟨u,hx,hu,g1,h3⟩
    obtain ⟨u,hx,hu,hhx,hqt⟩:=hqt
    refine BP hhx hgood ho henv hal hqt (fun v hv=>?_)
    refine next (d.quiet k hlt hS hready ho heff (fun y e=>?_) (fun u' hu'=>by rw [hu] at hu';cases hu';exact hv))
    cases hx:(c.f i).i with
    | al f xs=>rw [hx] at hal;cases hal
    | _=>unfold aw.blk at e;rw [hx] at e;cases e
end
end Go.Am
namespace Go.Am
section
variable {P:Program} {keep:aK} {w:World} {ρ : aL} {h:ac}
theorem il {kp:Nat->Bool} {t k':Nat}:∀ {ds:List (Option Nat)} {k:Nat} {seen:List Nat},(t,k')∈gK kp k ds seen ->
  t∉seen/\kp t=true/\k<=k'/\ds[k' - k]?=some (some t)/\∀ m,m<k' - k->ds[m]?≠some (some t)
 | [],k,seen,h=>by cases h
 | d::ds,k,seen,h=>by
  have skip:∀ {seen':List Nat},(t,k')∈gK kp (k+1) ds seen'->t∉seen->(∀ s,s∈seen->s∈seen')->d≠some t->t∉seen/\kp t=true/\k<=k'/\(d::ds)[k' - k]?=some (some t)/\∀ m,m<k' - k->(d::ds)[m]?≠some (some t):=by
   intro seen' h hs hsub hd
   obtain ⟨h1,h2,h3,h4,h5⟩:=il h
   refine ⟨hs,h2,by omega,?_,fun m hm=>?_⟩
   ·rw [show k' - k=(k' - (k+1))+1 by omega];simpa using h4
   ·cases m with
    | zero=>simpa using hd
    | succ m=>simpa using h5 m (by omega)
  simp only [gK] at h
  cases d with
  | none =>
   simp only at h
   exact skip h (il h).1 (fun s hs=>hs) (by intro e;cases e)
  | some s =>
   simp only at h
   split at h
   ·rename_i hc
    simp only [Bool.and_eq_true,Bool.not_eq_true',List.contains_eq_mem,decide_eq_false_iff_not] at hc
    rcases List.mem_cons.1 h with e | h
    ·cases e
     exact ⟨hc.2,hc.1,Nat.le_refl _,by simp,fun m hm=>by omega⟩
    ·have h1:=(il h).1
     simp only [List.mem_cons,not_or] at h1
     exact skip h h1.2 (fun s hs=>List.mem_cons_of_mem _ hs) (by intro e;cases e;exact h1.1 rfl)
   ·rename_i hc
    have h1:=il h
    refine skip h h1.1 (fun s hs=>hs) (fun e=>?_)
    cases e
    simp only [Bool.and_eq_true,Bool.not_eq_true',List.contains_eq_mem,decide_eq_false_iff_not,not_and,Decidable.not_not] at hc
    exact h1.1 (hc h1.2.1)
theorem jO {kp:Nat->Bool} {t:Nat} (hk:kp t=true):∀ {ds:List (Option Nat)} {k:Nat} {seen:List Nat},some t∈ds->t∉seen->∃ k',(t,k')∈gK kp k ds seen
 | [],k,seen,h,_=>by cases h
 | d::ds,k,seen,h,hs=>by
  simp only [gK]
  cases d with
  | none =>
   rcases List.mem_cons.1 h with e | h
   ·cases e
   ·exact jO hk h hs
  | some s =>
   simp only
   by_cases e:s=t
   ·subst e
    rw [if_pos (by rw [hk];simpa using hs)]
    exact ⟨k,List.mem_cons_self ..⟩
   ·have h:some t∈ds:=by
     rcases List.mem_cons.1 h with e2 | h
     ·cases e2;exact absurd rfl e
     ·exact h
    split
    ·obtain ⟨k',h1⟩:=jO hk (k:=k+1) (seen:=s::seen) h (by simp only [List.mem_cons,not_or];exact ⟨fun h=>e h.symm,hs⟩)
     exact ⟨k',List.mem_cons_of_mem _ h1⟩
    ·exact jO hk h hs
theorem tY (x:Nat×Nat) (l:List (Nat×Nat)) (vs tm:Tr AV):bP (x::l) vs tm=ob (vs.gt x.2) fun v=>bP l vs (tm.up (some v) x.1):=rfl
theorem nO:∀ {outs:List (Nat×Nat)} {vs tm tm':Tr AV},bP outs vs tm=some tm' ->
  ∀ t,(∃ j v,(t,j)∈outs/\vs.gt j=some v/\tm'.gt t=some v)∨((∀ j,(t,j)∉outs)/\tm'.gt t=tm.gt t)
 | [],vs,tm,tm',h,t=>by cases h;exact .inr ⟨fun x hx=>(by cases hx),rfl⟩
 | o::os,vs,tm,tm',h,t=>by
  rw [tY] at h
  obtain ⟨v,h1,h2⟩:=af.1 h
  rcases nO h2 t with ⟨x,u,g1,g2,g3⟩|⟨g1,g2⟩
  ·exact .inl ⟨x,u,List.mem_cons_of_mem _ g1,g2,g3⟩
  ·rw [Tr.gt_up] at g2
   by_cases e:t=o.1
   ·rw [if_pos e] at g2
    exact .inl ⟨o.2,v,by rw [e];exact List.mem_cons_self ..,h1,g2⟩
   ·rw [if_neg e] at g2
    refine .inr ⟨fun x hx=>?_,g2⟩
    rcases List.mem_cons.1 hx with e2 | hx
    ·exact e (by rw [← e2])
    ·exact g1 x hx
theorem xl {ops:Array Oper} {m:Nat} (hm:m<ops.size):(ops.toList.reverse.map (·.dst))[m]?=some ((ops[ops.size - 1 - m]?).bind (·.dst)):=by
 rw [List.getElem?_map,List.getElem?_reverse (by simpa using hm)]
 rw [Array.length_toList,Array.getElem?_toList]
 have:ops.size - 1 - m<ops.size:=by omega
 rw [Array.getElem?_eq_getElem this]
 rfl
theorem Bo {call:an} {kp:Nat->Bool} {nt id:Nat} {tm tm':Tr AV} {ops:Array Oper} {ro:Option Nat} {Q:Exit->Act->World->Prop} {a:Act} {ss:List gk} {outs:List (Nat×Nat)} {r:Tr AV×ac}
  (hm:P.follows .mixedOrders=true) (hn:NamesOk P) (hc:dR P keep call) (hr:HR P keep ρ h w) (ht:TR kp nt ρ tm a.tmps) (hcomp:uu P kp nt ops=some (ss,outs))
  (hrun:bw h.next tm call ss .leaf ⟨h.bs,h.next+ops.size⟩=some r) (hout:bP outs r.1 tm=some tm')
  (hq:∀ ρ' a' w',TR kp nt ρ' tm' a'.tmps->a'.defers=a.defers->bv P keep ρ h w ρ' r.2 w'->Q .normal a' w'):(Code.region id ops true).wpIn (dM ro) 0 P Q a w:=by
 refine wpIn_region_any hm ?_
 unfold uu at hcomp
 simp only at hcomp
 split at hcomp
 ·rename_i hchk
  simp only [Option.some.injEq,Prod.mk.injEq] at hcomp
  obtain ⟨rfl,rfl⟩:=hcomp
  simp only [Bool.and_eq_true] at hchk
  obtain ⟨⟨⟨k1,k2⟩,k3⟩,k4⟩:=hchk
  obtain ⟨vsF,hF⟩:=r
  let w0:World:={w with drawn:=w.drawn+1 }
  let c:DC:=⟨P,keep,kp,nt,ops,call,tm,vsF,hF,ρ,h,w0,a⟩
  have hr0:HR P keep ρ h w0:=hr.frame fun _ _ _ _ _ _=>rfl
  have hgraph:qm ops:=So k1 k3
  have hp:=iK c
  have hact:∀ x∈c.gs.filter (fun x=>x.2.i.eff),x∈c.gs/\x.2.i.eff=true:=fun x hx=>by simpa using List.mem_filter.1 hx
  obtain ⟨_,hR⟩:=B9 (b:=c.b) (es:=c.es) hp (show bw h.next tm call (ar c.b c.gs c.es 0 (c.gs.filter fun x=>x.2.i.eff)) .leaf ⟨h.bs,h.next+ops.size⟩=some (vsF,hF) from hrun) hact (hp.filter _) (fun _ _ _=>rfl)
  have hlen:c.es.length=(c.gs.filter fun x=>x.2.i.eff).length:=by unfold DC.es;rw [List.length_map]
  have k:T4 c:=by
   refine ⟨hgraph,k2,fun i hi=>?_,hn,hc,fun i hi he hrd=>?_,ht⟩
   ·rw [List.all_eq_true] at k4
    have:=k4 (i,c.f i) (jL (c:=c) |>.2 ⟨hi,rfl⟩)
    simpa using this
   ·refine hR.all (i,c.f i) (jL.2 ⟨hi,rfl⟩) he hrd (Nat.zero_le _) ?_ ?_
    ·rw [Nat.zero_add,← hlen]
     exact List.length_filter_le _ _
    ·refine iY fun e _ hb=>?_
     cases hb2:lH c.b e i with
     | false=>rfl
     | true =>
      have h1:=AH hgraph _ _ hb
      have h2:=AH hgraph _ _ hb2
      omega
  have hS0:∀ j,¬((Array.replicate ops.size false).getD j false=true):=by
   intro j
   rw [Array.getD_eq_getD_getElem?,Array.getElem?_replicate]
   split <;> simp
  have hfree:∀ i,ρ (h.next+i)=none:=fun i=>(hr.fresh (by omega)).1
  have d0:DI c (fun j=>(Array.replicate ops.size false).getD j false=true) [] (c.gs.filter fun x=>x.2.i.eff) ⟨h.bs,h.next+ops.size⟩ ρ a w0:=by
   refine {run:=hR,split:=rfl,doneS:=fun e he=>(by cases he),restS:=fun x _=>hS0 _,restG:=fun x hx=>(jL.1 (hact x hx).1).2,down:=fun i j hs=>absurd hs (hS0 i),hr:=?_,hn:=Nat.le_refl _,le:=aL.le_refl _,fr:=⟨rfl,rfl,Nat.le_refl _,fun _ _ _=>rfl⟩,own:=fun _ _ ho=>ho,ownW:=fun _ _ ho=>ho,new:=fun _ _ hb _=>hb,size:=rfl,defers:=rfl,tm0:=fun _ _=>rfl,tm1:=fun j t v hj=>absurd hj (hS0 j),pend:=fun i y _ hs=>absurd hs (hS0 i),sep:=fun i i' p p' _ _ _ hp1=>?_,old:=fun i p _ hp1=>?_,free:=fun i _ _=>hfree i }
   ·exact ⟨fun b p hb=>Nat.lt_of_lt_of_le (hr0.dom b p hb) (Nat.le_add_right _ _),fun b x hb=>Nat.lt_of_lt_of_le (hr0.has b x hb) (Nat.le_add_right _ _),hr0.blk,hr0.inj⟩
   ·rw [show ρ (c.h0.next+i)=none from hfree i] at hp1;cases hp1
   ·rw [show ρ (c.h0.next+i)=none from hfree i] at hp1;cases hp1
  refine Sc (c:=c) k (fun S done rest h' ρ' a' w' d hall=>?_) ops.size _ _ _ _ _ _ _ (by simp;rfl) d0 ?_
  ·have hpost:=d.finish hall
   refine hq ρ' a' w' ⟨by rw [d.size];exact ht.1,fun t v hk hv=>?_⟩ d.defers ⟨hpost.le,hpost.hr,⟨hpost.fr.os,hpost.fr.output,hpost.fr.size,hpost.fr.sameW⟩,hpost.own,hpost.next,hpost.new,hpost.ownW⟩
   have hin:∀ {j:Nat},c.dst j=some t->t<a'.tmps.size:=by
    intro j hd
    have hj:=rn hd
    obtain ⟨o,ho,h1,_⟩:=gV (k.good j hj)
    rw [oC ho] at hd
    rw [hd] at h1
    rw [d.size]
    exact Nat.lt_of_lt_of_le (kV h1) ht.1
   rcases nO hout t with ⟨j,u,g1,g2,g3⟩|⟨g1,g2⟩
   ·rw [g3] at hv;cases hv
    obtain ⟨x,hx,he⟩:=List.mem_map.1 g1
    obtain ⟨t',k'⟩:=x
    simp only [Prod.mk.injEq] at he
    obtain ⟨rfl,rfl⟩:=he
    obtain ⟨_,_,_,h4,h5⟩:=il hx
    rw [Nat.sub_zero] at h4 h5
    have hk':k'<ops.size:=by
     have:=(List.getElem?_eq_some_iff.1 h4).1
     simpa using this
    rw [xl hk'] at h4
    have hd:c.dst (ops.size - 1 - k')=some t':=Option.some.inj h4
    refine ⟨_,getD_some (hin hd),d.tm1 _ t' v (hall _ (rn hd)) hd (fun j' _ hd'=>?_) g2⟩
    have hj':=rn hd'
    have hj':j'<ops.size:=hj'
    rcases Nat.lt_or_ge (ops.size - 1 - k') j' with h6 | h6
    ·have:=h5 (ops.size - 1 - j') (by omega)
     rw [xl (by omega),show ops.size - 1 - (ops.size - 1 - j')=j' by omega] at this
     exact absurd (congrArg some hd') this
    ·exact h6
   ·rw [g2] at hv
    obtain ⟨cv,h1,h2⟩:=ht.2 t v hk hv
    have hno:∀ j,S j->c.dst j≠some t:=by
     intro j _ hd
     have hj:j<ops.size:=rn hd
     have hmem:some t∈ops.toList.reverse.map (·.dst):=by
      have:=xl (ops:=ops) (m:=ops.size - 1 - j) (by omega)
      rw [show ops.size - 1 - (ops.size - 1 - j)=j by omega] at this
      have:=List.mem_of_getElem? this
      rwa [show (ops[j]?).bind (·.dst)=some t from hd] at this
     obtain ⟨k',h3⟩:=jO hk (k:=0) hmem (by simp:t∉([]:List Nat))
     exact g1 _ (List.mem_map_of_mem (f:=fun x:Nat×Nat=>(x.1,ops.size - 1 - x.2)) h3)
    have e:=d.tm0 t hno
    have hlt:t<a'.tmps.size:=by rw [d.size];exact (Array.getElem?_eq_some_iff.1 h1).1
    refine ⟨_,getD_some hlt,?_⟩
    rw [e]
    show VR ρ' v (a.tmps.getD t undef)
    rw [Array.getD_eq_getD_getElem?,h1]
    exact h2.mono d.le
  ·exact Nat.le_trans (List.length_filter_le _ _) (by simp;exact Nat.le_refl _)
 ·cases hcomp
end
end Go.Am
namespace Go.Am
section
variable {P:Program} {keep:aK} {w w':World} {ρ ρ':aL} {h h':ac}
def DvR (ρ : aL) (v:AV) (d:Deferred):Prop:=∃ (i:FuncId) (fa ca as:List AV) (cap:Array Value),
 v=.tuple (.func (.func i) fa ca::as)/\d.target=.fn (.func i) cap/\bH ρ ca cap.toList/\bH ρ (fa++as) d.args.toList
def Xe (ρ : aL):List AV->List Deferred->Prop
 | l,[]=>l=[]
 | l,d::ds=>(∃ r,d.target=.collected r/\Xe ρ l ds)∨∃ v l',l=v::l'/\DvR ρ v d/\Xe ρ l' ds
theorem DvR.mono (hl:ρ.le ρ') {v:AV} {d:Deferred} (h:DvR ρ v d):DvR ρ' v d:=by
 obtain ⟨i,fa,ca,as,cap,h1,h2,h3,h4⟩:=h
 exact ⟨i,fa,ca,as,cap,h1,h2,h3.mono hl,h4.mono hl⟩
theorem Xe.mono (hl:ρ.le ρ'):∀ {ds:List Deferred} {l:List AV},Xe ρ l ds->Xe ρ' l ds
 | [],_,h=>h
 | _::_,_,.inl ⟨r,h1,h2⟩=>.inl ⟨r,h1,Xe.mono hl h2⟩
 | _::_,_,.inr ⟨v,l',h1,h2,h3⟩=>.inr ⟨v,l',h1,h2.mono hl,Xe.mono hl h3⟩
structure DP where
 base:Nat
 pd:Option (List Deferred)
def fD (n0:DP) (ρ : aL) (h:ac) (l:List AV) (ds:List Deferred) (w:World):Prop :=
 ((∀ d∈ds,∀ r,d.target=.collected r->n0.base<=r/\w.heap[r]?=some (.deferred (some []))/\¬mu ρ h r) /\
 ds.Pairwise fun d e=>∀ r s,d.target=.collected r->e.target=.collected s->r≠s)/\Xe ρ l ds/\∀ ds0,n0.pd=some ds0->ds=ds0
theorem fD.post {n0:DP} {l:List AV} {ds:List Deferred} (hd:fD n0 ρ h l ds w) (hp:bv P keep ρ h w ρ' h' w'):fD n0 ρ' h' l ds w':=by
 refine ⟨⟨fun d hm r h1=>?_,hd.1.2⟩,hd.2.1.mono hp.le,hd.2.2⟩
 obtain ⟨h2,h3,h4⟩:=hd.1.1 d hm r h1
 have hlt:=(Array.getElem?_eq_some_iff.1 h3).1
 exact ⟨h2,(hp.fr.same r hlt h4).trans h3,fun ho=>h4 (hp.own r hlt ho)⟩
theorem bv.grow (hr:HR P keep ρ h w) {o:Obj} (hos:w'.os=w.os) (hout:w'.output=w.output) (hheap:w'.heap=w.heap.push o):bv P keep ρ h w ρ h w':=by
 refine ⟨aL.le_refl _,hr.frame fun b x p hx hd hp=>?_,⟨hos,hout,by rw [hheap];simp,fun k hk _=>?_⟩,fun _ _ h=>h,Nat.le_refl _,fun _ _ h _=>h,fun _ _ h=>h⟩
 ·obtain ⟨q,hq,hlt⟩:=(hr.blk b x hx).place hd
  rw [hp] at hq;cases hq
  rw [hheap,Array.getElem?_push,if_neg (by omega)]
 ·rw [hheap,Array.getElem?_push,if_neg (by omega)]
def RoR (ρ : aL):Option Nat->Option Nat->Prop
 | none,m=>m=none
 | some l,m=>∃ p,ρ l=some p/\p.off=0/\m=some p.blk
theorem RoR.mono (hl:ρ.le ρ') {ro rom:Option Nat} (h:RoR ρ ro rom):RoR ρ' ro rom:=by
 cases ro with
 | none=>exact h
 | some l=>obtain ⟨p,h1,h2⟩:=h;exact ⟨p,hl _ _ h1,h2⟩
def Sh:Ex->Exit
 | .normal=>.normal
 | .ret=>.ret
 | .exit id=>.exit id
 | .goto l=>.goto l
def Jo (P:Program) (keep:aK) (f:FuncId) (n0:DP) (ρ : aL) (h:ac) (w:World) (e:Exit) (s':St) (Q:Exit->Act->World->Prop):Prop :=
 ∀ ρ' a' w',bv P keep ρ h w ρ' s'.hp w'->TR (keep f) (aD P f) ρ' s'.tm a'.tmps->fD n0 ρ' s'.hp (bt s'.tm (aD P f)) a'.defers w'->Q e a' w'
def j7 (P:Program) (keep:aK) (f:FuncId) (ro:Option Nat) (c:Code) (x:St->XR):Prop :=
 ∀ s r,x s=some r->∀ n0 ρ a w rom Q,RoR ρ ro rom->HR P keep ρ s.hp w->TR (keep f) (aD P f) ρ s.tm a.tmps->fD n0 ρ s.hp (bt s.tm (aD P f)) a.defers w->n0.base<=w.heap.size->(n0.pd.isSome=true->im c=true)->Jo P keep f n0 ρ s.hp w (Sh r.1) r.2 Q ->
  c.wpIn (dM rom) 0 P Q a w
theorem Jo.after {f:FuncId} {n0:DP} {e:Exit} {s':St} {Q:Exit->Act->World->Prop} (hg:Jo P keep f n0 ρ h w e s' Q) (hp:bv P keep ρ h w ρ' h' w'):Jo P keep f n0 ρ' h' w' e s' Q :=
 fun ρ2 a2 w2 hp2 ht hd=>hg ρ2 a2 w2 (hp.trans hp2) ht hd
theorem rg {kp:Nat->Bool} {tm:Tr AV} {a:Act} {nt:Nat} (ht:TR kp nt ρ tm a.tmps):gZ (fun t=>if kp t then some (.tmp t) else none) [] .leaf tm ρ a:=by
 intro t x v hx hg
 simp only at hx
 split at hx
 ·rename_i hk
  cases hx
  obtain ⟨cv,h1,h2⟩:=ht.2 t v hk hg
  rw [Array.getD_eq_getD_getElem?,h1];exact h2
 ·cases hx
theorem Vs {c:Code} {e:Ex} {rom:Option Nat} {Q:Exit->Act->World->Prop} {a:Act} (hj:kT c=some e) (hq:Q (Sh e) a w):c.wpIn (dM rom) 0 P Q a w:=by
 cases c with
 | ret=>cases hj;exact wpIn_ret hq
 | exit id=>cases hj;exact wpIn_exit hq
 | goto l=>cases hj;exact wpIn_goto hq
 | _=>cases hj
theorem ft {b:Nat} {L:Loop} (hh:w.heap[b]?=some (.loop L)):(Instr.getLoop b).run P w=.ok L w:=by
 simp [Instr.getLoop,getObj,Sem.run,hh]
theorem iR {b:Nat} {L:Loop} (hh:w.heap[b]?=some (.loop L)) (o:Obj):(setObj b o).run P w=.ok () {w with heap:=w.heap.setIfInBounds b o }:=by simp [setObj,Sem.run,hh]
theorem HR.setLoop (hr:HR P keep ρ h w) {l:Nat} {r r':fE} {L L':Loop} (hb:h.bs.gt l=some (.loop r)) {p:Pl} (hp:ρ l=some p) (h0:p.off=0) (hh:w.heap[p.blk]?=some (.loop L)) (hl:LR P keep ρ r' L') :
  bv P keep ρ h w ρ (h.put l (.loop r')) {w with heap:=w.heap.setIfInBounds p.blk (.loop L') }:=by
 have hlt:=(Array.getElem?_eq_some_iff.1 hh).1
 refine hr.write hb rfl rfl hp rfl rfl (by simp) (fun k hk=>?_) ⟨p,L',hp,h0,?_,hl⟩
 ·show (w.heap.setIfInBounds p.blk _)[k]?=_
  rw [Array.getElem?_setIfInBounds,if_neg (fun e=>hk e.symm)]
 ·show (w.heap.setIfInBounds p.blk _)[p.blk]?=_
  rw [Array.getElem?_setIfInBounds,if_pos rfl,if_pos hlt]
end
end Go.Am
namespace Go.Am
section
variable {P:Program} {keep:aK} {call:an} {lf:Nat} {f:FuncId} {ro:Option Nat}
theorem Ce {r:Ex×St} {g:St->XR} {q:Ex×St} (h:tf r g=some q):(r.1=.normal/\g r.2=some q)∨(r.1≠.normal/\q=r):=by
 obtain ⟨e,s⟩:=r
 cases e with
 | normal=>exact .inl ⟨rfl,h⟩
 | ret=>cases h;exact .inr ⟨(by intro e;cases e),rfl⟩
 | exit id=>cases h;exact .inr ⟨(by intro e;cases e),rfl⟩
 | goto l=>cases h;exact .inr ⟨(by intro e;cases e),rfl⟩
theorem KB {a b:Code} {ea eb:St->XR} (ha:j7 P keep f ro a ea) (hb:j7 P keep f ro b eb):j7 P keep f ro (.seq a b) (fun s=>ob (ea s) fun r=>tf r eb):=by
 intro s r hr n0 ρ act w rom Q hro hh ht hd hn hpl hg
 obtain ⟨q,h1,h2⟩:=af.1 hr
 refine wpIn_seq (ha s q h1 n0 ρ act w rom _ hro hh ht hd hn (fun e=>by have:=hpl e;simp only [im,Bool.and_eq_true] at this;exact this.1) fun ρ' a' w' hp ht' hd'=>?_)
 rcases Ce h2 with ⟨e,h3⟩|⟨e,rfl⟩
 ·rw [e]
  exact hb q.2 r h3 n0 ρ' a' w' rom Q (hro.mono hp.le) hp.hr ht' hd' (Nat.le_trans hn hp.fr.size) (fun e=>by have:=hpl e;simp only [im,Bool.and_eq_true] at this;exact this.2) (hg.after hp)
 ·have:=hg ρ' a' w' hp ht' hd'
  cases hx:r.1 with
  | normal=>exact absurd hx e
  | ret=>rw [hx] at this;exact this
  | exit id=>rw [hx] at this;exact this
  | goto l=>rw [hx] at this;exact this
theorem xM {id:Nat} {a:Code} {ea:St->XR} (ha:j7 P keep f ro a ea):j7 P keep f ro (.block id a) (fun s=>ob (ea s) fun r=>y6 id r):=by
 intro s r hr n0 ρ act w rom Q hro hh ht hd hn hpl hg
 obtain ⟨q,h1,h2⟩:=af.1 hr
 refine wpIn_block (ha s q h1 n0 ρ act w rom _ hro hh ht hd hn (fun e=>hpl e) fun ρ' a' w' hp ht' hd'=>?_)
 obtain ⟨e,s'⟩:=q
 cases e with
 | normal=>cases h2;exact hg ρ' a' w' hp ht' hd'
 | ret=>cases h2;exact hg ρ' a' w' hp ht' hd'
 | goto l=>cases h2;exact hg ρ' a' w' hp ht' hd'
 | exit j =>
  have h2:(Bool.rec (motive:=fun _=>XR) (some (Ex.exit j,s')) (some (.normal,s')) (Nat.beq j id):XR)=some r:=h2
  show (Exit.inBlock id Q) (.exit j) a' w'
  by_cases e:j=id
  ·subst e
   rw [show Nat.beq j j=true from by simp] at h2
   cases h2
   simp only [Exit.inBlock,if_true]
   exact hg ρ' a' w' hp ht' hd'
  ·rw [show Nat.beq j id=false from by cases hb:Nat.beq j id with
    | false=>rfl
    | true=>exact absurd (Nat.eq_of_beq_eq_true hb) e] at h2
   cases h2
   simp only [Exit.inBlock,if_neg e]
   exact hg ρ' a' w' hp ht' hd'
theorem Bn {c:Operand} {x:bN} {a b:Code} {ea eb:St->XR} (hc:Am.resolve (fun t=>if keep f t then some (.tmp t) else none) c=some x) (ha:j7 P keep f ro a ea) (hb:j7 P keep f ro b eb) :
  j7 P keep f ro (.cond c a b) (fun s=>ob (x.get [] .leaf s.tm) fun v=>cH (fun b=>Bool.rec (motive:=fun _=>XR) (eb s) (ea s) b) v):=by
 intro s r hr n0 ρ act w rom Q hro hh ht hd hn hpl hg
 obtain ⟨v,h1,h2⟩:=af.1 hr
 obtain ⟨t,e,h3⟩:=fV h2
 subst e
 have hv:=aM (rg ht) hc h1
 cases t with
 | true=>exact wpIn_cond_true hv (ha s r h3 n0 ρ act w rom Q hro hh ht hd hn (fun e=>by have:=hpl e;simp only [im,Bool.and_eq_true] at this;exact this.1) hg)
 | false=>exact wpIn_cond_false hv (hb s r h3 n0 ρ act w rom Q hro hh ht hd hn (fun e=>by have:=hpl e;simp only [im,Bool.and_eq_true] at this;exact this.2) hg)
theorem Sy {p:Nat->Prop} (h:∃ n,p n):∃ n,p n/\∀ m,p m->n<=m:=by
 obtain ⟨n,hn⟩:=h
 induction n using Nat.strongRecOn with
 | _ n ih =>
  by_cases hx:∃ m,m<n/\p m
  ·obtain ⟨m,h1,h2⟩:=hx
   exact ih m h1 h2
  ·refine ⟨n,hn,fun m hm=>?_⟩
   rcases Nat.lt_or_ge m n with h1 | h1
   ·exact absurd ⟨m,h1,hm⟩ hx
   ·exact h1
theorem BD (body:St->XR) (n:Nat) (s:St):nH body (n+1) s=ob (body s) fun r=>Ex.rec (motive:=fun _=>XR) (nH body n r.2) (some r) (fun _=>some r) (fun _=>some r) r.1:=rfl
theorem BE {a:Code} {ea:St->XR} (ha:j7 P keep f ro a ea):j7 P keep f ro (.loop a) (fun s=>nH ea lf s):=by
 intro s r hr n0 ρ act w rom Q hro hh ht hd hn hpl hg
 
 let I:Nat->Act->World->Prop:=fun n a w=>∃ s ρ,nH ea n s=some r/\RoR ρ ro rom/\HR P keep ρ s.hp w/\TR (keep f) (aD P f) ρ s.tm a.tmps/\fD n0 ρ s.hp (bt s.tm (aD P f)) a.defers w/\n0.base<=w.heap.size/\Jo P keep f n0 ρ s.hp w (Sh r.1) r.2 Q
 open Classical in
 let μ : Act->World->Nat:=fun a w=>if h:∃ n,I n a w then (Sy h).choose else 0
 have hμ : ∀ n a w,I n a w->μ a w<=n:=by
  intro n a w hI
  have hex:∃ n,I n a w:=⟨n,hI⟩
  simp only [μ,dif_pos hex]
  exact (Sy hex).choose_spec.2 n hI
 refine wpIn_loop (fun a w=>∃ n,I n a w) μ ⟨lf,s,ρ,hr,hro,hh,ht,hd,hn,hg⟩ (fun a w hex=>?_)
 obtain ⟨n,hn1,hn2⟩:∃ n,I n a w/\μ a w=n:=⟨_,by simp only [μ,dif_pos hex];exact (Sy hex).choose_spec.1,rfl⟩
 obtain ⟨s,ρ,h1,h2,h3,h4,h5,h6,h7⟩:=hn1
 cases n with
 | zero=>cases h1
 | succ n =>
  rw [BD] at h1
  obtain ⟨q,g1,g2⟩:=af.1 h1
  refine ha s q g1 n0 ρ a w rom _ h2 h3 h4 h5 h6 (fun e=>hpl e) fun ρ' a' w' hp ht' hd'=>?_
  obtain ⟨e,s'⟩:=q
  cases e with
  | normal =>
   have hI:I n a' w':=⟨s',ρ',g2,h2.mono hp.le,hp.hr,ht',hd',Nat.le_trans h6 hp.fr.size,h7.after hp⟩
   refine ⟨⟨n,hI⟩,?_⟩
   have:=hμ n a' w' hI
   omega
  | ret=>cases g2;exact h7 ρ' a' w' hp ht' hd'
  | exit j=>cases g2;exact h7 ρ' a' w' hp ht' hd'
  | goto j=>cases g2;exact h7 ρ' a' w' hp ht' hd'
end
end Go.Am
namespace Go.Am
section
variable {P:Program} {keep:aK} {call:an} {lf:Nat} {f:FuncId} {ro:Option Nat}
theorem SV {ρ : aL} {h:ac} {w:World} {k:Nat} (hr:HR P keep ρ h w) (ho:mu ρ h k):k<w.heap.size:=by
 obtain ⟨b,x,p,hx,hd,hp,rfl⟩:=ho
 obtain ⟨q,hq,hlt⟩:=(hr.blk b x hx).place hd
 rw [hp] at hq;cases hq;exact hlt
theorem pD {ρ : aL} {h:ac} {w:World} {rom:Option Nat} {n0:DP} {dl:List AV} {ds:List Deferred} (hr:HR P keep ρ h w) (hro:RoR ρ ro rom) (hd:fD n0 ρ h dl ds w) (hn:n0.base<=w.heap.size) (hpd:n0.pd=none) (hlp:∀ l,ro=some l->∃ b,h.bs.gt l=some (.loop b))
  (tmps:Array Value) (ps:Array Tmp) (assign body:Code) :
  ∃ wA mark dn,bv P keep ρ h w ρ h wA/\fD n0 ρ h dl (mark++ds) wA/\wA.os=w.os/\wA.output=w.output /\
   ∀ fn,(Instr.enterLoop fn tmps ps assign body rom).run P w=.ok (wA.heap.size,mark) {wA with heap:=wA.heap.push (.loop {state:=.ready,pending:=none,fn,tmps,params:=ps,assign,body,defers:=dn }) }:=by
 cases ro with
 | none =>
  cases hro
  let wA:World:={w with heap:=w.heap.push (.deferred (some [])) }
  refine ⟨wA,[{target:=.collected w.heap.size,args:=#[] }],w.heap.size,bv.grow hr rfl rfl rfl,⟨⟨fun d hm r h1=>?_,?_⟩,.inl ⟨_,rfl,hd.2.1⟩,fun ds0 e=>by rw [hpd] at e;cases e⟩,rfl,rfl,fun fn=>?_⟩
  ·rcases List.mem_append.1 hm with hm | hm
   ·rw [List.mem_singleton.1 hm] at h1
    cases h1
    refine ⟨hn,?_,fun ho=>Nat.lt_irrefl _ (SV hr ho)⟩
    show (w.heap.push _)[w.heap.size]?=_
    simp
   ·obtain ⟨h2,h3,h4⟩:=hd.1.1 d hm r h1
    have hlt:=(Array.getElem?_eq_some_iff.1 h3).1
    refine ⟨h2,?_,h4⟩
    show (w.heap.push _)[r]?=_
    rw [Array.getElem?_push,if_neg (by omega)];exact h3
  ·rw [List.singleton_append,List.pairwise_cons]
   refine ⟨fun e hm r s h1 h2=>?_,hd.1.2⟩
   cases h1
   obtain ⟨_,g3,_⟩:=hd.1.1 e hm s h2
   have hlt:=(Array.getElem?_eq_some_iff.1 g3).1
   omega
  ·simp [Instr.enterLoop,wA];rfl
 | some l =>
  obtain ⟨p,hp,h0,rfl⟩:=hro
  obtain ⟨b,hb⟩:=hlp l rfl
  obtain ⟨p',L,hp',_,hh,_⟩:=hr.blk _ _ hb
  rw [hp] at hp';cases hp'
  refine ⟨w,[],L.defers,bv.refl hr,by simpa using hd,rfl,rfl,fun fn=>?_⟩
  simp [Instr.enterLoop,ft hh]
theorem zG (hkD:keep f (aD P f)=false) (hn:NamesOk P) (hc:dR P keep call) {g:Operand} {x:bN} {ps:Array Tmp} {assign body:Code} (hx:Am.resolve (fun t=>if keep f t then some (.tmp t) else none) g=some x) :
  j7 P keep f ro (.rangeFunc g ps assign body) (fun s=>ob (x.get [] .leaf s.tm) fun fv=>lw call (aD P f) f ro ps.toList assign body s fv):=by
 intro s r hr n0 ρ act w rom Q hro hh ht hd hn0 hpl hg
 have hpd:n0.pd=none:=by
  cases hx:n0.pd with
  | none=>rfl
  | some d=>have:=hpl (by rw [hx];rfl);cases this
 obtain ⟨fv,h1,h2⟩:=af.1 hr
 have vf:=aM (rg ht) hx h1
 let L0:fE:=⟨.ready,none,f,s.tm.up none (aD P f),ps.toList,assign,body⟩
 let enter:XR:=ob (my call [.func (.yield s.hp.next) [] []] (s.hp.new s.hp.next (.loop L0)) fv) fun r =>
  r.2.theLoop s.hp.next fun b=>match b.st with
   | .busy=>none
   | _=>match b.pending with
    | none=>some (.normal,⟨s.tm,r.2.put s.hp.next (.loop {b with st:=.exhausted })⟩)
    | some c=>ob (kT c) fun e=>some (e,⟨s.tm,r.2.put s.hp.next (.loop {b with st:=.exhausted })⟩)
 have hent:enter=some r/\∀ l,ro=some l->∃ b,s.hp.bs.gt l=some (.loop b):=by
  cases ro with
  | none=>exact ⟨h2,fun l e=>by cases e⟩
  | some l =>
   obtain ⟨b,hb,h3⟩:=fO (show s.hp.theLoop l (fun _=>enter)=some r from h2)
   exact ⟨h3,fun l' e=>by cases e;exact ⟨b,hb⟩⟩
 obtain ⟨he,hlp⟩:=hent
 obtain ⟨q,h3,h4⟩:=af.1 he
 obtain ⟨fn,first,cap,e,h5⟩:=ry h3
 subst e
 obtain ⟨fn',a',b',e2,hf,ha,hb⟩:=vf
 cases fn with
 | func i =>
  cases hf
  have h6:call (.fn i) (dS first (dS [.func (.yield s.hp.next) [] []] cap)) (s.hp.new s.hp.next (.loop L0))=some q:=h5
  obtain ⟨wA,mark,dn,hpA,hdA,hosA,houtA,hrunA⟩:=pD hh hro hd hn0 hpd hlp act.tmps ps assign body
  
  have mk:∀ fn:FuncId,let L:Loop:={state:=.ready,pending:=none,fn,tmps:=act.tmps,params:=ps,assign,body,defers:=dn }
    bv P keep ρ s.hp wA (ρ.up s.hp.next ⟨wA.heap.size,0,0⟩) (s.hp.new s.hp.next (.loop L0)) {wA with heap:=wA.heap.push (.loop L) }:=by
   intro fn L
   rw [ii (Nat.le_refl _)]
   refine hpA.hr.push (w':={wA with heap:=wA.heap.push (.loop L) }) (o:=.loop L) (Nat.le_refl _) (by omega) rfl rfl rfl ⟨_,L,aL.up_same _ _ _,rfl,?_,⟨rfl,rfl,?_,rfl,rfl,rfl⟩⟩
   ·show (wA.heap.push _)[wA.heap.size]?=_
    simp
   ·refine TR.mono (aL.le_up (hh.fresh (Nat.le_refl _)).1) ⟨ht.1,fun t v hk hv=>?_⟩
    have hv:(s.tm.up none (aD P f)).gt t=some v:=hv
    rw [Tr.gt_up,if_neg (fun e=>by rw [e] at hk;rw [hk] at hkD;cases hkD)] at hv
    exact ht.2 t v hk hv
  have hle1:ρ.le (ρ.up s.hp.next ⟨wA.heap.size,0,0⟩):=aL.le_up (hh.fresh (Nat.le_refl _)).1
  refine wpIn_rangeFunc fun fn _=>?_
  have hmk:=mk fn
  simp only at hmk
  obtain ⟨⟨fn1,c1,hfn,hbody⟩,hcall⟩:=hc _ _ _ _ h6 _ _ ((a'++#[Value.func (Fn.yield wA.heap.size) #[] #[]]++b').toList) hmk.hr (by
   rw [cj,cj]
   simp only [Array.toList_append,List.append_assoc]
   refine (ha.mono hle1).append (bH.append ⟨_,[],rfl,⟨_,_,_,rfl,⟨_,aL.up_same _ _ _,rfl,rfl⟩,rfl,rfl⟩,rfl⟩ (hb.mono hle1)))
  let wB:World:={wA with heap:=wA.heap.push (.loop {state:=.ready,pending:=none,fn,tmps:=act.tmps,params:=ps,assign,body,defers:=dn }) }
  refine ⟨wA.heap.size,mark,wB,{target:=.fn (.func i) b',args:=a'++#[Value.func (Fn.yield wA.heap.size) #[] #[]] },wB,i,a'++#[Value.func (Fn.yield wA.heap.size) #[] #[]]++b',wB,hrunA fn,?_,fun _ _=>trivial,?_,fun hd=>(by cases hd),?_⟩
  ·have hmap:Array.map act.eval #[Operand.const (Value.func (Fn.yield wA.heap.size) #[] #[])]=#[Value.func (Fn.yield wA.heap.size) #[] #[]]:=by simp [Act.eval]
   simp only [Go.resolve,e2,Deferred.ofValue,Sem.run_pure,hmap]
  ·simp only [invoke]
   exact eQ hn hfn hbody
  ·rw [Array.toArray_toList] at hcall
   refine CallsIn.mono (F:=dM none) hcall (fun e w3 hR=>?_)
   cases e with
   | returned v =>
    obtain ⟨ρ',_,hp⟩:=hR
    obtain ⟨b,hbl,h7⟩:=fO h4
    obtain ⟨p,L,hpl,hp0,hh3,hlr⟩:=hp.hr.blk _ _ hbl
    have hpe:p=⟨wA.heap.size,0,0⟩:=by
     have:=hp.le _ _ (aL.up_same ρ s.hp.next ⟨wA.heap.size,0,0⟩)
     rw [hpl] at this;exact Option.some.inj this
    subst hpe
    have hset:=hp.hr.setLoop (r':={b with st:=.exhausted }) (L':={L with state:=.exhausted }) hbl hpl rfl hh3 {hlr with st:=rfl }
    have hbusy:(L.state==.busy)=false:=by
     have h8:=hlr.st
     cases hst:b.st with
     | busy=>rw [hst] at h7;cases h7
     | ready=>rw [hst] at h8;rw [show L.state=.ready from h8];rfl
     | done=>rw [hst] at h8;rw [show L.state=.done from h8];rfl
     | exhausted=>rw [hst] at h8;rw [show L.state=.exhausted from h8];rfl
    have h7':(match b.pending with
      | none=>some (Ex.normal,(⟨s.tm,q.2.put s.hp.next (.loop {b with st:=.exhausted })⟩:St))
      | some c=>ob (kT c) fun e=>some (e,⟨s.tm,q.2.put s.hp.next (.loop {b with st:=.exhausted })⟩))=some r:=by
     cases hst:b.st with
     | busy=>rw [hst] at h7;cases h7
     | ready=>rw [hst] at h7;exact h7
     | done=>rw [hst] at h7;exact h7
     | exhausted=>rw [hst] at h7;exact h7
    have hall:=((hpA.trans hmk).trans hp).trans hset
    have hdef:fD n0 ρ' (q.2.put s.hp.next (.loop {b with st:=.exhausted })) (bt s.tm (aD P f)) (mark++act.defers) _:=(hdA.post (hmk.trans hp)).post hset
    clear hset
    generalize hX:q.2.put s.hp.next (.loop {b with st:=.exhausted })=X at h7' hall hdef
    let w4:World:={w3 with heap:=w3.heap.setIfInBounds wA.heap.size (.loop {L with state:=.exhausted }) }
    refine ⟨L.pending,w4,?_,?_⟩
    ·simp only [Instr.endLoop,Sem.run_bind,ft hh3,Result.andThen_ok,hbusy,Bool.false_eq_true,if_false,Sem.run_pure,iR hh3]
     rfl
    ·rw [hlr.pending]
     cases hpd:b.pending with
     | none =>
      rw [hpd] at h7'
      cases h7'
      exact hg ρ' _ _ hall (ht.mono hall.le) hdef
     | some c =>
      rw [hpd] at h7'
      obtain ⟨e,h8,h9⟩:=af.1 h7'
      cases h9
      exact Vs h8 (hg ρ' _ _ hall (ht.mono hall.le) hdef)
   | panicked chain=>exact hR.elim
   | outgrown=>exact hR.elim
 | _=>cases h5
end
end Go.Am
namespace Go.Am
section
variable {P:Program} {keep:aK} {call:an} {lf:Nat} {f:FuncId} {ro:Option Nat}
theorem fu {P:Program} {b:Frame} {a:Act} {k:List Item} {cs:List Frame} {w:World} {c:Code}:step P (lone (b.atR a (.code (.scope c)::k)) cs w)=.next (lone (b.atR a (.code c::.inScope c::k)) cs w) :=
 step_lone_go (by simp [stepG,stepG.exec,Frame.atR])
theorem uf {P:Program} {b:Frame} {a:Act} {k:List Item} {cs:List Frame} {w:World} {c:Code}:step P (lone (b.atR a (.inScope c::k)) cs w)=.next (lone (b.atR a k) cs w) :=
 step_lone_go (by simp [stepG,stepG.exec,Frame.atR])
theorem Cm {F:Fence} {n:Nat} {P:Program} {a:Act} {w:World} {Q:Exit->Act->World->Prop} {c:Code} (h:c.wpIn F n P (fun e a w=>(∀ l,e≠.goto l)/\Q e a w) a w):(Code.scope c).wpIn F n P Q a w:=by
 intro b k cs hro hb hr
 have h0:(lone (b.atR a (.code (.scope c)::k)) cs w).fenced P F:=fenced_calm hb hr rfl
 obtain ⟨e,a₁,w₁,⟨hng,hq⟩,harr⟩:=h b (.inScope c::k) cs hro hb hr
 cases e with
 | normal=>exact ⟨.normal,a₁,w₁,hq,.head h0 fu (StepsIn.trans harr (.one (fenced_calm hb hr rfl) uf))⟩
 | exit id =>
  have hx:exitTo id (.inScope c::k)=exitTo id k:=by simp [exitTo]
  exact ⟨.exit id,a₁,w₁,hq,fun k' hk=>.head h0 fu (harr.1 k' (by rw [hx];exact hk)),
   fun hr' hk=>let ⟨k₁,h1,h2⟩:=harr.2 hr' (by rw [hx];exact hk);⟨k₁,h1,.head h0 fu h2⟩⟩
 | goto l=>exact absurd rfl (hng l)
 | ret=>exact ⟨_,a₁,w₁,hq,.of_steps (.one h0 fu) harr⟩
 | panic ch=>exact ⟨_,a₁,w₁,hq,.of_steps (.one h0 fu) harr⟩
 | outgrown=>exact ⟨_,a₁,w₁,hq,.of_steps (.one h0 fu) harr⟩
theorem iO {kp:Nat->Bool} {t n:Nat}:∀ {ds:List (Option Nat)} {k:Nat} {seen:List Nat},(t,n)∈gK kp k ds seen->kp t=true
 | [],k,seen,h=>by cases h
 | none::ds,k,seen,h=>by simp only [gK] at h;exact iO h
 | some d::ds,k,seen,h=>by
  simp only [gK] at h
  split at h
  ·rename_i hc
   simp only [Bool.and_eq_true] at hc
   rcases List.mem_cons.1 h with e | h
   ·cases e;exact hc.1
   ·exact iO h
  ·exact iO h
theorem mq {D:Nat}:∀ {l:List (Nat×Nat)} {vs tm tm':Tr AV},(∀ x∈l,x.1≠D)->bP l vs tm=some tm'->tm'.gt D=tm.gt D
 | [],vs,tm,tm',_,h=>by cases h;rfl
 | x::l,vs,tm,tm',hl,h=>by
  obtain ⟨v,h1,h2⟩:=af.1 (show ob (vs.gt x.2) (fun v=>bP l vs (tm.up (some v) x.1))=some tm' from h)
  rw [mq (fun y hy=>hl y (List.mem_cons_of_mem _ hy)) h2,Tr.gt_up,if_neg (fun e=>hl x (List.mem_cons_self ..) e.symm)]
theorem Bm {P:Program} {kp:Nat->Bool} {nt D:Nat} {ops:Array Oper} {ss:List gk} {outs:List (Nat×Nat)} {vs tm tm':Tr AV} (hD:kp D=false) (hc:uu P kp nt ops=some (ss,outs)) (h:bP outs vs tm=some tm'):tm'.gt D=tm.gt D:=by
 refine mq (fun x hx e=>?_) h
 unfold uu at hc
 simp only at hc
 split at hc
 ·simp only [Option.some.injEq,Prod.mk.injEq] at hc
  obtain ⟨_,rfl⟩:=hc
  obtain ⟨y,hy,rfl⟩:=List.mem_map.1 hx
  have:=iO hy
  simp only at e
  rw [e,hD] at this;cases this
 ·cases hc
theorem eE {tm tm':Tr AV} {nt:Nat} (h:tm'.gt nt=tm.gt nt):bt tm' nt=bt tm nt:=by unfold bt;rw [h]
theorem Kk (tm:Tr AV) (nt:Nat) (l:List AV):bt (tm.up (some (.tuple l)) nt) nt=l:=by unfold bt;rw [Tr.gt_up,if_pos rfl]
theorem fi (hkD:keep f (aD P f)=false) (hm:P.follows .mixedOrders=true) (hn:NamesOk P) (hc:dR P keep call):∀ (c:Code),j7 P keep f ro c (aZ call lf (aD P f) f ro (bu P (keep f) (aD P f) c)):=by
 intro c
 induction c with
 | skip =>
  intro s r hr n0 ρ a w rom Q hro hh ht hd hn0 hpl hg
  cases hr
  exact wpIn_skip (hg ρ a w (bv.refl hh) ht hd)
 | region id ops draw =>
  intro s r hr n0 ρ a w rom Q hro hh ht hd hn0 hpl hg
  cases draw with
  | true =>
   simp only [bu] at hr
   cases hcd:uu P (keep f) (aD P f) ops with
   | none=>rw [hcd] at hr;cases hr
   | some so =>
    obtain ⟨ss,outs⟩:=so
    rw [hcd] at hr
    obtain ⟨q,h1,h2⟩:=af.1 (show ob (bw s.hp.next s.tm call ss .leaf ⟨s.hp.bs,s.hp.next+ops.size⟩) (fun q=>ob (bP outs q.1 s.tm) fun tm=>some (Ex.normal,(⟨tm,q.2⟩:St)))=some r from hr)
    obtain ⟨tm',h3,h4⟩:=af.1 h2
    cases h4
    exact Bo hm hn hc hh ht hcd h1 h3 (fun ρ' a' w' ht' hd' hp=>hg ρ' a' w' hp ht' (by rw [hd',eE (Bm hkD hcd h3)];exact hd.post hp))
  | false =>
   have hr:aZ call lf (aD P f) f ro (jk P (keep f) (aD P f) ops) s=some r:=hr
   cases hcr:jk P (keep f) (aD P f) ops with
   | reg is outs =>
    rw [hcr] at hr
    obtain ⟨q,h1,h2⟩:=af.1 (show ob (aT is s.tm call [] s.hp) (fun q=>ob (bf outs q.1 s.tm s.tm) fun tm=>some (Ex.normal,(⟨tm,q.2⟩:St)))=some r from hr)
    obtain ⟨tm',h3,h4⟩:=af.1 h2
    cases h4
    have hsame:bt tm' (aD P f)=bt s.tm (aD P f):=by
     obtain ⟨_,_,rfl⟩:=uv hcr
     exact eE (uN hkD h3)
    exact Ko hn hc hh ht hcr h1 h3 (fun ρ' a' w' ht' hd' hp=>hg ρ' a' w' hp ht' (by rw [hd',hsame];exact hd.post hp))
   | dfr is outs nt' xs =>
    rw [hcr] at hr
    have hnpl:n0.pd=none:=by
     cases hx:n0.pd with
     | none=>rfl
     | some d =>
      have h0:=hpl (by rw [hx];rfl)
      unfold jk at hcr
      simp only [im] at h0
      cases hdl:fo ops.toList with
      | none=>rw [hdl] at hcr;cases hcr
      | some x=>rw [hdl] at h0;cases h0
    cases ro with
    | some l=>cases hr
    | none =>
     cases hro
     obtain ⟨q,h1,h2⟩:=af.1 (show ob (aT is s.tm call [] s.hp) (fun q=>ob (bf outs q.1 s.tm s.tm) fun tm=>ob (be xs q.1 .leaf s.tm) fun vs=>aV (qh vs) (some (Ex.normal,(⟨tm.up (some (.tuple (.tuple vs::bt tm nt'))) nt',q.2⟩:St))))=some r from hr)
     obtain ⟨tm',h3,h4⟩:=af.1 h2
     obtain ⟨vs,h5,h6⟩:=af.1 h4
     obtain ⟨hfn,h6⟩:=aE.1 h6
     cases h6
     have hsame:∀ {nt2},nt2=aD P f->bt tm' nt2=bt s.tm (aD P f):=by
      rintro _ rfl
      unfold jk at hcr
      split at hcr
      ·dsimp only at hcr
       split at hcr
       ·simp only [AC.dfr.injEq] at hcr
        obtain ⟨_,rfl,_⟩:=hcr
        exact eE (uN hkD h3)
       ·cases hcr
      ·cases hcr
     have main:=JO (id:=id) (Q:=Q) hn hc hh ht hcr h1 h3 h5 (fun ρ' a' w' i first cap args fa ca as ht' hvs vc vf va hd' hp=>hg ρ' a' w' hp ?_ ?_) ?_
     ·exact main.2
     ·refine ⟨ht'.1,fun t v hk hv=>?_⟩
      have hnt:nt'=aD P f:=by
       unfold jk at hcr
       split at hcr
       ·dsimp only at hcr
        split at hcr
        ·simp only [AC.dfr.injEq] at hcr;exact hcr.2.2.1.symm
        ·cases hcr
       ·cases hcr
      subst hnt
      have hv:(tm'.up (some (.tuple (.tuple vs::bt tm' (aD P f)))) (aD P f)).gt t=some v:=hv
      rw [Tr.gt_up,if_neg (fun e=>by rw [e] at hk;rw [hk] at hkD;cases hkD)] at hv
      exact ht'.2 t v hk hv
     ·have hnt:nt'=aD P f:=by
       unfold jk at hcr
       split at hcr
       ·dsimp only at hcr
        split at hcr
        ·simp only [AC.dfr.injEq] at hcr;exact hcr.2.2.1.symm
        ·cases hcr
       ·cases hcr
      subst hnt
      rw [Kk,hd',hsame rfl]
      have hd2:=hd.post hp
      refine ⟨⟨fun d hm r h1=>?_,?_⟩,.inr ⟨_,_,rfl,⟨i,fa,ca,as,cap,by rw [hvs],rfl,vc,?_⟩,hd2.2.1⟩,fun ds0 e=>by rw [hnpl] at e;cases e⟩
      ·rcases List.mem_cons.1 hm with rfl | hm
       ·cases h1
       ·exact hd2.1.1 d hm r h1
      ·rw [List.pairwise_cons]
       exact ⟨(fun e hm r s h1=>by cases h1),hd2.1.2⟩
      ·simp only [Array.toList_append]
       exact vf.append va
     ·intro v as e
      subst e
      unfold qh at hfn
      split at hfn
      ·rename_i i fa ca as' heq
       simp only [List.cons.injEq] at heq
       exact ⟨i,fa,ca,heq.1⟩
      ·cases hfn
   | _ =>
    exfalso
    rw [hcr] at hr
    unfold jk at hcr
    split at hcr
    ·dsimp only at hcr
     split at hcr
     ·cases hcr
     ·cases hcr <;> cases hr
    ·cases hcr
 | seq a b iha ihb=>exact KB iha ihb
 | cond c a b iha ihb =>
  cases hx:Am.resolve (fun t=>if keep f t then some (.tmp t) else none) c with
  | none=>intro s r hr;simp only [bu,hx] at hr;cases hr
  | some x =>
   have:aZ call lf (aD P f) f ro (bu P (keep f) (aD P f) (.cond c a b))=fun s=>ob (x.get [] .leaf s.tm) fun v=>cH (fun t=>Bool.rec (motive:=fun _=>XR) (aZ call lf (aD P f) f ro (bu P (keep f) (aD P f) b) s) (aZ call lf (aD P f) f ro (bu P (keep f) (aD P f) a) s) t) v:=by
    simp only [bu,hx];rfl
   rw [this]
   exact Bn hx iha ihb
 | block id a ih=>exact xM ih
 | loop a ih=>exact BE ih
 | rangeFunc g ps assign body _ _ =>
  cases hx:Am.resolve (fun t=>if keep f t then some (.tmp t) else none) g with
  | none=>intro s r hr;simp only [bu,hx] at hr;cases hr
  | some x =>
   have:aZ call lf (aD P f) f ro (bu P (keep f) (aD P f) (.rangeFunc g ps assign body))=fun s=>ob (x.get [] .leaf s.tm) fun fv=>lw call (aD P f) f ro ps.toList assign body s fv:=by
    simp only [bu,hx];rfl
   rw [this]
   exact zG hkD hn hc hx
 | exit id =>
  intro s r hr n0 ρ a w rom Q hro hh ht hd hn0 hpl hg
  cases hr
  exact wpIn_exit (hg ρ a w (bv.refl hh) ht hd)
 | ret =>
  intro s r hr n0 ρ a w rom Q hro hh ht hd hn0 hpl hg
  cases hr
  exact wpIn_ret (hg ρ a w (bv.refl hh) ht hd)
 | scope a ih =>
  intro s r hr n0 ρ act w rom Q hro hh ht hd hn0 hpl hg
  have hr:ob (aZ call lf (aD P f) f ro (bu P (keep f) (aD P f) a) s) (fun r=>Ex.rec (motive:=fun _=>XR) (some r) (some r) (fun _=>some r) (fun _=>none) r.1)=some r:=hr
  obtain ⟨q,h1,h2⟩:=af.1 hr
  obtain ⟨e,s'⟩:=q
  refine Cm (ih s _ h1 n0 ρ act w rom _ hro hh ht hd hn0 (fun e=>hpl e) fun ρ' a' w' hp ht' hd'=>?_)
  cases e with
  | goto l=>cases h2
  | normal=>cases h2;exact ⟨(fun l e=>by cases e),hg ρ' a' w' hp ht' hd'⟩
  | ret=>cases h2;exact ⟨(fun l e=>by cases e),hg ρ' a' w' hp ht' hd'⟩
  | exit id=>cases h2;exact ⟨(fun l e=>by cases e),hg ρ' a' w' hp ht' hd'⟩
 | label l =>
  intro s r hr n0 ρ act w rom Q hro hh ht hd hn0 hpl hg
  cases hr
  exact wpIn_label (hg ρ act w (bv.refl hh) ht hd)
 | goto l=>intro s r hr;cases hr
 | refuse why=>intro s r hr;cases hr
end
end Go.Am
namespace Go.Am
section
variable {P:Program} {keep:aK} {call:an} {lf:Nat} {f:FuncId} {ro:Option Nat}
def uS (tmps:Array Value):ResultVar->Sem Value
 | .tmp t=>pure (tmps.getD t undef)
 | .cell a t=>do loadVar t (← asAddr (tmps.getD a undef))
theorem BW (fn:Func) (tmps:Array Value):results fn tmps=(do
  let vs ← fn.results.mapM (uS tmps)
  pure (if h:vs.size=1 then vs[0] else .tuple vs)):=by
 unfold results
 congr 1
theorem BV {ρ : aL} {w:World} {a:Act} {rv:ResultVar} {s:St} {v:AV} (hh:HR P keep ρ s.hp w) (ht:TR (keep f) (aD P f) ρ s.tm a.tmps) (hk:iN (keep f) [rv]=true) (hr:zcC P rv s=some v) :
  ∃ cv,(uS a.tmps rv).run P w=.ok cv w/\VR ρ v cv:=by
 cases rv with
 | tmp t =>
  simp only [iN,Bool.and_true] at hk
  obtain ⟨cv,h1,h2⟩:=ht.2 t v hk hr
  have e:a.tmps.getD t undef=cv:=by rw [Array.getD_eq_getD_getElem?,h1];rfl
  exact ⟨cv,by simp only [uS,e,Sem.run_pure],h2⟩
 | cell x t =>
  simp only [iN,Bool.and_true] at hk
  obtain ⟨u,h1,h2⟩:=af.1 (show ob (s.tm.gt x) (nQ P t s.hp)=some v from hr)
  obtain ⟨cu,h3,h4⟩:=ht.2 x u hk h1
  have e:a.tmps.getD x undef=cu:=by rw [Array.getD_eq_getD_getElem?,h3];rfl
  unfold nQ at h2
  cases hs:aC P t with
  | none=>rw [hs] at h2;cases h2
  | some n =>
   cases hg:gB P t with
   | none=>rw [hs,hg] at h2;cases h2
   | some g =>
    rw [hs,hg] at h2
    have key:∃ ad cv,cu=.pointer (some ad)/\(loadVar t ad).run P w=.ok cv w/\VR ρ v cv:=by
     cases g with
     | false=>exact J5 hg hh h2 h4
     | true=>exact J6 hs hg hh h2 h4
    obtain ⟨ad,cv,e2,h5,h6⟩:=key
    refine ⟨cv,?_,h6⟩
    simp only [uS,e,e2]
    simp only [asAddr,Sem.run_bind,Sem.run_pure,Result.andThen_ok,h5]
theorem uR (rv:ResultVar) (rs:List ResultVar) (s:St):dz P (rv::rs) s=ob (zcC P rv s) fun v=>ob (dz P rs s) fun vs=>some (v::vs):=rfl
theorem sK {ρ : aL} {w:World} {a:Act} {s:St} (hh:HR P keep ρ s.hp w) (ht:TR (keep f) (aD P f) ρ s.tm a.tmps):∀ {rs:List ResultVar} {vs:List AV},iN (keep f) rs=true->dz P rs s=some vs ->
  ∃ cvs,(rs.mapM (uS a.tmps)).run P w=.ok cvs w/\bH ρ vs cvs
 | [],vs,_,hr=>by cases hr;exact ⟨[],rfl,rfl⟩
 | rv::rs,vs,hk,hr=>by
  rw [uR] at hr
  obtain ⟨v,h1,h2⟩:=af.1 hr
  obtain ⟨us,h3,h4⟩:=af.1 h2
  cases h4
  have hk1:iN (keep f) [rv]=true/\iN (keep f) rs=true:=by
   cases rv <;> simp only [iN,Bool.and_eq_true,Bool.and_true] at hk ⊢ <;> exact hk
  obtain ⟨cv,g1,g2⟩:=BV hh ht hk1.1 h1
  obtain ⟨cvs,g3,g4⟩:=sK hh ht hk1.2 h3
  refine ⟨cv::cvs,?_,cv,cvs,rfl,g2,g4⟩
  rw [List.mapM_cons,Sem.run_bind,g1]
  simp only [Result.andThen_ok,Sem.run_bind,g3,Sem.run_pure]
theorem KU (vs:List AV):dV vs=match vs with | [v]=>v | vs=>.tuple vs:=by
 match vs with
 | []=>rfl
 | [v]=>rfl
 | v::u::t=>rfl
theorem i7 {ρ : aL} {w:World} {a:Act} {s:St} {fn:Func} {vs:List AV} (hh:HR P keep ρ s.hp w) (ht:TR (keep f) (aD P f) ρ s.tm a.tmps) (hk:iN (keep f) fn.results.toList=true) (hr:dz P fn.results.toList s=some vs) :
  ∃ v,(results fn a.tmps).run P w=.ok v w/\VR ρ (dV vs) v:=by
 obtain ⟨cvs,h1,h2⟩:=sK hh ht hk hr
 rw [BW,Array.mapM_eq_mapM_toList]
 have h3:(List.toArray <$> List.mapM (uS a.tmps) fn.results.toList).run P w=.ok cvs.toArray w:=by
  rw [map_eq_pure_bind,Sem.run_bind,h1];rfl
 rw [Sem.run_bind,h3,KU]
 simp only [Result.andThen_ok,Sem.run_pure]
 match vs,h2 with
 | [],h2=>cases h2;exact ⟨_,rfl,#[],rfl,rfl⟩
 | [v],h2=>obtain ⟨cv,_,rfl,g,rfl⟩:=h2;exact ⟨cv,rfl,g⟩
 | v::u::t,h2 =>
  have h2':=h2
  obtain ⟨cv,_,rfl,g,cu,ct,rfl,g2,g3⟩:=h2
  exact ⟨_,rfl,_,rfl,h2'⟩
end
end Go.Am
namespace Go.Am
section
variable {P:Program} {keep:aK} {call:an} {lf:Nat} {f:FuncId}
theorem bv.shut {ρ ρ':aL} {h h':ac} {w w':World} (hp:bv P keep ρ h w ρ' h' w') {r:Nat} (hr:w.heap.size<=r) (ho:¬mu ρ' h' r) (o:Obj):bv P keep ρ h w ρ' h' {w' with heap:=w'.heap.setIfInBounds r o }:=by
 have hsame:∀ k,k≠r->(w'.heap.setIfInBounds r o)[k]?=w'.heap[k]?:=fun k hk=>by rw [Array.getElem?_setIfInBounds,if_neg (fun e=>hk e.symm)]
 refine ⟨hp.le,hp.hr.frame fun b x p hx hd hpl=>hsame _ fun e=>ho ⟨b,x,p,hx,hd,hpl,e⟩,⟨hp.fr.os,hp.fr.output,by simpa using hp.fr.size,fun k hk hn=>(hsame k (by omega)).trans (hp.fr.sameW k hk hn)⟩,hp.own,hp.next,hp.new,hp.ownW⟩
theorem yV {k:cA} (h:ci P keep f=some k):∃ fn c,P.funcs[f]?=some fn/\fn.body=some c/\iN (keep f) fn.results.toList=true/\keep f (aD P f)=false/\k=⟨bu P (keep f) fn.ntmps c,fn.results.toList,fn.ntmps,im c⟩/\aD P f=fn.ntmps:=by
 unfold ci at h
 cases hf:P.funcs[f]? with
 | none=>rw [hf] at h;cases h
 | some fn =>
  rw [hf] at h
  simp only at h
  cases hb:fn.body with
  | none=>rw [hb] at h;cases h
  | some c =>
   rw [hb] at h
   simp only at h
   split at h
   ·rename_i hk
    cases h
    rw [Bool.and_eq_true,Bool.not_eq_true'] at hk
    have hnt:aD P f=fn.ntmps:=by simp [aD,hf]
    exact ⟨fn,c,rfl,hb,hk.1,by rw [hnt];exact hk.2,rfl,hnt⟩
   ·cases h
theorem vo {ρ : aL} {args:List AV} {avs:List Value} {nt:Nat} {kp:Nat->Bool} (hv:bH ρ args avs):TR kp nt ρ (az args .leaf 0) (avs.toArray++Array.replicate (nt - avs.toArray.size) undef):=by
 have hlen:=hv.length
 refine ⟨by simp;omega,fun t v _ hg=>?_⟩
 rw [cr] at hg
 split at hg
 ·rename_i hlt
  rw [Nat.sub_zero] at hg
  obtain ⟨cv,g1,g2⟩:=hv.get t v hg
  refine ⟨cv,?_,g2⟩
  rw [Array.getElem?_append_left (by simp;omega)]
  simpa using g1
 ·cases hg
theorem qR {args:List AV} {nt:Nat} (h:args.length<=nt):bt (az args .leaf 0) nt=[]:=by
 unfold bt
 rw [cr,if_neg (by omega),Tr.gt_leaf]
theorem yz (hm:P.follows .mixedOrders=true) (hn:NamesOk P) (hc:dR P keep call) {i:FuncId} {args:List AV} {h h':ac} (hr:pB P keep lf call i args h=some h') {ρ : aL} {w:World} {avs:List Value} (hh:HR P keep ρ h w) (hv:bH ρ args avs) :
  (∃ fn c,P.funcs[i]?=some fn/\fn.body=some c)/\CallsDIn (dM none) 0 P i avs.toArray .returning w (fun e u' w'=>u'=.returning/\∃ v,e=.returned v/\∃ ρ',bv P keep ρ h w ρ' h' w'):=by
 obtain ⟨k,h1,h2⟩:=af.1 hr
 obtain ⟨fn,c,hf,hb,hk,hkD,rfl,hnt⟩:=yV h1
 obtain ⟨h3,h4⟩:=aE.1 h2
 simp only [ax,Bool.and_eq_true] at h3
 obtain ⟨hpl,hle⟩:=h3
 have hle:args.length<=fn.ntmps:=by have:=Nat.le_of_ble_eq_true hle;simpa using this
 obtain ⟨q,h5,h6⟩:=af.1 h4
 refine ⟨⟨fn,c,hf,hb⟩,?_⟩
 have main:CallsDIn (dM none) 0 P i avs.toArray .returning w (fun e u' w'=>u'=.returning/\(fun e w'=>∃ v,e=.returned v/\∃ ρ',bv P keep ρ h w ρ' h' w') e w'):=by
  refine callsDIn_of_wp (F:=dM none) hf hb trivial ?_
  have h5:aZ call lf (aD P i) i none (bu P (keep i) (aD P i) c) ⟨az args .leaf 0,h⟩=some q:=by rw [hnt];exact h5
  have hd:fD ⟨w.heap.size,some []⟩ ρ h (bt (az args .leaf 0) (aD P i)) [] w:=⟨⟨(fun d hd=>by cases hd),List.Pairwise.nil⟩,qR (by rw [hnt];exact hle),fun ds0 e=>by cases e;rfl⟩
  refine fi hkD hm hn hc c ⟨az args .leaf 0,h⟩ q h5 ⟨w.heap.size,some []⟩ ρ _ w none _ rfl hh (by rw [hnt];exact vo hv) hd (Nat.le_refl _) (fun _=>hpl) (fun ρ' a' w' hp' ht' hd'=>?_)
  obtain ⟨e,s'⟩:=q
  have hnil:=hd'.2.2 [] rfl
  have out:(ob (dz P fn.results.toList s') fun _=>some s'.hp)=some h'->a'.defers=[]/\∃ v,(results fn a'.tmps).run P w'=.ok v w'/\∃ v',Ending.returned v=Ending.returned v'/\∃ ρ',bv P keep ρ h w ρ' h' w':=by
   intro ho
   obtain ⟨vs,g1,g2⟩:=af.1 ho
   cases g2
   obtain ⟨v,g3,g4⟩:=i7 hp'.hr ht' hk g1
   exact ⟨hnil,v,g3,v,rfl,ρ',hp'⟩
  cases e with
  | normal=>exact out h6
  | ret=>exact out h6
  | exit id=>cases h6
  | goto l=>cases h6
 exact main
theorem BY (d:AV) (ds:List AV) (h:ac):sM P keep lf call (d::ds) h=ob (AE P keep lf call d h) (sM P keep lf call ds):=rfl
theorem jK (hm:P.follows .mixedOrders=true) (hn:NamesOk P) (hc:dR P keep call) {ρ : aL} {h h2:ac} {w:World} {fn:Func} {tmps:Array Value} {R:Ending->World->Prop} {n0:DP} (hb0:n0.base=w.heap.size) (hpd:n0.pd=none):∀ (ds:List Deferred) (l:List AV) (ρ':aL) (h':ac) (w':World),bv P keep ρ h w ρ' h' w'->fD n0 ρ' h' l ds w'->sM P keep lf call l h'=some h2 ->
  (∀ ρ'' w'',bv P keep ρ h w ρ'' h2 w''->ρ'.le ρ''->∃ v,(results fn tmps).run P w''=.ok v w''/\R (.returned v) w'')->LeavesInM (dM none) 0 P fn tmps R ds .returning w'
 | [],l,ρ',h',w',hp,hd,hr,hR=>by
  obtain rfl:l=[]:=hd.2.1
  cases hr
  exact hR ρ' w' hp (aL.le_refl _)
 | d::ds,l,ρ',h',w',hp,hd,hr,hR=>by
  refine ⟨(by intro e;cases e),?_⟩
  rcases hd.2.1 with ⟨r,h1,hdf⟩|⟨v,l',rfl,⟨i,fa,ca,as,cap,rfl,ht,vc,va⟩,hdf⟩
  ·obtain ⟨h2',h3,h4⟩:=hd.1.1 d (List.mem_cons_self ..) r h1
   rw [hb0] at h2'
   refine .inl ⟨r,{w' with heap:=w'.heap.setIfInBounds r (.deferred none) },h1,?_,jK hm hn hc hb0 hpd ds l ρ' h' _ (hp.shut h2' h4 _) ⟨⟨fun e he s g1=>?_,(List.pairwise_cons.1 hd.1.2).2⟩,hdf,fun ds0 e=>by rw [hpd] at e;cases e⟩ hr hR⟩
   ·simp [Instr.takeDeferred,getObj,setObj,Sem.run,h3]
   ·obtain ⟨g2,g3,g4⟩:=hd.1.1 e (List.mem_cons_of_mem _ he) s g1
    refine ⟨g2,?_,g4⟩
    show (w'.heap.setIfInBounds r _)[s]?=_
    rw [Array.getElem?_setIfInBounds,if_neg ((List.pairwise_cons.1 hd.1.2).1 e he r s h1 g1)]
    exact g3
  ·rw [BY] at hr
   obtain ⟨h1,g1,g2⟩:=af.1 hr
   have g1:pB P keep lf call i (dS fa (dS as ca)) h'=some h1:=g1
   rw [cj,cj] at g1
   obtain ⟨⟨fn1,c1,hfn,hbody⟩,hcd⟩:=yz hm hn hc g1 hp.hr (avs:=(d.args++cap).toList) (by
    rw [← List.append_assoc,Array.toList_append]
    exact va.append vc)
   rw [Array.toArray_toList] at hcd
   refine .inr ⟨(fun e=>by cases e),.func i,cap,i,d.args++cap,ht,?_,fun _ _=>trivial,hcd.mono fun e u' w1 hR1=>?_⟩
   ·rw [ht]
    simp only [invoke]
    have e:(#[]++d.args++cap:Array Value)=d.args++cap:=by simp
    first
     | exact eQ hn hfn hbody
     | (simp only [Array.empty_append];exact eQ hn hfn hbody)
   ·obtain ⟨rfl,v,rfl,ρ1,hp1⟩:=hR1
    have hd1:fD n0 ρ' h' l' ds w':=⟨⟨fun e he s g=>hd.1.1 e (List.mem_cons_of_mem _ he) s g,(List.pairwise_cons.1 hd.1.2).2⟩,hdf,fun ds0 e=>by rw [hpd] at e;cases e⟩
    exact jK hm hn hc hb0 hpd ds l' ρ1 h1 w1 (hp.trans hp1) (hd1.post hp1) g2 (fun ρ'' w'' hp'' hle=>hR ρ'' w'' hp'' (aL.le_trans hp1.le hle))
def PrimsOk (P:Program) (keep:aK) (prims:Prims):Prop:=∀ f args h r,prims.fn f args h=some (some r)->∀ ρ w avs,HR P keep ρ h w->bH ρ args avs ->
 (∃ fn c,P.funcs[f]?=some fn/\fn.body=some c)/\CallsIn (dM none) 0 P f avs.toArray w (Xi P keep ρ h w r)
theorem yA {prims:Prims} (hm:P.follows .mixedOrders=true) (hn:NamesOk P) (hc:dR P keep call) (hpr:PrimsOk P keep prims) {args:List AV} {h:ac} {r:AV×ac} (hr:ur P keep prims lf call f args h=some r)
  {ρ : aL} {w:World} {avs:List Value} (hh:HR P keep ρ h w) (hv:bH ρ args avs):(∃ fn c,P.funcs[f]?=some fn/\fn.body=some c)/\CallsIn (dM none) 0 P f avs.toArray w (Xi P keep ρ h w r):=by
 unfold ur at hr
 cases hp:prims.fn f args h with
 | some q =>
  rw [hp] at hr
  have hr:q=some r:=hr
  subst hr
  exact hpr f args h r hp ρ w avs hh hv
 | none =>
  rw [hp] at hr
  obtain ⟨k,h1,h2⟩:=af.1 (show ob (ci P keep f) (fun k=>aV (Nat.ble (bp args) k.nt) (ob (aZ call lf k.nt f none k.code ⟨az args .leaf 0,h⟩) fun r=>kM P keep lf call k.nt k.res r))=some r from hr)
  obtain ⟨fn,c,hf,hb,hk,hkD,rfl,hnt⟩:=yV h1
  obtain ⟨hle,h2⟩:=aE.1 h2
  have hle:args.length<=fn.ntmps:=by have:=Nat.le_of_ble_eq_true hle;simpa using this
  obtain ⟨q,h3,h4⟩:=af.1 h2
  refine ⟨⟨fn,c,hf,hb⟩,?_⟩
  have ht:TR (keep f) (aD P f) ρ (az args .leaf 0) (avs.toArray++Array.replicate (fn.ntmps - avs.toArray.size) undef):=by rw [hnt];exact vo hv
  refine callsIn_of_wp_marks hf hb trivial ?_
  have hd:fD ⟨w.heap.size,none⟩ ρ h (bt (az args .leaf 0) (aD P f)) [] w:=⟨⟨(fun d hd=>by cases hd),List.Pairwise.nil⟩,qR (by rw [hnt];exact hle),fun ds0 e=>by cases e⟩
  have h3:aZ call lf (aD P f) f none (bu P (keep f) (aD P f) c) ⟨az args .leaf 0,h⟩=some q:=by rw [hnt];exact h3
  refine fi hkD hm hn hc c ⟨az args .leaf 0,h⟩ q h3 ⟨w.heap.size,none⟩ ρ _ w none _ rfl hh ht hd (Nat.le_refl _) (fun e=>by cases e) (fun ρ' a' w' hp' ht' hd'=>?_)
  obtain ⟨e,s'⟩:=q
  have out:(ob (gI P keep lf call fn.ntmps s') fun h=>ob (dz P fn.results.toList ⟨s'.tm,h⟩) fun vs=>some (dV vs,h))=some r->LeavesInM (dM none) 0 P fn a'.tmps (Xi P keep ρ h w r) a'.defers .returning w':=by
   intro ho
   obtain ⟨h2',g0,g00⟩:=af.1 ho
   obtain ⟨vs,g1,g2⟩:=af.1 g00
   cases g2
   have hrun:sM P keep lf call (bt s'.tm (aD P f)) s'.hp=some h2':=by
    rw [hnt]
    unfold gI at g0
    unfold bt
    cases hg:s'.tm.gt fn.ntmps with
    | none=>rw [hg] at g0;exact g0
    | some v =>
     rw [hg] at g0
     obtain ⟨l,rfl,g3⟩:=pC g0
     exact g3
   refine jK hm hn hc (n0:=⟨w.heap.size,none⟩) rfl rfl a'.defers _ ρ' s'.hp w' hp' hd' hrun (fun ρ'' w'' hp'' hle=>?_)
   obtain ⟨v,g3,g4⟩:=i7 (s:=⟨s'.tm,h2'⟩) hp''.hr (ht'.mono hle) hk g1
   exact ⟨v,g3,ρ'',g4,hp''⟩
  cases e with
  | normal=>exact out h4
  | ret=>exact out h4
  | exit id=>cases h4
  | goto l=>cases h4
end
end Go.Am
namespace Go.Am
section
variable {P:Program} {keep:aK} {call:an} {lf:Nat}
theorem mO (nt t:Nat) (ps:List Nat) (v:AV) (vs:List AV) (tm:Tr AV):pV nt (t::ps) (v::vs) tm=aV (Nat.ble (t+1) nt) (pV nt ps vs (tm.up (some v) t)):=rfl
theorem pW {kp:Nat->Bool} {nt:Nat} {ρ : aL}:∀ {ps:List Nat} {vs:List AV} {tm tm':Tr AV} {cvs:List Value} {tmps:Array Value},pV nt ps vs tm=some tm'->bH ρ vs cvs->TR kp nt ρ tm tmps ->
  cvs.length=ps.length/\TR kp nt ρ tm' ((ps.zip cvs).foldl (fun tmps (x:Nat×Value)=>tmps.setIfInBounds x.1 x.2) tmps)
 | [],[],tm,tm',cvs,tmps,h,hv,ht=>by cases h;cases hv;exact ⟨rfl,ht⟩
 | [],v::vs,tm,tm',cvs,tmps,h,hv,ht=>by cases h
 | t::ps,[],tm,tm',cvs,tmps,h,hv,ht=>by cases h
 | t::ps,v::vs,tm,tm',cvs,tmps,h,hv,ht=>by
  rw [mO] at h
  obtain ⟨h1,h2⟩:=aE.1 h
  have hlt:t<nt:=Nat.le_of_ble_eq_true h1
  obtain ⟨cv,cvs,rfl,g1,g2⟩:=hv
  have ht':TR kp nt ρ (tm.up (some v) t) (tmps.setIfInBounds t cv):=by
   refine ⟨by simpa using ht.1,fun s u hk hg=>?_⟩
   rw [Tr.gt_up] at hg
   rw [Array.getElem?_setIfInBounds]
   by_cases e:s=t
   ·subst e
    rw [if_pos rfl] at hg;cases hg
    rw [if_pos rfl,if_pos (Nat.lt_of_lt_of_le hlt ht.1)]
    exact ⟨cv,rfl,g1⟩
   ·rw [if_neg e] at hg
    rw [if_neg (fun h=>e h.symm)]
    exact ht.2 s u hk hg
  obtain ⟨h3,h4⟩:=pW h2 g2 ht'
  exact ⟨by simp [h3],h4⟩
theorem sR {nt D:Nat} (hD:nt<=D):∀ {ps:List Nat} {vs:List AV} {tm tm':Tr AV},pV nt ps vs tm=some tm'->tm'.gt D=tm.gt D
 | [],[],tm,tm',h=>by cases h;rfl
 | [],v::vs,tm,tm',h=>by cases h
 | t::ps,[],tm,tm',h=>by cases h
 | t::ps,v::vs,tm,tm',h=>by
  rw [mO] at h
  obtain ⟨h1,h2⟩:=aE.1 h
  have hlt:t<nt:=Nat.le_of_ble_eq_true h1
  rw [sR hD h2,Tr.gt_up,if_neg (by omega)]
theorem qj {r:Ex×St} {g:St->dA} {q:AV×ac} (h:sh r g=some q):r.1=.normal/\g r.2=some q:=by
 obtain ⟨e,s⟩:=r
 cases e with
 | normal=>exact ⟨rfl,h⟩
 | ret=>cases h
 | exit id=>cases h
 | goto l=>cases h
theorem yB (hm:P.follows .mixedOrders=true) (hn:NamesOk P) (hc:dR P keep call) {l:Nat} {args:List AV} {h:ac} {r:AV×ac} (hr:mi P keep lf call l args h=some r)
  {ρ : aL} {w:World} {avs:List Value} (hh:HR P keep ρ h w) (hv:bH ρ args avs) {p:Pl} (hp:ρ l=some p) :
  ∃ f tmps assign body,(Instr.yield p.blk avs.toArray).run P w=.ok (.round p.blk f tmps assign body) w/\RoundIn (dM none) 0 P p.blk f tmps assign body w (Xi P keep ρ h w r):=by
 obtain ⟨b,hb,h1⟩:=fO hr
 obtain ⟨p',L,hp',h0,hL,hlr⟩:=hh.blk _ _ hb
 rw [hp] at hp';cases hp'
 obtain ⟨tm,h2,h3⟩:=af.1 h1
 obtain ⟨hck,h3⟩:=aE.1 h3
 simp only [ax,iM,Bool.and_eq_true,Bool.not_eq_true'] at hck
 obtain ⟨hkD,hoff⟩:=hck
 have hoff:bt tm (aD P b.fn)=[]:=by
  rw [eE (sR (Nat.le_refl _) h2)]
  unfold bt
  unfold nK at hoff
  cases hg:b.tm.gt (aD P b.fn) with
  | none=>rfl
  | some v=>rw [hg] at hoff;cases hoff
 obtain ⟨q,h4,h5⟩:=af.1 h3
 obtain ⟨hqn,h6⟩:=qj h5
 obtain ⟨b',hb',h7⟩:=fO h6
 obtain ⟨hlen,ht⟩:=pW h2 hv hlr.tm
 have hsize:avs.toArray.size=L.params.size:=by
  have:=hlr.params
  rw [← this] at hlen
  simpa using hlen
 refine ⟨L.fn,((L.params.zip avs.toArray).foldl (fun tmps (x:Tmp×Value)=>tmps.setIfInBounds x.1 x.2) L.tmps),L.assign,L.body,?_,?_⟩
 ·simp only [Instr.yield,Sem.run_bind,ft hL,Result.andThen_ok]
  rw [if_neg (by rw [hsize];simp)]
  rfl
 ·rw [hlr.assign,hlr.body]
  have hzip:((L.params.zip avs.toArray).foldl (fun tmps (x:Tmp×Value)=>tmps.setIfInBounds x.1 x.2) L.tmps)=((b.params.zip avs).foldl (fun tmps (x:Nat×Value)=>tmps.setIfInBounds x.1 x.2) L.tmps):=by
   rw [← Array.foldl_toList,Array.toList_zip,hlr.params]
  have ht:TR (keep b.fn) (aD P b.fn) ρ tm ((L.params.zip avs.toArray).foldl (fun tmps (x:Tmp×Value)=>tmps.setIfInBounds x.1 x.2) L.tmps):=by rw [hzip];exact ht
  have hd0:∀ {ρ : aL} {h:ac} {w':World},fD ⟨0,none⟩ ρ h (bt tm (aD P b.fn)) [] w':=⟨⟨fun d hd=>(by cases hd),List.Pairwise.nil⟩,hoff,fun ds0 e=>by cases e⟩
  refine roundIn_of_wpIn (F:=dM none) trivial ?_
  have hro:RoR ρ (some l) (some p.blk):=⟨p,hp,h0,rfl⟩
  refine fi hkD hm hn hc b.assign ⟨tm,h⟩ q h4 ⟨0,none⟩ ρ _ w (some p.blk) _ hro hh ht hd0 (Nat.zero_le _) (fun e=>by cases e) (fun ρ1 a1 w1 hp1 ht1 hdf1=>?_)
  rw [hqn]
  obtain ⟨p1,L1,hpl1,_,hL1,hlr1⟩:=hp1.hr.blk _ _ hb'
  have e1:p1=p:=by have:=hp1.le _ _ hp;rw [hpl1] at this;exact Option.some.inj this
  subst e1
  cases hst:b'.st with
  | ready =>
   rw [hst] at h7
   obtain ⟨q2,h8,h9⟩:=af.1 h7
   have hset:=hp1.hr.setLoop (r':={b' with st:=.busy }) (L':={L1 with state:=.busy }) hb' hpl1 h0 hL1 {hlr1 with st:=rfl }
   have hst1:L1.state=.ready:=by have:=hlr1.st;rw [hst] at this;exact this
   let w2:World:={w1 with heap:=w1.heap.setIfInBounds p1.blk (.loop {L1 with state:=.busy }) }
   refine ⟨w2,?_,?_⟩
   ·simp only [Instr.beginRound,Sem.run_bind,ft hL1,Result.andThen_ok,iR hL1,hst1]
    rfl
   ·have hdef2:fD ⟨0,none⟩ ρ1 (q.2.hp.put l (.loop {b' with st:=.busy })) (bt q.2.tm (aD P b.fn)) a1.defers w2:=hdf1.post hset
    refine fi hkD hm hn hc b.body ⟨q.2.tm,q.2.hp.put l (.loop {b' with st:=.busy })⟩ q2 h8 ⟨0,none⟩ ρ1 a1 w2 (some p1.blk) _ (hro.mono hp1.le) hset.hr ht1 hdef2 (Nat.zero_le _) (fun e=>by cases e) (fun ρ2 a2 w3 hp2 ht2 hdf2=>?_)
    obtain ⟨b2,hb2,h10⟩:=fO h9
    obtain ⟨p2,L2,hpl2,_,hL2,hlr2⟩:=hp2.hr.blk _ _ hb2
    have e2:p2=p1:=by have:=hp2.le _ _ hpl1;rw [hpl2] at this;exact Option.some.inj this
    subst e2
    have fin:∀ (jump:Option Code) (st:vh) (S:LoopState),SR st S->S=(if jump.isNone then .ready else .done)->r=(.bool jump.isNone,q2.2.hp.put l (.loop {b2 with st:=st,pending:=jump })) ->
      ∃ v w',(Instr.endRound p2.blk jump).run P w3=.ok v w'/\Xi P keep ρ h w r (.returned v) w':=by
     intro jump st S hS hS2 hre
     have hset2:=hp2.hr.setLoop (r':={b2 with st:=st,pending:=jump }) (L':={L2 with state:=S,pending:=jump }) hb2 hpl2 h0 hL2 {hlr2 with st:=hS,pending:=rfl }
     let w4:World:={w3 with heap:=w3.heap.setIfInBounds p2.blk (.loop {L2 with state:=S,pending:=jump }) }
     refine ⟨.bool jump.isNone,w4,?_,ρ2,?_,?_⟩
     ·simp only [Instr.endRound,Sem.run_bind,ft hL2,Result.andThen_ok,iR hL2,Sem.run_pure,← hS2]
      rfl
     ·rw [hre];exact rfl
     ·rw [hre];exact ((hp1.trans hset).trans hp2).trans hset2
    obtain ⟨e,s2⟩:=q2
    cases hst2:b2.st with
    | busy =>
     rw [hst2] at h10
     cases e with
     | normal=>cases h10;exact fin none .ready .ready rfl rfl rfl
     | ret=>cases h10;exact fin (some .ret) .done .done rfl rfl rfl
     | exit id=>cases h10;exact fin (some (.exit id)) .done .done rfl rfl rfl
     | goto t=>cases h10;exact fin (some (.goto t)) .done .done rfl rfl rfl
    | ready=>rw [hst2] at h10;cases h10
    | done=>rw [hst2] at h10;cases h10
    | exhausted=>rw [hst2] at h10;cases h10
  | busy=>rw [hst] at h7;cases h7
  | done=>rw [hst] at h7;cases h7
  | exhausted=>rw [hst] at h7;cases h7
theorem kF {prims:Prims} (hm:P.follows .mixedOrders=true) (hn:NamesOk P) (hpr:PrimsOk P keep prims):∀ (n:Nat),dR P keep (callN P keep prims lf n):=by
 intro n
 induction n with
 | zero=>intro t args h r hr;cases hr
 | succ n ih =>
  intro t args h r hr ρ w avs hh hv
  cases t with
  | fn f=>exact yA hm hn ih hpr (show ur P keep prims lf (callN P keep prims lf n) f args h=some r from hr) hh hv
  | loop l=>exact fun p hp=>yB hm hn ih (show mi P keep lf (callN P keep prims lf n) l args h=some r from hr) hh hv hp
def noPrims:Prims:=⟨fun _ _ _=>none⟩
theorem BL:PrimsOk P keep noPrims:=fun _ _ _ _ h=>by cases h
theorem yN (w:World):HR P keep (fun _=>none) ⟨.leaf,0⟩ w:=⟨fun _ _ h=>(by cases h),fun _ _ h=>(by cases h),fun _ _ h=>(by cases h),fun _ _ _ _ _ _ h=>(by cases h)⟩
end
end Go.Am
namespace Go.Am
section
variable {P:Program} {keep:aK}
theorem bv.below {ρ : aL} {h:ac} {w w':World} (hr:HR P keep ρ h w) (hb:RowKit.Below w.heap.size w w'):bv P keep ρ h w ρ h w':=by
 refine ⟨aL.le_refl _,hr.frame fun b x p hx hd hp=>?_,⟨hb.os,hb.output,hb.size,fun k hk _=>hb.block k hk⟩,fun _ _ h=>h,Nat.le_refl _,fun _ _ h _=>h,fun _ _ h=>h⟩
 obtain ⟨q,hq,hlt⟩:=(hr.blk b x hx).place hd
 rw [hp] at hq;cases hq
 exact hb.block _ hlt
theorem wh {f:FuncId} {args:Array Value} {w:World} {R:Ending->World->Prop} (h:Calls P f args w R):CallsIn (dM none) 0 P f args w R:=callsIn_wide.2 h
theorem BO {f:FuncId} {avs:Array Value} {ρ : aL} {h:ac} {w:World} {r:AV} {v:Value} (hr:HR P keep ρ h w) (hv:VR ρ r v) (hc:Calls P f avs w fun e w'=>e=.returned v/\RowKit.Below w.heap.size w w') :
  CallsIn (dM none) 0 P f avs w (Xi P keep ρ h w (r,h)) :=
 CallsIn.mono (F:=dM none) (wh hc) fun e w' ⟨he,hb⟩=>by
  subst he
  exact ⟨ρ,hv,bv.below hr hb⟩
noncomputable def Prims.or (p q:Prims):Prims:=⟨fun f args h=>Option.rec (motive:=fun _=>Option dA) (q.fn f args h) some (p.fn f args h)⟩
theorem Prims.or_ok {p q:Prims} (hp:PrimsOk P keep p) (hq:PrimsOk P keep q):PrimsOk P keep (p.or q):=by
 intro f args h r hr
 cases hx:p.fn f args h with
 | none =>
  have:q.fn f args h=some (some r):=by
   have h1:(Option.rec (motive:=fun _=>Option dA) (q.fn f args h) some (p.fn f args h):Option dA)=some (some r):=hr
   rw [hx] at h1;exact h1
  exact hq f args h r this
 | some y =>
  have:p.fn f args h=some (some r):=by
   have h1:(Option.rec (motive:=fun _=>Option dA) (q.fn f args h) some (p.fn f args h):Option dA)=some (some r):=hr
   rw [hx] at h1;rw [hx];exact h1
  exact hp f args h r this
noncomputable def w6 (s n:AV) (h:ac):dA:=oD (fun l=>fK (fun k n=>aV (Nat.beq (kNo k) (nat_lit 3)) (Int.rec (motive:=fun _=>dA) (fun c=>aV (bT (Nat.ble c (nat_lit 1073741824)) (Nat.ble (Nat.mul (bp l) c) (nat_lit 1073741824))) (some (.str (ua c l),h))) (fun _=>none) n)) n) s
noncomputable def repeatP (g:FuncId):Prims:=⟨fun f args h=>Bool.rec (motive:=fun _=>Option dA) none (some (l2 (fun s n=>w6 s n h) args)) (Nat.beq f g)⟩
theorem repeatP_ok {g:FuncId} {rl:List UInt8->Nat->List UInt8} (hrl:∀ l c,rl l c=(List.replicate c l).flatten) (hb:∃ fn c,P.funcs[g]?=some fn/\fn.body=some c)
  (hc:∀ (s:ByteArray) (c:Nat) (w:World),c<=9223372036854775807->s.size*c<=140737488355328->Calls P g #[.string s,.int .i64 c] w fun e w'=>e=.returned (.string ⟨(rl s.data.toList c).toArray⟩)/\RowKit.Below w.heap.size w w'):PrimsOk P keep (repeatP g):=by
 intro f args h r hr ρ w avs hh hv
 replace hr:(Bool.rec (motive:=fun _=>Option dA) none (some (l2 (fun s n=>w6 s n h) args)) (Nat.beq f g):Option dA)=some (some r):=hr
 cases hfg:Nat.beq f g with
 | false=>rw [hfg] at hr;cases hr
 | true =>
  rw [hfg] at hr
  obtain rfl:=Nat.eq_of_beq_eq_true hfg
  have hr:l2 (fun s n=>w6 s n h) args=some r:=Option.some.inj hr
  obtain ⟨s,n,rfl,h1⟩:=fg hr
  obtain ⟨l,rfl,h2⟩:=cL h1
  obtain ⟨k,n,rfl,h3⟩:=aP h2
  obtain ⟨h4,h5⟩:=aE.1 h3
  have hk:k=.i64:=by cases k <;> first | rfl | cases h4
  subst hk
  cases n with
  | negSucc c=>cases h5
  | ofNat c =>
   obtain ⟨h6,h7⟩:=aE.1 h5
   cases h7
   simp only [ax,Bool.and_eq_true] at h6
   have h8:=Nat.le_of_ble_eq_true h6.1
   have h9:=Nat.le_of_ble_eq_true h6.2
   obtain ⟨v,v',e1,⟨sb,rfl,rfl⟩,h10⟩:=hv.two
   cases h10
   subst e1
   refine ⟨hb,?_⟩
   have h9:(sb.data.toList.map (·.toNat)).length*c<=1073741824:=by have:=h9;rwa [aO] at this
   have hsz:sb.size*c<=140737488355328:=by
    have:sb.size=(sb.data.toList.map (·.toNat)).length:=by rw [List.length_map,Array.length_toList];rfl
    rw [this];omega
   refine BO hh ?_ (hc sb c w (by omega) hsz)
   refine ⟨_,rfl,?_⟩
   rw [hrl,nP]
   simp [List.map_flatten,List.map_replicate]
end
end Go.Am
/- A part of the proof of the law PoolShares. -/
import Derived.Test.YtboobbebilegnaaGreatSrWalkB
import Derived.ProofKit
import Derived.Shelf.Strings.Repeat
open Nat (reduceEqDiff reduceAdd reduceMul)
set_option linter.unusedVariables false
set_option linter.unusedSimpArgs false
set_option linter.constructorNameAsVariable false
set_option linter.defProp false
set_option maxRecDepth 20000

namespace Go.Proofs.YtboobbebilegnaaGreat
open Go.Am
set_option maxRecDepth 10000
theorem mY.rel {s:PS} {K:List Kp} (hh:mY s K) {R:List Ch} (hr:j8 s.L R):mY ⟨R,s.nx,s.U⟩ K :=
 ⟨hh.i.rel hr,fun k hk=>eW.mono (fun p _ c hc _=>⟨c,(hr.mem c).2 hc,rfl,rfl⟩) (hh.ids k hk)⟩
theorem mY.used {s:PS} {K:List Kp} (hh:mY s K) {R:List Ch} (hr:j8 s.L R):mY ⟨s.L,s.nx,fA R⟩ K :=
 ⟨⟨hh.i.nd,hh.i.dn,hh.i.lt,hh.i.rf,hh.i.ex,fun c hc=>by
  obtain ⟨j,q1,q2,q3,_⟩:=hh.i.bl c hc
  refine ⟨j,q1,q2,q3,?_⟩
  show fA R j=true
  unfold fA
  rw [List.any_eq_true]
  exact ⟨c,(hr.mem c).2 hc,by rw [q1];simp⟩,hh.i.bn⟩,hh.ids⟩
structure LX (hA h:ac) (pb lb db sb tb0 sp0 wb0:Nat) (s0:PS) (F0:Nat->Prop) (a:Nat) (v:AV) (K:List Kp) (G:Nat->Prop) (R:List Ch) (i:Nat):Prop where
 r:iW h pb lb db sb tb0 sp0 wb0 s0 F0 a
 k:fQ h v K G
 hd:mY s0 K
 o:KOk K
 rel:j8 s0.L R
 u:s0.U=fA R
 g:∀ b,G b->¬RX pb lb db sb sp0 wb0 F0 b
 kl:K.length<=5*i
 nx:s0.nx<=1+20*(i:Int)
 a:a<=129*i
 old:∀ b,RX pb lb db sb sp0 wb0 F0 b->hA.next<=b
 s:Sm bm hA h
section
variable {hA h h':ac} {pb lb db sb tb0 sp0 wb0:Nat} {s0:PS} {F0 G:Nat->Prop} {a:Nat} {v:AV} {K:List Kp} {R:List Ch} {i:Nat}
theorem LX.no (hx:LX hA h pb lb db sb tb0 sp0 wb0 s0 F0 a v K G R i) (hs:Sm bm h h'):LX hA h' pb lb db sb tb0 sp0 wb0 s0 F0 a v K G R i :=
 ⟨hx.r.sm hs (fun _ _ h=>h),hx.k.sm hs (fun _ _ h=>h),hx.hd,hx.o,hx.rel,hx.u,hx.g,hx.kl,hx.nx,hx.a,hx.old,hx.s.trans hs (fun _ _ h=>h) (fun _ _ h=>h)⟩
theorem LX.keep {W:Nat->Prop} (hx:LX hA h pb lb db sb tb0 sp0 wb0 s0 F0 a v K G R i) {a':Nat} (hr:iW h' pb lb db sb tb0 sp0 wb0 s0 F0 a') (hk:fQ h' v K G) (ha:a'<=129*i) (hs:Sm W h h') (hW:∀ b,b<h.next->W b->hA.next<=b):LX hA h' pb lb db sb tb0 sp0 wb0 s0 F0 a' v K G R i :=
 ⟨hr,hk,hx.hd,hx.o,hx.rel,hx.u,hx.g,hx.kl,hx.nx,ha,hx.old,hx.s.trans hs (fun _ _ h=>h) (fun c hc hw=>by
  have:=hx.s.1
  have:=hW c (by omega) hw;omega)⟩
theorem LX.up (hx:LX hA h pb lb db sb tb0 sp0 wb0 s0 F0 a v K G R i) {j:Nat} (hj:i<=j):LX hA h pb lb db sb tb0 sp0 wb0 s0 F0 a v K G R j :=
 ⟨hx.r,hx.k,hx.hd,hx.o,hx.rel,hx.u,hx.g,by have:=hx.kl;omega,by have:=hx.nx;omega,by have:=hx.a;omega,hx.old,hx.s⟩
theorem uG {n:Nat} (hn:9<=n) (hx:LX hA h pb lb db sb tb0 sp0 wb0 s0 F0 a v K G R i) :
  WC (C n (.fn 12) [.ptr (some (pb,0))] h) fun r h'=>∃ qb tb F sp wb,r=.ptr (some (qb,0))/\TB h' pb lb db sb tb0 sp0 wb0 s0 F0 a qb tb sp wb ⟨R,s0.nx,s0.U⟩ F v K G v K G/\LX hA h' pb lb db sb tb0 sp0 wb0 s0 F0 a v K G R i/\(∀ b,QX qb sp wb F b->h.next<=b)/\Sm bm h h':=by
 have hlen:=hx.hd.i.len
 obtain ⟨r,h',e,qb,tb,F,sp,wb,rfl,q1,q2,s1,q3⟩:=Un hn hx.r hx.rel (by omega)
 have hlt:=hx.r.lt
 have glt:=hx.k.lt
 refine ⟨_,h',e,qb,tb,F,sp,wb,rfl,⟨q2,q1,hx.k.sm s1 (fun _ _ h=>h),hx.k.sm s1 (fun _ _ h=>h),hx.hd.rel hx.rel,hx.o,fun b hb=>⟨fun hr=>?_,fun hg=>?_⟩,fun b hg=>hx.g b (hg.elim id id)⟩,hx.no s1,q3,s1⟩
 ·have:=q3 b hb;have:=hlt b hr;omega
 ·have:=q3 b hb;have:=glt b (hg.elim id id);omega
theorem Sx {n:Nat} (hn:8<=n) (hx:LX hA h pb lb db sb tb0 sp0 wb0 s0 F0 a v K G R i) {qb tb sp wb a':Nat} {s:PS} {F G':Nat->Prop} {w:AV} {K':List Kp} {h1:ac} {W:Nat->Prop} (hs:Sm W h h1) (hW:∀ b,b<h.next->W b->hA.next<=b) (hb:TB h1 pb lb db sb tb0 sp0 wb0 s0 F0 a' qb tb sp wb s F v K G w K' G') (hq:∀ b,QX qb sp wb F b->hA.next<=b) (ha:a'<=129*(i+1)) (hnx:s.nx<=s0.nx+20) (hK:K'.length<=K.length+5) :
  WC (C n (.fn 14) [.ptr (some (qb,0))] h1) fun r h'=>r=.int .i64 0/\∃ sp' wb' R',LX hA h' pb lb db sb tb sp' wb' ⟨s.L,s.nx,fA R'⟩ F a' w K' G' R' (i+1):=by
 have hlen:=hb.h.i.len
 obtain ⟨R',hR⟩:=BS _ s.L rfl hb.h.i.nd hb.h.i.dn
 obtain ⟨r,h',e,rfl,sp',wb',hr,g1,g2,s1⟩:=zbx hn hb.q hb.r (fun b hb'=>(hb.d b hb').1) hR (by omega) (fun c hc=>by
  obtain ⟨j,q1,q2,q3,_⟩:=hb.h.i.bl c hc
  omega)
 have glt:=hb.k'.lt
 have hpb:=hx.old pb (.inl rfl)
 have hqb:=hq qb (.inl rfl)
 have n1:=hs.1
 have nA:=hx.s.1
 refine ⟨_,h',e,rfl,sp',wb',R',⟨hr,hb.k'.sm s1 (fun b hg hh=>?_),hb.h.used hR,hb.o,hR,rfl,fun b hg hrx=>?_,by have:=hx.kl;omega,?_,ha,fun b hrx=>?_,?_⟩⟩
 ·rcases hh with rfl | rfl
  ·exact (hb.d _ (.inl rfl)).2 (.inr hg)
  ·exact hb.g _ (.inr hg) (.inl rfl)
 ·have hb':=glt b hg
  rcases hrx with rfl | rfl | rfl | rfl | rfl | rfl | hf
  ·exact hb.g _ (.inr hg) (.inl rfl)
  ·exact hb.g _ (.inr hg) (.inr (.inl rfl))
  ·exact hb.g _ (.inr hg) (.inr (.inr (.inl rfl)))
  ·exact hb.g _ (.inr hg) (.inr (.inr (.inr (.inl rfl))))
  ·omega
  ·omega
  ·exact (hb.d b (.inr (.inr (.inr hf)))).2 (.inr hg)
 ·have:=hx.nx
  show s.nx<=1+20*((i+1:Nat):Int)
  omega
 ·rcases hrx with hh | hh | hh | hh | rfl | rfl | hf
  ·exact hx.old b (.inl hh)
  ·exact hx.old b (.inr (.inl hh))
  ·exact hx.old b (.inr (.inr (.inl hh)))
  ·exact hx.old b (.inr (.inr (.inr (.inl hh))))
  ·omega
  ·omega
  ·exact hq b (.inr (.inr (.inr hf)))
 ·refine (hx.s.trans hs (H:=bm) (fun _ _ h=>h) (fun c hc hw=>by have:=hW c (by omega) hw;omega)).trans s1 (fun _ _ h=>h) (fun c hc hw=>?_)
  rcases hw with rfl | rfl <;> omega
end
end Go.Proofs.YtboobbebilegnaaGreat
namespace Go.Proofs.YtboobbebilegnaaGreat
open Go.Am
set_option maxRecDepth 10000
theorem zcS {x:Nat} (h:x<=100000):IntKind.i64.wrap ((x:Int).tdiv 64)=((x / 64:Nat):Int):=by
 have:(x:Int).tdiv 64=((x / 64:Nat):Int):=rfl
 rw [this,wrap_i64 (by omega) (by omega)]
theorem ug {l:List Int} {k:Nat} (h:k<l.length):(l.take (k+1)).sum=(l.take k).sum+l[k]:=by
 rw [List.take_succ_eq_append_getElem h,List.sum_append];simp
theorem I9:∀ (l:List Int),(∀ x,x∈l->0<=x/\x<=1000)->0<=l.sum/\l.sum<=1000*l.length
 | [],_=>by simp
 | x::l,h=>by
  have h1:=I9 l fun y hy=>h y (List.mem_cons_of_mem _ hy)
  have h2:=h x (List.mem_cons_self ..)
  rw [List.sum_cons,List.length_cons]
  omega
theorem rY {l:List Nat} {k:Nat} (h:k<l.length):(l.take (k+1)).sum=(l.take k).sum+l[k]:=by
 rw [List.take_succ_eq_append_getElem h,List.sum_append];simp
section
variable {hA h h':ac} {pb lb db sb tb0 sp0 wb0:Nat} {s0:PS} {F0 G:Nat->Prop} {a:Nat} {v:AV} {K:List Kp} {R:List Ch} {i:Nat}
theorem LX.refs (hx:LX hA h pb lb db sb tb0 sp0 wb0 s0 F0 a v K G R i) (hi:i<=30):(R.map Ch.refs).sum=((KI K).length:Int)/\(KI K).length<=600/\(∀ c,c∈R->0<=c.refs/\c.refs<=1000)/\R.length<=128/\R.length=((KI K).foldl g9 []).length/\iX s0.U 256+R.length=128:=by
 have h1:=(hx.hd.rel hx.rel).i
 have h2:=Sq h1
 have h3:=CG hx.o
 have h4:=hx.kl
 have h6:=Bw h1
 refine ⟨h2,by omega,fun c hc=>?_,h1.len,h6,?_⟩
 ·obtain ⟨q1,q2⟩:=h1.rf c hc
  have:=List.count_le_length (l:=KI K) (a:=c.data)
  omega
 ·rw [hx.u]
  exact rK _ R rfl h1.bn fun c hc=>by obtain ⟨j,q1,q2,q3,_⟩:=h1.bl c hc;exact ⟨j,q1,q2,q3⟩
theorem ta {m:Nat} (hm:15<=m) (hx:LX hA h pb lb db sb tb0 sp0 wb0 s0 F0 a v K G R i) (hi:i<=30) {wl:AV} {bs:List Nat} (ol:iF 50 4 h wl R.length (JH (R.map pk)) bs) {x1 x5:AV} {tm:Tr AV} {k:List Wt} {Q:XQ} (t1:tm.gt 1=some x1) (t3:tm.gt 3=some (.ptr (some (pb,0)))) (t4:tm.gt 4=some v) (t5:tm.gt 5=some x5) (t9:tm.gt 9=some (I 0)) (t10:tm.gt 10=some (I 0)) (t11:tm.gt 11=some wl) (t12:tm.gt 12=some (I 0)) (t148:tm.gt 148=none)
  (hcont:∀ tm' h',LX hA h' pb lb db sb tb0 sp0 wb0 s0 F0 a v K G R i->tm'.gt 1=some x1->tm'.gt 3=some (.ptr (some (pb,0)))->tm'.gt 4=some v->tm'.gt 5=some x5->tm'.gt 148=none->ret (C m) 100000 148 3 none .normal k tm' h' Q) :
  run (C m) 100000 148 3 none Yz (Wt.blk 2::Wt.seq ((Qj.seq (AC.block 4 YD)).seq Ql)::k) tm h Q:=by
 obtain ⟨e1,e2,e3,e4,e5,e6⟩:=hx.refs hi
 have hpc:Pcs h wl (R.map pk):=by
  have:=VH (Cs:=R.map pk) (e:=50) (h:=h) (v:=wl) (bs:=bs) (by rw [List.length_map];exact ol)
  exact this
 have hml:(R.map pk).length=R.length:=List.length_map ..
 obtain ⟨la,lc,lg,elw⟩:=hpc.sl
 rw [hml] at elw
 subst elw
 refine aF (c:=Qi) (I:=fun m' tm' h'=>∃ k,k<=R.length/\m'=R.length - k/\h'=h/\tm'.gt 1=some x1/\tm'.gt 3=some (.ptr (some (pb,0)))/\tm'.gt 4=some v/\tm'.gt 5=some x5/\tm'.gt 9=some (.int .i64 ((R.map Ch.refs).take k).sum)/\tm'.gt 10=some (I 0)/\tm'.gt 11=some (.slice la R.length lc lg)/\tm'.gt 12=some (I k)/\tm'.gt 148=none) (n:=R.length)
  ⟨0,by omega,rfl,rfl,t1,t3,t4,t5,t9,t10,t11,t12,t148⟩ (by omega) ?_
 clear t1 t3 t4 t5 t9 t10 t11 t12 t148
 rintro _ tm h2 ⟨j,hj,rfl,rfl,t1,t3,t4,t5,t9,t10,t11,t12,t148⟩ Q1 hN1 hE1
 by_cases hlt:j<R.length
 ·have hlt':(j:Int)<(R.length:Int):=by omega
  have hlm:j<(R.map pk).length:=by omega
  have hlr:j<(R.map Ch.refs).length:=by rw [List.length_map];omega
  rw [← hml] at hpc
  obtain ⟨b,o,rfl,_,_,ldr,_⟩:=Pcs.at (L:=R.map pk) hpc hlm
  have xi:=W8 (k:=.i64) (b:=b) (o:=o) (c:=lc) (g:=lg) hlt
  have er:(Ci (R.map pk) j).refs=R[j].refs:=by rw [um hlm,List.getElem_map];rfl
  rw [er] at ldr
  have hs:=ug hlr
  rw [List.getElem_map] at hs
  have hb:=I9 ((R.map Ch.refs).take (j+1)) (fun x hx=>by
   obtain ⟨c,hc,rfl⟩:=List.mem_map.1 (List.mem_of_mem_take hx)
   exact e3 c hc)
  rw [List.length_take] at hb
  have ewr:IntKind.i64.wrap (((R.map Ch.refs).take j).sum+R[j].refs)=((R.map Ch.refs).take (j+1)).sum:=by rw [← hs,wrap_i64 (by omega) (by omega)]
  simp only [F3,SS,Nat.reduceBEq,reduceEqDiff,reduceAdd,reduceIte,reduceMul,t9,t11,t12,tM,hlt',xi,K5,ldr,ewr,bG (show j<=1000000 by omega)]
  exact hN1 _ _ (R.length - (j+1)) (by omega) ⟨j+1,by omega,rfl,rfl,by simp only [SS,Nat.reduceBEq,t1],by simp only [SS,Nat.reduceBEq,t3],by simp only [SS,Nat.reduceBEq,t4],by simp only [SS,Nat.reduceBEq,t5],by simp only [SS,Nat.reduceBEq],by simp only [SS,Nat.reduceBEq,t10],by simp only [SS,Nat.reduceBEq,t11],by simp only [SS,Nat.reduceBEq],by simp only [SS,Nat.reduceBEq,t148]⟩
 ·obtain rfl:j=R.length:=by omega
  have hlt':¬(R.length:Int)<(R.length:Int):=by omega
  rw [List.take_of_length_le (by rw [List.length_map];exact Nat.le_refl _),e1] at t9
  simp only [F3,SS,Nat.reduceBEq,reduceEqDiff,reduceAdd,reduceIte,reduceMul,t11,t12,tM,hlt']
  refine hE1 _ _ _ (by simp) ?_
  simp only [F3,SS,Nat.reduceBEq,reduceEqDiff,reduceAdd,reduceIte,reduceMul]
  obtain ⟨va,vc,vg,rfl,hvc,hvg⟩:=(show _ from hx.k.c)
  have eM:((KI K).length)=(K.map fun k=>(k.d.length+63) / 64).sum:=Av K
  refine aF (c:=Qk) (I:=fun m' tm' h'=>∃ k,k<=K.length/\m'=K.length - k/\h'=h2/\tm'.gt 1=some x1/\tm'.gt 3=some (.ptr (some (pb,0)))/\tm'.gt 4=some (.slice va K.length vc vg)/\tm'.gt 5=some x5/\tm'.gt 9=some (I (KI K).length)/\tm'.gt 10=some (I (((K.map fun k=>(k.d.length+63) / 64).take k).sum))/\tm'.gt 11=some (.slice la R.length lc lg)/\tm'.gt 13=some (I k)/\tm'.gt 148=none) (n:=K.length)
   ⟨0,by omega,rfl,rfl,by simp only [SS,Nat.reduceBEq,t1],by simp only [SS,Nat.reduceBEq,t3],by simp only [SS,Nat.reduceBEq,t4],by simp only [SS,Nat.reduceBEq,t5],by simp only [SS,Nat.reduceBEq,t9],by simp only [SS,Nat.reduceBEq,reduceEqDiff,reduceAdd,reduceIte,reduceMul,t10];rfl,by simp only [SS,Nat.reduceBEq,t11],by first | (simp only [SS,Nat.reduceBEq,reduceEqDiff,reduceAdd,reduceIte,reduceMul];done) | (simp only [SS,Nat.reduceBEq,reduceEqDiff,reduceAdd,reduceIte,reduceMul];rfl),by simp only [SS,Nat.reduceBEq,t148]⟩ (by have:=hx.kl;omega) ?_
  clear t1 t3 t4 t5 t9 t10 t11 t12 t148
  rintro _ tm h2 ⟨j,hj,rfl,rfl,t1,t3,t4,t5,t9,t10,t11,t13,t148⟩ Q2 hN2 hE2
  by_cases hlt:j<K.length
  ·have hlt':(j:Int)<(K.length:Int):=by omega
   obtain ⟨b,o,rfl,lds,_⟩:=hx.k.at hlt
   have xi:=qF (k:=.i64) (b:=b) (o:=o) (c:=vc) (g:=vg) hlt
   have hd:=hx.o.l _ (List.getElem_mem hlt)
   have hlr:j<(K.map fun k=>(k.d.length+63) / 64).length:=by rw [List.length_map];exact hlt
   have hs:=rY hlr
   rw [List.getElem_map] at hs
   have hbnd:((K.map fun k=>(k.d.length+63) / 64).take j).sum<=600:=by
    have h1:∀ (l:List Nat) (n:Nat),(l.take n).sum<=l.sum:=by
     intro l
     induction l with
     | nil=>intro n;simp
     | cons x l ih=>intro n;cases n with
      | zero=>simp
      | succ n=>rw [List.take_succ_cons,List.sum_cons,List.sum_cons];have:=ih n;omega
    have:=h1 (K.map fun k=>(k.d.length+63) / 64) j
    omega
   have w1:IntKind.i64.wrap ((K[j].d.length:Int)+63)=((K[j].d.length+63:Nat):Int):=by rw [wrap_i64 (by omega) (by omega)];omega
   have w2:=zcS (x:=K[j].d.length+63) (by omega)
   have w3:IntKind.i64.wrap (((((K.map fun k=>(k.d.length+63) / 64).take j).sum:Nat):Int)+(((K[j].d.length+63) / 64:Nat):Int))=((((K.map fun k=>(k.d.length+63) / 64).take (j+1)).sum:Nat):Int):=by rw [hs,wrap_i64 (by omega) (by omega)];omega
   simp only [F3,SS,Nat.reduceBEq,reduceEqDiff,reduceAdd,reduceIte,reduceMul,t4,t10,t13,fP,hlt',xi,l9,lds,dc,w1,un (show (64:Int)≠0 by decide),w2,w3,bG (show j<=1000000 by have:=hx.kl;omega)]
   exact hN2 _ _ (K.length - (j+1)) (by omega) ⟨j+1,by omega,rfl,rfl,by simp only [SS,Nat.reduceBEq,t1],by simp only [SS,Nat.reduceBEq,t3],by simp only [SS,Nat.reduceBEq,t4],by simp only [SS,Nat.reduceBEq,t5],by simp only [SS,Nat.reduceBEq,t9],by simp only [SS,Nat.reduceBEq],by simp only [SS,Nat.reduceBEq,t11],by simp only [SS,Nat.reduceBEq],by simp only [SS,Nat.reduceBEq,t148]⟩
  ·obtain rfl:j=K.length:=by omega
   have hlt':¬(K.length:Int)<(K.length:Int):=by omega
   rw [List.take_of_length_le (by rw [List.length_map];exact Nat.le_refl _),← eM] at t10
   obtain ⟨_,h3,e3',rfl,s3⟩:=Kf (n:=m) (by omega) hx.k (by have:=hx.kl;omega) hx.o
   have hx3:=hx.no s3
   obtain ⟨_,h4,e4',s4,rfl⟩:=SZ (n:=m) (by omega) hx3.r.p hx3.r.s
   have hx4:=hx3.no s4
   have z1:(R.length:Int)=((((KI K).foldl g9 []).length:Nat):Int):=by omega
   have z2:IntKind.i64.wrap (128 - (R.length:Int))=((iX s0.U 256:Nat):Int):=by rw [wrap_i64 (by omega) (by omega)];omega
   rw [← z1] at e3'
   simp only [F3,SS,Nat.reduceBEq,reduceEqDiff,reduceAdd,reduceIte,reduceMul,t4,t13,fP,hlt']
   refine hE2 _ _ _ (by simp) ?_
   simp only [F3,SS,Nat.reduceBEq,reduceEqDiff,reduceAdd,reduceIte,reduceMul,t3,t4,t9,t10,t11,tM,e3',e4',z2]
   refine aF (c:=Be) (I:=fun m' tm' h'=>∃ k,k<=K.length/\m'=K.length - k/\LX hA h' pb lb db sb tb0 sp0 wb0 s0 F0 a (.slice va K.length vc vg) K G R i/\tm'.gt 1=some x1/\tm'.gt 3=some (.ptr (some (pb,0)))/\tm'.gt 4=some (.slice va K.length vc vg)/\tm'.gt 5=some x5/\tm'.gt 14=some (I k)/\tm'.gt 148=none) (n:=K.length)
    ⟨0,by omega,rfl,hx4,by simp only [SS,Nat.reduceBEq,t1],by simp only [SS,Nat.reduceBEq,t3],by simp only [SS,Nat.reduceBEq,t4],by simp only [SS,Nat.reduceBEq,t5],by first | (simp only [SS,Nat.reduceBEq,reduceEqDiff,reduceAdd,reduceIte,reduceMul];done) | (simp only [SS,Nat.reduceBEq,reduceEqDiff,reduceAdd,reduceIte,reduceMul];rfl),by simp only [SS,Nat.reduceBEq,t148]⟩ (by have:=hx.kl;omega) ?_
   clear t1 t3 t4 t5 t9 t10 t11 t13 t148
   rintro _ tm h5 ⟨j,hj,rfl,hx5,t1,t3,t4,t5,t14,t148⟩ Q3 hN3 hE3
   by_cases hlt:j<K.length
   ·have hlt':(j:Int)<(K.length:Int):=by omega
    obtain ⟨_,h6,e6,qb,tb,F,sp,wb,rfl,htb,hx6,hq6,s6⟩:=uG (n:=m) (by omega) hx5
    obtain ⟨b,o,rfl,lds,_⟩:=hx6.k.at hlt
    have xi:=qF (k:=.i64) (b:=b) (o:=o) (c:=vc) (g:=vg) hlt
    have hm:=List.getElem_mem hlt
    have hd:=hx.o.l _ hm
    have hsp:=nX _ K[j].d (Nat.le_refl _)
    have hnx:=hx.nx
    obtain ⟨_,h7,e7,hr7,hk7,s7,hc7⟩:=zaJ (n:=m) (by omega) htb.q htb.r htb.k (fun b hb=>⟨(htb.d b hb).1,fun hg=>(htb.d b hb).2 (.inl hg)⟩) (by have:=htb.h.i.len;show R.length<=900;omega) (data:=K[j].d) (by omega) (hx.o.b _ hm)
    obtain ⟨g0,gi⟩:=Bv htb.h hm (by omega) (by show s0.nx+_<_;omega)
    rcases hc7 with ⟨_,iv,F',rfl,hi7,_⟩|⟨hbad,_⟩
    ·rw [gi] at hi7
     have n5:=hx5.s.1
     have hx7:=hx6.keep hr7 hk7 hx6.a s7 (fun b _ hb=>by
      rcases hb with hb | hb | hb
      ·have:=hq6 b (.inr (.inr (.inr hb)));omega
      ·have:=hq6 b (.inr (.inr (.inl hb)));omega
      ·have:=hq6 b (.inl hb);omega)
     obtain ⟨_,_,ee,_,ldv⟩:=hx7.k.at hlt
     cases ee
     have hil:K[j].ids.length<=1000:=by
      have:=wD (hx.hd.ids _ hm)
      rw [this,hsp];omega
     obtain ⟨_,h8,e8,rfl,s8⟩:=WI (n:=m) (by omega) hi7 (hx7.k.i _ hm).1 hil
     rw [decide_eq_true rfl] at e8
     simp only [F3,SS,Nat.reduceBEq,reduceEqDiff,reduceAdd,reduceIte,reduceMul,t3,t4,t14,fP,hlt',e6,xi,l9,u7,lds,ldv,e7,e8,bG (show j<=1000000 by have:=hx.kl;omega)]
     exact hN3 _ _ (K.length - (j+1)) (by omega) ⟨j+1,by omega,rfl,hx7.no s8,by simp only [SS,Nat.reduceBEq,t1],by simp only [SS,Nat.reduceBEq,t3],by simp only [SS,Nat.reduceBEq,t4],by simp only [SS,Nat.reduceBEq,t5],by simp only [SS,Nat.reduceBEq],by simp only [SS,Nat.reduceBEq,t148]⟩
    ·exact absurd g0 hbad
   ·obtain rfl:j=K.length:=by omega
    have hlt':¬(K.length:Int)<(K.length:Int):=by omega
    simp only [F3,SS,Nat.reduceBEq,reduceEqDiff,reduceAdd,reduceIte,reduceMul,t4,t14,fP,hlt']
    refine hE3 _ _ _ (by simp) ?_
    simp only [SS,Nat.reduceBEq,reduceEqDiff,reduceAdd,reduceIte,reduceMul]
    exact hcont _ _ hx5 (by simp only [SS,Nat.reduceBEq,t1]) (by simp only [SS,Nat.reduceBEq,t3]) (by simp only [SS,Nat.reduceBEq,t4]) (by simp only [SS,Nat.reduceBEq,t5]) (by simp only [SS,Nat.reduceBEq,t148])
end
end Go.Proofs.YtboobbebilegnaaGreat
namespace Go.Proofs.YtboobbebilegnaaGreat
open Go.Am
set_option maxRecDepth 10000
section
variable {h:ac} {lv cv:AV} {T:List Tn} {nc:Nat}
theorem tX {n:Nat} (hn:20<=n) (hl:ku h lv cv T nc) (cut:AV) (hc:cut.one=true) (ew:∀ n,1<=n->∀ h,C n (.fn 8) [] h=some (.bool true,h)) :
  WC (C n (.fn 3) [.agg [lv,cut,cv]] h) fun r _=>r=.bool true:=by
 obtain ⟨_,a,c,g,rfl,_⟩:=id hl.l
 obtain ⟨a2,c2,g2,ec⟩:=(show _ from hl.c)
 obtain ⟨m,rfl⟩:∃ m,n=m+1:=⟨n - 1,by omega⟩
 refine ak _ f3A rfl (by simp [fn3]) fun QQ hQ=>?_
 simp only [fn3] at hQ
 simp only [fn3,ah,ai,Nat.zero_add,reduceAdd]
 obtain ⟨h1,e1,r1,n1,f1⟩:=Rw.alloc h (id:=h.next) (n:=3) (vs:=[.slice a T.length c g,cut,cv]) (z:=[]) (ro:=false) (Nat.le_refl _) rfl
 have s1:Sm bm h h1:=⟨by omega,fun c hc _=>f1 c (by omega)⟩
 have o1:([AV.slice a T.length c g,cut,cv]:List AV).all AV.one=true:=by rw [ec];show (true&&(cut.one&&(true&&true)))=true;rw [hc];rfl
 have l3:di 3 h1 (.ptr (some (h.next,0)))=some (.agg [.slice a T.length c g,cut,cv]):=by rw [qz,r1.ld (i:=0) (n:=3) (Nat.le_refl _)];rfl
 have ew:=ew m (by omega)
 obtain ⟨_,h2,e2,b,rfl,hsm,s2⟩:=Tz (n:=m) (by omega) (hl.sm s1) cut hc
 cases b with
 | false =>
  simp only [F3,SS,Nat.reduceBEq,reduceEqDiff,reduceAdd,reduceIte,reduceMul,jB o1,e1,l3,e2,ew]
  refine hQ _ _ _ _ (.inr rfl) (by simp only [SS,Nat.reduceBEq]) (by simp only [SS,Nat.reduceBEq,reduceEqDiff,reduceAdd,reduceIte,reduceMul];rfl) ?_
  rfl
 | true =>
  obtain ⟨hT,hok⟩:=hsm rfl
  have s02:Sm bm h h2:=s1.trans s2 (fun _ _ h=>h) (fun _ _ h=>h)
  have n2:=s2.1
  obtain ⟨_,h3,e3,db,sb,rfl,hd,s3,gd,gs⟩:=UG (n:=m) (by omega) (h:=h2)
  have hd1:=hd
  obtain ⟨_,h4,e4,lb,rfl,hln,s4,gl⟩:=Vy (n:=m) (by omega) hd (-1)
  have hd:=hd.sm s4 (fun h=>h) (fun h=>h)
  obtain ⟨_,h5,e5,pb,tb,sp,wb,F,rfl,hp,ht,hsp,s5,fF,gp,gsp,gwb,ne1,ne2⟩:=S1 (n:=m) (by omega) hln hd
  have hx:LX h2 h5 pb lb db sb tb sp wb ⟨[],1,fun _=>false⟩ F 0 (.slice none 0 0 none) [] (fun _=>False) [] 0:=by
   have l3:=hd1.lt
   have l4:=hln.lt
   have l5:=hp.lt
   have n3:=s3.1
   have n4:=s4.1
   have n5:=s5.1
   have lF:=ht.flt
   refine ⟨⟨hp,ht,hsp,hln.sm s5 (fun h=>h),⟨_,hd.sm s5 (fun h=>h) (fun h=>h)⟩,⟨by omega,by omega,by omega,by omega,by omega,ne1,ne2,by omega,by omega,by omega,by omega⟩,fun b hb=>?_⟩,fQ.nil,⟨⟨List.nodup_nil,List.nodup_nil,(fun _ h=>by cases h),(fun _ h=>by cases h),(fun _ h=>by cases h),(fun _ h=>by cases h),List.nodup_nil⟩,(fun _ h=>by cases h)⟩,⟨(fun _ h=>by cases h),(fun _ h=>by cases h)⟩,j8.nil,by funext k;rfl,fun _ h=>h.elim,by simp,by simp,by omega,fun b hb=>?_,((s3.trans s4 (H:=bm) (fun _ _ h=>h) (fun _ _ h=>h)).trans s5 (fun _ _ h=>h) (fun _ _ h=>h))⟩
   ·obtain ⟨q1,q2,q3,q4⟩:=fF b hb
    exact ⟨q4,by omega,by omega,q2,q3⟩
   ·rcases hb with rfl | rfl | rfl | rfl | rfl | rfl | hb
    ·omega
    ·omega
    ·omega
    ·omega
    ·omega
    ·omega
    ·have:=(fF b hb).1;omega
  simp only [F3,SS,Nat.reduceBEq,reduceEqDiff,reduceAdd,reduceIte,reduceMul,jB o1,e1,l3,e2,e3,e4,e5,xD,Option.isNone_some]
  refine aF (c:=Qh) (I:=fun m' tm' h'=>∃ i tb sp wb s0 F0 a' v K G R,i<=T.length/\m'=T.length - i/\LX h2 h' pb lb db sb tb sp wb s0 F0 a' v K G R i/\tm'.gt 1=some (.ptr (some (h.next,0)))/\tm'.gt 3=some (.ptr (some (pb,0)))/\tm'.gt 4=some v/\tm'.gt 5=some (I i)/\tm'.gt 148=none) (n:=T.length)
   ⟨0,tb,sp,wb,_,F,0,_,[],_,[],by omega,rfl,hx,by simp only [SS,Nat.reduceBEq],by simp only [SS,Nat.reduceBEq],by simp only [SS,Nat.reduceBEq],by first | (simp only [SS,Nat.reduceBEq,reduceEqDiff,reduceAdd,reduceIte,reduceMul];done) | (simp only [SS,Nat.reduceBEq,reduceEqDiff,reduceAdd,reduceIte,reduceMul];rfl),by simp only [SS,Nat.reduceBEq]⟩ (by omega) ?_
  clear hx hsp ht hp fF gsp gwb ne1 ne2
  rintro _ tm h6 ⟨i,tb,sp,wb,s0,F0,a',v,K,G,R,hi,rfl,hx,t1,t3,t4,t5,t148⟩ Q1 hN1 hE1
  have r16:=(r1.sm s2 (by omega) (fun h=>h)).sm hx.s (by omega) (fun h=>h)
  have q0:=r16.ld1 0
  rw [List.getElem?_cons_zero] at q0
  by_cases hlt:i<T.length
  ·have hlt':(i:Int)<(T.length:Int):=by omega
   obtain ⟨_,h7,e7,qb,tb',F',sp',wb',rfl,htb,hx7,hq7,s7⟩:=uG (n:=m) (by omega) hx
   have s67:=hx7.s
   have n67:=s67.1
   have r17:=(r1.sm s2 (by omega) (fun h=>h)).sm hx7.s (by omega) (fun h=>h)
   have q07:=r17.ld1 0
   rw [List.getElem?_cons_zero] at q07
   have hl7:=(hl.sm s02).sm hx7.s
   obtain ⟨b,o,rfl,_,_,llv,l3c⟩:=hl7.at hlt
   have xi:=Ji (k:=.i64) (b:=b) (o:=o) (c:=c) (g:=g) hlt
   have hTn:=hl7.t _ (List.getElem_mem hlt)
   have hq2:∀ b,TW lb sb qb sp' wb' F' b->h2.next<=b:=fun b hb=>by
    have:=hx.s.1
    rcases hb with (rfl | rfl) | hb
    ·exact hx.old _ (.inr (.inl rfl))
    ·exact hx.old _ (.inr (.inr (.inr (.inl rfl))))
    ·have:=hq7 b hb;omega
   have hkl:=hx.kl
   have hnx:=hx.nx
   have haa:=hx.a
   obtain ⟨_,h8,e8,s8,c8⟩:=WT (n:=m) (by omega) htb (by omega) (by show s0.nx<=900000;omega) (by omega) ((hl.sm s02).t _ (List.getElem_mem hlt)) (hok _ (List.getElem_mem hlt)) hx7.s hq2
   have eav:T[i].av=.agg T[i].c:=rfl
   rw [eav] at e8
   have l3v:di 3 h7 (.ptr (some (b,o+i*3)))=some (.agg T[i].c):=by rw [qz,l3c]
   have r18:=r17.sm s8 (by omega) (fun hh=>by have:=hq2 _ hh;omega)
   rcases c8 with ⟨w,rfl,hr8,hk8⟩|⟨w,a8,s',F8,K',G',rfl,ha8,hnx8,hK8,hb8,hF8,hG8⟩
   · 
    have z70:¬((7:Int)=0):=by decide
    have z7s:¬((7:Int)≠7):=by decide
    have hx8:=(hx7.keep hr8 hk8 (by omega) s8 (fun b _ hb=>hq2 b hb)).up (Nat.le_succ i)
    obtain ⟨_,h9,e9,bs9,o9,b9,s9⟩:=mL (n:=m) (by omega) hx8.r.p hx8.r.t hx8.rel (by have:=hx8.hd.i.len;show s0.L.length<=1000;omega)
    have hx9:=hx8.no s9
    simp only [F3,SS,Nat.reduceBEq,reduceEqDiff,reduceAdd,reduceIte,reduceMul,t1,t3,t4,t5,bM,q0,cR,hlt',e7,q07,xi,l3v,e8,z70,z7s,e9]
    refine ta (x1:=.ptr (some (h.next,0))) (x5:=I i) (by omega) hx9 (by omega) o9 (by simp only [SS,Nat.reduceBEq,t1]) (by simp only [SS,Nat.reduceBEq,t3]) (by simp only [SS,Nat.reduceBEq,t4]) (by simp only [SS,Nat.reduceBEq,t5]) (by simp only [SS,Nat.reduceBEq,reduceEqDiff,reduceAdd,reduceIte,reduceMul];rfl) (by simp only [SS,Nat.reduceBEq,reduceEqDiff,reduceAdd,reduceIte,reduceMul];rfl) (by simp only [SS,Nat.reduceBEq]) (by simp only [SS,Nat.reduceBEq,reduceEqDiff,reduceAdd,reduceIte,reduceMul];rfl) (by simp only [SS,Nat.reduceBEq,t148]) ?_
    intro tm' h' hx' t1 t3 t4 t5 t148
    simp only [F3,SS,Nat.reduceBEq,reduceEqDiff,reduceAdd,reduceIte,reduceMul,t5,bG (show i<=1000000 by omega)]
    exact hN1 _ _ (T.length - (i+1)) (by omega) ⟨i+1,_,_,_,_,_,_,_,_,_,_,by omega,rfl,hx',by simp only [SS,Nat.reduceBEq,t1],by simp only [SS,Nat.reduceBEq,t3],by simp only [SS,Nat.reduceBEq,t4],by simp only [SS,Nat.reduceBEq],by simp only [SS,Nat.reduceBEq,t148]⟩
   ·have hl8:=(hl.sm s02).sm (hx7.s.trans s8 (H:=bm) (fun _ _ h=>h) (fun c hc hh=>by have:=hq2 c hh;omega))
    obtain ⟨_,_,ee,_,_,llv8,_⟩:=hl8.at hlt
    cases ee
    have q08:=r18.ld1 0
    rw [List.getElem?_cons_zero] at q08
    cases hlv:T[i].leave with
    | true =>
     rw [hlv] at llv8
     have hx8:=hx7.up (Nat.le_succ i)
     have hx8:=hx8.keep hb8.r hb8.k (by omega) s8 (fun b _ hb=>hq2 b hb)
     obtain ⟨_,h9,e9,bs9,o9,b9,s9⟩:=mL (n:=m) (by omega) hx8.r.p hx8.r.t hx8.rel (by have:=hx8.hd.i.len;show s0.L.length<=1000;omega)
     have hx9:=hx8.no s9
     simp only [F3,SS,Nat.reduceBEq,reduceEqDiff,reduceAdd,reduceIte,reduceMul,t1,t3,t4,t5,bM,q0,cR,hlt',e7,q07,xi,l3v,e8,q08,u6,llv8,e9]
     refine ta (x1:=.ptr (some (h.next,0))) (x5:=I i) (by omega) hx9 (by omega) o9 (by simp only [SS,Nat.reduceBEq,t1]) (by simp only [SS,Nat.reduceBEq,t3]) (by simp only [SS,Nat.reduceBEq,t4]) (by simp only [SS,Nat.reduceBEq,t5]) (by simp only [SS,Nat.reduceBEq,reduceEqDiff,reduceAdd,reduceIte,reduceMul];rfl) (by simp only [SS,Nat.reduceBEq,reduceEqDiff,reduceAdd,reduceIte,reduceMul];rfl) (by simp only [SS,Nat.reduceBEq]) (by simp only [SS,Nat.reduceBEq,reduceEqDiff,reduceAdd,reduceIte,reduceMul];rfl) (by simp only [SS,Nat.reduceBEq,t148]) ?_
     intro tm' h' hx' t1 t3 t4 t5 t148
     simp only [F3,SS,Nat.reduceBEq,reduceEqDiff,reduceAdd,reduceIte,reduceMul,t5,bG (show i<=1000000 by omega)]
     exact hN1 _ _ (T.length - (i+1)) (by omega) ⟨i+1,_,_,_,_,_,_,_,_,_,_,by omega,rfl,hx',by simp only [SS,Nat.reduceBEq,t1],by simp only [SS,Nat.reduceBEq,t3],by simp only [SS,Nat.reduceBEq,t4],by simp only [SS,Nat.reduceBEq],by simp only [SS,Nat.reduceBEq,t148]⟩
    | false =>
     rw [hlv] at llv8
     obtain ⟨_,h8',e8',rfl,sp2,wb2,R2,hx8⟩:=Sx (n:=m) (by omega) hx7 s8 (fun b _ hb=>hq2 b hb) hb8 (fun b hb=>by
      rcases hb with hb | hb | hb | hb
      ·exact hq2 b (.inr (.inl hb))
      ·exact hq2 b (.inr (.inr (.inl hb)))
      ·exact hq2 b (.inr (.inr (.inr (.inl hb))))
      ·rcases hF8 b hb with h | h
       ·exact hq2 b (.inr (.inr (.inr (.inr h))))
       ·omega) (by omega) hnx8 hK8
     obtain ⟨_,h9,e9,bs9,o9,b9,s9⟩:=mL (n:=m) (by omega) hx8.r.p hx8.r.t hx8.rel (by have:=hx8.hd.i.len;omega)
     have hx9:=hx8.no s9
     simp only [F3,SS,Nat.reduceBEq,reduceEqDiff,reduceAdd,reduceIte,reduceMul,t1,t3,t4,t5,bM,q0,cR,hlt',e7,q07,xi,l3v,e8,q08,u6,llv8,e8',e9]
     refine ta (x1:=.ptr (some (h.next,0))) (x5:=I i) (by omega) hx9 (by omega) o9 (by simp only [SS,Nat.reduceBEq,t1]) (by simp only [SS,Nat.reduceBEq,t3]) (by simp only [SS,Nat.reduceBEq]) (by simp only [SS,Nat.reduceBEq,t5]) (by simp only [SS,Nat.reduceBEq,reduceEqDiff,reduceAdd,reduceIte,reduceMul];rfl) (by simp only [SS,Nat.reduceBEq,reduceEqDiff,reduceAdd,reduceIte,reduceMul];rfl) (by simp only [SS,Nat.reduceBEq]) (by simp only [SS,Nat.reduceBEq,reduceEqDiff,reduceAdd,reduceIte,reduceMul];rfl) (by simp only [SS,Nat.reduceBEq,t148]) ?_
     intro tm' h' hx' t1 t3 t4 t5 t148
     simp only [F3,SS,Nat.reduceBEq,reduceEqDiff,reduceAdd,reduceIte,reduceMul,t5,bG (show i<=1000000 by omega)]
     exact hN1 _ _ (T.length - (i+1)) (by omega) ⟨i+1,_,_,_,_,_,_,_,_,_,_,by omega,rfl,hx',by simp only [SS,Nat.reduceBEq,t1],by simp only [SS,Nat.reduceBEq,t3],by simp only [SS,Nat.reduceBEq,t4],by simp only [SS,Nat.reduceBEq],by simp only [SS,Nat.reduceBEq,t148]⟩
  ·obtain rfl:i=T.length:=by omega
   have hlt':¬(T.length:Int)<(T.length:Int):=by omega
   simp only [F3,SS,Nat.reduceBEq,reduceEqDiff,reduceAdd,reduceIte,reduceMul,t1,t5,bM,q0,cR,hlt']
   refine hE1 _ _ _ (by simp) ?_
   simp only [F3,SS,Nat.reduceBEq,reduceEqDiff,reduceAdd,reduceIte,reduceMul,ew]
   refine hQ _ _ _ _ (.inr rfl) (by simp only [SS,Nat.reduceBEq,t148]) (by simp only [SS,Nat.reduceBEq,reduceEqDiff,reduceAdd,reduceIte,reduceMul,t148];rfl) ?_
   rfl
end
end Go.Proofs.YtboobbebilegnaaGreat
namespace Go.Proofs.YtboobbebilegnaaGreat
open Go.ChangeShapes Go.WideShapes Go.RowKit Go.Shelf
def mo:Go.Shelf.Ren:=⟨fun | 105=>34 | 212=>87 | 99=>88 | 165=>89 | 166=>79 | 170=>80 | 169=>81 | 263=>137 | 264=>138 | 206=>139 | 240=>134 | 241=>140 | 276=>159 | 277=>162 | n=>n,fun | 9=>9 | 3=>3 | 4=>4 | 20=>20 | 0=>0 | 46=>154 | 109=>155 | 5=>5 | 72=>146 | 76=>149 | 51=>48 | 146=>220 | 53=>185 | 148=>222 | 70=>144 | 37=>42 | 75=>148 | 127=>219 | 164=>239 | 80=>151 | n=>n,fun | n=>n⟩
theorem jp:Go.Proofs.Lays.n105 Tryz.prog mo:={
 mixed:=by kernel_rfl,
 f99:=Tryz.func88.trans (congrArg some (by kernel_rfl)),
 f105:=Tryz.func34.trans (congrArg some (by kernel_rfl)),
 f165:=Tryz.func89.trans (congrArg some (by kernel_rfl)),
 f166:=Tryz.func79.trans (congrArg some (by kernel_rfl)),
 f169:=Tryz.func81.trans (congrArg some (by kernel_rfl)),
 f170:=Tryz.func80.trans (congrArg some (by kernel_rfl)),
 f206:=Tryz.func139.trans (congrArg some (by kernel_rfl)),
 f212:=Tryz.func87.trans (congrArg some (by kernel_rfl)),
 f240:=Tryz.func134.trans (congrArg some (by kernel_rfl)),
 f241:=Tryz.func140.trans (congrArg some (by kernel_rfl)),
 f263:=Tryz.func137.trans (congrArg some (by kernel_rfl)),
 f264:=Tryz.func138.trans (congrArg some (by kernel_rfl)),
 f276:=Tryz.func159.trans (congrArg some (by kernel_rfl)),
 f277:=Tryz.func162.trans (congrArg some (by kernel_rfl)),
 t0:=Tryz.underlying0,
 a0:=Tryz.isAgg0,
 z0:=Tryz.sizeOf0,
 v0:=Tryz.zeroValue0,
 t3:=Tryz.underlying3,
 a3:=Tryz.isAgg3,
 z3:=Tryz.sizeOf3,
 v3:=Tryz.zeroValue3,
 t4:=Tryz.underlying4,
 a4:=Tryz.isAgg4,
 z4:=Tryz.sizeOf4,
 v4:=Tryz.zeroValue4,
 t5:=Tryz.underlying5,
 a5:=Tryz.isAgg5,
 z5:=Tryz.sizeOf5,
 v5:=Tryz.zeroValue5,
 t9:=Tryz.underlying9,
 a9:=Tryz.isAgg9,
 z9:=Tryz.sizeOf9,
 v9:=Tryz.zeroValue9,
 t20:=Tryz.underlying20,
 a20:=Tryz.isAgg20,
 z20:=Tryz.sizeOf20,
 v20:=Tryz.zeroValue20,
 t37:=Tryz.underlying42,
 a37:=Tryz.isAgg42,
 z37:=Tryz.sizeOf42,
 v37:=Tryz.zeroValue42,
 t46:=Tryz.underlying154,
 a46:=Tryz.isAgg154,
 z46:=Tryz.sizeOf154,
 v46:=Tryz.zeroValue154,
 t51:=Tryz.underlying48,
 a51:=Tryz.isAgg48,
 z51:=Tryz.sizeOf48,
 v51:=Tryz.zeroValue48,
 t53:=Tryz.underlying185,
 a53:=Tryz.isAgg185,
 z53:=Tryz.sizeOf185,
 v53:=Tryz.zeroValue185,
 t70:=Tryz.underlying144,
 a70:=Tryz.isAgg144,
 z70:=Tryz.sizeOf144,
 v70:=Tryz.zeroValue144,
 t72:=Tryz.underlying146,
 a72:=Tryz.isAgg146,
 z72:=Tryz.sizeOf146,
 v72:=Tryz.zeroValue146,
 t75:=Tryz.underlying148,
 a75:=Tryz.isAgg148,
 z75:=Tryz.sizeOf148,
 v75:=Tryz.zeroValue148,
 t76:=Tryz.underlying149,
 a76:=Tryz.isAgg149,
 z76:=Tryz.sizeOf149,
 v76:=Tryz.zeroValue149,
 t109:=Tryz.underlying155,
 a109:=Tryz.isAgg155,
 z109:=Tryz.sizeOf155,
 v109:=Tryz.zeroValue155,
 t127:=Tryz.underlying219,
 a127:=Tryz.isAgg219,
 z127:=Tryz.sizeOf219,
 v127:=Tryz.zeroValue219,
 t146:=Tryz.underlying220,
 a146:=Tryz.isAgg220,
 z146:=Tryz.sizeOf220,
 v146:=Tryz.zeroValue220,
 t148:=Tryz.underlying222,
 a148:=Tryz.isAgg222,
 z148:=Tryz.sizeOf222,
 v148:=Tryz.zeroValue222,
 t164:=Tryz.underlying239,
 a164:=Tryz.isAgg239,
 z164:=Tryz.sizeOf239,
 v164:=Tryz.zeroValue239 }
theorem Sw:Builder.Extra Tryz.prog mo where
 sizeBuilder:=by kernel_rfl
 liesBuilder:=by kernel_rfl
 t5:=jp.t5
 a5:=jp.a5
 z5:=jp.z5
 v5:=jp.v5
 infoByte:=by kernel_rfl
 cellsByte:=by kernel_rfl
 sizeByte:=by kernel_rfl
 neB5:=by decide
theorem sJ (l:List UInt8):∀ c,Lib.repeatL l c=(List.replicate c l).flatten
 | 0=>rfl
 | c+1=>by rw [List.replicate_succ,List.flatten_cons,← sJ l c];rfl
noncomputable section
def prA:Am.Prims:=Ca.or (Am.repeatP 34)
theorem zb9:Am.PrimsOk Tryz.prog (Am.keepF Tryz.prog) prA:=Am.Prims.or_ok zfw (Am.repeatP_ok (rl:=Lib.repeatL) sJ ⟨_,_,Tryz.func34,rfl⟩ fun s c w h1 h2=>Any.strings_Repeat jp Sw s c w h1 h2)
theorem za4:Am.says (Am.callNF Tryz.prog (Am.keepF Tryz.prog) prA 100000 300 (.fn 8) [] ⟨.leaf,0⟩) (.bool true)=true:=by kernel_rfl
theorem za3:Am.PrimsOk Tryz.prog (Am.keepF Tryz.prog) (Am.pureP 8 [] (.bool true)):=Am.pureP_ok mixed BK zb9 rfl za4
end
end Go.Proofs.YtboobbebilegnaaGreat
/- A part of the proof of the law PoolLoads. -/
import Derived.Test.YtboobbebilegnaaGreatLoWalkB
import Derived.Deep.Fields
import Derived.Deep.Slices
import Derived.ChangeArms
import Derived.ProofKit
import Derived.Shelf.Strings.Repeat
set_option linter.unusedVariables false
set_option linter.unusedSimpArgs false
set_option linter.constructorNameAsVariable false
set_option linter.defProp false
set_option maxRecDepth 20000

namespace Go.Proofs.YtboobbebilegnaaGreat
open Go.Am
set_option maxRecDepth 10000
section
variable {h h':Heap} {pb lb db sb tb sp wb rl rd rp rt:Nat} {D:List Sl} {cut num:Int} {chv chr:AV} {acts actr:Nat} {L R:List Ch} {next:Int} {F:Nat->Prop} {bs b1 b2:List Nat} {Fi:List (List Nat)} {E:List Fe}
structure Bo (h:Heap) (pb lb db sb tb sp wb:Nat) (D:List Sl) (cut:Int) (chv:AV) (acts:Nat) (L:List Ch) (next:Int) (F:Nat->Prop) (rl rd rp rt:Nat) (num:Int) (chr:AV) (actr:Nat) (R:List Ch) (bs b1 b2:List Nat) (Fi:List (List Nat)) (E:List Fe):Prop where
 w:Pw h pb lb db sb tb sp wb D cut chv acts L next F
 rp:RPo h rp rl rt
 rl:RLn h rl rd num chr actr false
 rd:RDev h rd Fi E b1 b2
 fi:Fi.length=256
 rt:RefAt h rt R next bs
 rel:Rel L R
 len:L.length<=900
theorem Bo.no (hb:Bo h pb lb db sb tb sp wb D cut chv acts L next F rl rd rp rt num chr actr R bs b1 b2 Fi E) (s:Sm NoB h h'):Bo h' pb lb db sb tb sp wb D cut chv acts L next F rl rd rp rt num chr actr R bs b1 b2 Fi E :=
 ⟨hb.w.no s,hb.rp.sm s (fun h=>h),hb.rl.sm s (fun h=>h),hb.rd.no s,hb.fi,hb.rt.no s,hb.rel,hb.len⟩
theorem get1_ok {n:Nat} (hn:4<=n) (hb:Bo h pb lb db sb tb sp wb D cut chv acts L next F rl rd rp rt num chr actr R bs b1 b2 Fi E) {v:AV} {ids:List Int} (hv:Els h v ids.length 1 (ids.map u)) (hl:ids.length<=1000) (size:Int) :
  ∃ s e h1,C n (.fn 26) [.ptr (some (pb,0)),v,.int .i64 size] h=some (.tuple [.str s,.int .i64 e],h1)/\Sm NoB h h1/\∀ h2,Sm NoB h h2->∃ h3,C n (.fn 27) [.ptr (some (rp,0)),v,.int .i64 size] h2=some (.tuple [.str s,.int .i64 e],h3)/\Sm NoB h2 h3:=by
 obtain ⟨B,t5⟩:=hb.w.t.ok
 have hrl:=hb.rel.len
 have hlen:=hb.len
 obtain ⟨r1,h1,e1,s1,c1⟩:=pget_ok (n:=n) (by omega) hb.w.p hb.w.t hv hl size
 have key:∀ h2,Sm NoB h h2->∃ r2 h3,C n (.fn 27) [.ptr (some (rp,0)),v,.int .i64 size] h2=some (r2,h3)/\Sm NoB h2 h3/\match getA L ids [] with
   | none=>r2=.tuple [.str [],.int .i64 5]
   | some s=>if (s.length:Int)=size then r2=.tuple [.str s,.int .i64 0] else r2=.tuple [.str [],.int .i64 4]:=fun h2 s2 =>
  rget_ok (n:=n) (by omega) (hb.rp.sm s2 (fun h=>h)) (hb.rt.no s2) hb.rel (by omega) (fun c hc=>(t5.ch c hc).2.2.2.1) (els_sm hv s2 (fun _ _ h=>h)) hl size
 cases hg:getA L ids [] with
 | none =>
  rw [hg] at c1
  obtain rfl:=c1
  refine ⟨_,_,h1,e1,s1,fun h2 s2=>?_⟩
  obtain ⟨r2,h3,e3,s3,c3⟩:=key h2 s2
  rw [hg] at c3
  obtain rfl:=c3
  exact ⟨h3,e3,s3⟩
 | some s =>
  rw [hg] at c1
  by_cases he:(s.length:Int)=size
  ·simp only [he,if_true] at c1
   subst c1
   refine ⟨_,_,h1,e1,s1,fun h2 s2=>?_⟩
   obtain ⟨r2,h3,e3,s3,c3⟩:=key h2 s2
   rw [hg] at c3
   simp only [he,if_true] at c3
   subst c3
   exact ⟨h3,e3,s3⟩
  ·simp only [he,if_false] at c1
   subst c1
   refine ⟨_,_,h1,e1,s1,fun h2 s2=>?_⟩
   obtain ⟨r2,h3,e3,s3,c3⟩:=key h2 s2
   rw [hg] at c3
   simp only [he,if_false] at c3
   subst c3
   exact ⟨h3,e3,s3⟩
theorem x_eq_48u (x:Int):bin2 P .eql 48 (u x) (u x)=some (.bool true):=by rw [b_eql];simp
theorem x_eq_3u (x:Int):bin2 P .eql 3 (.int .i64 x) (.int .i64 x)=some (.bool true):=by rw [b_eql];simp
theorem x_ne_3u (x:Int):bin2 P .neq 3 (.int .i64 x) (.int .i64 x)=some (.bool false):=by rw [b_neq];simp
theorem x_ne_9u (s:List Nat):bin2 P .neq 9 (.str s) (.str s)=some (.bool false):=by rw [b_neqS];simp
theorem tail4_ok {m:Nat} (hm:9<=m) (hb:Bo h pb lb db sb tb sp wb D cut chv acts L next F rl rd rp rt num chr actr R bs b1 b2 Fi E) {a:Option (Nat×Nat)} {c:Nat} {g:Option Nat} {Cs:List Pc} (hC:Pcs h (.slice a Cs.length c g) Cs) (hl:Cs.length<=20) {QQ:XQ}
  (hQ:∀ (e:Ex) (tm:Tr AV) (h':Heap) (vs:List AV),e=.normal∨e=.ret->tm.gt 163=none->resA P [.tmp 6] ⟨tm,h'⟩=some vs->tupled vs=.bool true->QQ e tm h')
  {tm:Tr AV} (t0:tm.gt 0=some (.slice a Cs.length c g)) (t10:tm.gt 10=some (.ptr (some (pb,0)))) (t12:tm.gt 12=some (.ptr (some (rp,0)))) (t14:tm.gt 14=some (I 0)) (t163:tm.gt 163=none) :
  run (C m) 100000 163 4 none (.loop c4_70) [.blk 2,.seq (.seq c4_93 .ret)] tm h QQ:=by
 have hlen:=hb.len
 have hrl:=hb.rel.len
 refine run_loop (c:=c4_70) (I:=fun m' tm' h'=>∃ i,i<=Cs.length/\m'=Cs.length - i/\Sm NoB h h'/\tm'.gt 0=some (.slice a Cs.length c g)/\tm'.gt 10=some (.ptr (some (pb,0)))/\tm'.gt 12=some (.ptr (some (rp,0)))/\tm'.gt 14=some (I i)/\tm'.gt 163=none) (n:=Cs.length)
  ⟨0,by omega,rfl,Sm.refl _ _,t0,t10,t12,t14,t163⟩ (by omega) ?_
 clear t0 t10 t12 t14 t163
 rintro _ tm h2 ⟨i,hi,rfl,s2,t0,t10,t12,t14,t163⟩ Q1 hN1 hE1
 by_cases hlt:i<Cs.length
 ·have hlt':(i:Int)<(Cs.length:Int):=by omega
  obtain ⟨b,o,rfl,i0,_,_,i3,_⟩:=(hC.sm s2 (fun _ _ h=>h)).at hlt
  have x2:=x_ia_46 (k:=.i64) (b:=b) (o:=o) (c:=c) (g:=g) hlt
  obtain ⟨h3,e3,r3,n3,f3⟩:=Rw.alloc h2 (id:=h2.next) (n:=1) (vs:=[u (Ci Cs i).id]) (z:=[]) (ro:=false) (Nat.le_refl _) rfl
  have s3:Sm NoB h2 h3:=⟨by omega,fun c hc _=>f3 c (by omega)⟩
  have s23:Sm NoB h h3:=s2.trans s3 (fun _ _ h=>h) (fun _ _ h=>h)
  obtain ⟨_,_,ee,_,_,_,i33,_⟩:=(hC.sm s23 (fun _ _ h=>h)).at hlt
  cases ee
  have hv:Els h3 (.slice (some (h2.next,0)) 1 1 none) ([(Ci Cs i).id]:List Int).length 1 (([(Ci Cs i).id]:List Int).map u):=⟨rfl,_,_,_,rfl,(fun e=>by cases e),fun b' o' e=>by
   cases e
   exact ⟨by omega,r3.ld (i:=0) (n:=1) (Nat.le_refl _)⟩⟩
  obtain ⟨s,e,h4,e4,s4,k4⟩:=get1_ok (n:=m) (by omega) (hb.no s23) hv (by simp) (Ci Cs i).size
  obtain ⟨h5,e5,s5⟩:=k4 h4 s4
  have s24:Sm NoB h h4:=s23.trans s4 (fun _ _ h=>h) (fun _ _ h=>h)
  obtain ⟨_,_,ee,_,_,_,i34,_⟩:=(hC.sm s24 (fun _ _ h=>h)).at hlt
  cases ee
  simp only [F4,SS,Nat.reduceBEq,Nat.reduceEqDiff,Nat.reduceAdd,reduceIte,Nat.reduceMul,t0,t10,t12,t14,x_len_46,hlt',x2,x_fa_50_0,i0,x_bs_51_1,e3,x_fa_50_3,i33,e4,i34,e5,x_ne_9u,x_ne_3u,wAdd1 (show i<=1000000 by omega)]
  exact hN1 _ _ (Cs.length - (i+1)) (by omega) ⟨i+1,by omega,rfl,s24.trans s5 (fun _ _ h=>h) (fun _ _ h=>h),by simp only [SS,Nat.reduceBEq,t0],by simp only [SS,Nat.reduceBEq,t10],by simp only [SS,Nat.reduceBEq,t12],by simp only [SS,Nat.reduceBEq],by simp only [SS,Nat.reduceBEq,t163]⟩
 ·obtain rfl:i=Cs.length:=by omega
  have hlt':¬(Cs.length:Int)<(Cs.length:Int):=by omega
  simp only [F4,SS,Nat.reduceBEq,Nat.reduceEqDiff,Nat.reduceAdd,reduceIte,Nat.reduceMul,t0,t14,x_len_46,hlt']
  refine hE1 _ _ _ (by simp) ?_
  obtain ⟨g3,eg,sg,bg,ng⟩:=Sm.bump h2 29
  have hb3:=(hb.no s2).no sg
  obtain ⟨v4,h4,e4,bs4,o4,f4,s4⟩:=pchunks_ok (n:=m) (by omega) hb3.w.p hb3.w.t hb3.rel (by omega)
  have o4':SlO 50 4 h4 v4 (R.map pk).length (csC (R.map pk)) bs4:=by rw [List.length_map];exact o4
  obtain ⟨v5,h5,e5,bs5,o5,f5,s5⟩:=theirs_ok (n:=m) (by omega) (pcs_els o4') (by rw [List.length_map];omega)
  have hb5:=(hb3.no s4).no s5
  obtain ⟨v6,h6,e6,bs6,o6,f6,s6⟩:=rchunks_ok (n:=m) (by omega) hb5.rp hb5.rt (by omega)
  have o6':SlO 93 4 h6 v6 (R.map pk).length (csC (R.map pk)) bs6:=by rw [List.length_map];exact o6
  obtain ⟨_,h7,e7,rfl,s7⟩:=same_ok (n:=m) (by omega) (pcs_els (o5.sm s6 (fun _ _ h=>h))) (pcs_els o6') (by rw [List.length_map];omega)
  have hb7:=(hb5.no s6).no s7
  obtain ⟨_,h8,e8,s8,rfl⟩:=pfree_ok (n:=m) (by omega) hb7.w.p hb7.w.s
  have hb8:=hb7.no s8
  obtain ⟨_,h9,e9,s9,rfl⟩:=rFree_ok (n:=m) (by omega) hb8.rp hb8.rl hb8.rd hb8.fi hb8.rt (by omega)
  rw [usedR_rel hb.rel] at e9
  have hb9:=hb8.no s9
  obtain ⟨zp,rpw⟩:=hb9.rp.r
  have l1:=rpw.ld1 1
  simp only [List.getElem?_cons_zero,List.getElem?_cons_succ] at l1
  obtain ⟨vr,rr,ro⟩:=hb9.rt.ex
  have q1:=rr.ld1 1
  simp only [List.getElem?_cons_zero,List.getElem?_cons_succ] at q1
  obtain ⟨_,h10,e10,e0,rfl⟩:=pnext_ok (n:=m) (by omega) hb9.w.p hb9.w.t
  subst e0
  have e11:=awake_ok (n:=m) (by omega) h10
  simp only [F4,SS,Nat.reduceBEq,Nat.reduceEqDiff,Nat.reduceAdd,reduceIte,Nat.reduceMul,eg,t10,t12,e4,e5,e6,e7,e8,e9,x_eq_3u,x_fa_85_1,l1,x_fa_82_1,q1,e10,x_eq_48u,e11,s_int,s_ptr,and'_eq,iff'_true,Bool.and_true]
  refine hQ _ _ _ _ (.inr rfl) (by simp only [SS,Nat.reduceBEq,t163]) (by simp only [SS,Nat.reduceBEq,Nat.reduceEqDiff,Nat.reduceAdd,reduceIte,Nat.reduceMul,t163];rfl) ?_
  rfl
end
end Go.Proofs.YtboobbebilegnaaGreat
namespace Go.Proofs.YtboobbebilegnaaGreat
open Go.Am
set_option maxRecDepth 10000
def Bi (B:List (List Nat)) (i:Nat):List Nat:=B.getD i []
def Strs (h:Heap) (v:AV) (B:List (List Nat)):Prop:=ElsR h v B.length 1 (B.map .str)
theorem Strs.at {h:Heap} {a:Option (Nat×Nat)} {c:Nat} {g:Option Nat} {B:List (List Nat)} (hv:Strs h (.slice a B.length c g) B) {i:Nat} (hi:i<B.length):∃ b o,a=some (b,o)/\h.ld1 b (o+i)=some (.str (Bi B i)):=by
 obtain ⟨b,o,rfl,hc⟩:=ElsR.cell (hv:ElsR h _ B.length 1 (B.map .str)) (by omega)
 refine ⟨b,o,rfl,?_⟩
 rw [hc i (by omega),List.getElem?_map,List.getElem?_eq_getElem hi,Option.map_some]
 unfold Bi
 rw [List.getD_eq_getElem?_getD,List.getElem?_eq_getElem hi];rfl
theorem Strs.sl {h:Heap} {v:AV} {B:List (List Nat)} (hi:Strs h v B):∃ a c g,v=.slice a B.length c g:=by
 obtain ⟨_,a,c,g,e,_⟩:=hi
 exact ⟨a,c,g,e⟩
theorem poolLoads_ok {n:Nat} (hn:10<=n) {h:Heap} {v0 v2:AV} {Cs:List Pc} {B:List (List Nat)} (hC:Pcs h v0 Cs) (hids:∀ i,i<Cs.length->0<=(Ci Cs i).id/\(Ci Cs i).id<=4294967295) (next:Int) (hnx:0<=next/\next<=4294967295) (hB:Strs h v2 B) (hBb:∀ s,s∈B->∀ c,c∈s->c<256) :
  WC (C n (.fn 4) [v0,u next,v2] h) fun r _=>r=.bool true:=by
 obtain ⟨a0,c0,g0,rfl⟩:=hC.sl
 obtain ⟨a2,c2,g2,rfl⟩:=hB.sl
 obtain ⟨m,rfl⟩:∃ m,n=m+1:=⟨n - 1,by omega⟩
 refine call_fn _ f4A rfl (by simp [fn4]) fun QQ hQ=>?_
 simp only [fn4] at hQ
 simp only [fn4,fill_cons,fill_nil,Nat.zero_add,Nat.reduceAdd]
 have ew:=awake_ok (n:=m) (by omega)
 by_cases z1:20<Cs.length
 ·have z1':(20:Int)<(Cs.length:Int):=by omega
  simp only [F4,SS,Nat.reduceBEq,Nat.reduceEqDiff,Nat.reduceAdd,reduceIte,Nat.reduceMul,x_len_46,z1',ew,w_undef]
  refine hQ _ _ _ _ (.inr rfl) (by simp only [SS,Nat.reduceBEq]) (by simp only [SS,Nat.reduceBEq,Nat.reduceEqDiff,Nat.reduceAdd,reduceIte,Nat.reduceMul];rfl) ?_
  rfl
 have z1':¬(20:Int)<(Cs.length:Int):=by omega
 by_cases z2:20<B.length
 ·have z2':(20:Int)<(B.length:Int):=by omega
  simp only [F4,SS,Nat.reduceBEq,Nat.reduceEqDiff,Nat.reduceAdd,reduceIte,Nat.reduceMul,x_len_46,x_len_41,z1',z2',ew]
  refine hQ _ _ _ _ (.inr rfl) (by simp only [SS,Nat.reduceBEq]) (by simp only [SS,Nat.reduceBEq,Nat.reduceEqDiff,Nat.reduceAdd,reduceIte,Nat.reduceMul];rfl) ?_
  rfl
 have z2':¬(20:Int)<(B.length:Int):=by omega
 obtain ⟨_,h1,e1,db,sb,rfl,hd,s1,gd,gs⟩:=dnew_ok (n:=m) (by omega) (h:=h)
 have hd1:=hd
 obtain ⟨_,h2,e2,lb,rfl,hl,s2,gl⟩:=lnew_ok (n:=m) (by omega) hd (-1)
 have hd:=hd.sm s2 (fun h=>h) (fun h=>h)
 have k1:=hl.lt
 have k2:=hd.lt
 have dne:=hd.ne
 have q1:=s1.1
 have q2:=s2.1
 have lne:lb≠db/\lb≠sb:=by
  have:=(show db<h1.next/\sb<h1.next from by
   refine ⟨?_,?_⟩
   ·exact hd1.lt.1
   ·exact hd1.lt.2)
  omega
 obtain ⟨_,h3,e3,rd,b1,rfl,hr,s3,gr⟩:=rdnew_ok (n:=m) (by omega) (h:=h2)
 have hd:=hd.sm s3 (fun h=>h) (fun h=>h)
 have hl:=hl.sm s3 (fun h=>h)
 have fr:=hr.flt
 have q3:=s3.1
 obtain ⟨h4,e4,r4,n4,f4⟩:=Rw.alloc h3 (id:=h3.next) (n:=5) (vs:=[.ptr (some (rd,0)),.int .i64 (-1),.slice none 0 0 none,.int .i64 0,.bool false]) (z:=[]) (ro:=false) (Nat.le_refl _) rfl
 have s4:Sm NoB h3 h4:=⟨by omega,fun c hc _=>f4 c (by omega)⟩
 have hd:=hd.sm s4 (fun h=>h) (fun h=>h)
 have hl:=hl.sm s4 (fun h=>h)
 have hr:=hr.no s4
 have hrl:RLn h4 h3.next rd (-1) (.slice none 0 0 none) 0 false:=⟨⟨_,r4⟩,by omega⟩
 have s04:Sm NoB h h4:=((s1.trans s2 (fun _ _ h=>h) (fun _ _ h=>h)).trans s3 (fun _ _ h=>h) (fun _ _ h=>h)).trans s4 (fun _ _ h=>h) (fun _ _ h=>h)
 have hg1:∀ b,b∈b1->h2.next<=b/\b<h3.next:=fun b hb=>⟨gr b (.inr (.inl hb)),fr b (.inr (.inl hb))⟩
 have hgd:h2.next<=rd/\rd<h3.next:=⟨gr rd (.inl rfl),fr rd (.inl rfl)⟩
 simp only [F4,SS,Nat.reduceBEq,Nat.reduceEqDiff,Nat.reduceAdd,reduceIte,Nat.reduceMul,x_len_46,x_len_41,z1',z2',e1,e2,e3,x_bd_63_0_1,e4,x_eq_31,Option.isNone_some]
 refine run_loop (c:=c4_25) (I:=fun m' tm' h'=>∃ i D E b2,i<=B.length/\m'=B.length - i/\LnAt h' lb db (-1) (.slice none 0 0 none) i false/\DevAt h' db sb D/\RLn h' h3.next rd (-1) (.slice none 0 0 none) i false/\RDev h' rd (List.replicate 256 Z64) E b1 b2/\DRel D (List.replicate 256 Z64) E/\(∀ b,b∈b2->h2.next<=b/\b≠h3.next)/\Sm NoB h h'/\h3.next<h'.next/\tm'.gt 0=some (.slice a0 Cs.length c0 g0)/\tm'.gt 1=some (u next)/\tm'.gt 2=some (.slice a2 B.length c2 g2)/\tm'.gt 7=some (.ptr (some (lb,0)))/\tm'.gt 8=some (.ptr (some (h3.next,0)))/\tm'.gt 9=some (I i)/\tm'.gt 163=none) (n:=B.length)
  ⟨0,_,[],[],by omega,rfl,hl,hd,hrl,hr,DRel.zero,(fun _ h=>by cases h),s04,by omega,by simp only [SS,Nat.reduceBEq],by simp only [SS,Nat.reduceBEq],by simp only [SS,Nat.reduceBEq],by simp only [SS,Nat.reduceBEq],by simp only [SS,Nat.reduceBEq],by first | (simp only [SS,Nat.reduceBEq,Nat.reduceEqDiff,Nat.reduceAdd,reduceIte,Nat.reduceMul];done) | (simp only [SS,Nat.reduceBEq,Nat.reduceEqDiff,Nat.reduceAdd,reduceIte,Nat.reduceMul];rfl),by simp only [SS,Nat.reduceBEq]⟩ (by omega) ?_
 clear hl hd hrl hr s04 e1 e2 e3 e4 r4
 rintro _ tm h5 ⟨i,D,E,b2,hi,rfl,hl,hd,hrl,hr,hdr,hg2,s5,hn5,t0,t1,t2,t7,t8,t9,t163⟩ Q1 hN1 hE1
 have hEl:=hdr.len
 have hDl:=hd.len
 have nrl:¬RDF rd b1 b2 h3.next:=by
  rintro (h | h | h)
  ·omega
  ·have:=(hg1 _ h).2;omega
  ·exact (hg2 _ h).2 rfl
 by_cases hlt:i<B.length
 ·have hlt':(i:Int)<(B.length:Int):=by omega
  obtain ⟨b,o,rfl,ldb⟩:=Strs.at (elsR_sm hB s5 (fun _ _ h=>h)) hlt
  have x2:=x_ia_41 (k:=.i64) (b:=b) (o:=o) (c:=c2) (g:=g2) hlt
  by_cases z3:64<(Bi B i).length
  ·have z3':(64:Int)<((Bi B i).length:Int):=by omega
   simp only [F4,SS,Nat.reduceBEq,Nat.reduceEqDiff,Nat.reduceAdd,reduceIte,Nat.reduceMul,t2,t9,x_len_41,hlt',x2,ldb,x_len_9,z3',ew]
   refine hE1 _ _ _ (by simp) ?_
   simp only [SS,Nat.reduceBEq,Nat.reduceEqDiff,Nat.reduceAdd,reduceIte,Nat.reduceMul]
   exact hQ _ _ _ _ (.inr rfl) (by simp only [SS,Nat.reduceBEq,t163]) (by simp only [SS,Nat.reduceBEq,Nat.reduceEqDiff,Nat.reduceAdd,reduceIte,Nat.reduceMul];rfl) rfl
  have z3':¬(64:Int)<((Bi B i).length:Int):=by omega
  have hby:∀ c,c∈Bi B i->c<256:=by
   unfold Bi
   rw [List.getD_eq_getElem?_getD,List.getElem?_eq_getElem hlt]
   exact hBb _ (List.getElem_mem hlt)
  have w128:IntKind.i64.wrap (128+(i:Int))=((128+i:Nat):Int):=by rw [wrap_i64 (by omega) (by omega)];omega
  obtain ⟨r6,h6,e6,hl6,s6,c6⟩:=lwrite_ok (n:=m) (by omega) hl hd lne (by omega) (by omega) ((128+i:Nat):Int) hby
  rcases c6 with ⟨_,hbad⟩|⟨j,hj,hji,hsl,rfl,hd6⟩
  ·rcases hbad with ⟨hbad,_⟩|⟨_,hbad,_⟩
   ·omega
   ·omega
  obtain rfl:j=128+i:=by omega
  have lo:∀ b,h2.next<=b->b≠lb/\b≠sb/\b≠db:=fun b hb=>by omega
  have hrl6:=hrl.sm s6 (fun h=>by have:=lo h3.next (by omega);omega)
  have hr6:=hr.sm s6 (fun b hb h=>by
   have hge:h2.next<=b:=by
    rcases hb with rfl | hb | hb
    ·exact hgd.1
    ·exact (hg1 b hb).1
    ·exact (hg2 b hb).1
   have:=lo b hge
   omega)
  have s56:Sm NoB h h6:=s5.trans s6 (fun _ _ h=>h) (fun c hc h=>by omega)
  obtain ⟨_,_,ee,ldb6⟩:=Strs.at (elsR_sm hB s56 (fun _ _ h=>h)) hlt
  cases ee
  obtain ⟨r7,h7,e7,hrl7,s7,c7⟩:=rlwrite_ok (n:=m) (by omega) hrl6 hr6 nrl (by omega) (by omega) (by simp) (by omega) ((128+i:Nat):Int) (Bi B i)
  rcases c7 with ⟨_,hbad⟩|⟨j,_,hji',_,rfl,b2',hr7,hb2⟩
  ·rcases hbad with ⟨hbad,_⟩|⟨_,hbad,_⟩
   ·omega
   ·omega
  obtain rfl:j=128+i:=by omega
  have s57:Sm NoB h h7:=s56.trans s7 (fun _ _ h=>h) (fun c hc h=>by omega)
  have n6:=s6.1
  have n7:=s7.1
  simp only [F4,SS,Nat.reduceBEq,Nat.reduceEqDiff,Nat.reduceAdd,reduceIte,Nat.reduceMul,t2,t7,t8,t9,x_len_41,hlt',x2,ldb,x_len_9,z3',w128,e6,ldb6,e7,wAdd1 (show i<=1000000 by omega)]
  exact hN1 _ _ (B.length - (i+1)) (by omega) ⟨i+1,_,_,b2',by omega,rfl,hl6.sm s7 (by omega),hd6.sm s7 (by omega) (by omega),hrl7,hr7,hdr.write hDl hj (pad (Bi B i)),fun b hb=>by have:=hb2 b hb;omega,s57,by omega,by simp only [SS,Nat.reduceBEq,t0],by simp only [SS,Nat.reduceBEq,t1],by simp only [SS,Nat.reduceBEq,t2],by simp only [SS,Nat.reduceBEq,t7],by simp only [SS,Nat.reduceBEq,t8],by simp only [SS,Nat.reduceBEq],by simp only [SS,Nat.reduceBEq,t163]⟩
 ·obtain rfl:i=B.length:=by omega
  have hlt':¬(B.length:Int)<(B.length:Int):=by omega
  simp only [F4,SS,Nat.reduceBEq,Nat.reduceEqDiff,Nat.reduceAdd,reduceIte,Nat.reduceMul,t2,t9,x_len_41,hlt']
  refine hE1 _ _ _ (by simp) ?_
  obtain ⟨r6,h6,e6,s6,c6⟩:=pLoad_ok (n:=m) (by omega) hl hd next hnx (hC.sm s5 (fun _ _ h=>h)) (by omega) hids
  have s56:=s5.trans s6 (fun _ _ h=>h) (fun _ _ h=>h)
  obtain ⟨v7,h7,e7,bs7,o7,f7,s7⟩:=theirs_ok (n:=m) (by omega) (hC.sm s56 (fun _ _ h=>h)) (by omega)
  have s67:Sm NoB h5 h7:=s6.trans s7 (fun _ _ h=>h) (fun _ _ h=>h)
  obtain ⟨r8,h8,e8,s8,c8⟩:=rLoad_ok (n:=m) (by omega) (hrl.sm s67 (fun h=>h)) (hr.no s67) hdr hd.ok hDl next hnx (pcs_els o7) (by omega) hids
  have s08:=(s56.trans s7 (fun _ _ h=>h) (fun _ _ h=>h)).trans s8 (fun _ _ h=>h) (fun _ _ h=>h)
  cases hld:ldAll D Cs ([],1) with
  | none =>
   rw [hld] at c6 c8
   simp only at c6 c8
   subst c6
   subst c8
   simp only [F4,SS,Nat.reduceBEq,Nat.reduceEqDiff,Nat.reduceAdd,reduceIte,Nat.reduceMul,t0,t1,t7,t8,e6,e7,e8,x_ne_3u,x_eq_29,x_eq_68,Option.isNone_none,x_ne_4,beq_self_eq_true,ew]
   refine hQ _ _ _ _ (.inr rfl) (by simp only [SS,Nat.reduceBEq,t163]) (by simp only [SS,Nat.reduceBEq,Nat.reduceEqDiff,Nat.reduceAdd,reduceIte,Nat.reduceMul,t163];rfl) ?_
   rfl
  | some s =>
   rw [hld] at c6 c8
   simp only at c6 c8
   obtain ⟨pb,tb,sp,wb,F,rfl,hw,_⟩:=c6
   obtain ⟨rp,rt,R,bs,rfl,hrp,hrt,hrel,_⟩:=c8
   have hsl:=ldAll_len hld
   have s78:Sm NoB h6 h8:=s7.trans s8 (fun _ _ h=>h) (fun _ _ h=>h)
   have s58:Sm NoB h5 h8:=s67.trans s8 (fun _ _ h=>h) (fun _ _ h=>h)
   simp only [F4,SS,Nat.reduceBEq,Nat.reduceEqDiff,Nat.reduceAdd,reduceIte,Nat.reduceMul,t0,t1,t7,t8,e6,e7,e8,x_ne_3u,x_eq_29,x_eq_68,Option.isNone_some,x_ne_4,beq_self_eq_true]
   refine tail4_ok (m:=m) (by omega) (⟨hw.no s78,hrp,hrl.sm s58 (fun h=>h),hr.no s58,by simp,hrt,hrel,by rw [hsl];simp;omega⟩:Bo h8 pb lb db sb tb sp wb D (-1) (.slice none 0 0 none) B.length s.1 (max s.2 next) F h3.next rd rp rt (-1) (.slice none 0 0 none) B.length R bs b1 b2 (List.replicate 256 Z64) E) (hC.sm s08 (fun _ _ h=>h)) (by omega) hQ (by simp only [SS,Nat.reduceBEq,t0]) (by simp only [SS,Nat.reduceBEq]) (by simp only [SS,Nat.reduceBEq]) (by first | (simp only [SS,Nat.reduceBEq,Nat.reduceEqDiff,Nat.reduceAdd,reduceIte,Nat.reduceMul];done) | (simp only [SS,Nat.reduceBEq,Nat.reduceEqDiff,Nat.reduceAdd,reduceIte,Nat.reduceMul];rfl)) (by simp only [SS,Nat.reduceBEq,t163])
end Go.Proofs.YtboobbebilegnaaGreat
namespace Go.Proofs.YtboobbebilegnaaGreat
open Go.ChangeShapes Go.WideShapes Go.Am Go.Deep
set_option maxRecDepth 10000
theorem exists_list {α : Type} {Pr:Nat->α->Prop}:∀ n,(∀ i,i<n->∃ x,Pr i x)->∃ l:List α,l.length=n/\∀ i,i<n->∃ x,l[i]?=some x/\Pr i x
 | 0,_=>⟨[],rfl,fun i h=>by omega⟩
 | n+1,h=>by
  obtain ⟨l,hl,hp⟩:=exists_list n fun i hi=>h i (by omega)
  obtain ⟨x,hx⟩:=h n (by omega)
  refine ⟨l++[x],by simp [hl],fun i hi=>?_⟩
  by_cases e:i<n
  ·obtain ⟨y,hy,hp'⟩:=hp i e
   exact ⟨y,by rw [List.getElem?_append_left (by omega)];exact hy,hp'⟩
  ·obtain rfl:i=n:=by omega
   refine ⟨x,?_,hx⟩
   rw [List.getElem?_append_right (by omega),hl];simp
noncomputable def fs50:Array Field:=match Tryz.prog.underlying 50 with
 | some (.struct fs)=>fs
 | _=>#[]
theorem un50:Tryz.prog.underlying 50=some (.struct fs50):=by kernel_rfl
theorem one50:oneCellFields Tryz.prog fs50=true:=by kernel_rfl
theorem size50:fs50.size=4:=by kernel_rfl
theorem ce50:Tryz.prog.cellsOf 50=4:=by kernel_rfl
theorem us46:Tryz.prog.underlying 46=some (.slice 50):=by kernel_rfl
theorem ty50_0:(fs50[0]?).map (·.type)=some 48:=by kernel_rfl
theorem ty50_1:(fs50[1]?).map (·.type)=some 3:=by kernel_rfl
theorem ty50_2:(fs50[2]?).map (·.type)=some 3:=by kernel_rfl
theorem ty50_3:(fs50[3]?).map (·.type)=some 3:=by kernel_rfl
theorem un50_3:Tryz.prog.underlying 3=some (.int .i64):=by kernel_rfl
theorem un50_48:Tryz.prog.underlying 48=some (.int .u32):=by kernel_rfl
def PcAt (W:World) (a:Addr) (i:Nat) (x:Pc):Prop:=W.cell? (a.add (i*4))=some (.int .u32 x.id)/\0<=x.id/\x.id<=4294967295/\W.cell? (a.add (i*4+1))=some (.int .i64 x.block)/\-9223372036854775808<=x.block/\x.block<=9223372036854775807/\W.cell? (a.add (i*4+2))=some (.int .i64 x.refs)/\-9223372036854775808<=x.refs/\x.refs<=9223372036854775807/\W.cell? (a.add (i*4+3))=some (.int .i64 x.size)/\-9223372036854775808<=x.size/\x.size<=9223372036854775807
def Pc.Rng (x:Pc):Prop:=0<=x.id/\x.id<=4294967295/\-9223372036854775808<=x.block/\x.block<=9223372036854775807/\-9223372036854775808<=x.refs/\x.refs<=9223372036854775807/\-9223372036854775808<=x.size/\x.size<=9223372036854775807
section
variable {H:Type} {enc:TypeId×Value->H}
theorem Pc_in {W:World} {base n:Nat} {sp:Nat->Bool} {held:Bool} {a:Addr} {i:Nat} {cs':List Value} {x:DataW H×List MemPlace} (hc:W.cells? base (a.add (i*4)) 4=some cs') (ht:DataW.trod enc Tryz.prog W base sp held n 50 cs'=some x):∃ x,PcAt W a i x:=by
 obtain ⟨ys,n',_,_,hlen,hyl,hf⟩:=DataW.trod_struct un50 ht
 obtain ⟨_,hcl,hat⟩:=World.cells?_some hc
 rw [size50] at hyl
 have get:∀ j t,j<4->(fs50[j]?).map (·.type)=some t->∃ v y,W.cell? (a.add (i*4+j))=some v/\DataW.trod enc Tryz.prog W base sp held n' t [v]=some y:=by
  intro j t hj htj
  cases hfj:fs50[j]? with
  | none=>rw [hfj] at htj;cases htj
  | some f =>
   rw [hfj] at htj
   have htj:f.type=t:=Option.some.inj htj
   obtain ⟨ho,hk⟩:=hone_of one50 j f hfj
   have h1:=hf j f hfj
   rw [ho,hk] at h1
   have hone':(cs'.drop j).take 1=[cs'[j]'(by omega)]:=by
    rw [List.drop_eq_getElem_cons (by omega)];rfl
   rw [hone',List.getElem?_eq_getElem (by omega),htj] at h1
   refine ⟨cs'[j]'(by omega),_,?_,h1⟩
   rw [← add_add,hat j hj,List.getElem?_eq_getElem (by omega)]
 obtain ⟨v0,y0,c0,t0⟩:=get 0 48 (by omega) ty50_0
 obtain ⟨v1,y1,c1,t1⟩:=get 1 3 (by omega) ty50_1
 obtain ⟨v2,y2,c2,t2⟩:=get 2 3 (by omega) ty50_2
 obtain ⟨v3,y3,c3,t3⟩:=get 3 3 (by omega) ty50_3
 obtain ⟨n0,e0,_,w0⟩:=DataW.trod_int un50_48 t0
 obtain ⟨n1,e1,_,w1⟩:=DataW.trod_int un50_3 t1
 obtain ⟨n2,e2,_,w2⟩:=DataW.trod_int un50_3 t2
 obtain ⟨n3,e3,_,w3⟩:=DataW.trod_int un50_3 t3
 cases e0;cases e1;cases e2;cases e3
 simp only [Lit.wf,Bool.and_eq_true,decide_eq_true_eq] at w0
 simp only [Lit.wf,Bool.and_eq_true,decide_eq_true_eq] at w1
 simp only [Lit.wf,Bool.and_eq_true,decide_eq_true_eq] at w2
 simp only [Lit.wf,Bool.and_eq_true,decide_eq_true_eq] at w3
 exact ⟨⟨n0,n1,n2,n3⟩,c0,w0.1,w0.2,c1,w1.1,w1.2,c2,w2.1,w2.2,c3,w3.1,w3.2⟩
theorem Pcs_in {W:World} {base:Nat} {v:Value} {d:DataW H} {p:List MemPlace} {r:Reach} {b0:Nat} (hok:Value.okWide Tryz.prog W r b0 46 v)
  (h:DataW.Trod enc Tryz.prog W base (fun _=>true) true 46 v d p) (i:Nat) :
  ∃ (it:ArgIt) (lv:AV) (L:List Pc),(∀ l1 l2:List ArgIt,l1.length=i->VR (argP (l1++it::l2)) lv v/\Pcs (argH (l1++it::l2)) lv L)/\(∀ ρ,ArgOk W ρ it)/\(∀ i,i<L.length->(Ci L i).Rng):=by
 obtain ⟨a0,len,cap,rfl⟩:=okWide_slice us46 hok
 obtain ⟨n,hn⟩:=h
 have hn:DataW.trod enc Tryz.prog W base (fun _=>true) true n 46 [.slice a0 len cap]=some (d,p):=hn
 have hat:∀ (l1 l2:List ArgIt) (it:ArgIt),l1.length=i->(l1++it::l2)[i]?=some it:=fun l1 l2 it hl=>by subst hl;simp
 rcases open_slice us46 hn with ⟨e1,_⟩|⟨a,len',cap',m,n',D,Pl,e1,_,hle,_,hm,_,hi⟩
 ·cases e1
  exact ⟨⟨none,⟨0,0,0⟩⟩,.slice none 0 0 none,[],fun l1 l2 _=>⟨⟨rfl,rfl,rfl,rfl⟩,rfl,none,0,none,rfl,fun _=>rfl,(fun _ _ e=>by cases e)⟩,(fun _ _ e=>by cases e),(fun _ h=>absurd h (Nat.not_lt_zero _))⟩
 ·cases e1
  have hm:m=cap:=hm
  subst hm
  by_cases h0:m=0
  ·subst h0
   obtain rfl:len=0:=by omega
   refine ⟨⟨none,⟨0,0,0⟩⟩,.slice (some (i,0)) 0 0 none,[],fun l1 l2 hl=>⟨⟨⟨0,0,0⟩,a,0,?_,rfl,Nat.le_refl _,Nat.le_refl _,fun _=>rfl,(fun _ e=>by cases e),fun h=>absurd rfl h⟩,rfl,some (i,0),0,none,rfl,(fun e=>by cases e),fun b o e=>?_⟩,(fun _ _ e=>by cases e),(fun _ h=>absurd h (Nat.not_lt_zero _))⟩
   ·unfold argP;rw [hat l1 l2 _ hl];rfl
   ·cases e;exact ⟨args_lt (hat l1 l2 _ hl),fun h=>absurd h (Nat.lt_irrefl 0)⟩
  ·rw [ce50] at hi
   obtain ⟨L,hL,hLi⟩:=exists_list (Pr:=PcAt W a) len fun j hj=>by
    obtain ⟨cs',hc,ht⟩:=hi j (by omega)
    exact Pc_in hc ht
   obtain ⟨x0,h00⟩:=(fun ⟨cs',hc,ht⟩=>Pc_in hc ht:_->∃ x,PcAt W a 0 x) (hi 0 (by omega))
   obtain ⟨pc0,pa0,pb0,pc1,pa1,pb1,pc2,pa2,pb2,pc3,pa3,pb3⟩:=h00
   obtain ⟨blk,off,spot⟩:=a
   have hadd:∀ j,(⟨blk,off,spot⟩:Addr).add j=if j=0 then ⟨blk,off,spot⟩ else ⟨blk,off+j,none⟩:=fun j=>rfl
   rw [Nat.zero_mul,hadd,if_pos rfl] at pc0
   have hex:∃ c e fz,W.heap[blk]?=some (.cells c e fz)/\spot=none:=by
    unfold World.cell? at pc0
    cases hh:W.heap[blk]? with
    | none=>rw [hh] at pc0;cases pc0
    | some ob =>
     rw [hh] at pc0
     cases ob with
     | cells c e fz =>
      cases spot with
      | none=>exact ⟨c,e,fz,rfl,rfl⟩
      | some k=>cases pc0
     | _=>cases pc0
   obtain ⟨c,e',fz,hblk,rfl⟩:=hex
   have hcell:∀ j w,W.cell? ((⟨blk,off,none⟩:Addr).add j)=some w->c[off+j]?=some w:=fun j w hw=>by
    rw [hadd] at hw
    split at hw
    ·rename_i e0;subst e0;rw [cell_of_heap hblk] at hw;exact hw
    ·rw [cell_of_heap hblk] at hw;exact hw
   obtain ⟨xl,hl0⟩:=(fun ⟨cs',hc,ht⟩=>Pc_in hc ht:_->∃ x,PcAt W ⟨blk,off,none⟩ (m - 1) x) (hi (m - 1) (by omega))
   obtain ⟨lc0,la0,lb0,lc1,la1,lb1,lc2,la2,lb2,lc3,la3,lb3⟩:=hl0
   have hsz:off+m*4<=c.size:=by
    have:=(Array.getElem?_eq_some_iff.1 (hcell _ _ lc3)).1
    omega
   have hLv:∀ j (hj:j<L.length),PcAt W ⟨blk,off,none⟩ j L[j]:=fun j hj=>by
    obtain ⟨x,hx,hp⟩:=hLi j (by omega)
    rw [List.getElem?_eq_getElem hj] at hx
    rw [Option.some.inj hx];exact hp
   refine ⟨⟨some (csC L),⟨blk,off,c.size⟩⟩,.slice (some (i,0)) len m none,L,fun l1 l2 hl=>⟨⟨⟨blk,off,c.size⟩,⟨blk,off,none⟩,m,?_,rfl,hle,Nat.le_refl _,fun _=>rfl,(fun _ e=>by cases e),fun _=>rfl⟩,?_⟩,?_,?_⟩
   ·unfold argP;rw [hat l1 l2 _ hl];rfl
   ·refine ⟨csC_len L,some (i,0),m,none,by rw [hL],(fun e=>by cases e),fun b o e=>?_⟩
    cases e
    refine ⟨args_lt (hat l1 l2 _ hl),fun _=>?_⟩
    rw [(args_Rw (hat l1 l2 _ hl)).ld (by rw [csC_len];omega),List.drop_zero,List.take_of_length_le (by rw [csC_len];omega)]
   ·intro ρ xs hcs
    cases hcs
    refine ⟨c,e',fz,hblk,rfl,by rw [csC_len,hL];exact Nat.le_trans (Nat.add_le_add_left (Nat.mul_le_mul_right 4 hle) _) hsz,fun j w hw=>?_⟩
    have hjl:j<L.length*4:=by have:=(List.getElem?_eq_some_iff.1 hw).1;rw [csC_len] at this;exact this
    have hq:j / 4<L.length:=by omega
    have hjk:j=j / 4*4+j%4:=by omega
    obtain ⟨qc0,qa0,qb0,qc1,qa1,qb1,qc2,qa2,qb2,qc3,qa3,qb3⟩:=hLv (j / 4) hq
    rw [hjk,csC_get L (j / 4) hq (j%4) (Nat.mod_lt _ (by omega))] at hw
    have hr:j%4=0∨j%4=1∨j%4=2∨j%4=3:=by omega
    rcases hr with hr | hr | hr | hr
    ·rw [hr] at hw;cases hw
     have h5:=hcell _ _ qc0
     rw [show j / 4*4=j by omega] at h5
     exact ⟨rfl,_,h5,rfl⟩
    ·rw [hr] at hw;cases hw
     have h5:=hcell _ _ qc1
     rw [show j / 4*4+1=j by omega] at h5
     exact ⟨rfl,_,h5,rfl⟩
    ·rw [hr] at hw;cases hw
     have h5:=hcell _ _ qc2
     rw [show j / 4*4+2=j by omega] at h5
     exact ⟨rfl,_,h5,rfl⟩
    ·rw [hr] at hw;cases hw
     have h5:=hcell _ _ qc3
     rw [show j / 4*4+3=j by omega] at h5
     exact ⟨rfl,_,h5,rfl⟩
   ·intro j hj
    rw [Ci_at hj]
    obtain ⟨qc0,qa0,qb0,qc1,qa1,qb1,qc2,qa2,qb2,qc3,qa3,qb3⟩:=hLv j hj
    exact ⟨qa0,qb0,qa1,qb1,qa2,qb2,qa3,qb3⟩
end
end Go.Proofs.YtboobbebilegnaaGreat
namespace Go.Proofs.YtboobbebilegnaaGreat
open Go.ChangeShapes Go.WideShapes Go.RowKit Go.Shelf
def layRepeat_ren:Go.Shelf.Ren:=⟨fun | 105=>34 | 212=>87 | 99=>88 | 165=>89 | 166=>79 | 170=>80 | 169=>81 | 263=>137 | 264=>138 | 206=>139 | 240=>134 | 241=>140 | 276=>159 | 277=>162 | n=>n,fun | 9=>9 | 3=>3 | 4=>4 | 20=>20 | 0=>0 | 46=>154 | 109=>155 | 5=>5 | 72=>146 | 76=>149 | 51=>48 | 146=>220 | 53=>185 | 148=>222 | 70=>144 | 37=>42 | 75=>148 | 127=>219 | 164=>239 | 80=>151 | n=>n,fun | n=>n⟩
theorem layRepeat:Go.Proofs.Lays.n105 Tryz.prog layRepeat_ren:={
 mixed:=by kernel_rfl,
 f99:=Tryz.func88.trans (congrArg some (by kernel_rfl)),
 f105:=Tryz.func34.trans (congrArg some (by kernel_rfl)),
 f165:=Tryz.func89.trans (congrArg some (by kernel_rfl)),
 f166:=Tryz.func79.trans (congrArg some (by kernel_rfl)),
 f169:=Tryz.func81.trans (congrArg some (by kernel_rfl)),
 f170:=Tryz.func80.trans (congrArg some (by kernel_rfl)),
 f206:=Tryz.func139.trans (congrArg some (by kernel_rfl)),
 f212:=Tryz.func87.trans (congrArg some (by kernel_rfl)),
 f240:=Tryz.func134.trans (congrArg some (by kernel_rfl)),
 f241:=Tryz.func140.trans (congrArg some (by kernel_rfl)),
 f263:=Tryz.func137.trans (congrArg some (by kernel_rfl)),
 f264:=Tryz.func138.trans (congrArg some (by kernel_rfl)),
 f276:=Tryz.func159.trans (congrArg some (by kernel_rfl)),
 f277:=Tryz.func162.trans (congrArg some (by kernel_rfl)),
 t0:=Tryz.underlying0,
 a0:=Tryz.isAgg0,
 z0:=Tryz.sizeOf0,
 v0:=Tryz.zeroValue0,
 t3:=Tryz.underlying3,
 a3:=Tryz.isAgg3,
 z3:=Tryz.sizeOf3,
 v3:=Tryz.zeroValue3,
 t4:=Tryz.underlying4,
 a4:=Tryz.isAgg4,
 z4:=Tryz.sizeOf4,
 v4:=Tryz.zeroValue4,
 t5:=Tryz.underlying5,
 a5:=Tryz.isAgg5,
 z5:=Tryz.sizeOf5,
 v5:=Tryz.zeroValue5,
 t9:=Tryz.underlying9,
 a9:=Tryz.isAgg9,
 z9:=Tryz.sizeOf9,
 v9:=Tryz.zeroValue9,
 t20:=Tryz.underlying20,
 a20:=Tryz.isAgg20,
 z20:=Tryz.sizeOf20,
 v20:=Tryz.zeroValue20,
 t37:=Tryz.underlying42,
 a37:=Tryz.isAgg42,
 z37:=Tryz.sizeOf42,
 v37:=Tryz.zeroValue42,
 t46:=Tryz.underlying154,
 a46:=Tryz.isAgg154,
 z46:=Tryz.sizeOf154,
 v46:=Tryz.zeroValue154,
 t51:=Tryz.underlying48,
 a51:=Tryz.isAgg48,
 z51:=Tryz.sizeOf48,
 v51:=Tryz.zeroValue48,
 t53:=Tryz.underlying185,
 a53:=Tryz.isAgg185,
 z53:=Tryz.sizeOf185,
 v53:=Tryz.zeroValue185,
 t70:=Tryz.underlying144,
 a70:=Tryz.isAgg144,
 z70:=Tryz.sizeOf144,
 v70:=Tryz.zeroValue144,
 t72:=Tryz.underlying146,
 a72:=Tryz.isAgg146,
 z72:=Tryz.sizeOf146,
 v72:=Tryz.zeroValue146,
 t75:=Tryz.underlying148,
 a75:=Tryz.isAgg148,
 z75:=Tryz.sizeOf148,
 v75:=Tryz.zeroValue148,
 t76:=Tryz.underlying149,
 a76:=Tryz.isAgg149,
 z76:=Tryz.sizeOf149,
 v76:=Tryz.zeroValue149,
 t109:=Tryz.underlying155,
 a109:=Tryz.isAgg155,
 z109:=Tryz.sizeOf155,
 v109:=Tryz.zeroValue155,
 t127:=Tryz.underlying219,
 a127:=Tryz.isAgg219,
 z127:=Tryz.sizeOf219,
 v127:=Tryz.zeroValue219,
 t146:=Tryz.underlying220,
 a146:=Tryz.isAgg220,
 z146:=Tryz.sizeOf220,
 v146:=Tryz.zeroValue220,
 t148:=Tryz.underlying222,
 a148:=Tryz.isAgg222,
 z148:=Tryz.sizeOf222,
 v148:=Tryz.zeroValue222,
 t164:=Tryz.underlying239,
 a164:=Tryz.isAgg239,
 z164:=Tryz.sizeOf239,
 v164:=Tryz.zeroValue239 }
theorem layExtra:Builder.Extra Tryz.prog layRepeat_ren where
 sizeBuilder:=by kernel_rfl
 liesBuilder:=by kernel_rfl
 t5:=layRepeat.t5
 a5:=layRepeat.a5
 z5:=layRepeat.z5
 v5:=layRepeat.v5
 infoByte:=by kernel_rfl
 cellsByte:=by kernel_rfl
 sizeByte:=by kernel_rfl
 neB5:=by decide
theorem repeatL_eq (l:List UInt8):∀ c,Lib.repeatL l c=(List.replicate c l).flatten
 | 0=>rfl
 | c+1=>by rw [List.replicate_succ,List.flatten_cons,← repeatL_eq l c];rfl
noncomputable section
def prA:Am.Prims:=suPrim.or (Am.repeatP 34)
theorem prA_ok:Am.PrimsOk Tryz.prog (Am.keepF Tryz.prog) prA:=Am.Prims.or_ok suOk (Am.repeatP_ok (rl:=Lib.repeatL) repeatL_eq ⟨_,_,Tryz.func34,rfl⟩ fun s c w h1 h2=>Any.strings_Repeat layRepeat layExtra s c w h1 h2)
theorem awakeQ:Am.says (Am.callNF Tryz.prog (Am.keepF Tryz.prog) prA 100000 300 (.fn 8) [] ⟨.leaf,0⟩) (.bool true)=true:=by kernel_rfl
theorem awP_ok:Am.PrimsOk Tryz.prog (Am.keepF Tryz.prog) (Am.pureP 8 [] (.bool true)):=Am.pureP_ok mixed namesQ prA_ok rfl awakeQ
end
end Go.Proofs.YtboobbebilegnaaGreat

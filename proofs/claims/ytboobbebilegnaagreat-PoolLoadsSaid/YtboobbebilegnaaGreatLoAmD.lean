/- A part of the proof of the law PoolLoads. -/
import Derived.Test.YtboobbebilegnaaGreatLoAmC
import Derived.Below
import Derived.Maps.RangeRun
set_option linter.unusedVariables false
set_option linter.unusedSimpArgs false
set_option linter.constructorNameAsVariable false
set_option linter.defProp false
set_option maxRecDepth 20000

namespace Go.Am
section
variable {c:DC} {ro:Option Nat} {Q:Exit->Act->World->Prop}
theorem filter_len_le {α : Type} {p q:α->Bool}:∀ {l:List α},(∀ x∈l,p x=true->q x=true)->(l.filter p).length<=(l.filter q).length
 | [],_=>Nat.le_refl _
 | x::l,h=>by
  have ih:=filter_len_le (l:=l) fun y hy=>h y (List.mem_cons_of_mem _ hy)
  simp only [List.filter_cons]
  cases hp:p x with
  | true=>rw [h x (List.mem_cons_self ..) hp];simp;exact ih
  | false=>cases hq:q x <;> simp <;> omega
theorem filter_len_lt {α : Type} {p q:α->Bool}:∀ {l:List α} {x:α},x∈l->p x=false->q x=true->(∀ x∈l,p x=true->q x=true)->(l.filter p).length<(l.filter q).length
 | y::l,x,hx,hp,hq,h=>by
  have ih:=filter_len_le (l:=l) fun y hy=>h y (List.mem_cons_of_mem _ hy)
  simp only [List.filter_cons]
  rcases List.mem_cons.1 hx with e | hx
  ·subst e
   rw [hp,hq];simp;omega
  ·have ih2:=filter_len_lt hx hp hq fun y hy=>h y (List.mem_cons_of_mem _ hy)
   cases hp2:p y with
   | true=>rw [h y (List.mem_cons_self ..) hp2];simp;exact ih2
   | false=>cases hq2:q y <;> simp <;> omega
theorem getD_both {l:Array Bool} {j:Nat} (h:j<l.size) (x y:Bool):l.getD j x=l.getD j y:=by simp [Array.getD_eq_getD_getElem?,h]
theorem getD_set {l:Array Bool} {i j:Nat} (hi:i<l.size):((l.setIfInBounds i true).getD j false=true)↔(l.getD j false=true∨j=i):=by
 simp only [Array.getD_eq_getD_getElem?,Array.getElem?_setIfInBounds]
 by_cases e:i=j
 ·subst e;simp [hi]
 ·rw [if_neg e]
  constructor
  ·exact .inl
  ·rintro (h | h)
   ·exact h
   ·exact absurd h.symm e
theorem draw_any (k:DOk c) (hq:∀ S done rest h ρ a w,DI c S done rest h ρ a w->(∀ j,j<c.ops.size->S j)->Q .normal a w) :
  ∀ (fuel:Nat) (listed:Array Bool) (done:List Nat) (rest:List (Nat×GIns)) (h:Heap) (ρ : Pls) (a:Act) (w:World),listed.size=c.ops.size->DI c (fun j=>listed.getD j false=true) done rest h ρ a w ->
   ((List.range c.ops.size).filter fun i=>!listed.getD i true).length<=fuel->wpAnyIn (fen ro) 0 c.P .any c.ops Q fuel listed a w:=by
 have stop:∀ (listed:Array Bool) (done:List Nat) (rest:List (Nat×GIns)) (h:Heap) (ρ : Pls) (a:Act) (w:World),listed.size=c.ops.size->DI c (fun j=>listed.getD j false=true) done rest h ρ a w->Region.ready .any c.ops listed=[]->Q .normal a w:=by
  intro listed done rest h ρ a w hsz d hr
  refine hq _ done rest h ρ a w d fun j=>?_
  induction j using Nat.strongRecOn with
  | _ j ih =>
   intro hj
   cases hl:listed.getD j false with
   | true=>rfl
   | false =>
    obtain ⟨o,ho⟩:∃ o,c.ops[j]?=some o:=⟨_,Array.getElem?_eq_getElem hj⟩
    have:j∈Region.ready .any c.ops listed:=mem_ready.2 ⟨by rw [getD_both (by omega) true false];exact hl,o,ho,fun e he hb=>ih e.on (k.graph.back j o ho e he hb) (by have:=k.graph.back j o ho e he hb;omega)⟩
    rw [hr] at this;cases this
 intro fuel
 induction fuel with
 | zero =>
  intro listed done rest h ρ a w hsz d hf
  have hnil:Region.ready .any c.ops listed=[]:=by
   cases hr:Region.ready .any c.ops listed with
   | nil=>rfl
   | cons i r =>
    have hi:i∈Region.ready .any c.ops listed:=by rw [hr];exact List.mem_cons_self ..
    obtain ⟨h1,o,ho,_⟩:=mem_ready.1 hi
    have hlt:i<c.ops.size:=(Array.getElem?_eq_some_iff.1 ho).1
    have hm:i∈((List.range c.ops.size).filter fun i=>!listed.getD i true):=List.mem_filter.2 ⟨List.mem_range.2 hlt,by rw [h1];rfl⟩
    have:=List.length_pos_of_mem hm
    omega
  exact ⟨hnil,stop listed done rest h ρ a w hsz d hnil⟩
 | succ fuel ih =>
  intro listed done rest h ρ a w hsz d hf
  refine ⟨stop listed done rest h ρ a w hsz d,fun i hi=>?_⟩
  obtain ⟨h1,o,ho,hpre⟩:=mem_ready.1 hi
  have hlt:i<c.ops.size:=(Array.getElem?_eq_some_iff.1 ho).1
  have hS:¬(listed.getD i false=true):=by rw [getD_both (by omega) false true,h1];simp
  have hready:∀ j,bef c.b i j=true->listed.getD j false=true:=by
   intro j hj
   obtain ⟨o',ho',e,he,hb,h2⟩:=before_spec (fun o ho=>k.graph.back i o ho) hj
   rw [ho] at ho';cases ho'
   rcases h2 with rfl | h2
   ·exact hpre e he hb
   ·exact d.down _ _ (hpre e he hb) h2
  have hgood:=k.good i hlt
  have henv:=env_ok k d hS hready ho
  
  have next:∀ {done':List Nat} {rest':List (Nat×GIns)} {h':Heap} {ρ':Pls} {a':Act} {w':World},DI c (fun j=>listed.getD j false=true∨j=i) done' rest' h' ρ' a' w'->wpAnyIn (fen ro) 0 c.P .any c.ops Q fuel (listed.setIfInBounds i true) a' w':=by
   intro done' rest' h' ρ' a' w' d'
   have hS':(fun j=>(listed.setIfInBounds i true).getD j false=true)=(fun j=>listed.getD j false=true∨j=i):=funext fun j=>propext (getD_set (by omega))
   refine ih _ done' rest' h' ρ' a' w' (by simp [hsz]) (by rw [hS'];exact d') ?_
   have hlt2:((List.range c.ops.size).filter fun j=>!(listed.setIfInBounds i true).getD j true).length<((List.range c.ops.size).filter fun i=>!listed.getD i true).length:=by
    refine filter_len_lt (x:=i) (List.mem_range.2 hlt) ?_ (by rw [h1];rfl) fun j hj hp=>?_
    ·rw [getD_both (by simp;omega) true false,(getD_set (by omega)).2 (.inr rfl)];rfl
    ·have hjl:j<listed.size:=by have:=List.mem_range.1 hj;omega
     cases hlj:listed.getD j true with
     | false=>rfl
     | true =>
      rw [getD_both (by simp;omega) true false,(getD_set (by omega)).2 (.inl (by rw [getD_both hjl false true];exact hlj))] at hp
      cases hp
   omega
  by_cases heff:(c.f i).i.eff=true
  ·obtain ⟨xs,hrest⟩:=d.head k hlt hS hready heff
   subst hrest
   obtain ⟨hm,u,h',hst,hu,hev,hrun⟩:=d.run
   obtain ⟨l1,l2,l3⟩:=d.lay hst (d.due hready)
   refine act_step (h:=hm) k.names k.calls l1 hgood ho henv (Nat.le_refl _) hev (fun ρ' v w' hv hp=>next (d.act k hlt hS hready ho heff l2 l3 (d.layW hst (d.due hready)) hu hrun hv hp))
  ·have heff:(c.f i).i.eff=false:=by simpa using heff
   by_cases hal:(c.f i).i.allocs=true
   ·have hrd:(c.f i).i.reads=false:=by
     cases hx:(c.f i).i with
     | al f xs=>rfl
     | _=>rw [hx] at hal;cases hal
    obtain ⟨u,hu,hqt⟩:=k.still i hlt heff hrd
    refine alloc_step d.hr hgood ho henv hal (hqt h) (d.free i hlt hS) (fun hb v hv=>?_) (fun y v w' ob' sz hb hos hout hheap hbr hv=>?_)
    ·exact next (d.quiet k hlt hS hready ho heff (fun y e=>by rw [show (c.f i).blk c.vsF c.tm=some none from hb] at e;cases e) (fun u' hu'=>by rw [hu] at hu';cases hu';exact hv))
    ·exact next (d.alloc k hlt hS hready ho heff hb hos hout hheap hbr (fun u' hu'=>by rw [hu] at hu';cases hu';exact hv))
   ·have hal:(c.f i).i.allocs=false:=by simpa using hal
    have hqt:∃ u hx,c.vsF.gt i=some u/\HR c.P c.keep ρ hx w/\(c.f i).quiet c.vsF c.tm (c.h0.next+i) hx=some u:=by
     cases hrd:(c.f i).i.reads with
     | false=>obtain ⟨u,hu,hqt⟩:=k.still i hlt heff hrd;exact ⟨u,h,hu,d.hr,hqt h⟩
     | true =>
      obtain ⟨hm,hst⟩:=d.run.get
      obtain ⟨u,hu,hq⟩:=hst.1 (i,c.f i) (mem_gs.2 ⟨hlt,rfl⟩) heff (lo_le d hready) (le_hi d hS) (.inl hrd)
      obtain ⟨hx,h2,h3⟩:=ob_some.1 hq
      have hown:∀ {x},x∈ownAt c.b c.gs c.es done.length (i,c.f i)->x.1<c.ops.size/\x.2=c.f x.1/\listed.getD x.1 false=true/\done.length<=hiOf c.b c.es x.1:=by
       intro x hx
       unfold ownAt at hx
       rw [hrd] at hx
       have hx:x∈c.gs.filter fun y=>y.2.i.allocs&&bef c.b i y.1&&decide (done.length<=hiOf c.b c.es y.1):=hx
       simp only [List.mem_filter,Bool.and_eq_true,decide_eq_true_eq] at hx
       obtain ⟨q1,⟨_,q2⟩,q3⟩:=hx
       obtain ⟨q4,q5⟩:=mem_gs.1 q1
       exact ⟨q4,q5,hready _ q2,q3⟩
      have hpw:(ownAt c.b c.gs c.es done.length (i,c.f i)).Pairwise (fun x y=>x.1≠y.1):=by
       unfold ownAt
       rw [hrd]
       exact (gs_pairwise c).filter _
      obtain ⟨g1,_,_⟩:=mats_lay h2 d.hr hpw (fun x hx y hy=>by
        obtain ⟨q1,q2,q3,q4⟩:=hown hx
        rw [q2] at hy
        obtain ⟨p,r1,r2,_,_,r3⟩:=d.pend x.1 y q1 q3 q4 hy
        exact ⟨p,r1,r2,r3⟩)
       (fun x hx y hy hne p q hp hq=>d.sep x.1 y.1 p q (hown hx).1 (hown hy).1 hne hp hq)
      exact ⟨u,hx,hu,g1,h3⟩
    obtain ⟨u,hx,hu,hhx,hqt⟩:=hqt
    refine quiet_step hhx hgood ho henv hal hqt (fun v hv=>?_)
    refine next (d.quiet k hlt hS hready ho heff (fun y e=>?_) (fun u' hu'=>by rw [hu] at hu';cases hu';exact hv))
    cases hx:(c.f i).i with
    | al f xs=>rw [hx] at hal;cases hal
    | _=>unfold GIns.blk at e;rw [hx] at e;cases e
end
end Go.Am
namespace Go.Am
section
variable {P:Program} {keep:Keeps} {w:World} {ρ : Pls} {h:Heap}
theorem outsOf_mem {kp:Nat->Bool} {t k':Nat}:∀ {ds:List (Option Nat)} {k:Nat} {seen:List Nat},(t,k')∈outsOf kp k ds seen ->
  t∉seen/\kp t=true/\k<=k'/\ds[k' - k]?=some (some t)/\∀ m,m<k' - k->ds[m]?≠some (some t)
 | [],k,seen,h=>by cases h
 | d::ds,k,seen,h=>by
  have skip:∀ {seen':List Nat},(t,k')∈outsOf kp (k+1) ds seen'->t∉seen->(∀ s,s∈seen->s∈seen')->d≠some t->t∉seen/\kp t=true/\k<=k'/\(d::ds)[k' - k]?=some (some t)/\∀ m,m<k' - k->(d::ds)[m]?≠some (some t):=by
   intro seen' h hs hsub hd
   obtain ⟨h1,h2,h3,h4,h5⟩:=outsOf_mem h
   refine ⟨hs,h2,by omega,?_,fun m hm=>?_⟩
   ·rw [show k' - k=(k' - (k+1))+1 by omega];simpa using h4
   ·cases m with
    | zero=>simpa using hd
    | succ m=>simpa using h5 m (by omega)
  simp only [outsOf] at h
  cases d with
  | none =>
   simp only at h
   exact skip h (outsOf_mem h).1 (fun s hs=>hs) (by intro e;cases e)
  | some s =>
   simp only at h
   split at h
   ·rename_i hc
    simp only [Bool.and_eq_true,Bool.not_eq_true',List.contains_eq_mem,decide_eq_false_iff_not] at hc
    rcases List.mem_cons.1 h with e | h
    ·cases e
     exact ⟨hc.2,hc.1,Nat.le_refl _,by simp,fun m hm=>by omega⟩
    ·have h1:=(outsOf_mem h).1
     simp only [List.mem_cons,not_or] at h1
     exact skip h h1.2 (fun s hs=>List.mem_cons_of_mem _ hs) (by intro e;cases e;exact h1.1 rfl)
   ·rename_i hc
    have h1:=outsOf_mem h
    refine skip h h1.1 (fun s hs=>hs) (fun e=>?_)
    cases e
    simp only [Bool.and_eq_true,Bool.not_eq_true',List.contains_eq_mem,decide_eq_false_iff_not,not_and,Decidable.not_not] at hc
    exact h1.1 (hc h1.2.1)
theorem outsOf_has {kp:Nat->Bool} {t:Nat} (hk:kp t=true):∀ {ds:List (Option Nat)} {k:Nat} {seen:List Nat},some t∈ds->t∉seen->∃ k',(t,k')∈outsOf kp k ds seen
 | [],k,seen,h,_=>by cases h
 | d::ds,k,seen,h,hs=>by
  simp only [outsOf]
  cases d with
  | none =>
   rcases List.mem_cons.1 h with e | h
   ·cases e
   ·exact outsOf_has hk h hs
  | some s =>
   simp only
   by_cases e:s=t
   ·subst e
    rw [if_pos (by rw [hk];simpa using hs)]
    exact ⟨k,List.mem_cons_self ..⟩
   ·have h:some t∈ds:=by
     rcases List.mem_cons.1 h with e2 | h
     ·cases e2;exact absurd rfl e
     ·exact h
    split
    ·obtain ⟨k',h1⟩:=outsOf_has hk (k:=k+1) (seen:=s::seen) h (by simp only [List.mem_cons,not_or];exact ⟨fun h=>e h.symm,hs⟩)
     exact ⟨k',List.mem_cons_of_mem _ h1⟩
    ·exact outsOf_has hk h hs
theorem putOutsD_cons (x:Nat×Nat) (l:List (Nat×Nat)) (vs tm:Tr AV):putOutsD (x::l) vs tm=ob (vs.gt x.2) fun v=>putOutsD l vs (tm.up (some v) x.1):=rfl
theorem putOutsD_get:∀ {outs:List (Nat×Nat)} {vs tm tm':Tr AV},putOutsD outs vs tm=some tm' ->
  ∀ t,(∃ j v,(t,j)∈outs/\vs.gt j=some v/\tm'.gt t=some v)∨((∀ j,(t,j)∉outs)/\tm'.gt t=tm.gt t)
 | [],vs,tm,tm',h,t=>by cases h;exact .inr ⟨fun x hx=>(by cases hx),rfl⟩
 | o::os,vs,tm,tm',h,t=>by
  rw [putOutsD_cons] at h
  obtain ⟨v,h1,h2⟩:=ob_some.1 h
  rcases putOutsD_get h2 t with ⟨x,u,g1,g2,g3⟩|⟨g1,g2⟩
  ·exact .inl ⟨x,u,List.mem_cons_of_mem _ g1,g2,g3⟩
  ·rw [Tr.gt_up] at g2
   by_cases e:t=o.1
   ·rw [if_pos e] at g2
    exact .inl ⟨o.2,v,by rw [e];exact List.mem_cons_self ..,h1,g2⟩
   ·rw [if_neg e] at g2
    refine .inr ⟨fun x hx=>?_,g2⟩
    rcases List.mem_cons.1 hx with e2 | hx
    ·exact e (by rw [← e2])
    ·exact g1 x hx
theorem rev_get {ops:Array Oper} {m:Nat} (hm:m<ops.size):(ops.toList.reverse.map (·.dst))[m]?=some ((ops[ops.size - 1 - m]?).bind (·.dst)):=by
 rw [List.getElem?_map,List.getElem?_reverse (by simpa using hm)]
 rw [Array.length_toList,Array.getElem?_toList]
 have:ops.size - 1 - m<ops.size:=by omega
 rw [Array.getElem?_eq_getElem this]
 rfl
theorem draw_sound {call:CallFn} {kp:Nat->Bool} {nt id:Nat} {tm tm':Tr AV} {ops:Array Oper} {ro:Option Nat} {Q:Exit->Act->World->Prop} {a:Act} {ss:List Stage} {outs:List (Nat×Nat)} {r:Tr AV×Heap}
  (hm:P.follows .mixedOrders=true) (hn:NamesOk P) (hc:CallOk P keep call) (hr:HR P keep ρ h w) (ht:TR kp nt ρ tm a.tmps) (hcomp:compD P kp nt ops=some (ss,outs))
  (hrun:runStages h.next tm call ss .leaf ⟨h.bs,h.next+ops.size⟩=some r) (hout:putOutsD outs r.1 tm=some tm')
  (hq:∀ ρ' a' w',TR kp nt ρ' tm' a'.tmps->a'.defers=a.defers->Post P keep ρ h w ρ' r.2 w'->Q .normal a' w'):(Code.region id ops true).wpIn (fen ro) 0 P Q a w:=by
 refine wpIn_region_any hm ?_
 unfold compD at hcomp
 simp only at hcomp
 split at hcomp
 ·rename_i hchk
  simp only [Option.some.injEq,Prod.mk.injEq] at hcomp
  obtain ⟨rfl,rfl⟩:=hcomp
  simp only [Bool.and_eq_true] at hchk
  obtain ⟨⟨⟨k1,k2⟩,k3⟩,k4⟩:=hchk
  obtain ⟨vsF,hF⟩:=r
  let w0:World:={ w with drawn:=w.drawn+1 }
  let c:DC:=⟨P,keep,kp,nt,ops,call,tm,vsF,hF,ρ,h,w0,a⟩
  have hr0:HR P keep ρ h w0:=hr.frame fun _ _ _ _ _ _=>rfl
  have hgraph:GraphOk ops:=graph_ok k1 k3
  have hp:=gs_pairwise c
  have hact:∀ x∈c.gs.filter (fun x=>x.2.i.eff),x∈c.gs/\x.2.i.eff=true:=fun x hx=>by simpa using List.mem_filter.1 hx
  obtain ⟨_,hR⟩:=stages_run (b:=c.b) (es:=c.es) hp (show runStages h.next tm call (stagesOf c.b c.gs c.es 0 (c.gs.filter fun x=>x.2.i.eff)) .leaf ⟨h.bs,h.next+ops.size⟩=some (vsF,hF) from hrun) hact (hp.filter _) (fun _ _ _=>rfl)
  have hlen:c.es.length=(c.gs.filter fun x=>x.2.i.eff).length:=by unfold DC.es;rw [List.length_map]
  have k:DOk c:=by
   refine ⟨hgraph,k2,fun i hi=>?_,hn,hc,fun i hi he hrd=>?_,ht⟩
   ·rw [List.all_eq_true] at k4
    have:=k4 (i,c.f i) (mem_gs (c:=c) |>.2 ⟨hi,rfl⟩)
    simpa using this
   ·refine hR.all (i,c.f i) (mem_gs.2 ⟨hi,rfl⟩) he hrd (Nat.zero_le _) ?_ ?_
    ·rw [Nat.zero_add,← hlen]
     exact List.length_filter_le _ _
    ·refine filter_len_le fun e _ hb=>?_
     cases hb2:bef c.b e i with
     | false=>rfl
     | true =>
      have h1:=bef_lt hgraph _ _ hb
      have h2:=bef_lt hgraph _ _ hb2
      omega
  have hS0:∀ j,¬((Array.replicate ops.size false).getD j false=true):=by
   intro j
   rw [Array.getD_eq_getD_getElem?,Array.getElem?_replicate]
   split <;> simp
  have hfree:∀ i,ρ (h.next+i)=none:=fun i=>(hr.fresh (by omega)).1
  have d0:DI c (fun j=>(Array.replicate ops.size false).getD j false=true) [] (c.gs.filter fun x=>x.2.i.eff) ⟨h.bs,h.next+ops.size⟩ ρ a w0:=by
   refine { run:=hR,split:=rfl,doneS:=fun e he=>(by cases he),restS:=fun x _=>hS0 _,restG:=fun x hx=>(mem_gs.1 (hact x hx).1).2,down:=fun i j hs=>absurd hs (hS0 i),hr:=?_,hn:=Nat.le_refl _,le:=Pls.le_refl _,fr:=⟨rfl,rfl,Nat.le_refl _,fun _ _ _=>rfl⟩,own:=fun _ _ ho=>ho,ownW:=fun _ _ ho=>ho,new:=fun _ _ hb _=>hb,size:=rfl,defers:=rfl,tm0:=fun _ _=>rfl,tm1:=fun j t v hj=>absurd hj (hS0 j),pend:=fun i y _ hs=>absurd hs (hS0 i),sep:=fun i i' p p' _ _ _ hp1=>?_,old:=fun i p _ hp1=>?_,free:=fun i _ _=>hfree i }
   ·exact ⟨fun b p hb=>Nat.lt_of_lt_of_le (hr0.dom b p hb) (Nat.le_add_right _ _),fun b x hb=>Nat.lt_of_lt_of_le (hr0.has b x hb) (Nat.le_add_right _ _),hr0.blk,hr0.inj⟩
   ·rw [show ρ (c.h0.next+i)=none from hfree i] at hp1;cases hp1
   ·rw [show ρ (c.h0.next+i)=none from hfree i] at hp1;cases hp1
  refine draw_any (c:=c) k (fun S done rest h' ρ' a' w' d hall=>?_) ops.size _ _ _ _ _ _ _ (by simp;rfl) d0 ?_
  ·have hpost:=d.finish hall
   refine hq ρ' a' w' ⟨by rw [d.size];exact ht.1,fun t v hk hv=>?_⟩ d.defers ⟨hpost.le,hpost.hr,⟨hpost.fr.os,hpost.fr.output,hpost.fr.size,hpost.fr.sameW⟩,hpost.own,hpost.next,hpost.new,hpost.ownW⟩
   have hin:∀ {j:Nat},c.dst j=some t->t<a'.tmps.size:=by
    intro j hd
    have hj:=dst_lt hd
    obtain ⟨o,ho,h1,_⟩:=compD1_ok (k.good j hj)
    rw [dst_eq ho] at hd
    rw [hd] at h1
    rw [d.size]
    exact Nat.lt_of_lt_of_le (okDst_lt h1) ht.1
   rcases putOutsD_get hout t with ⟨j,u,g1,g2,g3⟩|⟨g1,g2⟩
   ·rw [g3] at hv;cases hv
    obtain ⟨x,hx,he⟩:=List.mem_map.1 g1
    obtain ⟨t',k'⟩:=x
    simp only [Prod.mk.injEq] at he
    obtain ⟨rfl,rfl⟩:=he
    obtain ⟨_,_,_,h4,h5⟩:=outsOf_mem hx
    rw [Nat.sub_zero] at h4 h5
    have hk':k'<ops.size:=by
     have:=(List.getElem?_eq_some_iff.1 h4).1
     simpa using this
    rw [rev_get hk'] at h4
    have hd:c.dst (ops.size - 1 - k')=some t':=Option.some.inj h4
    refine ⟨_,getD_some (hin hd),d.tm1 _ t' v (hall _ (dst_lt hd)) hd (fun j' _ hd'=>?_) g2⟩
    have hj':=dst_lt hd'
    have hj':j'<ops.size:=hj'
    rcases Nat.lt_or_ge (ops.size - 1 - k') j' with h6 | h6
    ·have:=h5 (ops.size - 1 - j') (by omega)
     rw [rev_get (by omega),show ops.size - 1 - (ops.size - 1 - j')=j' by omega] at this
     exact absurd (congrArg some hd') this
    ·exact h6
   ·rw [g2] at hv
    obtain ⟨cv,h1,h2⟩:=ht.2 t v hk hv
    have hno:∀ j,S j->c.dst j≠some t:=by
     intro j _ hd
     have hj:j<ops.size:=dst_lt hd
     have hmem:some t∈ops.toList.reverse.map (·.dst):=by
      have:=rev_get (ops:=ops) (m:=ops.size - 1 - j) (by omega)
      rw [show ops.size - 1 - (ops.size - 1 - j)=j by omega] at this
      have:=List.mem_of_getElem? this
      rwa [show (ops[j]?).bind (·.dst)=some t from hd] at this
     obtain ⟨k',h3⟩:=outsOf_has hk (k:=0) hmem (by simp:t∉([]:List Nat))
     exact g1 _ (List.mem_map_of_mem (f:=fun x:Nat×Nat=>(x.1,ops.size - 1 - x.2)) h3)
    have e:=d.tm0 t hno
    have hlt:t<a'.tmps.size:=by rw [d.size];exact (Array.getElem?_eq_some_iff.1 h1).1
    refine ⟨_,getD_some hlt,?_⟩
    rw [e]
    show VR ρ' v (a.tmps.getD t undef)
    rw [Array.getD_eq_getD_getElem?,h1]
    exact h2.mono d.le
  ·exact Nat.le_trans (List.length_filter_le _ _) (by simp;exact Nat.le_refl _)
 ·cases hcomp
end
end Go.Am
namespace Go.Am
section
variable {P:Program} {keep:Keeps} {w w':World} {ρ ρ':Pls} {h h':Heap}
def DvR (ρ : Pls) (v:AV) (d:Deferred):Prop:=∃ (i:FuncId) (fa ca as:List AV) (cap:Array Value),
 v=.tuple (.func (.func i) fa ca::as)/\d.target=.fn (.func i) cap/\VRs ρ ca cap.toList/\VRs ρ (fa++as) d.args.toList
def DfR (ρ : Pls):List AV->List Deferred->Prop
 | l,[]=>l=[]
 | l,d::ds=>(∃ r,d.target=.collected r/\DfR ρ l ds)∨∃ v l',l=v::l'/\DvR ρ v d/\DfR ρ l' ds
theorem DvR.mono (hl:ρ.le ρ') {v:AV} {d:Deferred} (h:DvR ρ v d):DvR ρ' v d:=by
 obtain ⟨i,fa,ca,as,cap,h1,h2,h3,h4⟩:=h
 exact ⟨i,fa,ca,as,cap,h1,h2,h3.mono hl,h4.mono hl⟩
theorem DfR.mono (hl:ρ.le ρ'):∀ {ds:List Deferred} {l:List AV},DfR ρ l ds->DfR ρ' l ds
 | [],_,h=>h
 | _::_,_,.inl ⟨r,h1,h2⟩=>.inl ⟨r,h1,DfR.mono hl h2⟩
 | _::_,_,.inr ⟨v,l',h1,h2,h3⟩=>.inr ⟨v,l',h1,h2.mono hl,DfR.mono hl h3⟩
structure DP where
 base:Nat
 pd:Option (List Deferred)
def DefOk (n0:DP) (ρ : Pls) (h:Heap) (l:List AV) (ds:List Deferred) (w:World):Prop :=
 ((∀ d∈ds,∀ r,d.target=.collected r->n0.base<=r/\w.heap[r]?=some (.deferred (some []))/\¬Own ρ h r) /\
 ds.Pairwise fun d e=>∀ r s,d.target=.collected r->e.target=.collected s->r≠s)/\DfR ρ l ds/\∀ ds0,n0.pd=some ds0->ds=ds0
theorem DefOk.post {n0:DP} {l:List AV} {ds:List Deferred} (hd:DefOk n0 ρ h l ds w) (hp:Post P keep ρ h w ρ' h' w'):DefOk n0 ρ' h' l ds w':=by
 refine ⟨⟨fun d hm r h1=>?_,hd.1.2⟩,hd.2.1.mono hp.le,hd.2.2⟩
 obtain ⟨h2,h3,h4⟩:=hd.1.1 d hm r h1
 have hlt:=(Array.getElem?_eq_some_iff.1 h3).1
 exact ⟨h2,(hp.fr.same r hlt h4).trans h3,fun ho=>h4 (hp.own r hlt ho)⟩
theorem Post.grow (hr:HR P keep ρ h w) {o:Obj} (hos:w'.os=w.os) (hout:w'.output=w.output) (hheap:w'.heap=w.heap.push o):Post P keep ρ h w ρ h w':=by
 refine ⟨Pls.le_refl _,hr.frame fun b x p hx hd hp=>?_,⟨hos,hout,by rw [hheap];simp,fun k hk _=>?_⟩,fun _ _ h=>h,Nat.le_refl _,fun _ _ h _=>h,fun _ _ h=>h⟩
 ·obtain ⟨q,hq,hlt⟩:=(hr.blk b x hx).place hd
  rw [hp] at hq;cases hq
  rw [hheap,Array.getElem?_push,if_neg (by omega)]
 ·rw [hheap,Array.getElem?_push,if_neg (by omega)]
def RoR (ρ : Pls):Option Nat->Option Nat->Prop
 | none,m=>m=none
 | some l,m=>∃ p,ρ l=some p/\p.off=0/\m=some p.blk
theorem RoR.mono (hl:ρ.le ρ') {ro rom:Option Nat} (h:RoR ρ ro rom):RoR ρ' ro rom:=by
 cases ro with
 | none=>exact h
 | some l=>obtain ⟨p,h1,h2⟩:=h;exact ⟨p,hl _ _ h1,h2⟩
def exOf:Ex->Exit
 | .normal=>.normal
 | .ret=>.ret
 | .exit id=>.exit id
 | .goto l=>.goto l
def Goes (P:Program) (keep:Keeps) (f:FuncId) (n0:DP) (ρ : Pls) (h:Heap) (w:World) (e:Exit) (s':St) (Q:Exit->Act->World->Prop):Prop :=
 ∀ ρ' a' w',Post P keep ρ h w ρ' s'.hp w'->TR (keep f) (ntOf P f) ρ' s'.tm a'.tmps->DefOk n0 ρ' s'.hp (putOff s'.tm (ntOf P f)) a'.defers w'->Q e a' w'
def Does2 (P:Program) (keep:Keeps) (f:FuncId) (ro:Option Nat) (c:Code) (x:St->XR):Prop :=
 ∀ s r,x s=some r->∀ n0 ρ a w rom Q,RoR ρ ro rom->HR P keep ρ s.hp w->TR (keep f) (ntOf P f) ρ s.tm a.tmps->DefOk n0 ρ s.hp (putOff s.tm (ntOf P f)) a.defers w->n0.base<=w.heap.size->(n0.pd.isSome=true->plainC c=true)->Goes P keep f n0 ρ s.hp w (exOf r.1) r.2 Q ->
  c.wpIn (fen rom) 0 P Q a w
theorem Goes.after {f:FuncId} {n0:DP} {e:Exit} {s':St} {Q:Exit->Act->World->Prop} (hg:Goes P keep f n0 ρ h w e s' Q) (hp:Post P keep ρ h w ρ' h' w'):Goes P keep f n0 ρ' h' w' e s' Q :=
 fun ρ2 a2 w2 hp2 ht hd=>hg ρ2 a2 w2 (hp.trans hp2) ht hd
theorem cond_tmp {kp:Nat->Bool} {tm:Tr AV} {a:Act} {nt:Nat} (ht:TR kp nt ρ tm a.tmps):EnvOk (fun t=>if kp t then some (.tmp t) else none) [] .leaf tm ρ a:=by
 intro t x v hx hg
 simp only at hx
 split at hx
 ·rename_i hk
  cases hx
  obtain ⟨cv,h1,h2⟩:=ht.2 t v hk hg
  rw [Array.getD_eq_getD_getElem?,h1];exact h2
 ·cases hx
theorem jump_wp {c:Code} {e:Ex} {rom:Option Nat} {Q:Exit->Act->World->Prop} {a:Act} (hj:jumpEx c=some e) (hq:Q (exOf e) a w):c.wpIn (fen rom) 0 P Q a w:=by
 cases c with
 | ret=>cases hj;exact wpIn_ret hq
 | exit id=>cases hj;exact wpIn_exit hq
 | goto l=>cases hj;exact wpIn_goto hq
 | _=>cases hj
theorem run_getLoop {b:Nat} {L:Loop} (hh:w.heap[b]?=some (.loop L)):(Instr.getLoop b).run P w=.ok L w:=by
 simp [Instr.getLoop,getObj,Sem.run,hh]
theorem run_setLoop {b:Nat} {L:Loop} (hh:w.heap[b]?=some (.loop L)) (o:Obj):(setObj b o).run P w=.ok () { w with heap:=w.heap.setIfInBounds b o }:=by simp [setObj,Sem.run,hh]
theorem HR.setLoop (hr:HR P keep ρ h w) {l:Nat} {r r':LRec} {L L':Loop} (hb:h.bs.gt l=some (.loop r)) {p:Pl} (hp:ρ l=some p) (h0:p.off=0) (hh:w.heap[p.blk]?=some (.loop L)) (hl:LR P keep ρ r' L') :
  Post P keep ρ h w ρ (h.put l (.loop r')) { w with heap:=w.heap.setIfInBounds p.blk (.loop L') }:=by
 have hlt:=(Array.getElem?_eq_some_iff.1 hh).1
 refine hr.write hb rfl rfl hp rfl rfl (by simp) (fun k hk=>?_) ⟨p,L',hp,h0,?_,hl⟩
 ·show (w.heap.setIfInBounds p.blk _)[k]?=_
  rw [Array.getElem?_setIfInBounds,if_neg (fun e=>hk e.symm)]
 ·show (w.heap.setIfInBounds p.blk _)[p.blk]?=_
  rw [Array.getElem?_setIfInBounds,if_pos rfl,if_pos hlt]
end
end Go.Am
namespace Go.Am
section
variable {P:Program} {keep:Keeps} {call:CallFn} {lf:Nat} {f:FuncId} {ro:Option Nat}
theorem thenX_some {r:Ex×St} {g:St->XR} {q:Ex×St} (h:thenX r g=some q):(r.1=.normal/\g r.2=some q)∨(r.1≠.normal/\q=r):=by
 obtain ⟨e,s⟩:=r
 cases e with
 | normal=>exact .inl ⟨rfl,h⟩
 | ret=>cases h;exact .inr ⟨(by intro e;cases e),rfl⟩
 | exit id=>cases h;exact .inr ⟨(by intro e;cases e),rfl⟩
 | goto l=>cases h;exact .inr ⟨(by intro e;cases e),rfl⟩
theorem seq_sound {a b:Code} {ea eb:St->XR} (ha:Does2 P keep f ro a ea) (hb:Does2 P keep f ro b eb):Does2 P keep f ro (.seq a b) (fun s=>ob (ea s) fun r=>thenX r eb):=by
 intro s r hr n0 ρ act w rom Q hro hh ht hd hn hpl hg
 obtain ⟨q,h1,h2⟩:=ob_some.1 hr
 refine wpIn_seq (ha s q h1 n0 ρ act w rom _ hro hh ht hd hn (fun e=>by have:=hpl e;simp only [plainC,Bool.and_eq_true] at this;exact this.1) fun ρ' a' w' hp ht' hd'=>?_)
 rcases thenX_some h2 with ⟨e,h3⟩|⟨e,rfl⟩
 ·rw [e]
  exact hb q.2 r h3 n0 ρ' a' w' rom Q (hro.mono hp.le) hp.hr ht' hd' (Nat.le_trans hn hp.fr.size) (fun e=>by have:=hpl e;simp only [plainC,Bool.and_eq_true] at this;exact this.2) (hg.after hp)
 ·have:=hg ρ' a' w' hp ht' hd'
  cases hx:r.1 with
  | normal=>exact absurd hx e
  | ret=>rw [hx] at this;exact this
  | exit id=>rw [hx] at this;exact this
  | goto l=>rw [hx] at this;exact this
theorem block_sound {id:Nat} {a:Code} {ea:St->XR} (ha:Does2 P keep f ro a ea):Does2 P keep f ro (.block id a) (fun s=>ob (ea s) fun r=>inBlk id r):=by
 intro s r hr n0 ρ act w rom Q hro hh ht hd hn hpl hg
 obtain ⟨q,h1,h2⟩:=ob_some.1 hr
 refine wpIn_block (ha s q h1 n0 ρ act w rom _ hro hh ht hd hn (fun e=>hpl e) fun ρ' a' w' hp ht' hd'=>?_)
 obtain ⟨e,s'⟩:=q
 cases e with
 | normal=>cases h2;exact hg ρ' a' w' hp ht' hd'
 | ret=>cases h2;exact hg ρ' a' w' hp ht' hd'
 | goto l=>cases h2;exact hg ρ' a' w' hp ht' hd'
 | exit j =>
  have h2:(Bool.rec (motive:=fun _=>XR) (some (Ex.exit j,s')) (some (.normal,s')) (Nat.beq j id):XR)=some r:=h2
  show (Exit.inBlock id Q) (.exit j) a' w'
  by_cases e:j=id
  ·subst e
   rw [show Nat.beq j j=true from by simp] at h2
   cases h2
   simp only [Exit.inBlock,if_true]
   exact hg ρ' a' w' hp ht' hd'
  ·rw [show Nat.beq j id=false from by cases hb:Nat.beq j id with
    | false=>rfl
    | true=>exact absurd (Nat.eq_of_beq_eq_true hb) e] at h2
   cases h2
   simp only [Exit.inBlock,if_neg e]
   exact hg ρ' a' w' hp ht' hd'
theorem cond_sound {c:Operand} {x:Opd} {a b:Code} {ea eb:St->XR} (hc:Am.resolve (fun t=>if keep f t then some (.tmp t) else none) c=some x) (ha:Does2 P keep f ro a ea) (hb:Does2 P keep f ro b eb) :
  Does2 P keep f ro (.cond c a b) (fun s=>ob (x.get [] .leaf s.tm) fun v=>eBool (fun b=>Bool.rec (motive:=fun _=>XR) (eb s) (ea s) b) v):=by
 intro s r hr n0 ρ act w rom Q hro hh ht hd hn hpl hg
 obtain ⟨v,h1,h2⟩:=ob_some.1 hr
 obtain ⟨t,e,h3⟩:=eBool_some h2
 subst e
 have hv:=resolve_sound (cond_tmp ht) hc h1
 cases t with
 | true=>exact wpIn_cond_true hv (ha s r h3 n0 ρ act w rom Q hro hh ht hd hn (fun e=>by have:=hpl e;simp only [plainC,Bool.and_eq_true] at this;exact this.1) hg)
 | false=>exact wpIn_cond_false hv (hb s r h3 n0 ρ act w rom Q hro hh ht hd hn (fun e=>by have:=hpl e;simp only [plainC,Bool.and_eq_true] at this;exact this.2) hg)
theorem least {p:Nat->Prop} (h:∃ n,p n):∃ n,p n/\∀ m,p m->n<=m:=by
 obtain ⟨n,hn⟩:=h
 induction n using Nat.strongRecOn with
 | _ n ih =>
  by_cases hx:∃ m,m<n/\p m
  ·obtain ⟨m,h1,h2⟩:=hx
   exact ih m h1 h2
  ·refine ⟨n,hn,fun m hm=>?_⟩
   rcases Nat.lt_or_ge m n with h1 | h1
   ·exact absurd ⟨m,h1,hm⟩ hx
   ·exact h1
theorem loopN_succ (body:St->XR) (n:Nat) (s:St):loopN body (n+1) s=ob (body s) fun r=>Ex.rec (motive:=fun _=>XR) (loopN body n r.2) (some r) (fun _=>some r) (fun _=>some r) r.1:=rfl
theorem loop_sound {a:Code} {ea:St->XR} (ha:Does2 P keep f ro a ea):Does2 P keep f ro (.loop a) (fun s=>loopN ea lf s):=by
 intro s r hr n0 ρ act w rom Q hro hh ht hd hn hpl hg
 
 let I:Nat->Act->World->Prop:=fun n a w=>∃ s ρ,loopN ea n s=some r/\RoR ρ ro rom/\HR P keep ρ s.hp w/\TR (keep f) (ntOf P f) ρ s.tm a.tmps/\DefOk n0 ρ s.hp (putOff s.tm (ntOf P f)) a.defers w/\n0.base<=w.heap.size/\Goes P keep f n0 ρ s.hp w (exOf r.1) r.2 Q
 open Classical in
 let μ : Act->World->Nat:=fun a w=>if h:∃ n,I n a w then (least h).choose else 0
 have hμ : ∀ n a w,I n a w->μ a w<=n:=by
  intro n a w hI
  have hex:∃ n,I n a w:=⟨n,hI⟩
  simp only [μ,dif_pos hex]
  exact (least hex).choose_spec.2 n hI
 refine wpIn_loop (fun a w=>∃ n,I n a w) μ ⟨lf,s,ρ,hr,hro,hh,ht,hd,hn,hg⟩ (fun a w hex=>?_)
 obtain ⟨n,hn1,hn2⟩:∃ n,I n a w/\μ a w=n:=⟨_,by simp only [μ,dif_pos hex];exact (least hex).choose_spec.1,rfl⟩
 obtain ⟨s,ρ,h1,h2,h3,h4,h5,h6,h7⟩:=hn1
 cases n with
 | zero=>cases h1
 | succ n =>
  rw [loopN_succ] at h1
  obtain ⟨q,g1,g2⟩:=ob_some.1 h1
  refine ha s q g1 n0 ρ a w rom _ h2 h3 h4 h5 h6 (fun e=>hpl e) fun ρ' a' w' hp ht' hd'=>?_
  obtain ⟨e,s'⟩:=q
  cases e with
  | normal =>
   have hI:I n a' w':=⟨s',ρ',g2,h2.mono hp.le,hp.hr,ht',hd',Nat.le_trans h6 hp.fr.size,h7.after hp⟩
   refine ⟨⟨n,hI⟩,?_⟩
   have:=hμ n a' w' hI
   omega
  | ret=>cases g2;exact h7 ρ' a' w' hp ht' hd'
  | exit j=>cases g2;exact h7 ρ' a' w' hp ht' hd'
  | goto j=>cases g2;exact h7 ρ' a' w' hp ht' hd'
end
end Go.Am
namespace Go.Am
section
variable {P:Program} {keep:Keeps} {call:CallFn} {lf:Nat} {f:FuncId} {ro:Option Nat}
theorem own_lt {ρ : Pls} {h:Heap} {w:World} {k:Nat} (hr:HR P keep ρ h w) (ho:Own ρ h k):k<w.heap.size:=by
 obtain ⟨b,x,p,hx,hd,hp,rfl⟩:=ho
 obtain ⟨q,hq,hlt⟩:=(hr.blk b x hx).place hd
 rw [hp] at hq;cases hq;exact hlt
theorem enter_sound {ρ : Pls} {h:Heap} {w:World} {rom:Option Nat} {n0:DP} {dl:List AV} {ds:List Deferred} (hr:HR P keep ρ h w) (hro:RoR ρ ro rom) (hd:DefOk n0 ρ h dl ds w) (hn:n0.base<=w.heap.size) (hpd:n0.pd=none) (hlp:∀ l,ro=some l->∃ b,h.bs.gt l=some (.loop b))
  (tmps:Array Value) (ps:Array Tmp) (assign body:Code) :
  ∃ wA mark dn,Post P keep ρ h w ρ h wA/\DefOk n0 ρ h dl (mark++ds) wA/\wA.os=w.os/\wA.output=w.output /\
   ∀ fn,(Instr.enterLoop fn tmps ps assign body rom).run P w=.ok (wA.heap.size,mark) { wA with heap:=wA.heap.push (.loop { state:=.ready,pending:=none,fn,tmps,params:=ps,assign,body,defers:=dn }) }:=by
 cases ro with
 | none =>
  cases hro
  let wA:World:={ w with heap:=w.heap.push (.deferred (some [])) }
  refine ⟨wA,[{ target:=.collected w.heap.size,args:=#[] }],w.heap.size,Post.grow hr rfl rfl rfl,⟨⟨fun d hm r h1=>?_,?_⟩,.inl ⟨_,rfl,hd.2.1⟩,fun ds0 e=>by rw [hpd] at e;cases e⟩,rfl,rfl,fun fn=>?_⟩
  ·rcases List.mem_append.1 hm with hm | hm
   ·rw [List.mem_singleton.1 hm] at h1
    cases h1
    refine ⟨hn,?_,fun ho=>Nat.lt_irrefl _ (own_lt hr ho)⟩
    show (w.heap.push _)[w.heap.size]?=_
    simp
   ·obtain ⟨h2,h3,h4⟩:=hd.1.1 d hm r h1
    have hlt:=(Array.getElem?_eq_some_iff.1 h3).1
    refine ⟨h2,?_,h4⟩
    show (w.heap.push _)[r]?=_
    rw [Array.getElem?_push,if_neg (by omega)];exact h3
  ·rw [List.singleton_append,List.pairwise_cons]
   refine ⟨fun e hm r s h1 h2=>?_,hd.1.2⟩
   cases h1
   obtain ⟨_,g3,_⟩:=hd.1.1 e hm s h2
   have hlt:=(Array.getElem?_eq_some_iff.1 g3).1
   omega
  ·simp [Instr.enterLoop,wA];rfl
 | some l =>
  obtain ⟨p,hp,h0,rfl⟩:=hro
  obtain ⟨b,hb⟩:=hlp l rfl
  obtain ⟨p',L,hp',_,hh,_⟩:=hr.blk _ _ hb
  rw [hp] at hp';cases hp'
  refine ⟨w,[],L.defers,Post.refl hr,by simpa using hd,rfl,rfl,fun fn=>?_⟩
  simp [Instr.enterLoop,run_getLoop hh]
theorem range_sound (hkD:keep f (ntOf P f)=false) (hn:NamesOk P) (hc:CallOk P keep call) {g:Operand} {x:Opd} {ps:Array Tmp} {assign body:Code} (hx:Am.resolve (fun t=>if keep f t then some (.tmp t) else none) g=some x) :
  Does2 P keep f ro (.rangeFunc g ps assign body) (fun s=>ob (x.get [] .leaf s.tm) fun fv=>runRange call (ntOf P f) f ro ps.toList assign body s fv):=by
 intro s r hr n0 ρ act w rom Q hro hh ht hd hn0 hpl hg
 have hpd:n0.pd=none:=by
  cases hx:n0.pd with
  | none=>rfl
  | some d=>have:=hpl (by rw [hx];rfl);cases this
 obtain ⟨fv,h1,h2⟩:=ob_some.1 hr
 have vf:=resolve_sound (cond_tmp ht) hx h1
 let L0:LRec:=⟨.ready,none,f,s.tm.up none (ntOf P f),ps.toList,assign,body⟩
 let enter:XR:=ob (applyF call [.func (.yield s.hp.next) [] []] (s.hp.new s.hp.next (.loop L0)) fv) fun r =>
  r.2.theLoop s.hp.next fun b=>match b.st with
   | .busy=>none
   | _=>match b.pending with
    | none=>some (.normal,⟨s.tm,r.2.put s.hp.next (.loop { b with st:=.exhausted })⟩)
    | some c=>ob (jumpEx c) fun e=>some (e,⟨s.tm,r.2.put s.hp.next (.loop { b with st:=.exhausted })⟩)
 have hent:enter=some r/\∀ l,ro=some l->∃ b,s.hp.bs.gt l=some (.loop b):=by
  cases ro with
  | none=>exact ⟨h2,fun l e=>by cases e⟩
  | some l =>
   obtain ⟨b,hb,h3⟩:=theLoop_some (show s.hp.theLoop l (fun _=>enter)=some r from h2)
   exact ⟨h3,fun l' e=>by cases e;exact ⟨b,hb⟩⟩
 obtain ⟨he,hlp⟩:=hent
 obtain ⟨q,h3,h4⟩:=ob_some.1 he
 obtain ⟨fn,first,cap,e,h5⟩:=eFunc_some h3
 subst e
 obtain ⟨fn',a',b',e2,hf,ha,hb⟩:=vf
 cases fn with
 | func i =>
  cases hf
  have h6:call (.fn i) (app' first (app' [.func (.yield s.hp.next) [] []] cap)) (s.hp.new s.hp.next (.loop L0))=some q:=h5
  obtain ⟨wA,mark,dn,hpA,hdA,hosA,houtA,hrunA⟩:=enter_sound hh hro hd hn0 hpd hlp act.tmps ps assign body
  
  have mk:∀ fn:FuncId,let L:Loop:={ state:=.ready,pending:=none,fn,tmps:=act.tmps,params:=ps,assign,body,defers:=dn }
    Post P keep ρ s.hp wA (ρ.up s.hp.next ⟨wA.heap.size,0,0⟩) (s.hp.new s.hp.next (.loop L0)) { wA with heap:=wA.heap.push (.loop L) }:=by
   intro fn L
   rw [new_eq (Nat.le_refl _)]
   refine hpA.hr.push (w':={ wA with heap:=wA.heap.push (.loop L) }) (o:=.loop L) (Nat.le_refl _) (by omega) rfl rfl rfl ⟨_,L,Pls.up_same _ _ _,rfl,?_,⟨rfl,rfl,?_,rfl,rfl,rfl⟩⟩
   ·show (wA.heap.push _)[wA.heap.size]?=_
    simp
   ·refine TR.mono (Pls.le_up (hh.fresh (Nat.le_refl _)).1) ⟨ht.1,fun t v hk hv=>?_⟩
    have hv:(s.tm.up none (ntOf P f)).gt t=some v:=hv
    rw [Tr.gt_up,if_neg (fun e=>by rw [e] at hk;rw [hk] at hkD;cases hkD)] at hv
    exact ht.2 t v hk hv
  have hle1:ρ.le (ρ.up s.hp.next ⟨wA.heap.size,0,0⟩):=Pls.le_up (hh.fresh (Nat.le_refl _)).1
  refine wpIn_rangeFunc fun fn _=>?_
  have hmk:=mk fn
  simp only at hmk
  obtain ⟨⟨fn1,c1,hfn,hbody⟩,hcall⟩:=hc _ _ _ _ h6 _ _ ((a'++#[Value.func (Fn.yield wA.heap.size) #[] #[]]++b').toList) hmk.hr (by
   rw [app'_eq,app'_eq]
   simp only [Array.toList_append,List.append_assoc]
   refine (ha.mono hle1).append (VRs.append ⟨_,[],rfl,⟨_,_,_,rfl,⟨_,Pls.up_same _ _ _,rfl,rfl⟩,rfl,rfl⟩,rfl⟩ (hb.mono hle1)))
  let wB:World:={ wA with heap:=wA.heap.push (.loop { state:=.ready,pending:=none,fn,tmps:=act.tmps,params:=ps,assign,body,defers:=dn }) }
  refine ⟨wA.heap.size,mark,wB,{ target:=.fn (.func i) b',args:=a'++#[Value.func (Fn.yield wA.heap.size) #[] #[]] },wB,i,a'++#[Value.func (Fn.yield wA.heap.size) #[] #[]]++b',wB,hrunA fn,?_,fun _ _=>trivial,?_,fun hd=>(by cases hd),?_⟩
  ·have hmap:Array.map act.eval #[Operand.const (Value.func (Fn.yield wA.heap.size) #[] #[])]=#[Value.func (Fn.yield wA.heap.size) #[] #[]]:=by simp [Act.eval]
   simp only [Go.resolve,e2,Deferred.ofValue,Sem.run_pure,hmap]
  ·simp only [invoke]
   exact run_callFunc hn hfn hbody
  ·rw [Array.toArray_toList] at hcall
   refine CallsIn.mono (F:=fen none) hcall (fun e w3 hR=>?_)
   cases e with
   | returned v =>
    obtain ⟨ρ',_,hp⟩:=hR
    obtain ⟨b,hbl,h7⟩:=theLoop_some h4
    obtain ⟨p,L,hpl,hp0,hh3,hlr⟩:=hp.hr.blk _ _ hbl
    have hpe:p=⟨wA.heap.size,0,0⟩:=by
     have:=hp.le _ _ (Pls.up_same ρ s.hp.next ⟨wA.heap.size,0,0⟩)
     rw [hpl] at this;exact Option.some.inj this
    subst hpe
    have hset:=hp.hr.setLoop (r':={ b with st:=.exhausted }) (L':={ L with state:=.exhausted }) hbl hpl rfl hh3 { hlr with st:=rfl }
    have hbusy:(L.state==.busy)=false:=by
     have h8:=hlr.st
     cases hst:b.st with
     | busy=>rw [hst] at h7;cases h7
     | ready=>rw [hst] at h8;rw [show L.state=.ready from h8];rfl
     | done=>rw [hst] at h8;rw [show L.state=.done from h8];rfl
     | exhausted=>rw [hst] at h8;rw [show L.state=.exhausted from h8];rfl
    have h7':(match b.pending with
      | none=>some (Ex.normal,(⟨s.tm,q.2.put s.hp.next (.loop { b with st:=.exhausted })⟩:St))
      | some c=>ob (jumpEx c) fun e=>some (e,⟨s.tm,q.2.put s.hp.next (.loop { b with st:=.exhausted })⟩))=some r:=by
     cases hst:b.st with
     | busy=>rw [hst] at h7;cases h7
     | ready=>rw [hst] at h7;exact h7
     | done=>rw [hst] at h7;exact h7
     | exhausted=>rw [hst] at h7;exact h7
    have hall:=((hpA.trans hmk).trans hp).trans hset
    have hdef:DefOk n0 ρ' (q.2.put s.hp.next (.loop { b with st:=.exhausted })) (putOff s.tm (ntOf P f)) (mark++act.defers) _:=(hdA.post (hmk.trans hp)).post hset
    clear hset
    generalize hX:q.2.put s.hp.next (.loop { b with st:=.exhausted })=X at h7' hall hdef
    let w4:World:={ w3 with heap:=w3.heap.setIfInBounds wA.heap.size (.loop { L with state:=.exhausted }) }
    refine ⟨L.pending,w4,?_,?_⟩
    ·simp only [Instr.endLoop,Sem.run_bind,run_getLoop hh3,Result.andThen_ok,hbusy,Bool.false_eq_true,if_false,Sem.run_pure,run_setLoop hh3]
     rfl
    ·rw [hlr.pending]
     cases hpd:b.pending with
     | none =>
      rw [hpd] at h7'
      cases h7'
      exact hg ρ' _ _ hall (ht.mono hall.le) hdef
     | some c =>
      rw [hpd] at h7'
      obtain ⟨e,h8,h9⟩:=ob_some.1 h7'
      cases h9
      exact jump_wp h8 (hg ρ' _ _ hall (ht.mono hall.le) hdef)
   | panicked chain=>exact hR.elim
   | outgrown=>exact hR.elim
 | _=>cases h5
end
end Go.Am
namespace Go.Am
section
variable {P:Program} {keep:Keeps} {call:CallFn} {lf:Nat} {f:FuncId} {ro:Option Nat}
theorem stepR_scope {P:Program} {b:Frame} {a:Act} {k:List Item} {cs:List Frame} {w:World} {c:Code}:step P (lone (b.atR a (.code (.scope c)::k)) cs w)=.next (lone (b.atR a (.code c::.inScope c::k)) cs w) :=
 step_lone_go (by simp [stepG,stepG.exec,Frame.atR])
theorem stepR_inScope {P:Program} {b:Frame} {a:Act} {k:List Item} {cs:List Frame} {w:World} {c:Code}:step P (lone (b.atR a (.inScope c::k)) cs w)=.next (lone (b.atR a k) cs w) :=
 step_lone_go (by simp [stepG,stepG.exec,Frame.atR])
theorem wpIn_scope {F:Fence} {n:Nat} {P:Program} {a:Act} {w:World} {Q:Exit->Act->World->Prop} {c:Code} (h:c.wpIn F n P (fun e a w=>(∀ l,e≠.goto l)/\Q e a w) a w):(Code.scope c).wpIn F n P Q a w:=by
 intro b k cs hro hb hr
 have h0:(lone (b.atR a (.code (.scope c)::k)) cs w).fenced P F:=fenced_calm hb hr rfl
 obtain ⟨e,a₁,w₁,⟨hng,hq⟩,harr⟩:=h b (.inScope c::k) cs hro hb hr
 cases e with
 | normal=>exact ⟨.normal,a₁,w₁,hq,.head h0 stepR_scope (StepsIn.trans harr (.one (fenced_calm hb hr rfl) stepR_inScope))⟩
 | exit id =>
  have hx:exitTo id (.inScope c::k)=exitTo id k:=by simp [exitTo]
  exact ⟨.exit id,a₁,w₁,hq,fun k' hk=>.head h0 stepR_scope (harr.1 k' (by rw [hx];exact hk)),
   fun hr' hk=>let ⟨k₁,h1,h2⟩:=harr.2 hr' (by rw [hx];exact hk);⟨k₁,h1,.head h0 stepR_scope h2⟩⟩
 | goto l=>exact absurd rfl (hng l)
 | ret=>exact ⟨_,a₁,w₁,hq,.of_steps (.one h0 stepR_scope) harr⟩
 | panic ch=>exact ⟨_,a₁,w₁,hq,.of_steps (.one h0 stepR_scope) harr⟩
 | outgrown=>exact ⟨_,a₁,w₁,hq,.of_steps (.one h0 stepR_scope) harr⟩
theorem outsOf_kept {kp:Nat->Bool} {t n:Nat}:∀ {ds:List (Option Nat)} {k:Nat} {seen:List Nat},(t,n)∈outsOf kp k ds seen->kp t=true
 | [],k,seen,h=>by cases h
 | none::ds,k,seen,h=>by simp only [outsOf] at h;exact outsOf_kept h
 | some d::ds,k,seen,h=>by
  simp only [outsOf] at h
  split at h
  ·rename_i hc
   simp only [Bool.and_eq_true] at hc
   rcases List.mem_cons.1 h with e | h
   ·cases e;exact hc.1
   ·exact outsOf_kept h
  ·exact outsOf_kept h
theorem putOutsD_same {D:Nat}:∀ {l:List (Nat×Nat)} {vs tm tm':Tr AV},(∀ x∈l,x.1≠D)->putOutsD l vs tm=some tm'->tm'.gt D=tm.gt D
 | [],vs,tm,tm',_,h=>by cases h;rfl
 | x::l,vs,tm,tm',hl,h=>by
  obtain ⟨v,h1,h2⟩:=ob_some.1 (show ob (vs.gt x.2) (fun v=>putOutsD l vs (tm.up (some v) x.1))=some tm' from h)
  rw [putOutsD_same (fun y hy=>hl y (List.mem_cons_of_mem _ hy)) h2,Tr.gt_up,if_neg (fun e=>hl x (List.mem_cons_self ..) e.symm)]
theorem compD_same {P:Program} {kp:Nat->Bool} {nt D:Nat} {ops:Array Oper} {ss:List Stage} {outs:List (Nat×Nat)} {vs tm tm':Tr AV} (hD:kp D=false) (hc:compD P kp nt ops=some (ss,outs)) (h:putOutsD outs vs tm=some tm'):tm'.gt D=tm.gt D:=by
 refine putOutsD_same (fun x hx e=>?_) h
 unfold compD at hc
 simp only at hc
 split at hc
 ·simp only [Option.some.injEq,Prod.mk.injEq] at hc
  obtain ⟨_,rfl⟩:=hc
  obtain ⟨y,hy,rfl⟩:=List.mem_map.1 hx
  have:=outsOf_kept hy
  simp only at e
  rw [e,hD] at this;cases this
 ·cases hc
theorem putOff_same {tm tm':Tr AV} {nt:Nat} (h:tm'.gt nt=tm.gt nt):putOff tm' nt=putOff tm nt:=by unfold putOff;rw [h]
theorem putOff_up (tm:Tr AV) (nt:Nat) (l:List AV):putOff (tm.up (some (.tuple l)) nt) nt=l:=by unfold putOff;rw [Tr.gt_up,if_pos rfl]
theorem exec_sound (hkD:keep f (ntOf P f)=false) (hm:P.follows .mixedOrders=true) (hn:NamesOk P) (hc:CallOk P keep call):∀ (c:Code),Does2 P keep f ro c (execA call lf (ntOf P f) f ro (compC P (keep f) (ntOf P f) c)):=by
 intro c
 induction c with
 | skip =>
  intro s r hr n0 ρ a w rom Q hro hh ht hd hn0 hpl hg
  cases hr
  exact wpIn_skip (hg ρ a w (Post.refl hh) ht hd)
 | region id ops draw =>
  intro s r hr n0 ρ a w rom Q hro hh ht hd hn0 hpl hg
  cases draw with
  | true =>
   simp only [compC] at hr
   cases hcd:compD P (keep f) (ntOf P f) ops with
   | none=>rw [hcd] at hr;cases hr
   | some so =>
    obtain ⟨ss,outs⟩:=so
    rw [hcd] at hr
    obtain ⟨q,h1,h2⟩:=ob_some.1 (show ob (runStages s.hp.next s.tm call ss .leaf ⟨s.hp.bs,s.hp.next+ops.size⟩) (fun q=>ob (putOutsD outs q.1 s.tm) fun tm=>some (Ex.normal,(⟨tm,q.2⟩:St)))=some r from hr)
    obtain ⟨tm',h3,h4⟩:=ob_some.1 h2
    cases h4
    exact draw_sound hm hn hc hh ht hcd h1 h3 (fun ρ' a' w' ht' hd' hp=>hg ρ' a' w' hp ht' (by rw [hd',putOff_same (compD_same hkD hcd h3)];exact hd.post hp))
  | false =>
   have hr:execA call lf (ntOf P f) f ro (compR P (keep f) (ntOf P f) ops) s=some r:=hr
   cases hcr:compR P (keep f) (ntOf P f) ops with
   | reg is outs =>
    rw [hcr] at hr
    obtain ⟨q,h1,h2⟩:=ob_some.1 (show ob (runIs is s.tm call [] s.hp) (fun q=>ob (putOuts outs q.1 s.tm s.tm) fun tm=>some (Ex.normal,(⟨tm,q.2⟩:St)))=some r from hr)
    obtain ⟨tm',h3,h4⟩:=ob_some.1 h2
    cases h4
    have hsame:putOff tm' (ntOf P f)=putOff s.tm (ntOf P f):=by
     obtain ⟨_,_,rfl⟩:=compR_reg hcr
     exact putOff_same (outs_same hkD h3)
    exact reg_sound hn hc hh ht hcr h1 h3 (fun ρ' a' w' ht' hd' hp=>hg ρ' a' w' hp ht' (by rw [hd',hsame];exact hd.post hp))
   | dfr is outs nt' xs =>
    rw [hcr] at hr
    have hnpl:n0.pd=none:=by
     cases hx:n0.pd with
     | none=>rfl
     | some d =>
      have h0:=hpl (by rw [hx];rfl)
      unfold compR at hcr
      simp only [plainC] at h0
      cases hdl:deferLast ops.toList with
      | none=>rw [hdl] at hcr;cases hcr
      | some x=>rw [hdl] at h0;cases h0
    cases ro with
    | some l=>cases hr
    | none =>
     cases hro
     obtain ⟨q,h1,h2⟩:=ob_some.1 (show ob (runIs is s.tm call [] s.hp) (fun q=>ob (putOuts outs q.1 s.tm s.tm) fun tm=>ob (gets xs q.1 .leaf s.tm) fun vs=>iff' (isFn vs) (some (Ex.normal,(⟨tm.up (some (.tuple (.tuple vs::putOff tm nt'))) nt',q.2⟩:St))))=some r from hr)
     obtain ⟨tm',h3,h4⟩:=ob_some.1 h2
     obtain ⟨vs,h5,h6⟩:=ob_some.1 h4
     obtain ⟨hfn,h6⟩:=iff'_some.1 h6
     cases h6
     have hsame:∀ {nt2},nt2=ntOf P f->putOff tm' nt2=putOff s.tm (ntOf P f):=by
      rintro _ rfl
      unfold compR at hcr
      split at hcr
      ·dsimp only at hcr
       split at hcr
       ·simp only [AC.dfr.injEq] at hcr
        obtain ⟨_,rfl,_⟩:=hcr
        exact putOff_same (outs_same hkD h3)
       ·cases hcr
      ·cases hcr
     have main:=dfr_sound (id:=id) (Q:=Q) hn hc hh ht hcr h1 h3 h5 (fun ρ' a' w' i first cap args fa ca as ht' hvs vc vf va hd' hp=>hg ρ' a' w' hp ?_ ?_) ?_
     ·exact main.2
     ·refine ⟨ht'.1,fun t v hk hv=>?_⟩
      have hnt:nt'=ntOf P f:=by
       unfold compR at hcr
       split at hcr
       ·dsimp only at hcr
        split at hcr
        ·simp only [AC.dfr.injEq] at hcr;exact hcr.2.2.1.symm
        ·cases hcr
       ·cases hcr
      subst hnt
      have hv:(tm'.up (some (.tuple (.tuple vs::putOff tm' (ntOf P f)))) (ntOf P f)).gt t=some v:=hv
      rw [Tr.gt_up,if_neg (fun e=>by rw [e] at hk;rw [hk] at hkD;cases hkD)] at hv
      exact ht'.2 t v hk hv
     ·have hnt:nt'=ntOf P f:=by
       unfold compR at hcr
       split at hcr
       ·dsimp only at hcr
        split at hcr
        ·simp only [AC.dfr.injEq] at hcr;exact hcr.2.2.1.symm
        ·cases hcr
       ·cases hcr
      subst hnt
      rw [putOff_up,hd',hsame rfl]
      have hd2:=hd.post hp
      refine ⟨⟨fun d hm r h1=>?_,?_⟩,.inr ⟨_,_,rfl,⟨i,fa,ca,as,cap,by rw [hvs],rfl,vc,?_⟩,hd2.2.1⟩,fun ds0 e=>by rw [hnpl] at e;cases e⟩
      ·rcases List.mem_cons.1 hm with rfl | hm
       ·cases h1
       ·exact hd2.1.1 d hm r h1
      ·rw [List.pairwise_cons]
       exact ⟨(fun e hm r s h1=>by cases h1),hd2.1.2⟩
      ·simp only [Array.toList_append]
       exact vf.append va
     ·intro v as e
      subst e
      unfold isFn at hfn
      split at hfn
      ·rename_i i fa ca as' heq
       simp only [List.cons.injEq] at heq
       exact ⟨i,fa,ca,heq.1⟩
      ·cases hfn
   | _ =>
    exfalso
    rw [hcr] at hr
    unfold compR at hcr
    split at hcr
    ·dsimp only at hcr
     split at hcr
     ·cases hcr
     ·cases hcr <;> cases hr
    ·cases hcr
 | seq a b iha ihb=>exact seq_sound iha ihb
 | cond c a b iha ihb =>
  cases hx:Am.resolve (fun t=>if keep f t then some (.tmp t) else none) c with
  | none=>intro s r hr;simp only [compC,hx] at hr;cases hr
  | some x =>
   have:execA call lf (ntOf P f) f ro (compC P (keep f) (ntOf P f) (.cond c a b))=fun s=>ob (x.get [] .leaf s.tm) fun v=>eBool (fun t=>Bool.rec (motive:=fun _=>XR) (execA call lf (ntOf P f) f ro (compC P (keep f) (ntOf P f) b) s) (execA call lf (ntOf P f) f ro (compC P (keep f) (ntOf P f) a) s) t) v:=by
    simp only [compC,hx];rfl
   rw [this]
   exact cond_sound hx iha ihb
 | block id a ih=>exact block_sound ih
 | loop a ih=>exact loop_sound ih
 | rangeFunc g ps assign body _ _ =>
  cases hx:Am.resolve (fun t=>if keep f t then some (.tmp t) else none) g with
  | none=>intro s r hr;simp only [compC,hx] at hr;cases hr
  | some x =>
   have:execA call lf (ntOf P f) f ro (compC P (keep f) (ntOf P f) (.rangeFunc g ps assign body))=fun s=>ob (x.get [] .leaf s.tm) fun fv=>runRange call (ntOf P f) f ro ps.toList assign body s fv:=by
    simp only [compC,hx];rfl
   rw [this]
   exact range_sound hkD hn hc hx
 | exit id =>
  intro s r hr n0 ρ a w rom Q hro hh ht hd hn0 hpl hg
  cases hr
  exact wpIn_exit (hg ρ a w (Post.refl hh) ht hd)
 | ret =>
  intro s r hr n0 ρ a w rom Q hro hh ht hd hn0 hpl hg
  cases hr
  exact wpIn_ret (hg ρ a w (Post.refl hh) ht hd)
 | scope a ih =>
  intro s r hr n0 ρ act w rom Q hro hh ht hd hn0 hpl hg
  have hr:ob (execA call lf (ntOf P f) f ro (compC P (keep f) (ntOf P f) a) s) (fun r=>Ex.rec (motive:=fun _=>XR) (some r) (some r) (fun _=>some r) (fun _=>none) r.1)=some r:=hr
  obtain ⟨q,h1,h2⟩:=ob_some.1 hr
  obtain ⟨e,s'⟩:=q
  refine wpIn_scope (ih s _ h1 n0 ρ act w rom _ hro hh ht hd hn0 (fun e=>hpl e) fun ρ' a' w' hp ht' hd'=>?_)
  cases e with
  | goto l=>cases h2
  | normal=>cases h2;exact ⟨(fun l e=>by cases e),hg ρ' a' w' hp ht' hd'⟩
  | ret=>cases h2;exact ⟨(fun l e=>by cases e),hg ρ' a' w' hp ht' hd'⟩
  | exit id=>cases h2;exact ⟨(fun l e=>by cases e),hg ρ' a' w' hp ht' hd'⟩
 | label l =>
  intro s r hr n0 ρ act w rom Q hro hh ht hd hn0 hpl hg
  cases hr
  exact wpIn_label (hg ρ act w (Post.refl hh) ht hd)
 | goto l=>intro s r hr;cases hr
 | refuse why=>intro s r hr;cases hr
end
end Go.Am
namespace Go.Am
section
variable {P:Program} {keep:Keeps} {call:CallFn} {lf:Nat} {f:FuncId} {ro:Option Nat}
def resOf (tmps:Array Value):ResultVar->Sem Value
 | .tmp t=>pure (tmps.getD t undef)
 | .cell a t=>do loadVar t (← asAddr (tmps.getD a undef))
theorem results_eq (fn:Func) (tmps:Array Value):results fn tmps=(do
  let vs ← fn.results.mapM (resOf tmps)
  pure (if h:vs.size=1 then vs[0] else .tuple vs)):=by
 unfold results
 congr 1
theorem res1_sound {ρ : Pls} {w:World} {a:Act} {rv:ResultVar} {s:St} {v:AV} (hh:HR P keep ρ s.hp w) (ht:TR (keep f) (ntOf P f) ρ s.tm a.tmps) (hk:okRes (keep f) [rv]=true) (hr:res1 P rv s=some v) :
  ∃ cv,(resOf a.tmps rv).run P w=.ok cv w/\VR ρ v cv:=by
 cases rv with
 | tmp t =>
  simp only [okRes,Bool.and_true] at hk
  obtain ⟨cv,h1,h2⟩:=ht.2 t v hk hr
  have e:a.tmps.getD t undef=cv:=by rw [Array.getD_eq_getD_getElem?,h1];rfl
  exact ⟨cv,by simp only [resOf,e,Sem.run_pure],h2⟩
 | cell x t =>
  simp only [okRes,Bool.and_true] at hk
  obtain ⟨u,h1,h2⟩:=ob_some.1 (show ob (s.tm.gt x) (resC P t s.hp)=some v from hr)
  obtain ⟨cu,h3,h4⟩:=ht.2 x u hk h1
  have e:a.tmps.getD x undef=cu:=by rw [Array.getD_eq_getD_getElem?,h3];rfl
  unfold resC at h2
  cases hs:tSize P t with
  | none=>rw [hs] at h2;cases h2
  | some n =>
   cases hg:tAgg P t with
   | none=>rw [hs,hg] at h2;cases h2
   | some g =>
    rw [hs,hg] at h2
    have key:∃ ad cv,cu=.pointer (some ad)/\(loadVar t ad).run P w=.ok cv w/\VR ρ v cv:=by
     cases g with
     | false=>exact load1_var hg hh h2 h4
     | true=>exact loadN_var hs hg hh h2 h4
    obtain ⟨ad,cv,e2,h5,h6⟩:=key
    refine ⟨cv,?_,h6⟩
    simp only [resOf,e,e2]
    simp only [asAddr,Sem.run_bind,Sem.run_pure,Result.andThen_ok,h5]
theorem resA_cons (rv:ResultVar) (rs:List ResultVar) (s:St):resA P (rv::rs) s=ob (res1 P rv s) fun v=>ob (resA P rs s) fun vs=>some (v::vs):=rfl
theorem resA_sound {ρ : Pls} {w:World} {a:Act} {s:St} (hh:HR P keep ρ s.hp w) (ht:TR (keep f) (ntOf P f) ρ s.tm a.tmps):∀ {rs:List ResultVar} {vs:List AV},okRes (keep f) rs=true->resA P rs s=some vs ->
  ∃ cvs,(rs.mapM (resOf a.tmps)).run P w=.ok cvs w/\VRs ρ vs cvs
 | [],vs,_,hr=>by cases hr;exact ⟨[],rfl,rfl⟩
 | rv::rs,vs,hk,hr=>by
  rw [resA_cons] at hr
  obtain ⟨v,h1,h2⟩:=ob_some.1 hr
  obtain ⟨us,h3,h4⟩:=ob_some.1 h2
  cases h4
  have hk1:okRes (keep f) [rv]=true/\okRes (keep f) rs=true:=by
   cases rv <;> simp only [okRes,Bool.and_eq_true,Bool.and_true] at hk ⊢ <;> exact hk
  obtain ⟨cv,g1,g2⟩:=res1_sound hh ht hk1.1 h1
  obtain ⟨cvs,g3,g4⟩:=resA_sound hh ht hk1.2 h3
  refine ⟨cv::cvs,?_,cv,cvs,rfl,g2,g4⟩
  rw [List.mapM_cons,Sem.run_bind,g1]
  simp only [Result.andThen_ok,Sem.run_bind,g3,Sem.run_pure]
theorem tupled_eq (vs:List AV):tupled vs=match vs with | [v]=>v | vs=>.tuple vs:=by
 match vs with
 | []=>rfl
 | [v]=>rfl
 | v::u::t=>rfl
theorem results_sound {ρ : Pls} {w:World} {a:Act} {s:St} {fn:Func} {vs:List AV} (hh:HR P keep ρ s.hp w) (ht:TR (keep f) (ntOf P f) ρ s.tm a.tmps) (hk:okRes (keep f) fn.results.toList=true) (hr:resA P fn.results.toList s=some vs) :
  ∃ v,(results fn a.tmps).run P w=.ok v w/\VR ρ (tupled vs) v:=by
 obtain ⟨cvs,h1,h2⟩:=resA_sound hh ht hk hr
 rw [results_eq,Array.mapM_eq_mapM_toList]
 have h3:(List.toArray <$> List.mapM (resOf a.tmps) fn.results.toList).run P w=.ok cvs.toArray w:=by
  rw [map_eq_pure_bind,Sem.run_bind,h1];rfl
 rw [Sem.run_bind,h3,tupled_eq]
 simp only [Result.andThen_ok,Sem.run_pure]
 match vs,h2 with
 | [],h2=>cases h2;exact ⟨_,rfl,#[],rfl,rfl⟩
 | [v],h2=>obtain ⟨cv,_,rfl,g,rfl⟩:=h2;exact ⟨cv,rfl,g⟩
 | v::u::t,h2 =>
  have h2':=h2
  obtain ⟨cv,_,rfl,g,cu,ct,rfl,g2,g3⟩:=h2
  exact ⟨_,rfl,_,rfl,h2'⟩
end
end Go.Am
namespace Go.Am
section
variable {P:Program} {keep:Keeps} {call:CallFn} {lf:Nat} {f:FuncId}
theorem Post.shut {ρ ρ':Pls} {h h':Heap} {w w':World} (hp:Post P keep ρ h w ρ' h' w') {r:Nat} (hr:w.heap.size<=r) (ho:¬Own ρ' h' r) (o:Obj):Post P keep ρ h w ρ' h' { w' with heap:=w'.heap.setIfInBounds r o }:=by
 have hsame:∀ k,k≠r->(w'.heap.setIfInBounds r o)[k]?=w'.heap[k]?:=fun k hk=>by rw [Array.getElem?_setIfInBounds,if_neg (fun e=>hk e.symm)]
 refine ⟨hp.le,hp.hr.frame fun b x p hx hd hpl=>hsame _ fun e=>ho ⟨b,x,p,hx,hd,hpl,e⟩,⟨hp.fr.os,hp.fr.output,by simpa using hp.fr.size,fun k hk hn=>(hsame k (by omega)).trans (hp.fr.sameW k hk hn)⟩,hp.own,hp.next,hp.new,hp.ownW⟩
theorem fnA_some {k:FnA} (h:fnA P keep f=some k):∃ fn c,P.funcs[f]?=some fn/\fn.body=some c/\okRes (keep f) fn.results.toList=true/\keep f (ntOf P f)=false/\k=⟨compC P (keep f) fn.ntmps c,fn.results.toList,fn.ntmps,plainC c⟩/\ntOf P f=fn.ntmps:=by
 unfold fnA at h
 cases hf:P.funcs[f]? with
 | none=>rw [hf] at h;cases h
 | some fn =>
  rw [hf] at h
  simp only at h
  cases hb:fn.body with
  | none=>rw [hb] at h;cases h
  | some c =>
   rw [hb] at h
   simp only at h
   split at h
   ·rename_i hk
    cases h
    rw [Bool.and_eq_true,Bool.not_eq_true'] at hk
    have hnt:ntOf P f=fn.ntmps:=by simp [ntOf,hf]
    exact ⟨fn,c,rfl,hb,hk.1,by rw [hnt];exact hk.2,rfl,hnt⟩
   ·cases h
theorem args_TR {ρ : Pls} {args:List AV} {avs:List Value} {nt:Nat} {kp:Nat->Bool} (hv:VRs ρ args avs):TR kp nt ρ (fillC args .leaf 0) (avs.toArray++Array.replicate (nt - avs.toArray.size) undef):=by
 have hlen:=hv.length
 refine ⟨by simp;omega,fun t v _ hg=>?_⟩
 rw [gt_fillC] at hg
 split at hg
 ·rename_i hlt
  rw [Nat.sub_zero] at hg
  obtain ⟨cv,g1,g2⟩:=hv.get t v hg
  refine ⟨cv,?_,g2⟩
  rw [Array.getElem?_append_left (by simp;omega)]
  simpa using g1
 ·cases hg
theorem args_off {args:List AV} {nt:Nat} (h:args.length<=nt):putOff (fillC args .leaf 0) nt=[]:=by
 unfold putOff
 rw [gt_fillC,if_neg (by omega),Tr.gt_leaf]
theorem callD_sound (hm:P.follows .mixedOrders=true) (hn:NamesOk P) (hc:CallOk P keep call) {i:FuncId} {args:List AV} {h h':Heap} (hr:callD P keep lf call i args h=some h') {ρ : Pls} {w:World} {avs:List Value} (hh:HR P keep ρ h w) (hv:VRs ρ args avs) :
  (∃ fn c,P.funcs[i]?=some fn/\fn.body=some c)/\CallsDIn (fen none) 0 P i avs.toArray .returning w (fun e u' w'=>u'=.returning/\∃ v,e=.returned v/\∃ ρ',Post P keep ρ h w ρ' h' w'):=by
 obtain ⟨k,h1,h2⟩:=ob_some.1 hr
 obtain ⟨fn,c,hf,hb,hk,hkD,rfl,hnt⟩:=fnA_some h1
 obtain ⟨h3,h4⟩:=iff'_some.1 h2
 simp only [and'_eq,Bool.and_eq_true] at h3
 obtain ⟨hpl,hle⟩:=h3
 have hle:args.length<=fn.ntmps:=by have:=Nat.le_of_ble_eq_true hle;simpa using this
 obtain ⟨q,h5,h6⟩:=ob_some.1 h4
 refine ⟨⟨fn,c,hf,hb⟩,?_⟩
 have main:CallsDIn (fen none) 0 P i avs.toArray .returning w (fun e u' w'=>u'=.returning/\(fun e w'=>∃ v,e=.returned v/\∃ ρ',Post P keep ρ h w ρ' h' w') e w'):=by
  refine callsDIn_of_wp (F:=fen none) hf hb trivial ?_
  have h5:execA call lf (ntOf P i) i none (compC P (keep i) (ntOf P i) c) ⟨fillC args .leaf 0,h⟩=some q:=by rw [hnt];exact h5
  have hd:DefOk ⟨w.heap.size,some []⟩ ρ h (putOff (fillC args .leaf 0) (ntOf P i)) [] w:=⟨⟨(fun d hd=>by cases hd),List.Pairwise.nil⟩,args_off (by rw [hnt];exact hle),fun ds0 e=>by cases e;rfl⟩
  refine exec_sound hkD hm hn hc c ⟨fillC args .leaf 0,h⟩ q h5 ⟨w.heap.size,some []⟩ ρ _ w none _ rfl hh (by rw [hnt];exact args_TR hv) hd (Nat.le_refl _) (fun _=>hpl) (fun ρ' a' w' hp' ht' hd'=>?_)
  obtain ⟨e,s'⟩:=q
  have hnil:=hd'.2.2 [] rfl
  have out:(ob (resA P fn.results.toList s') fun _=>some s'.hp)=some h'->a'.defers=[]/\∃ v,(results fn a'.tmps).run P w'=.ok v w'/\∃ v',Ending.returned v=Ending.returned v'/\∃ ρ',Post P keep ρ h w ρ' h' w':=by
   intro ho
   obtain ⟨vs,g1,g2⟩:=ob_some.1 ho
   cases g2
   obtain ⟨v,g3,g4⟩:=results_sound hp'.hr ht' hk g1
   exact ⟨hnil,v,g3,v,rfl,ρ',hp'⟩
  cases e with
  | normal=>exact out h6
  | ret=>exact out h6
  | exit id=>cases h6
  | goto l=>cases h6
 exact main
theorem runDs_cons (d:AV) (ds:List AV) (h:Heap):runDs P keep lf call (d::ds) h=ob (applyD P keep lf call d h) (runDs P keep lf call ds):=rfl
theorem leaves_all (hm:P.follows .mixedOrders=true) (hn:NamesOk P) (hc:CallOk P keep call) {ρ : Pls} {h h2:Heap} {w:World} {fn:Func} {tmps:Array Value} {R:Ending->World->Prop} {n0:DP} (hb0:n0.base=w.heap.size) (hpd:n0.pd=none):∀ (ds:List Deferred) (l:List AV) (ρ':Pls) (h':Heap) (w':World),Post P keep ρ h w ρ' h' w'->DefOk n0 ρ' h' l ds w'->runDs P keep lf call l h'=some h2 ->
  (∀ ρ'' w'',Post P keep ρ h w ρ'' h2 w''->ρ'.le ρ''->∃ v,(results fn tmps).run P w''=.ok v w''/\R (.returned v) w'')->LeavesInM (fen none) 0 P fn tmps R ds .returning w'
 | [],l,ρ',h',w',hp,hd,hr,hR=>by
  obtain rfl:l=[]:=hd.2.1
  cases hr
  exact hR ρ' w' hp (Pls.le_refl _)
 | d::ds,l,ρ',h',w',hp,hd,hr,hR=>by
  refine ⟨(by intro e;cases e),?_⟩
  rcases hd.2.1 with ⟨r,h1,hdf⟩|⟨v,l',rfl,⟨i,fa,ca,as,cap,rfl,ht,vc,va⟩,hdf⟩
  ·obtain ⟨h2',h3,h4⟩:=hd.1.1 d (List.mem_cons_self ..) r h1
   rw [hb0] at h2'
   refine .inl ⟨r,{ w' with heap:=w'.heap.setIfInBounds r (.deferred none) },h1,?_,leaves_all hm hn hc hb0 hpd ds l ρ' h' _ (hp.shut h2' h4 _) ⟨⟨fun e he s g1=>?_,(List.pairwise_cons.1 hd.1.2).2⟩,hdf,fun ds0 e=>by rw [hpd] at e;cases e⟩ hr hR⟩
   ·simp [Instr.takeDeferred,getObj,setObj,Sem.run,h3]
   ·obtain ⟨g2,g3,g4⟩:=hd.1.1 e (List.mem_cons_of_mem _ he) s g1
    refine ⟨g2,?_,g4⟩
    show (w'.heap.setIfInBounds r _)[s]?=_
    rw [Array.getElem?_setIfInBounds,if_neg ((List.pairwise_cons.1 hd.1.2).1 e he r s h1 g1)]
    exact g3
  ·rw [runDs_cons] at hr
   obtain ⟨h1,g1,g2⟩:=ob_some.1 hr
   have g1:callD P keep lf call i (app' fa (app' as ca)) h'=some h1:=g1
   rw [app'_eq,app'_eq] at g1
   obtain ⟨⟨fn1,c1,hfn,hbody⟩,hcd⟩:=callD_sound hm hn hc g1 hp.hr (avs:=(d.args++cap).toList) (by
    rw [← List.append_assoc,Array.toList_append]
    exact va.append vc)
   rw [Array.toArray_toList] at hcd
   refine .inr ⟨(fun e=>by cases e),.func i,cap,i,d.args++cap,ht,?_,fun _ _=>trivial,hcd.mono fun e u' w1 hR1=>?_⟩
   ·rw [ht]
    simp only [invoke]
    have e:(#[]++d.args++cap:Array Value)=d.args++cap:=by simp
    first
     | exact run_callFunc hn hfn hbody
     | (simp only [Array.empty_append];exact run_callFunc hn hfn hbody)
   ·obtain ⟨rfl,v,rfl,ρ1,hp1⟩:=hR1
    have hd1:DefOk n0 ρ' h' l' ds w':=⟨⟨fun e he s g=>hd.1.1 e (List.mem_cons_of_mem _ he) s g,(List.pairwise_cons.1 hd.1.2).2⟩,hdf,fun ds0 e=>by rw [hpd] at e;cases e⟩
    exact leaves_all hm hn hc hb0 hpd ds l' ρ1 h1 w1 (hp.trans hp1) (hd1.post hp1) g2 (fun ρ'' w'' hp'' hle=>hR ρ'' w'' hp'' (Pls.le_trans hp1.le hle))
def PrimsOk (P:Program) (keep:Keeps) (prims:Prims):Prop:=∀ f args h r,prims.fn f args h=some (some r)->∀ ρ w avs,HR P keep ρ h w->VRs ρ args avs ->
 (∃ fn c,P.funcs[f]?=some fn/\fn.body=some c)/\CallsIn (fen none) 0 P f avs.toArray w (Ret P keep ρ h w r)
theorem callF_sound {prims:Prims} (hm:P.follows .mixedOrders=true) (hn:NamesOk P) (hc:CallOk P keep call) (hpr:PrimsOk P keep prims) {args:List AV} {h:Heap} {r:AV×Heap} (hr:callF P keep prims lf call f args h=some r)
  {ρ : Pls} {w:World} {avs:List Value} (hh:HR P keep ρ h w) (hv:VRs ρ args avs):(∃ fn c,P.funcs[f]?=some fn/\fn.body=some c)/\CallsIn (fen none) 0 P f avs.toArray w (Ret P keep ρ h w r):=by
 unfold callF at hr
 cases hp:prims.fn f args h with
 | some q =>
  rw [hp] at hr
  have hr:q=some r:=hr
  subst hr
  exact hpr f args h r hp ρ w avs hh hv
 | none =>
  rw [hp] at hr
  obtain ⟨k,h1,h2⟩:=ob_some.1 (show ob (fnA P keep f) (fun k=>iff' (Nat.ble (len' args) k.nt) (ob (execA call lf k.nt f none k.code ⟨fillC args .leaf 0,h⟩) fun r=>endFn P keep lf call k.nt k.res r))=some r from hr)
  obtain ⟨fn,c,hf,hb,hk,hkD,rfl,hnt⟩:=fnA_some h1
  obtain ⟨hle,h2⟩:=iff'_some.1 h2
  have hle:args.length<=fn.ntmps:=by have:=Nat.le_of_ble_eq_true hle;simpa using this
  obtain ⟨q,h3,h4⟩:=ob_some.1 h2
  refine ⟨⟨fn,c,hf,hb⟩,?_⟩
  have ht:TR (keep f) (ntOf P f) ρ (fillC args .leaf 0) (avs.toArray++Array.replicate (fn.ntmps - avs.toArray.size) undef):=by rw [hnt];exact args_TR hv
  refine callsIn_of_wp_marks hf hb trivial ?_
  have hd:DefOk ⟨w.heap.size,none⟩ ρ h (putOff (fillC args .leaf 0) (ntOf P f)) [] w:=⟨⟨(fun d hd=>by cases hd),List.Pairwise.nil⟩,args_off (by rw [hnt];exact hle),fun ds0 e=>by cases e⟩
  have h3:execA call lf (ntOf P f) f none (compC P (keep f) (ntOf P f) c) ⟨fillC args .leaf 0,h⟩=some q:=by rw [hnt];exact h3
  refine exec_sound hkD hm hn hc c ⟨fillC args .leaf 0,h⟩ q h3 ⟨w.heap.size,none⟩ ρ _ w none _ rfl hh ht hd (Nat.le_refl _) (fun e=>by cases e) (fun ρ' a' w' hp' ht' hd'=>?_)
  obtain ⟨e,s'⟩:=q
  have out:(ob (leaveD P keep lf call fn.ntmps s') fun h=>ob (resA P fn.results.toList ⟨s'.tm,h⟩) fun vs=>some (tupled vs,h))=some r->LeavesInM (fen none) 0 P fn a'.tmps (Ret P keep ρ h w r) a'.defers .returning w':=by
   intro ho
   obtain ⟨h2',g0,g00⟩:=ob_some.1 ho
   obtain ⟨vs,g1,g2⟩:=ob_some.1 g00
   cases g2
   have hrun:runDs P keep lf call (putOff s'.tm (ntOf P f)) s'.hp=some h2':=by
    rw [hnt]
    unfold leaveD at g0
    unfold putOff
    cases hg:s'.tm.gt fn.ntmps with
    | none=>rw [hg] at g0;exact g0
    | some v =>
     rw [hg] at g0
     obtain ⟨l,rfl,g3⟩:=eTuple_some g0
     exact g3
   refine leaves_all hm hn hc (n0:=⟨w.heap.size,none⟩) rfl rfl a'.defers _ ρ' s'.hp w' hp' hd' hrun (fun ρ'' w'' hp'' hle=>?_)
   obtain ⟨v,g3,g4⟩:=results_sound (s:=⟨s'.tm,h2'⟩) hp''.hr (ht'.mono hle) hk g1
   exact ⟨v,g3,ρ'',g4,hp''⟩
  cases e with
  | normal=>exact out h4
  | ret=>exact out h4
  | exit id=>cases h4
  | goto l=>cases h4
end
end Go.Am
namespace Go.Am
section
variable {P:Program} {keep:Keeps} {call:CallFn} {lf:Nat}
theorem setPs_cons (nt t:Nat) (ps:List Nat) (v:AV) (vs:List AV) (tm:Tr AV):setPs nt (t::ps) (v::vs) tm=iff' (Nat.ble (t+1) nt) (setPs nt ps vs (tm.up (some v) t)):=rfl
theorem setPs_sound {kp:Nat->Bool} {nt:Nat} {ρ : Pls}:∀ {ps:List Nat} {vs:List AV} {tm tm':Tr AV} {cvs:List Value} {tmps:Array Value},setPs nt ps vs tm=some tm'->VRs ρ vs cvs->TR kp nt ρ tm tmps ->
  cvs.length=ps.length/\TR kp nt ρ tm' ((ps.zip cvs).foldl (fun tmps (x:Nat×Value)=>tmps.setIfInBounds x.1 x.2) tmps)
 | [],[],tm,tm',cvs,tmps,h,hv,ht=>by cases h;cases hv;exact ⟨rfl,ht⟩
 | [],v::vs,tm,tm',cvs,tmps,h,hv,ht=>by cases h
 | t::ps,[],tm,tm',cvs,tmps,h,hv,ht=>by cases h
 | t::ps,v::vs,tm,tm',cvs,tmps,h,hv,ht=>by
  rw [setPs_cons] at h
  obtain ⟨h1,h2⟩:=iff'_some.1 h
  have hlt:t<nt:=Nat.le_of_ble_eq_true h1
  obtain ⟨cv,cvs,rfl,g1,g2⟩:=hv
  have ht':TR kp nt ρ (tm.up (some v) t) (tmps.setIfInBounds t cv):=by
   refine ⟨by simpa using ht.1,fun s u hk hg=>?_⟩
   rw [Tr.gt_up] at hg
   rw [Array.getElem?_setIfInBounds]
   by_cases e:s=t
   ·subst e
    rw [if_pos rfl] at hg;cases hg
    rw [if_pos rfl,if_pos (Nat.lt_of_lt_of_le hlt ht.1)]
    exact ⟨cv,rfl,g1⟩
   ·rw [if_neg e] at hg
    rw [if_neg (fun h=>e h.symm)]
    exact ht.2 s u hk hg
  obtain ⟨h3,h4⟩:=setPs_sound h2 g2 ht'
  exact ⟨by simp [h3],h4⟩
theorem setPs_same {nt D:Nat} (hD:nt<=D):∀ {ps:List Nat} {vs:List AV} {tm tm':Tr AV},setPs nt ps vs tm=some tm'->tm'.gt D=tm.gt D
 | [],[],tm,tm',h=>by cases h;rfl
 | [],v::vs,tm,tm',h=>by cases h
 | t::ps,[],tm,tm',h=>by cases h
 | t::ps,v::vs,tm,tm',h=>by
  rw [setPs_cons] at h
  obtain ⟨h1,h2⟩:=iff'_some.1 h
  have hlt:t<nt:=Nat.le_of_ble_eq_true h1
  rw [setPs_same hD h2,Tr.gt_up,if_neg (by omega)]
theorem onlyNormal_some {r:Ex×St} {g:St->Res} {q:AV×Heap} (h:onlyNormal r g=some q):r.1=.normal/\g r.2=some q:=by
 obtain ⟨e,s⟩:=r
 cases e with
 | normal=>exact ⟨rfl,h⟩
 | ret=>cases h
 | exit id=>cases h
 | goto l=>cases h
theorem callL_sound (hm:P.follows .mixedOrders=true) (hn:NamesOk P) (hc:CallOk P keep call) {l:Nat} {args:List AV} {h:Heap} {r:AV×Heap} (hr:callL P keep lf call l args h=some r)
  {ρ : Pls} {w:World} {avs:List Value} (hh:HR P keep ρ h w) (hv:VRs ρ args avs) {p:Pl} (hp:ρ l=some p) :
  ∃ f tmps assign body,(Instr.yield p.blk avs.toArray).run P w=.ok (.round p.blk f tmps assign body) w/\RoundIn (fen none) 0 P p.blk f tmps assign body w (Ret P keep ρ h w r):=by
 obtain ⟨b,hb,h1⟩:=theLoop_some hr
 obtain ⟨p',L,hp',h0,hL,hlr⟩:=hh.blk _ _ hb
 rw [hp] at hp';cases hp'
 obtain ⟨tm,h2,h3⟩:=ob_some.1 h1
 obtain ⟨hck,h3⟩:=iff'_some.1 h3
 simp only [and'_eq,notB_eq,Bool.and_eq_true,Bool.not_eq_true'] at hck
 obtain ⟨hkD,hoff⟩:=hck
 have hoff:putOff tm (ntOf P b.fn)=[]:=by
  rw [putOff_same (setPs_same (Nat.le_refl _) h2)]
  unfold putOff
  unfold noOff at hoff
  cases hg:b.tm.gt (ntOf P b.fn) with
  | none=>rfl
  | some v=>rw [hg] at hoff;cases hoff
 obtain ⟨q,h4,h5⟩:=ob_some.1 h3
 obtain ⟨hqn,h6⟩:=onlyNormal_some h5
 obtain ⟨b',hb',h7⟩:=theLoop_some h6
 obtain ⟨hlen,ht⟩:=setPs_sound h2 hv hlr.tm
 have hsize:avs.toArray.size=L.params.size:=by
  have:=hlr.params
  rw [← this] at hlen
  simpa using hlen
 refine ⟨L.fn,((L.params.zip avs.toArray).foldl (fun tmps (x:Tmp×Value)=>tmps.setIfInBounds x.1 x.2) L.tmps),L.assign,L.body,?_,?_⟩
 ·simp only [Instr.yield,Sem.run_bind,run_getLoop hL,Result.andThen_ok]
  rw [if_neg (by rw [hsize];simp)]
  rfl
 ·rw [hlr.assign,hlr.body]
  have hzip:((L.params.zip avs.toArray).foldl (fun tmps (x:Tmp×Value)=>tmps.setIfInBounds x.1 x.2) L.tmps)=((b.params.zip avs).foldl (fun tmps (x:Nat×Value)=>tmps.setIfInBounds x.1 x.2) L.tmps):=by
   rw [← Array.foldl_toList,Array.toList_zip,hlr.params]
  have ht:TR (keep b.fn) (ntOf P b.fn) ρ tm ((L.params.zip avs.toArray).foldl (fun tmps (x:Tmp×Value)=>tmps.setIfInBounds x.1 x.2) L.tmps):=by rw [hzip];exact ht
  have hd0:∀ {ρ : Pls} {h:Heap} {w':World},DefOk ⟨0,none⟩ ρ h (putOff tm (ntOf P b.fn)) [] w':=⟨⟨fun d hd=>(by cases hd),List.Pairwise.nil⟩,hoff,fun ds0 e=>by cases e⟩
  refine roundIn_of_wpIn (F:=fen none) trivial ?_
  have hro:RoR ρ (some l) (some p.blk):=⟨p,hp,h0,rfl⟩
  refine exec_sound hkD hm hn hc b.assign ⟨tm,h⟩ q h4 ⟨0,none⟩ ρ _ w (some p.blk) _ hro hh ht hd0 (Nat.zero_le _) (fun e=>by cases e) (fun ρ1 a1 w1 hp1 ht1 hdf1=>?_)
  rw [hqn]
  obtain ⟨p1,L1,hpl1,_,hL1,hlr1⟩:=hp1.hr.blk _ _ hb'
  have e1:p1=p:=by have:=hp1.le _ _ hp;rw [hpl1] at this;exact Option.some.inj this
  subst e1
  cases hst:b'.st with
  | ready =>
   rw [hst] at h7
   obtain ⟨q2,h8,h9⟩:=ob_some.1 h7
   have hset:=hp1.hr.setLoop (r':={ b' with st:=.busy }) (L':={ L1 with state:=.busy }) hb' hpl1 h0 hL1 { hlr1 with st:=rfl }
   have hst1:L1.state=.ready:=by have:=hlr1.st;rw [hst] at this;exact this
   let w2:World:={ w1 with heap:=w1.heap.setIfInBounds p1.blk (.loop { L1 with state:=.busy }) }
   refine ⟨w2,?_,?_⟩
   ·simp only [Instr.beginRound,Sem.run_bind,run_getLoop hL1,Result.andThen_ok,run_setLoop hL1,hst1]
    rfl
   ·have hdef2:DefOk ⟨0,none⟩ ρ1 (q.2.hp.put l (.loop { b' with st:=.busy })) (putOff q.2.tm (ntOf P b.fn)) a1.defers w2:=hdf1.post hset
    refine exec_sound hkD hm hn hc b.body ⟨q.2.tm,q.2.hp.put l (.loop { b' with st:=.busy })⟩ q2 h8 ⟨0,none⟩ ρ1 a1 w2 (some p1.blk) _ (hro.mono hp1.le) hset.hr ht1 hdef2 (Nat.zero_le _) (fun e=>by cases e) (fun ρ2 a2 w3 hp2 ht2 hdf2=>?_)
    obtain ⟨b2,hb2,h10⟩:=theLoop_some h9
    obtain ⟨p2,L2,hpl2,_,hL2,hlr2⟩:=hp2.hr.blk _ _ hb2
    have e2:p2=p1:=by have:=hp2.le _ _ hpl1;rw [hpl2] at this;exact Option.some.inj this
    subst e2
    have fin:∀ (jump:Option Code) (st:LState) (S:LoopState),SR st S->S=(if jump.isNone then .ready else .done)->r=(.bool jump.isNone,q2.2.hp.put l (.loop { b2 with st:=st,pending:=jump })) ->
      ∃ v w',(Instr.endRound p2.blk jump).run P w3=.ok v w'/\Ret P keep ρ h w r (.returned v) w':=by
     intro jump st S hS hS2 hre
     have hset2:=hp2.hr.setLoop (r':={ b2 with st:=st,pending:=jump }) (L':={ L2 with state:=S,pending:=jump }) hb2 hpl2 h0 hL2 { hlr2 with st:=hS,pending:=rfl }
     let w4:World:={ w3 with heap:=w3.heap.setIfInBounds p2.blk (.loop { L2 with state:=S,pending:=jump }) }
     refine ⟨.bool jump.isNone,w4,?_,ρ2,?_,?_⟩
     ·simp only [Instr.endRound,Sem.run_bind,run_getLoop hL2,Result.andThen_ok,run_setLoop hL2,Sem.run_pure,← hS2]
      rfl
     ·rw [hre];exact rfl
     ·rw [hre];exact ((hp1.trans hset).trans hp2).trans hset2
    obtain ⟨e,s2⟩:=q2
    cases hst2:b2.st with
    | busy =>
     rw [hst2] at h10
     cases e with
     | normal=>cases h10;exact fin none .ready .ready rfl rfl rfl
     | ret=>cases h10;exact fin (some .ret) .done .done rfl rfl rfl
     | exit id=>cases h10;exact fin (some (.exit id)) .done .done rfl rfl rfl
     | goto t=>cases h10;exact fin (some (.goto t)) .done .done rfl rfl rfl
    | ready=>rw [hst2] at h10;cases h10
    | done=>rw [hst2] at h10;cases h10
    | exhausted=>rw [hst2] at h10;cases h10
  | busy=>rw [hst] at h7;cases h7
  | done=>rw [hst] at h7;cases h7
  | exhausted=>rw [hst] at h7;cases h7
theorem callN_sound {prims:Prims} (hm:P.follows .mixedOrders=true) (hn:NamesOk P) (hpr:PrimsOk P keep prims):∀ (n:Nat),CallOk P keep (callN P keep prims lf n):=by
 intro n
 induction n with
 | zero=>intro t args h r hr;cases hr
 | succ n ih =>
  intro t args h r hr ρ w avs hh hv
  cases t with
  | fn f=>exact callF_sound hm hn ih hpr (show callF P keep prims lf (callN P keep prims lf n) f args h=some r from hr) hh hv
  | loop l=>exact fun p hp=>callL_sound hm hn ih (show callL P keep lf (callN P keep prims lf n) l args h=some r from hr) hh hv hp
def noPrims:Prims:=⟨fun _ _ _=>none⟩
theorem noPrims_ok:PrimsOk P keep noPrims:=fun _ _ _ _ h=>by cases h
theorem empty_HR (w:World):HR P keep (fun _=>none) ⟨.leaf,0⟩ w:=⟨fun _ _ h=>(by cases h),fun _ _ h=>(by cases h),fun _ _ h=>(by cases h),fun _ _ _ _ _ _ h=>(by cases h)⟩
end
end Go.Am
namespace Go.Am
section
variable {P:Program} {keep:Keeps}
theorem Post.below {ρ : Pls} {h:Heap} {w w':World} (hr:HR P keep ρ h w) (hb:RowKit.Below w.heap.size w w'):Post P keep ρ h w ρ h w':=by
 refine ⟨Pls.le_refl _,hr.frame fun b x p hx hd hp=>?_,⟨hb.os,hb.output,hb.size,fun k hk _=>hb.block k hk⟩,fun _ _ h=>h,Nat.le_refl _,fun _ _ h _=>h,fun _ _ h=>h⟩
 obtain ⟨q,hq,hlt⟩:=(hr.blk b x hx).place hd
 rw [hp] at hq;cases hq
 exact hb.block _ hlt
theorem callsIn_none {f:FuncId} {args:Array Value} {w:World} {R:Ending->World->Prop} (h:Calls P f args w R):CallsIn (fen none) 0 P f args w R:=callsIn_wide.2 h
theorem prim_calls {f:FuncId} {avs:Array Value} {ρ : Pls} {h:Heap} {w:World} {r:AV} {v:Value} (hr:HR P keep ρ h w) (hv:VR ρ r v) (hc:Calls P f avs w fun e w'=>e=.returned v/\RowKit.Below w.heap.size w w') :
  CallsIn (fen none) 0 P f avs w (Ret P keep ρ h w (r,h)) :=
 CallsIn.mono (F:=fen none) (callsIn_none hc) fun e w' ⟨he,hb⟩=>by
  subst he
  exact ⟨ρ,hv,Post.below hr hb⟩
noncomputable def Prims.or (p q:Prims):Prims:=⟨fun f args h=>Option.rec (motive:=fun _=>Option Res) (q.fn f args h) some (p.fn f args h)⟩
theorem Prims.or_ok {p q:Prims} (hp:PrimsOk P keep p) (hq:PrimsOk P keep q):PrimsOk P keep (p.or q):=by
 intro f args h r hr
 cases hx:p.fn f args h with
 | none =>
  have:q.fn f args h=some (some r):=by
   have h1:(Option.rec (motive:=fun _=>Option Res) (q.fn f args h) some (p.fn f args h):Option Res)=some (some r):=hr
   rw [hx] at h1;exact h1
  exact hq f args h r this
 | some y =>
  have:p.fn f args h=some (some r):=by
   have h1:(Option.rec (motive:=fun _=>Option Res) (q.fn f args h) some (p.fn f args h):Option Res)=some (some r):=hr
   rw [hx] at h1;rw [hx];exact h1
  exact hp f args h r this
noncomputable def repeat2 (s n:AV) (h:Heap):Res:=eStr (fun l=>eInt (fun k n=>iff' (Nat.beq (kNo k) (nat_lit 3)) (Int.rec (motive:=fun _=>Res) (fun c=>iff' (and' (Nat.ble c (nat_lit 1073741824)) (Nat.ble (Nat.mul (len' l) c) (nat_lit 1073741824))) (some (.str (rep' c l),h))) (fun _=>none) n)) n) s
noncomputable def repeatP (g:FuncId):Prims:=⟨fun f args h=>Bool.rec (motive:=fun _=>Option Res) none (some (l2 (fun s n=>repeat2 s n h) args)) (Nat.beq f g)⟩
theorem repeatP_ok {g:FuncId} {rl:List UInt8->Nat->List UInt8} (hrl:∀ l c,rl l c=(List.replicate c l).flatten) (hb:∃ fn c,P.funcs[g]?=some fn/\fn.body=some c)
  (hc:∀ (s:ByteArray) (c:Nat) (w:World),c<=9223372036854775807->s.size*c<=140737488355328->Calls P g #[.string s,.int .i64 c] w fun e w'=>e=.returned (.string ⟨(rl s.data.toList c).toArray⟩)/\RowKit.Below w.heap.size w w'):PrimsOk P keep (repeatP g):=by
 intro f args h r hr ρ w avs hh hv
 replace hr:(Bool.rec (motive:=fun _=>Option Res) none (some (l2 (fun s n=>repeat2 s n h) args)) (Nat.beq f g):Option Res)=some (some r):=hr
 cases hfg:Nat.beq f g with
 | false=>rw [hfg] at hr;cases hr
 | true =>
  rw [hfg] at hr
  obtain rfl:=Nat.eq_of_beq_eq_true hfg
  have hr:l2 (fun s n=>repeat2 s n h) args=some r:=Option.some.inj hr
  obtain ⟨s,n,rfl,h1⟩:=l2_some hr
  obtain ⟨l,rfl,h2⟩:=eStr_some h1
  obtain ⟨k,n,rfl,h3⟩:=eInt_some h2
  obtain ⟨h4,h5⟩:=iff'_some.1 h3
  have hk:k=.i64:=by cases k <;> first | rfl | cases h4
  subst hk
  cases n with
  | negSucc c=>cases h5
  | ofNat c =>
   obtain ⟨h6,h7⟩:=iff'_some.1 h5
   cases h7
   simp only [and'_eq,Bool.and_eq_true] at h6
   have h8:=Nat.le_of_ble_eq_true h6.1
   have h9:=Nat.le_of_ble_eq_true h6.2
   obtain ⟨v,v',e1,⟨sb,rfl,rfl⟩,h10⟩:=hv.two
   cases h10
   subst e1
   refine ⟨hb,?_⟩
   have h9:(sb.data.toList.map (·.toNat)).length*c<=1073741824:=by have:=h9;rwa [len'_eq] at this
   have hsz:sb.size*c<=140737488355328:=by
    have:sb.size=(sb.data.toList.map (·.toNat)).length:=by rw [List.length_map,Array.length_toList];rfl
    rw [this];omega
   refine prim_calls hh ?_ (hc sb c w (by omega) hsz)
   refine ⟨_,rfl,?_⟩
   rw [hrl,rep'_eq]
   simp [List.map_flatten,List.map_replicate]
end
end Go.Am
namespace Go.Am
section
variable {P:Program} {keep:Keeps} {call:CallFn}
def IsOp (o:Oper) (dst:Option Tmp) (op:Op):Prop:=o.dst=dst/\o.op=op/\o.guard=none
theorem ops_value {ops:Array Oper} {i:Nat} {rest:List Nat} {o:Oper} {a:Act} {w w':World} {v:Value} {dst:Option Tmp} {op:Op} {Q:Exit->Act->World->Prop} (ho:ops[i]?=some o) (hi:IsOp o dst op) (hnd:∀ c,op≠.defer c)
  (hr:(execOp a.eval o).run P w=.ok (.value v) w') (h:wpOpsIn (fen none) 0 P ops Q rest (a.put dst v) w'):wpOpsIn (fen none) 0 P ops Q (i::rest) a w:=by
 obtain ⟨rfl,rfl,hg⟩:=hi
 have hw:Region.wanted o (yielded ops a.tmps)=true:=by simp [Region.wanted,hg]
 simp only [wpOpsIn,ho]
 rw [if_pos hw]
 refine ⟨fun _ _=>trivial,?_⟩
 rw [Oper.semAt_eq _ _ _ hnd,hr]
 exact h
theorem put_eval {a:Act} {d t:Nat} {v:Value} (hd:d<a.tmps.size):(a.put (some d) v).eval (.tmp t)=if t=d then v else a.eval (.tmp t):=put_getD hd
def KeysCode (tm:TypeId) (c:Code):Prop:=∃ (i0 i1 i2 i3 b0 b1:Nat) (o0 o1 o2 o3 o4 o5 o6 o7 o8 o9 o10:Oper) (ts:Array TypeId) (tb:TypeId),
 c=.seq (.region i0 #[o0,o1] false) (.block b0 (.loop (.seq (.region i1 #[o2,o3] false) (.seq (.cond (.tmp 7) .skip (.exit b0)) (.block b1 (.seq (.region i2 #[o4,o5,o6] false) (.seq (.region i3 #[o7,o8,o9,o10] false) (.cond (.tmp 13) .ret .skip)))))))) /\
 IsOp o0 (some 4) (.load tm (.tmp 1))/\IsOp o1 (some 5) (.range tm (.tmp 4))/\IsOp o2 (some 6) (.next (.tmp 5) false)/\IsOp o3 (some 7) (.extract (.tmp 6) 0) /\
 IsOp o4 (some 8) (.entry (.tmp 5))/\IsOp o5 (some 9) (.extract (.tmp 8) 0)/\IsOp o6 (some 3) (.assign (.tmp 9)) /\
 IsOp o7 (some 10) (.move (.tmp 0))/\IsOp o8 (some 11) (.move (.tmp 3))/\IsOp o9 (some 12) (.call ⟨.value (.tmp 10),#[.tmp 11],ts⟩)/\IsOp o10 (some 13) (.unOp .not tb (.tmp 12))
def bornOk (es:List MEnt) (clock:Nat):Prop:=(∀ e∈es,e.born<clock)/\es.Pairwise fun e e'=>e.born≠e'.born
theorem ERs.elem {ρ : Pls}:∀ {es:List MEnt} {l:List MapEntry},ERs ρ es l->∀ e'∈l,∃ e∈es,ER ρ e e'
 | [],l,h,e',he=>by cases h;simp at he
 | e::es,l,h,e',he=>by
  obtain ⟨x,xs,rfl,h1,h2⟩:=h
  rcases List.mem_cons.1 he with rfl | he
  ·exact ⟨e,List.mem_cons_self ..,h1⟩
  ·obtain ⟨y,hy,h3⟩:=ERs.elem h2 e' he;exact ⟨y,List.mem_cons_of_mem _ hy,h3⟩
theorem ERs.elem2 {ρ : Pls}:∀ {es:List MEnt} {l:List MapEntry},ERs ρ es l->∀ e∈es,∃ e'∈l,ER ρ e e'
 | [],l,h,e',he=>by simp at he
 | e::es,l,h,e',he=>by
  obtain ⟨x,xs,rfl,h1,h2⟩:=h
  rcases List.mem_cons.1 he with rfl | he
  ·exact ⟨x,List.mem_cons_self ..,h1⟩
  ·obtain ⟨y,hy,h3⟩:=ERs.elem2 h2 e' he;exact ⟨y,List.mem_cons_of_mem _ hy,h3⟩
theorem ERs.borns {ρ : Pls}:∀ {es:List MEnt} {l:List MapEntry},ERs ρ es l->l.map (·.born)=es.map (·.born)
 | [],l,h=>by cases h;rfl
 | e::es,l,h=>by obtain ⟨x,xs,rfl,h1,h2⟩:=h;simp [h1.2.2,ERs.borns h2]
theorem nodup_born {es:List MEnt} {clock:Nat} (h:bornOk es clock):(es.map (·.born)).Nodup:=by
 unfold List.Nodup
 rw [List.pairwise_map]
 exact h.2
theorem born_inj {es:List MEnt} {clock:Nat} (h:bornOk es clock) {e d:MEnt} (he:e∈es) (hd:d∈es) (hb:e.born=d.born):e=d:=by
 have key:∀ {l:List MEnt},(l.Pairwise fun e e'=>e.born≠e'.born)->∀ e∈l,∀ d∈l,e.born=d.born->e=d:=by
  intro l hl
  induction l with
  | nil=>intro e he;cases he
  | cons x l ih =>
   rw [List.pairwise_cons] at hl
   intro e he d hd hb
   rcases List.mem_cons.1 he with h1 | h1 <;> rcases List.mem_cons.1 hd with h2 | h2
   ·rw [h1,h2]
   ·subst h1;exact absurd hb (hl.1 d h2)
   ·subst h2;exact absurd hb.symm (hl.1 e h1)
   ·exact ih hl.2 e h1 d h2 hb
 exact key h.2 e he d hd hb
theorem nodup_le:∀ {l m:List Nat},l.Nodup->l ⊆ m->l.length<=m.length
 | [],m,_,_=>Nat.zero_le _
 | x::l,m,hn,hs=>by
  rw [List.nodup_cons] at hn
  have hx:x∈m:=hs (List.mem_cons_self ..)
  have h1:=nodup_le (l:=l) (m:=m.erase x) hn.2 (fun y hy=>by
   have:y≠x:=fun e=>hn.1 (e▸hy)
   exact (List.mem_erase_of_ne this).2 (hs (List.mem_cons_of_mem _ hy)))
  rw [List.length_erase_of_mem hx] at h1
  have:0<m.length:=List.length_pos_of_mem hx
  simp only [List.length_cons];omega
theorem nodup_map {α β : Type} {f:α->β} {l:List α} (h:(l.map f).Nodup):l.Nodup:=List.Pairwise.of_map f (fun _ _ hne e=>hne (by rw [e])) h
theorem keys_rel (_hn:NamesOk P) (hc:CallOk P keep call) {g:FuncId} {fn:Func} {c:Code} {tm tk te:TypeId} (hg:P.funcs[g]?=some fn) (hb:fn.body=some c) (hcode:KeysCode tm c) (hres:fn.results=#[]) (hnt:14<=fn.ntmps)
  (htm:P.underlying tm=some (.map tk te)) (hag:tAgg P tm=some false)
  {ρ : Pls} {h:Heap} {w:World} {l cb mb clock:Nat} {es:List MEnt} {avs:List Value} (hr:HR P keep ρ h w) (hv:VRs ρ [.func (.yield l) [] [],.ptr (some (cb,0))] avs)
  (hld:h.ld1 cb 0=some (.map (some mb))) (hmb:h.bs.gt mb=some (.map es clock)) (hborn:bornOk es clock)
  (J:List AV->Heap->Prop) (h0:J [] h) (hmap:∀ ks h',J ks h'->h'.bs.gt mb=some (.map es clock))
  (hstep:∀ ks h' k,J ks h'->ks.length<es.length->k∈es.map (·.key)->∃ h'',call (.loop l) [k] h'=some (.bool true,h'')/\J (ks++[k]) h'') :
  CallsIn (fen none) 0 P g avs.toArray w (fun e w'=>∃ v,e=.returned v/\∃ π h',π.Perm (es.map (·.key))/\J π h'/\∃ ρ',Post P keep ρ h w ρ' h' w'):=by
 obtain ⟨yv,cv,rfl,vy,vc⟩:=hv.two
 have vy':=vy
 have vc':=vc
 obtain ⟨pc,hpc,rfl⟩:=vc
 obtain ⟨fn',fa,ca,rfl,⟨pl,hpl,hpl0,rfl⟩,hfa,hca⟩:=vy
 obtain rfl:fa=#[]:=Array.toList_inj.1 hfa
 obtain rfl:ca=#[]:=Array.toList_inj.1 hca
 obtain ⟨pm,es0,hpm,hpm0,hm0,hes0⟩:=hr.blk _ _ hmb
 refine callsIn_of_wp hg hb trivial ?_
 obtain ⟨i0,i1,i2,i3,b0,b1,o0,o1,o2,o3,o4,o5,o6,o7,o8,o9,o10,ts,tb,rfl,q0,q1,q2,q3,q4,q5,q6,q7,q8,q9,q10⟩:=hcode
 
 generalize ha0:({ tmps:=[Value.func (Fn.yield pl.blk) #[] #[],Value.pointer (some ⟨pc.blk,pc.off+0,none⟩)].toArray++Array.replicate (fn.ntmps - [Value.func (Fn.yield pl.blk) #[] #[],Value.pointer (some ⟨pc.blk,pc.off+0,none⟩)].toArray.size) undef,defers:=[] }:Act)=a0
 have hsz0:14<=a0.tmps.size:=by subst ha0;simp;omega
 have hd0:a0.defers=[]:=by subst ha0;rfl
 have e0:a0.eval (.tmp 0)=Value.func (Fn.yield pl.blk) #[] #[]:=by subst ha0;simp only [Act.eval,Array.getD_eq_getD_getElem?];rw [Array.getElem?_append_left (by simp)];rfl
 have e1:a0.eval (.tmp 1)=Value.pointer (some ⟨pc.blk,pc.off+0,none⟩):=by subst ha0;simp only [Act.eval,Array.getD_eq_getD_getElem?];rw [Array.getElem?_append_left (by simp)];rfl
 clear ha0
 refine wpIn_seq (wpIn_region ?_)
 show wpOpsIn (fen none) 0 P #[o0,o1] _ [0,1] a0 w
 
 obtain ⟨mv,hload,vm⟩:=load1_sound (t:=tm) hag hr (show load1 h (.ptr (some (cb,0)))=some (.map (some mb)) from hld) vc'
 obtain ⟨pm',hpm',_,rfl⟩:=vm
 rw [hpm] at hpm';cases hpm'
 refine ops_value (o:=o0) rfl q0 (by intro c;simp) (w':=w) (v:=.map (some pm.blk)) ?_ ?_
 ·obtain ⟨dst,op,ty,pos,after,guard⟩:=o0
  obtain ⟨_,rfl,_⟩:=q0
  simp only [execOp,e1,Sem.run_bind,hload,Result.andThen_ok,Sem.run_pure]
 have s1:∀ (a:Act) (d:Nat) (v:Value),(a.put (some d) v).tmps.size=a.tmps.size:=fun a d v=>put_size _ _ _
 
 refine ops_value (o:=o1) rfl q1 (by intro c;simp) (w':={ w with heap:=w.heap.push (.mapIter (some pm.blk) clock #[] clock) }) (v:=.pointer (some ⟨w.heap.size,0,none⟩)) ?_ ?_
 ·obtain ⟨dst,op,ty,pos,after,guard⟩:=o1
  obtain ⟨_,rfl,_⟩:=q1
  have e4:(a0.put (some 4) (.map (some pm.blk))).eval (.tmp 4)=.map (some pm.blk):=by rw [put_eval (by omega),if_pos rfl]
  simp only [execOp,e4,Instr.range,Sem.run_bind,run_underlying htm,Result.andThen_ok]
  simp [getObj,newObj,Sem.run,hm0]
 simp only [wpOpsIn,Exit.then]
 let W1:World:={ w with heap:=w.heap.push (.mapIter (some pm.blk) clock #[] clock) }
 have hp1:Post P keep ρ h w ρ h W1:=Post.grow hr rfl rfl rfl
 refine wpIn_block (wpIn_loop (fun a W=>∃ (dn:List MEnt) (ρ1:Pls) (h1:Heap),(∀ e∈dn,e∈es)/\(dn.map (·.born)).Nodup/\J (dn.map (·.key)) h1/\Post P keep ρ h w ρ1 h1 W /\
   W.heap[w.heap.size]?=some (.mapIter (some pm.blk) clock (dn.map (·.born)).toArray clock)/\¬Own ρ1 h1 w.heap.size/\a.eval (.tmp 0)=Value.func (Fn.yield pl.blk) #[] #[]/\a.eval (.tmp 5)=.pointer (some ⟨w.heap.size,0,none⟩)/\14<=a.tmps.size/\a.defers=[])
  (fun _ W=>match W.heap[w.heap.size]? with | some (.mapIter _ _ seen _)=>es.length - seen.size | _=>0) ?_ ?_)
 ·refine ⟨[],ρ,h,(by intro e he;cases he),List.nodup_nil,h0,hp1,?_,?_,?_,?_,?_,?_⟩
  ·show (w.heap.push _)[w.heap.size]?=_
   simp
  ·intro ho;exact Nat.lt_irrefl _ (own_lt hr ho)
  ·rw [put_eval (by rw [s1];omega),if_neg (by decide),put_eval (by omega),if_neg (by decide)];exact e0
  ·rw [put_eval (by rw [s1];omega),if_pos rfl]
  ·rw [s1,s1];exact hsz0
  ·rw [put_defers,put_defers];exact hd0
 intro a W hI
 obtain ⟨dn,ρ1,h1,hsub,hnd,hJ,hP,hit,hown,f0,f5,fsz,fd⟩:=hI
 
 obtain ⟨pm',es1,hpm',_,hm1,hes1⟩:=hP.hr.blk _ _ (hmap _ _ hJ)
 have:=hP.le _ _ hpm;rw [hpm'] at this;cases this
 have hold:∀ x∈es1.toList,x.born<clock:=fun x hx=>by
  obtain ⟨e,he,hER⟩:=hes1.elem x hx
  rw [hER.2.2];exact hborn.1 e he
 refine wpIn_seq (wpIn_region ?_)
 show wpOpsIn (fen none) 0 P #[o2,o3] _ [0,1] a W
 rcases run_next_at (P:=P) W o2.type w.heap.size pm.blk clock clock (dn.map (·.born)).toArray es1 clock hit hm1 hold (Nat.le_refl _) with ⟨hleft,hnext⟩|⟨e',he',W2,hW2,hnext⟩
 · 
  refine ops_value (o:=o2) rfl q2 (by intro c;simp) (w':=W) (v:=.tuple #[.bool false]) ?_ ?_
  ·obtain ⟨dst,op,ty,pos,after,guard⟩:=o2
   obtain ⟨_,rfl,_⟩:=q2
   simp only [execOp,f5,Sem.run_bind]
   rw [hnext];rfl
  refine ops_value (o:=o3) rfl q3 (by intro c;simp) (w':=W) (v:=.bool false) ?_ ?_
  ·obtain ⟨dst,op,ty,pos,after,guard⟩:=o3
   obtain ⟨_,rfl,_⟩:=q3
   have e6:(a.put (some 6) (.tuple #[.bool false])).eval (.tmp 6)=.tuple #[.bool false]:=by rw [put_eval (by omega),if_pos rfl]
   simp only [execOp,e6]
   rfl
  simp only [wpOpsIn,Exit.then]
  refine wpIn_seq (wpIn_cond_false (by rw [put_eval (by rw [s1];omega),if_pos rfl]) (wpIn_exit ?_))
  simp only [Exit.then,Exit.inBlock,if_true]
  refine ⟨by rw [put_defers,put_defers];exact fd,.tuple #[],?_,.tuple #[],rfl,dn.map (·.key),h1,?_,hJ,ρ1,hP⟩
  ·simp [results,hres]
  ·refine List.Perm.map _ ?_
   have hnd2:dn.Nodup:=nodup_map hnd
   have hes:es.Nodup:=nodup_map (nodup_born hborn)
   refine (List.perm_ext_iff_of_nodup hnd2 hes).2 fun e=>⟨hsub e,fun he=>?_⟩
   obtain ⟨x,hx,hER⟩:=hes1.elem2 e he
   have hx2:x∉leftOf es1 (dn.map (·.born)).toArray:=by
    have:leftOf es1 (dn.map (·.born)).toArray=#[]:=Array.eq_empty_of_size_eq_zero hleft
    rw [this];simp
   simp only [leftOf,Array.mem_filter,not_and,Bool.not_eq_true',Bool.not_eq_false] at hx2
   have hc2:=hx2 (by simpa using hx)
   rw [hER.2.2] at hc2
   have:e.born∈dn.map (·.born):=by simpa using hc2
   obtain ⟨d,hd,hde⟩:=List.mem_map.1 this
   rw [← born_inj hborn (hsub d hd) he hde];exact hd
 · 
  simp only [leftOf,Array.mem_toList_iff,Array.mem_filter,Bool.not_eq_true'] at he'
  obtain ⟨he1,he2⟩:=he'
  obtain ⟨e,hee,hER⟩:=hes1.elem e' (by simpa using he1)
  have hnew:e.born∉dn.map (·.born):=by
   rw [hER.2.2] at he2
   intro hx
   have:(dn.map (·.born)).toArray.contains e.born=true:=by simpa using hx
   rw [this] at he2;cases he2
  let W3:World:=ChangeMaps.setBlock W2 w.heap.size (.mapIter (some pm.blk) clock ((dn.map (·.born)).toArray.push e'.born) clock)
  have hW2h:W2.heap=W.heap:=by rcases hW2 with rfl | rfl <;> rfl
  have hW2o:W2.os=W.os/\W2.output=W.output:=by rcases hW2 with rfl | rfl <;> exact ⟨rfl,rfl⟩
  have hlt:w.heap.size<W.heap.size:=(Array.getElem?_eq_some_iff.1 hit).1
  have hW3:∀ k,k≠w.heap.size->W3.heap[k]?=W.heap[k]?:=fun k hk=>by
   show (W2.heap.setIfInBounds _ _)[k]?=_
   rw [Array.getElem?_setIfInBounds,if_neg (fun e=>hk e.symm),hW2h]
  have hit3:W3.heap[w.heap.size]?=some (.mapIter (some pm.blk) clock ((dn.map (·.born)).toArray.push e'.born) clock):=by
   show (W2.heap.setIfInBounds _ _)[w.heap.size]?=_
   rw [Array.getElem?_setIfInBounds,if_pos rfl,if_pos (by rw [hW2h];exact hlt)]
  have hP3:Post P keep ρ h w ρ1 h1 W3:=by
   refine ⟨hP.le,hP.hr.frame fun b x p hx hd hp=>hW3 _ fun e=>hown ⟨b,x,p,hx,hd,hp,e⟩,⟨hW2o.1.trans hP.fr.os,hW2o.2.trans hP.fr.output,?_,fun k hk ho=>(hW3 k (by omega)).trans (hP.fr.sameW k hk ho)⟩,hP.own,hP.next,hP.new,hP.ownW⟩
   show w.heap.size<=(W2.heap.setIfInBounds _ _).size
   have:=hP.fr.size
   simp [hW2h];omega
  have hnext:(Instr.next (.pointer (some ⟨w.heap.size,0,none⟩)) false o2.type).run P W=.ok (.tuple #[.bool true,e'.key,e'.val]) W3:=hnext
  refine ops_value (o:=o2) rfl q2 (by intro c;simp) (w':=W3) (v:=.tuple #[.bool true,e'.key,e'.val]) ?_ ?_
  ·obtain ⟨dst,op,ty,pos,after,guard⟩:=o2
   obtain ⟨_,rfl,_⟩:=q2
   simp only [execOp,f5,Sem.run_bind]
   rw [hnext];rfl
  refine ops_value (o:=o3) rfl q3 (by intro c;simp) (w':=W3) (v:=.bool true) ?_ ?_
  ·obtain ⟨dst,op,ty,pos,after,guard⟩:=o3
   obtain ⟨_,rfl,_⟩:=q3
   have e6:(a.put (some 6) (.tuple #[.bool true,e'.key,e'.val])).eval (.tmp 6)=.tuple #[.bool true,e'.key,e'.val]:=by rw [put_eval (by omega),if_pos rfl]
   simp only [execOp,e6]
   rfl
  simp only [wpOpsIn,Exit.then]
  generalize hA:((a.put (some 6) (.tuple #[.bool true,e'.key,e'.val])).put (some 7) (.bool true))=A
  have A0:A.eval (.tmp 0)=Value.func (Fn.yield pl.blk) #[] #[]:=by subst hA;rw [put_eval (by rw [s1];omega),if_neg (by decide),put_eval (by omega),if_neg (by decide)];exact f0
  have A5:A.eval (.tmp 5)=.pointer (some ⟨w.heap.size,0,none⟩):=by subst hA;rw [put_eval (by rw [s1];omega),if_neg (by decide),put_eval (by omega),if_neg (by decide)];exact f5
  have A7:A.eval (.tmp 7)=.bool true:=by subst hA;rw [put_eval (by rw [s1];omega),if_pos rfl]
  have Asz:14<=A.tmps.size:=by subst hA;rw [s1,s1];exact fsz
  have Ad:A.defers=[]:=by subst hA;rw [put_defers,put_defers];exact fd
  clear hA
  refine wpIn_seq (wpIn_cond_true A7 (wpIn_skip ?_))
  simp only [Exit.then]
  refine wpIn_block (wpIn_seq (wpIn_region ?_))
  show wpOpsIn (fen none) 0 P #[o4,o5,o6] _ [0,1,2] A W3
  have hm3:W3.heap[pm.blk]?=some (.map es1 clock):=by
   rw [hW3 _ (fun e=>?_)];exact hm1
   exact hown ⟨mb,_,pm,hmap _ _ hJ,rfl,hpm',e⟩
  have hnb:(es1.toList.map (·.born)).Nodup:=by rw [hes1.borns];exact nodup_born hborn
  refine ops_value (o:=o4) rfl q4 (by intro c;simp) (w':=W3) (v:=.tuple #[e'.key,e'.val]) ?_ ?_
  ·obtain ⟨dst,op,ty,pos,after,guard⟩:=o4
   obtain ⟨_,rfl,_⟩:=q4
   simp only [execOp,A5,Sem.run_bind]
   rw [run_entry_at W3 w.heap.size pm.blk clock _ es1 clock e' hit3 hm3 (by simpa using he1) hnb];rfl
  refine ops_value (o:=o5) rfl q5 (by intro c;simp) (w':=W3) (v:=e'.key) ?_ ?_
  ·obtain ⟨dst,op,ty,pos,after,guard⟩:=o5
   obtain ⟨_,rfl,_⟩:=q5
   have e8:(A.put (some 8) (.tuple #[e'.key,e'.val])).eval (.tmp 8)=.tuple #[e'.key,e'.val]:=by rw [put_eval (by omega),if_pos rfl]
   simp only [execOp,e8]
   rfl
  refine ops_value (o:=o6) rfl q6 (by intro c;simp) (w':=W3) (v:=e'.key) ?_ ?_
  ·obtain ⟨dst,op,ty,pos,after,guard⟩:=o6
   obtain ⟨_,rfl,_⟩:=q6
   have e9:((A.put (some 8) (.tuple #[e'.key,e'.val])).put (some 9) e'.key).eval (.tmp 9)=e'.key:=by rw [put_eval (by rw [s1];omega),if_pos rfl]
   simp only [execOp,e9]
   rfl
  simp only [wpOpsIn,Exit.then]
  generalize hB:(((A.put (some 8) (.tuple #[e'.key,e'.val])).put (some 9) e'.key).put (some 3) e'.key)=B
  have B0:B.eval (.tmp 0)=Value.func (Fn.yield pl.blk) #[] #[]:=by subst hB;rw [put_eval (by rw [s1,s1];omega),if_neg (by decide),put_eval (by rw [s1];omega),if_neg (by decide),put_eval (by omega),if_neg (by decide)];exact A0
  have B5:B.eval (.tmp 5)=.pointer (some ⟨w.heap.size,0,none⟩):=by subst hB;rw [put_eval (by rw [s1,s1];omega),if_neg (by decide),put_eval (by rw [s1];omega),if_neg (by decide),put_eval (by omega),if_neg (by decide)];exact A5
  have B3:B.eval (.tmp 3)=e'.key:=by subst hB;rw [put_eval (by rw [s1,s1];omega),if_pos rfl]
  have Bsz:14<=B.tmps.size:=by subst hB;rw [s1,s1,s1];exact Asz
  have Bd:B.defers=[]:=by subst hB;rw [put_defers,put_defers,put_defers];exact Ad
  clear hB
  refine wpIn_seq (wpIn_region ?_)
  show wpOpsIn (fen none) 0 P #[o7,o8,o9,o10] _ [0,1,2,3] B W3
  refine ops_value (o:=o7) rfl q7 (by intro c;simp) (w':=W3) (v:=Value.func (Fn.yield pl.blk) #[] #[]) ?_ ?_
  ·obtain ⟨dst,op,ty,pos,after,guard⟩:=o7
   obtain ⟨_,rfl,_⟩:=q7
   simp only [execOp,B0];rfl
  refine ops_value (o:=o8) rfl q8 (by intro c;simp) (w':=W3) (v:=e'.key) ?_ ?_
  ·obtain ⟨dst,op,ty,pos,after,guard⟩:=o8
   obtain ⟨_,rfl,_⟩:=q8
   have e3:(B.put (some 10) (Value.func (Fn.yield pl.blk) #[] #[])).eval (.tmp 3)=e'.key:=by rw [put_eval (by omega),if_neg (by decide)];exact B3
   simp only [execOp,e3];rfl
  generalize hC:((B.put (some 10) (Value.func (Fn.yield pl.blk) #[] #[])).put (some 11) e'.key)=C
  have C0:C.eval (.tmp 0)=Value.func (Fn.yield pl.blk) #[] #[]:=by subst hC;rw [put_eval (by rw [s1];omega),if_neg (by decide),put_eval (by omega),if_neg (by decide)];exact B0
  have C5:C.eval (.tmp 5)=.pointer (some ⟨w.heap.size,0,none⟩):=by subst hC;rw [put_eval (by rw [s1];omega),if_neg (by decide),put_eval (by omega),if_neg (by decide)];exact B5
  have C10:C.eval (.tmp 10)=Value.func (Fn.yield pl.blk) #[] #[]:=by subst hC;rw [put_eval (by rw [s1];omega),if_neg (by decide),put_eval (by omega),if_pos rfl]
  have C11:C.eval (.tmp 11)=e'.key:=by subst hC;rw [put_eval (by rw [s1];omega),if_pos rfl]
  have Csz:14<=C.tmps.size:=by subst hC;rw [s1,s1];exact Bsz
  have Cd:C.defers=[]:=by subst hC;rw [put_defers,put_defers];exact Bd
  clear hC
  
  have hdl:dn.length<es.length:=by
   have hsub2:(dn++[e]).map (·.born) ⊆ es.map (·.born):=by
    intro x hx
    obtain ⟨y,hy,rfl⟩:=List.mem_map.1 hx
    refine List.mem_map.2 ⟨y,?_,rfl⟩
    rcases List.mem_append.1 hy with h1 | h1
    ·exact hsub y h1
    ·rw [List.mem_singleton.1 h1];exact hee
   have hnd2:((dn++[e]).map (·.born)).Nodup:=by
    rw [List.map_append,List.nodup_append]
    exact ⟨hnd,by simp,fun x hx y hy e2=>by
     simp only [List.map_cons,List.map_nil,List.mem_singleton] at hy
     subst hy;subst e2;exact hnew hx⟩
   have:=nodup_le hnd2 hsub2
   simp at this;omega
  obtain ⟨h2,hcall,hJ2⟩:=hstep (dn.map (·.key)) h1 e.key hJ (by simpa using hdl) (List.mem_map.2 ⟨e,hee,rfl⟩)
  have hER2:VR ρ1 e.key e'.key:=by
   have:=hER.1
   exact this
  obtain ⟨f',tmps',assign',body',hy,hround⟩:=hc _ _ _ _ hcall ρ1 W3 [e'.key] hP3.hr ⟨_,[],rfl,hER2,rfl⟩ pl (hP.le _ _ hpl)
  have hcallrun:(execOp C.eval o9).run P W3=.ok (.round pl.blk f' tmps' assign' body') W3:=by
   obtain ⟨dst,op,ty,pos,after,guard⟩:=o9
   obtain ⟨_,rfl,_⟩:=q9
   simp only [execOp,Go.resolve,C10,Deferred.ofValue,Sem.run_bind,Sem.run_pure,Result.andThen_ok,invoke,List.map_toArray,List.map_cons,List.map_nil,C11]
   simp only [Array.empty_append]
   exact hy
  have hdst9:o9.dst=some 12:=q9.1
  have hg9:Region.wanted o9 (yielded #[o7,o8,o9,o10] C.tmps)=true:=by simp [Region.wanted,q9.2.2]
  simp only [wpOpsIn]
  rw [show (#[o7,o8,o9,o10]:Array Oper)[2]?=some o9 from rfl]
  simp only
  rw [if_pos hg9]
  refine ⟨fun _ _=>trivial,?_⟩
  rw [Oper.semAt_eq _ _ _ (by rw [q9.2.1];intro c e;cases e),hcallrun,Oper.uponIn_round]
  refine ⟨fun hd=>(by cases hd),RoundIn.mono (F:=fen none) hround fun en W4 hR=>?_⟩
  cases en with
  | panicked chain=>exact hR.elim
  | outgrown=>exact hR.elim
  | returned rv =>
   obtain ⟨ρ2,vr,hP4⟩:=hR
   cases vr
   rw [hdst9]
   rw [show (#[o7,o8,o9,o10]:Array Oper)[3]?=some o10 from rfl]
   simp only
   rw [if_pos (by simp [Region.wanted,q10.2.2])]
   refine ⟨fun _ _=>trivial,?_⟩
   have hnot:(execOp (C.put (some 12) (.bool true)).eval o10).run P W4=.ok (.value (.bool false)) W4:=by
    obtain ⟨dst,op,ty,pos,after,guard⟩:=o10
    obtain ⟨_,rfl,_⟩:=q10
    have e12:(C.put (some 12) (.bool true)).eval (.tmp 12)=.bool true:=by rw [put_eval (by omega),if_pos rfl]
    simp only [execOp,e12];rfl
   rw [Oper.semAt_eq _ _ _ (by rw [q10.2.1];intro c e;cases e),hnot,Oper.uponIn_value,q10.1]
   refine wpIn_cond_false (by rw [put_eval (by rw [s1];omega),if_pos rfl]) (wpIn_skip ?_)
   simp only [Exit.inBlock,Exit.then]
   have hP5:=hP3.trans hP4
   have hown3:¬Own ρ1 h1 w.heap.size:=hown
   have hlt3:w.heap.size<W3.heap.size:=(Array.getElem?_eq_some_iff.1 hit3).1
   have hit4:W4.heap[w.heap.size]?=some (.mapIter (some pm.blk) clock ((dn.map (·.born)).toArray.push e'.born) clock):=(hP4.fr.same _ hlt3 hown3).trans hit3
   refine ⟨⟨dn++[e],ρ2,h2,?_,?_,?_,hP5,?_,?_,?_,?_,?_,?_⟩,?_⟩
   ·intro x hx
    rcases List.mem_append.1 hx with h1 | h1
    ·exact hsub x h1
    ·rw [List.mem_singleton.1 h1];exact hee
   ·rw [List.map_append,List.nodup_append]
    exact ⟨hnd,by simp,fun x hx y hy e2=>by
     simp only [List.map_cons,List.map_nil,List.mem_singleton] at hy
     subst hy;subst e2;exact hnew hx⟩
   ·rw [List.map_append];exact hJ2
   ·rw [hit4,hER.2.2];simp
   ·exact fun ho=>hown3 (hP4.own _ hlt3 ho)
   ·rw [put_eval (by rw [s1];omega),if_neg (by decide),put_eval (by omega),if_neg (by decide)];exact C0
   ·rw [put_eval (by rw [s1];omega),if_neg (by decide),put_eval (by omega),if_neg (by decide)];exact C5
   ·rw [s1,s1];exact Csz
   ·rw [put_defers,put_defers];exact Cd
   ·simp only [hit4,hit,Array.size_push,List.size_toArray,List.length_map]
    omega
end
end Go.Am
namespace Go.Am
section
variable {P:Program} {keep:Keeps} {call:CallFn} {lf:Nat}
theorem new_get (h:Heap) (b:Nat) (x:Blk) (c:Nat):(h.new b x).bs.gt c=if c=b then some x else h.bs.gt c:=Tr.gt_up _ _ _ _
theorem new_next (h:Heap) (x:Blk):(h.new h.next x).next=h.next+1:=by
 rw [new_eq (Nat.le_refl _)]
theorem theLoop_of {β : Type} {h:Heap} {b:Nat} {r:LRec} {f:LRec->Option β} (hb:h.bs.gt b=some (.loop r)):h.theLoop b f=f r:=by unfold Heap.theLoop;rw [hb]
theorem cells_of {β : Type} {h:Heap} {b:Nat} {t:Tr AV} {z:List AV} {n:Nat} {ro:Bool} {f:Tr AV->List AV->Nat->Bool->Option β} (hb:h.bs.gt b=some (.cells t z n ro)):h.cells b f=f t z n ro:=by unfold Heap.cells;rw [hb]
theorem ld1_of {h:Heap} {b o n:Nat} {t:Tr AV} {z:List AV} {ro:Bool} {v:AV} (hb:h.bs.gt b=some (.cells t z n ro)) (ho:o<n) (hv:cellAt t z o=some v):h.ld1 b o=some v:=by
 unfold Heap.ld1
 rw [cells_of hb]
 show (Bool.rec (motive:=fun _=>Option AV) none (cellAt t z o) (Nat.ble (o+1) n):Option AV)=_
 rw [Nat.ble_eq_true_of_le ho,hv]
theorem loadC_of {t:Tr AV} {z:List AV}:∀ {vs:List AV} {i:Nat},(∀ j,j<vs.length->cellAt t z (i+j)=vs[j]?)->loadC t z vs.length i=some vs
 | [],i,_=>rfl
 | v::vs,i,h=>by
  rw [List.length_cons,loadC_succ]
  have h0:=h 0 (by simp)
  simp only [Nat.add_zero,List.getElem?_cons_zero] at h0
  rw [h0]
  have ih:=loadC_of (t:=t) (z:=z) (vs:=vs) (i:=i+1) (fun j hj=>by
   have:=h (j+1) (by simp;omega)
   rw [show i+(j+1)=i+1+j by omega] at this
   simpa using this)
  show ob (loadC t z vs.length (i+1)) _=_
  rw [ih]
theorem ld_of {h:Heap} {b o n:Nat} {t:Tr AV} {z:List AV} {ro:Bool} {vs:List AV} (hb:h.bs.gt b=some (.cells t z n ro)) (hn:o+vs.length<=n) (hv:∀ j,j<vs.length->cellAt t z (o+j)=vs[j]?):h.ld b o vs.length=some vs:=by
 unfold Heap.ld
 rw [cells_of hb]
 show (Bool.rec (motive:=fun _=>Option (List AV)) none (loadC t z vs.length o) (Nat.ble (o+vs.length) n):Option (List AV))=_
 rw [Nat.ble_eq_true_of_le hn]
 exact loadC_of hv
theorem st1_of {h:Heap} {b o n:Nat} {t:Tr AV} {z:List AV} {v:AV} (hb:h.bs.gt b=some (.cells t z n false)) (ho:o<n) (hv:v.one=true):h.st1 b o v=some (h.put b (.cells (t.up (some v) o) z n false)):=by
 unfold Heap.st1
 rw [cells_of hb]
 show (Bool.rec (motive:=fun _=>Option Heap) none (Bool.rec (motive:=fun _=>Option Heap) none _ v.one) (Nat.ble (o+1) n):Option Heap)=_
 rw [Nat.ble_eq_true_of_le ho,hv]
theorem cellAt_fill (vs:List AV) (z:List AV) (i:Nat) (hi:i<vs.length):cellAt (fillC vs .leaf 0) z i=vs[i]?:=by
 unfold cellAt
 rw [gt_fillC,if_pos (by omega),Nat.sub_zero,List.getElem?_eq_getElem hi]
theorem cellAt_up (t:Tr AV) (z:List AV) (o i:Nat) (v:AV):cellAt (t.up (some v) o) z i=if i=o then some v else cellAt t z i:=by
 unfold cellAt
 rw [Tr.gt_up]
 split <;> rfl
theorem cellAt_fillOn (vs:List AV) (t:Tr AV) (z:List AV) (o i:Nat):cellAt (fillC vs t o) z i=if o<=i/\i<o+vs.length then vs[i - o]? else cellAt t z i:=by
 unfold cellAt
 rw [gt_fillC]
 split
 ·rename_i h
  rw [List.getElem?_eq_getElem (by omega)]
 ·rfl
theorem iff'_true {β : Type} (r:Option β):iff' true r=r:=rfl
theorem ob_some' {α β : Type} (x:α) (f:α->Option β):ob (some x) f=f x:=rfl
def Grown (h:Heap) (lo:Nat) (e sz:Nat) (sv:AV) (cs:List AV) (n:Nat):Prop :=
 (n=0/\cs=[]/\sv=.slice none 0 0 none) ∨
 ∃ id t z,lo<=id/\id<h.next/\sv=.slice (some (id,0)) n n (some sz)/\h.bs.gt id=some (.cells t z (n*sz) false)/\fitsZ e z=true/\cs.length=n*sz/\(∀ i,i<n*sz->cellAt t z i=cs[i]?)/\0<n
theorem grown_append {ts e sz bs:Nat} (hu:P.underlying ts=some (.slice e)) (hs:tSize P e=some (sz+1)) (hb:tBytes P e=some bs) (hz:(tZero P e).map (fun z=>Nat.beq (len' z.cells) (sz+1))=some true) {h:Heap} {lo:Nat} {sv:AV} {cs:List AV} {n:Nat}
  (hg:Grown h lo e (sz+1) sv cs n) (hlo:lo<=h.next) (hroom:room bs (n+1)=true) {x:Nat} {vs:List AV} {tx:Tr AV} {zx:List AV} {rx:Bool} (hx:h.bs.gt x=some (.cells tx zx (sz+1) rx)) (hvs:vs.length=sz+1) (hxv:∀ j,j<vs.length->cellAt tx zx j=vs[j]?) (hone:allOne vs=true) :
  ∃ sv' h',appendS P ts sv (.slice (some (x,0)) 1 1 none) h.next h=some (sv',h')/\h'.next=h.next+1/\Grown h' lo e (sz+1) sv' (cs++vs) (n+1)/\sv'.one=true /\
   ∀ b,b<h.next->(∀ id,sv=.slice (some (id,0)) n n (some (sz+1))->b≠id)->h'.bs.gt b=h.bs.gt b:=by
 have hld:h.ld x 0 (1*(sz+1))=some vs:=by
  rw [Nat.one_mul,← hvs]
  exact ld_of hx (by omega) (fun j hj=>by rw [Nat.zero_add];exact hxv j hj)
 have hsrc:srcOf (sz+1) (fun n=>n) (.slice (some (x,0)) 1 1 none) h=some (vs,1):=by
  show (Option.rec (motive:=fun _=>Option (List AV×Nat)) none (fun vs=>some (vs,1)) (h.ld x 0 (1*(sz+1))):Option (List AV×Nat))=_
  rw [hld]
 have hunf:∀ a len cap g,appendS P ts (.slice a len cap g) (.slice (some (x,0)) 1 1 none) h.next h=iff' (and' (room bs (len+1)) (Nat.beq (len' vs) (1*(sz+1)))) (appAt (sz+1) e a len cap g h.next h vs 1):=by
  intro a len cap g
  unfold appendS
  rw [hu]
  simp only [hs,hb]
  rw [show (some (sz+1):Option Nat).getD 0=sz+1 from rfl,hz]
  show (Option.rec (motive:=fun _=>Option (AV×Heap)) none _ (srcOf (sz+1) (fun n=>n) (.slice (some (x,0)) 1 1 none) h):Option (AV×Heap))=_
  rw [hsrc]
  rfl
 have hl1:Nat.beq (len' vs) (1*(sz+1))=true:=by rw [len'_eq,hvs,Nat.one_mul];simp
 rcases hg with ⟨rfl,rfl,rfl⟩|⟨id,t,z,h1,h2,rfl,h3,h4,h5,h6,_⟩
 ·refine ⟨.slice (some (h.next,0)) 1 1 (some (sz+1)),h.new h.next (.cells (fillC vs .leaf 0) (tyMark e false) (len' vs) false),?_,new_next _ _,?_,rfl,?_⟩
  ·rw [hunf,hroom,hl1]
   show iff' (allOne vs) _=_
   rw [hone];rfl
  ·refine .inr ⟨h.next,fillC vs .leaf 0,tyMark e false,hlo,by rw [new_next];omega,rfl,by rw [new_get,if_pos rfl,len'_eq,hvs,Nat.one_mul],?_,by simp [hvs],fun i hi=>?_,by omega⟩
   ·show (Bool.rec (motive:=fun _=>Bool) (Nat.beq e e) false false:Bool)=true
    simp
   ·rw [List.nil_append];exact cellAt_fill _ _ _ (by omega)
  ·intro b hb' _
   rw [new_get,if_neg (by omega)]
 ·refine ⟨.slice (some (h.next,0)) (n+1) (n+1) (some (sz+1)),(h.put id .dead).new h.next (.cells (fillC vs t (n*(sz+1))) z (n*(sz+1)+1*(sz+1)) false),?_,?_,?_,rfl,?_⟩
  ·rw [hunf,hroom,hl1]
   have hble:Nat.ble (n+1) n=false:=by
    cases hx:Nat.ble (n+1) n with
    | false=>rfl
    | true=>have:=Nat.le_of_ble_eq_true hx;omega
   show (Bool.rec (motive:=fun _=>Option (AV×Heap)) (iff' (Nat.beq (sz+1) (sz+1)) (appDead (sz+1) (n+1) e 0 n 1 vs id h.next h)) _ (Nat.ble (n+1) n):Option (AV×Heap))=_
   rw [hble,show Nat.beq (sz+1) (sz+1)=true from by simp]
   show appDead (sz+1) (n+1) e 0 n 1 vs id h.next h=_
   unfold appDead
   rw [cells_of h3]
   have e1:and' (and' (notB false) (allOne vs)) (fitsZ e z)=true:=by rw [hone,h4];rfl
   rw [e1,iff'_true]
   have e2:and' (Nat.beq 0 0) (Nat.beq (Nat.mul n (sz+1)) (n*(sz+1)))=true:=by
    rw [and'_eq,show Nat.mul n (sz+1)=n*(sz+1) from rfl];simp
   rw [e2]
   rfl
  ·show ((h.put id .dead).new h.next _).next=_
   rw [show h.next=(h.put id .dead).next from rfl,new_next]
  ·refine .inr ⟨h.next,_,_,hlo,?_,rfl,by rw [new_get,if_pos rfl,Nat.add_mul],h4,by rw [List.length_append,h5,hvs,Nat.add_mul,Nat.one_mul],fun i hi=>?_,by omega⟩
   ·show h.next<((h.put id .dead).new h.next _).next
    rw [show h.next=(h.put id .dead).next from rfl,new_next];omega
   ·rw [cellAt_fillOn]
    rw [Nat.add_mul,Nat.one_mul] at hi
    by_cases hlt:i<n*(sz+1)
    ·rw [if_neg (by omega),h6 i hlt,List.getElem?_append_left (by omega)]
    ·rw [if_pos (by omega),List.getElem?_append_right (by omega),h5]
  ·intro b hb' hne
   have:=hne id rfl
   rw [new_get,if_neg (by omega),put_get,if_neg this]
structure AppLoop (P:Program) (keep:Keeps) (rec:LRec) (B0:Nat) (ts sz:Nat) (F1:List AV->Option (Blk×(Nat->AV))):Prop where
 st:rec.st=.ready
 pending:rec.pending=none
 params:rec.params=[7]
 slot:rec.tm.gt 2=some (.ptr (some (B0,0)))
 off:noOff rec.tm (ntOf P rec.fn)=true
 nt:7<ntOf P rec.fn
 keepD:keep rec.fn (ntOf P rec.fn)=false
 assign:compC P (keep rec.fn) (ntOf P rec.fn) rec.assign=.reg [] [(5,.tmp 7)]
 body:compC P (keep rec.fn) (ntOf P rec.fn) rec.body=.block 1 (.reg [⟨none,.ld1 (.tmp 2)⟩,⟨none,.al F1 [.tmp 5]⟩,⟨none,.ef (fun vs id h=>l2 (fun s x=>appendS P ts s x id h) vs) [.loc 1,.loc 0]⟩,⟨none,.st1 (.tmp 2) (.loc 0)⟩] [])
theorem app_round {prims:Prims} {n:Nat} {rec:LRec} {B0 ts e sz bs:Nat} {F1:List AV->Option (Blk×(Nat->AV))} (hL:AppLoop P keep rec B0 ts sz F1)
  (hu:P.underlying ts=some (.slice e)) (hs:tSize P e=some (sz+1)) (hbs:tBytes P e=some bs) (hz:(tZero P e).map (fun z=>Nat.beq (len' z.cells) (sz+1))=some true)
  {h:Heap} {l lo:Nat} {sv k:AV} {cs:List AV} {m:Nat} (hl:h.bs.gt l=some (.loop rec)) (hln:l<h.next) (hB:B0<h.next) (hlB:l≠B0) {tb:Tr AV} {zb:List AV} (hb0:h.bs.gt B0=some (.cells tb zb 1 false)) (hsv:cellAt tb zb 0=some sv)
  (hg:Grown h lo e (sz+1) sv cs m) (hlo:lo<=h.next) (hlol:l<lo) (hloB:B0<lo) (hroom:room bs (m+1)=true) (hF:F1 [k]=some (rowBlk k.cells,sliceTo 1)) (hk:k.cells.length=sz+1) (hone:allOne k.cells=true) :
  ∃ h' sv' tb',callN P keep prims lf (n+1) (.loop l) [k] h=some (.bool true,h')/\h'.bs.gt l=some (.loop rec)/\h'.bs.gt B0=some (.cells tb' zb 1 false)/\cellAt tb' zb 0=some sv'/\Grown h' lo e (sz+1) sv' (cs++k.cells) (m+1)/\h.next<=h'.next /\
   ∀ b,b<lo->b≠l->b≠B0->h'.bs.gt b=h.bs.gt b:=by
 obtain ⟨st,pending,fn,tm,params,assign,body⟩:=rec
 obtain ⟨h1,h2,h3,h4,h5,h6,h7,h8,h9⟩:=hL
 simp only at h1 h2 h3 h4 h5 h6 h7 h8 h9
 subst h1 h2 h3
 generalize hRec:(⟨.ready,none,fn,tm,[7],assign,body⟩:LRec)=rec at hl
 generalize hBusy:(⟨.busy,none,fn,tm,[7],assign,body⟩:LRec)=rbusy
 let tm1:=tm.up (some k) 7
 let tm2:=tm1.up (some k) 5
 let hb:=h.put l (.loop rbusy)
 have hbB:hb.bs.gt B0=some (.cells tb zb 1 false):=by rw [put_get,if_neg (fun e=>hlB e.symm)];exact hb0
 have hbn:hb.next=h.next:=rfl
 let hc:=hb.new hb.next (rowBlk k.cells)
 have hcn:hc.next=h.next+1:=new_next hb _
 have hcx:hc.bs.gt h.next=some (rowBlk k.cells):=by rw [new_get,hbn,if_pos rfl]
 have hcold:∀ b,b<h.next->hc.bs.gt b=hb.bs.gt b:=fun b hlt=>by rw [new_get,hbn,if_neg (by omega)]
 have hgc:Grown hc lo e (sz+1) sv cs m:=by
  rcases hg with ⟨a,b,c⟩|⟨id,t,z,a1,a2,a3,a4,a5⟩
  ·exact .inl ⟨a,b,c⟩
  ·refine .inr ⟨id,t,z,a1,by omega,a3,?_,a5⟩
   rw [hcold id a2,put_get,if_neg (by omega)];exact a4
 have hcx':hc.bs.gt h.next=some (.cells (fillC k.cells .leaf 0) [] (sz+1) false):=by rw [hcx,len_rowBlk,hk]
 obtain ⟨sv',hd,ha1,ha2,ha3,ha4,ha5⟩:=grown_append (P:=P) hu hs hbs hz hgc (by omega) hroom hcx' hk (fun j hj=>cellAt_fill _ _ _ hj) hone
 have hdB:hd.bs.gt B0=some (.cells tb zb 1 false):=by
  rw [ha5 B0 (by omega) (fun id e1 e2=>?_),hcold B0 hB,hbB]
  rcases hgc with ⟨_,_,c⟩|⟨id',t,z,a1,a2,a3,_⟩
  ·rw [c] at e1;cases e1
  ·rw [a3] at e1;cases e1;omega
 have hdl:hd.bs.gt l=some (.loop rbusy):=by
  rw [ha5 l (by omega) (fun id e1 e2=>?_),hcold l hln,put_get,if_pos rfl]
  rcases hgc with ⟨_,_,c⟩|⟨id',t,z,a1,a2,a3,_⟩
  ·rw [c] at e1;cases e1
  ·rw [a3] at e1;cases e1;omega
 have hst:=st1_of (o:=0) hdB (by omega) ha4
 let he:=hd.put B0 (.cells (tb.up (some sv') 0) zb 1 false)
 have hel:he.bs.gt l=some (.loop rbusy):=by rw [put_get,if_neg hlB];exact hdl
 let h':=he.put l (.loop rec)
 refine ⟨h',sv',tb.up (some sv') 0,?_,by rw [put_get,if_pos rfl],by rw [put_get,if_neg (fun e=>hlB e.symm),put_get,if_pos rfl],by rw [cellAt_up,if_pos rfl],?_,?_,fun b hlt hbl hbB0=>?_⟩
 ·show callL P keep lf (callN P keep prims lf n) l [k] h=_
  unfold callL
  rw [theLoop_of hl]
  subst hRec
  simp only
  have e1:setPs (ntOf P fn) [7] [k] tm=some tm1:=by
   rw [setPs_cons,show Nat.ble (7+1) (ntOf P fn)=true from Nat.ble_eq_true_of_le h6]
   rfl
  rw [e1,ob_some',h7,h5]
  show ob (execA (callN P keep prims lf n) lf (ntOf P fn) fn (some l) (compC P (keep fn) (ntOf P fn) assign) ⟨tm1,h⟩) _=_
  rw [h8]
  have e2:execA (callN P keep prims lf n) lf (ntOf P fn) fn (some l) (.reg [] [(5,.tmp 7)]) ⟨tm1,h⟩=some (.normal,⟨tm2,h⟩):=by
   show ob (ob (tm1.gt 7) (fun v=>some (tm1.up (some v) 5))) (fun tm=>some (Ex.normal,(⟨tm,h⟩:St)))=_
   rw [show tm1.gt 7=some k from by rw [Tr.gt_up,if_pos rfl]]
  rw [e2,ob_some']
  show h.theLoop l _=_
  rw [theLoop_of hl]
  simp only
  rw [h9]
  have e3:execA (callN P keep prims lf n) lf (ntOf P fn) fn (some l) (.block 1 (.reg [⟨none,.ld1 (.tmp 2)⟩,⟨none,.al F1 [.tmp 5]⟩,⟨none,.ef (fun vs id h=>l2 (fun s x=>appendS P ts s x id h) vs) [.loc 1,.loc 0]⟩,⟨none,.st1 (.tmp 2) (.loc 0)⟩] [])) ⟨tm2,hb⟩=some (.normal,⟨tm2,he⟩):=by
   have g2:tm2.gt 2=some (.ptr (some (B0,0))):=by rw [Tr.gt_up,if_neg (by decide),Tr.gt_up,if_neg (by decide)];exact h4
   have g5:tm2.gt 5=some k:=by rw [Tr.gt_up,if_pos rfl]
   have r1:GIns.ev ⟨none,.ld1 (.tmp 2)⟩ [] .leaf tm2 (callN P keep prims lf n) hb.next hb=some (sv,hb):=by
    show ob (tm2.gt 2) (fun v=>ob (load1 hb v) fun r=>some (r,hb))=_
    rw [g2,ob_some']
    show ob (hb.ld1 B0 0) _=_
    rw [ld1_of hbB (by omega) hsv]
   have r2:GIns.ev ⟨none,.al F1 [.tmp 5]⟩ [sv] .leaf tm2 (callN P keep prims lf n) hb.next hb=some (.slice (some (h.next,0)) 1 1 none,hc):=by
    show ob (gets [.tmp 5] [sv] .leaf tm2) (fun us=>ob (F1 us) fun r=>some (r.2 hb.next,hb.new hb.next r.1))=_
    have:gets [.tmp 5] [sv] .leaf tm2=some [k]:=by
     show ob (tm2.gt 5) _=_
     rw [g5]
    rw [this,ob_some',hF]
    rfl
   have r3:GIns.ev ⟨none,.ef (fun vs id h=>l2 (fun s x=>appendS P ts s x id h) vs) [.loc 1,.loc 0]⟩ [.slice (some (h.next,0)) 1 1 none,sv] .leaf tm2 (callN P keep prims lf n) hc.next hc=some (sv',hd):=ha1
   have r4:GIns.ev ⟨none,.st1 (.tmp 2) (.loc 0)⟩ [sv',.slice (some (h.next,0)) 1 1 none,sv] .leaf tm2 (callN P keep prims lf n) hd.next hd=some (undefA,he):=by
    show ob (tm2.gt 2) (fun p=>ob (some sv') fun v=>store1 hd p v)=_
    rw [g2,ob_some',ob_some']
    show (Option.rec (motive:=fun _=>Option (AV×Heap)) none (fun h=>some (undefA,h)) (hd.st1 B0 0 sv'):Option (AV×Heap))=_
    rw [hst]
   have hrun:runIs [⟨none,.ld1 (.tmp 2)⟩,⟨none,.al F1 [.tmp 5]⟩,⟨none,.ef (fun vs id h=>l2 (fun s x=>appendS P ts s x id h) vs) [.loc 1,.loc 0]⟩,⟨none,.st1 (.tmp 2) (.loc 0)⟩] tm2 (callN P keep prims lf n) [] hb=some ([undefA,sv',.slice (some (h.next,0)) 1 1 none,sv],he):=by
    rw [runIs_cons,r1]
    show runIs _ tm2 (callN P keep prims lf n) [sv] hb=_
    rw [runIs_cons,r2]
    show runIs _ tm2 (callN P keep prims lf n) [.slice (some (h.next,0)) 1 1 none,sv] hc=_
    rw [runIs_cons,r3]
    show runIs _ tm2 (callN P keep prims lf n) [sv',.slice (some (h.next,0)) 1 1 none,sv] hd=_
    rw [runIs_cons,r4]
    rfl
   show ob (ob (runIs _ tm2 (callN P keep prims lf n) [] hb) fun r=>ob (putOuts [] r.1 tm2 tm2) fun tm=>some (Ex.normal,(⟨tm,r.2⟩:St))) (fun r=>inBlk 1 r)=_
   rw [hrun]
   rfl
  have e4:(({ st:=LState.busy,pending:=none,fn:=fn,tm:=tm,params:=[7],assign:=assign,body:=body }:LRec))=rbusy:=hBusy
  show ob (execA (callN P keep prims lf n) lf (ntOf P fn) fn (some l) _ ⟨tm2,h.put l (.loop ⟨.busy,none,fn,tm,[7],assign,body⟩)⟩) _=_
  rw [e4,e3,ob_some']
  unfold endRound
  rw [theLoop_of hel]
  subst hBusy
  rfl
 ·rcases ha3 with ⟨a,b,c⟩|⟨id,t,z,a1,a2,a3,a4,a5⟩
  ·exact .inl ⟨a,b,c⟩
  ·refine .inr ⟨id,t,z,a1,a2,a3,?_,a5⟩
   rw [put_get,if_neg (by omega),put_get,if_neg (by omega)];exact a4
 ·show h.next<=hd.next
  omega
 ·rw [put_get,if_neg hbl,put_get,if_neg hbB0,ha5 b (by omega) (fun id e1 e2=>?_),hcold b (by omega),put_get,if_neg hbl]
  rcases hgc with ⟨_,_,c⟩|⟨id',t,z,a1,a2,a3,_⟩
  ·rw [c] at e1;cases e1
  ·rw [a3] at e1;cases e1;omega
end
end Go.Am
namespace Go.Am
section
variable {P:Program} {keep:Keeps} {call:CallFn} {lf:Nat} {f:FuncId}
theorem range_rel (hkD:keep f (ntOf P f)=false) (hn:NamesOk P) {g:Operand} {x:Opd} {ps:Array Tmp} {assign body:Code} (hx:Am.resolve (fun t=>if keep f t then some (.tmp t) else none) g=some x)
  {s:St} {n0:DP} {ρ : Pls} {act:Act} {w:World} {Q:Exit->Act->World->Prop} (hh:HR P keep ρ s.hp w) (ht:TR (keep f) (ntOf P f) ρ s.tm act.tmps) (hd:DefOk n0 ρ s.hp (putOff s.tm (ntOf P f)) act.defers w) (hn0:n0.base<=w.heap.size) (hpd:n0.pd=none)
  {i:FuncId} {cap:List AV} (hf:x.get [] .leaf s.tm=some (.func (.func i) [] cap)) (R:Heap->Prop)
  (hcall:∀ ρ' w' avs,HR P keep ρ' (s.hp.new s.hp.next (.loop ⟨.ready,none,f,s.tm.up none (ntOf P f),ps.toList,assign,body⟩)) w'->VRs ρ' (.func (.yield s.hp.next) [] []::cap) avs ->
   (∃ fn c,P.funcs[i]?=some fn/\fn.body=some c)/\CallsIn (fen none) 0 P i avs.toArray w' (fun e w''=>∃ v,e=.returned v/\∃ h',R h'/\∃ ρ'',Post P keep ρ' (s.hp.new s.hp.next (.loop ⟨.ready,none,f,s.tm.up none (ntOf P f),ps.toList,assign,body⟩)) w' ρ'' h' w''))
  (hloop:∀ h',R h'->∃ b,h'.bs.gt s.hp.next=some (.loop b)/\b.st≠.busy/\b.pending=none)
  (hg:∀ h' b,R h'->h'.bs.gt s.hp.next=some (.loop b)->Goes P keep f n0 ρ s.hp w .normal ⟨s.tm,h'.put s.hp.next (.loop { b with st:=.exhausted })⟩ Q) :
  (Code.rangeFunc g ps assign body).wpIn (fen none) 0 P Q act w:=by
 have vf:=resolve_sound (cond_tmp ht) hx hf
 let L0:LRec:=⟨.ready,none,f,s.tm.up none (ntOf P f),ps.toList,assign,body⟩
 obtain ⟨fn',a',b',e2,hfr,ha,hb⟩:=vf
 cases hfr
 obtain rfl:a'=#[]:=Array.toList_inj.1 ha
 obtain ⟨wA,mark,dn,hpA,hdA,hosA,houtA,hrunA⟩:=enter_sound (ro:=none) (rom:=none) hh rfl hd hn0 hpd (fun l e=>by cases e) act.tmps ps assign body
 have mk:∀ fn:FuncId,let L:Loop:={ state:=.ready,pending:=none,fn,tmps:=act.tmps,params:=ps,assign,body,defers:=dn }
   Post P keep ρ s.hp wA (ρ.up s.hp.next ⟨wA.heap.size,0,0⟩) (s.hp.new s.hp.next (.loop L0)) { wA with heap:=wA.heap.push (.loop L) }:=by
  intro fn L
  rw [new_eq (Nat.le_refl _)]
  refine hpA.hr.push (w':={ wA with heap:=wA.heap.push (.loop L) }) (o:=.loop L) (Nat.le_refl _) (by omega) rfl rfl rfl ⟨_,L,Pls.up_same _ _ _,rfl,?_,⟨rfl,rfl,?_,rfl,rfl,rfl⟩⟩
  ·show (wA.heap.push _)[wA.heap.size]?=_
   simp
  ·refine TR.mono (Pls.le_up (hh.fresh (Nat.le_refl _)).1) ⟨ht.1,fun t v hk hv=>?_⟩
   have hv:(s.tm.up none (ntOf P f)).gt t=some v:=hv
   rw [Tr.gt_up,if_neg (fun e=>by rw [e] at hk;rw [hk] at hkD;cases hkD)] at hv
   exact ht.2 t v hk hv
 have hle1:ρ.le (ρ.up s.hp.next ⟨wA.heap.size,0,0⟩):=Pls.le_up (hh.fresh (Nat.le_refl _)).1
 refine wpIn_rangeFunc fun fn _=>?_
 have hmk:=mk fn
 simp only at hmk
 obtain ⟨⟨fn1,c1,hfn,hbody⟩,hcl⟩:=hcall _ _ ((#[Value.func (Fn.yield wA.heap.size) #[] #[]]++b').toList) hmk.hr (by
  simp only [Array.toList_append]
  exact VRs.append (xs:=[_]) ⟨_,[],rfl,⟨_,_,_,rfl,⟨_,Pls.up_same _ _ _,rfl,rfl⟩,rfl,rfl⟩,rfl⟩ (hb.mono hle1))
 let wB:World:={ wA with heap:=wA.heap.push (.loop { state:=.ready,pending:=none,fn,tmps:=act.tmps,params:=ps,assign,body,defers:=dn }) }
 refine ⟨wA.heap.size,mark,wB,{ target:=.fn (.func i) b',args:=#[]++#[Value.func (Fn.yield wA.heap.size) #[] #[]] },wB,i,#[]++#[Value.func (Fn.yield wA.heap.size) #[] #[]]++b',wB,hrunA fn,?_,fun _ _=>trivial,?_,fun hd=>(by cases hd),?_⟩
 ·have hmap:Array.map act.eval #[Operand.const (Value.func (Fn.yield wA.heap.size) #[] #[])]=#[Value.func (Fn.yield wA.heap.size) #[] #[]]:=by simp [Act.eval]
  simp only [Go.resolve,e2,Deferred.ofValue,Sem.run_pure,hmap]
 ·simp only [invoke]
  exact run_callFunc hn hfn hbody
 ·rw [Array.toArray_toList] at hcl
  rw [Array.empty_append]
  refine CallsIn.mono (F:=fen none) hcl (fun e w3 hR=>?_)
  obtain ⟨v,rfl,h',hRh,ρ',hp⟩:=hR
  obtain ⟨b,hbl,hst,hpd'⟩:=hloop h' hRh
  obtain ⟨p,L,hpl,hp0,hh3,hlr⟩:=hp.hr.blk _ _ hbl
  have hpe:p=⟨wA.heap.size,0,0⟩:=by
   have:=hp.le _ _ (Pls.up_same ρ s.hp.next ⟨wA.heap.size,0,0⟩)
   rw [hpl] at this;exact Option.some.inj this
  subst hpe
  have hset:=hp.hr.setLoop (r':={ b with st:=.exhausted }) (L':={ L with state:=.exhausted }) hbl hpl rfl hh3 { hlr with st:=rfl }
  have hbusy:(L.state==.busy)=false:=by
   have h8:=hlr.st
   cases hs:b.st with
   | busy=>exact absurd hs hst
   | ready=>rw [hs] at h8;rw [show L.state=.ready from h8];rfl
   | done=>rw [hs] at h8;rw [show L.state=.done from h8];rfl
   | exhausted=>rw [hs] at h8;rw [show L.state=.exhausted from h8];rfl
  have hall:=((hpA.trans hmk).trans hp).trans hset
  have hdef:DefOk n0 ρ' (h'.put s.hp.next (.loop { b with st:=.exhausted })) (putOff s.tm (ntOf P f)) (mark++act.defers) _:=(hdA.post (hmk.trans hp)).post hset
  clear hset
  let w4:World:={ w3 with heap:=w3.heap.setIfInBounds wA.heap.size (.loop { L with state:=.exhausted }) }
  refine ⟨L.pending,w4,?_,?_⟩
  ·simp only [Instr.endLoop,Sem.run_bind,run_getLoop hh3,Result.andThen_ok,hbusy,Bool.false_eq_true,if_false,Sem.run_pure,run_setLoop hh3]
   rfl
  ·rw [hlr.pending,hpd']
   exact hg h' b hRh hbl ρ' _ _ hall (ht.mono hall.le) hdef
structure AppCode (P:Program) (keep:Keeps) (A:FuncId) (ts sz:Nat) (F1:List AV->Option (Blk×(Nat->AV))) where
 fn:Func
 c0:Code
 c1:Code
 c2:Code
 As:Code
 Bd:Code
 g0:Operand
 ps:Array Tmp
 b0:Nat
 hf:P.funcs[A]?=some fn
 hb:fn.body=some (.seq c0 (.seq (.seq c1 (.block b0 (.rangeFunc g0 ps As Bd))) c2))
 res:fn.results.toList=[.tmp 4]
 nt:ntOf P A=fn.ntmps
 nt7:7<fn.ntmps
 kD:keep A (ntOf P A)=false
 k4:keep A 4=true
 g:Am.resolve (fun t=>if keep A t then some (.tmp t) else none) g0=some (.tmp 6)
 p7:ps.toList=[7]
 e0:compC P (keep A) (ntOf P A) c0=.reg [⟨none,.al (l1 box1) [.tmp 0]⟩] [(4,.cst (.slice none 0 0 none)),(2,.loc 0)]
 e1:compC P (keep A) (ntOf P A) c1=.reg [] [(6,.tmp 1)]
 e2:compC P (keep A) (ntOf P A) c2=.seq (.reg [⟨none,.ld1 (.tmp 2)⟩] [(4,.loc 0)]) .ret
 eA:compC P (keep A) (ntOf P A) As=.reg [] [(5,.tmp 7)]
 eB:compC P (keep A) (ntOf P A) Bd=.block 1 (.reg [⟨none,.ld1 (.tmp 2)⟩,⟨none,.al F1 [.tmp 5]⟩,⟨none,.ef (fun vs id h=>l2 (fun s x=>appendS P ts s x id h) vs) [.loc 1,.loc 0]⟩,⟨none,.st1 (.tmp 2) (.loc 0)⟩] [])
theorem append_rel {prims:Prims} {n:Nat} (hm:P.follows .mixedOrders=true) (hn:NamesOk P) (hc:CallOk P keep (callN P keep prims lf (n+1)))
  {A:FuncId} {ts e sz bs:Nat} {F1:List AV->Option (Blk×(Nat->AV))} (C:AppCode P keep A ts sz F1)
  (hu:P.underlying ts=some (.slice e)) (hs:tSize P e=some (sz+1)) (hbs:tBytes P e=some bs) (hz:(tZero P e).map (fun z=>Nat.beq (len' z.cells) (sz+1))=some true)
  {g:FuncId} {gfn:Func} {gc:Code} {tm tk te:TypeId} (hg:P.funcs[g]?=some gfn) (hgb:gfn.body=some gc) (hcode:KeysCode tm gc) (hres:gfn.results=#[]) (hnt:14<=gfn.ntmps)
  (htm:P.underlying tm=some (.map tk te)) (hag:tAgg P tm=some false)
  {ρ : Pls} {h:Heap} {w:World} {cb mb clock:Nat} {es:List MEnt} {avs:List Value} (hr:HR P keep ρ h w) (hv:VRs ρ [.slice none 0 0 none,.func (.func g) [] [.ptr (some (cb,0))]] avs)
  (hld:h.ld1 cb 0=some (.map (some mb))) (hmb:h.bs.gt mb=some (.map es clock)) (hborn:bornOk es clock)
  (hkeys:∀ k∈es.map (·.key),F1 [k]=some (rowBlk k.cells,sliceTo 1)/\k.cells.length=sz+1/\allOne k.cells=true) (hroom:∀ m,m<es.length->room bs (m+1)=true) :
  CallsIn (fen none) 0 P A avs.toArray w (fun e' w'=>∃ v,e'=.returned v/\∃ π : List AV,π.Perm (es.map (·.key))/\∃ ρ' h' sv,VR ρ' sv v/\Grown h' (h.next+2) e (sz+1) sv (π.flatMap AV.cells) π.length/\Post P keep ρ h w ρ' h' w'/\∀ b,b<h.next->h'.bs.gt b=h.bs.gt b):=by
 obtain ⟨fn,c0,c1,c2,As,Bd,g0,ps,b0,hf,hb,res,nt,nt7,kD,k4,gres,p7,e0,e1,e2,eA,eB⟩:=C
 let nilS:AV:=.slice none 0 0 none
 let sq:AV:=.func (.func g) [] [.ptr (some (cb,0))]
 let call:=callN P keep prims lf (n+1)
 let B0:=h.next
 let tm0:Tr AV:=fillC [nilS,sq] .leaf 0
 let h1:=h.new B0 (rowBlk [nilS])
 let tm1:Tr AV:=(tm0.up (some nilS) 4).up (some (.ptr (some (B0,0)))) 2
 let tm2:Tr AV:=tm1.up (some sq) 6
 let l:=h1.next
 have hl:l=h.next+1:=new_next h _
 let rec0:LRec:=⟨.ready,none,A,tm2.up none (ntOf P A),ps.toList,As,Bd⟩
 let h2:=h1.new l (.loop rec0)
 have hlen:=hv.length
 have htr:TR (keep A) (ntOf P A) ρ tm0 (avs.toArray++Array.replicate (fn.ntmps - avs.toArray.size) undef):=by rw [nt];exact args_TR hv
 refine callsIn_of_wp_marks hf hb trivial ?_
 have hoff0:putOff tm0 (ntOf P A)=[]:=args_off (by rw [nt];simp;omega)
 have hd:DefOk ⟨w.heap.size,none⟩ ρ h (putOff tm0 (ntOf P A)) [] w:=⟨⟨(fun d hd=>by cases hd),List.Pairwise.nil⟩,hoff0,fun ds0 e=>by cases e⟩
 have x0:execA call lf (ntOf P A) A none (compC P (keep A) (ntOf P A) c0) ⟨tm0,h⟩=some (.normal,⟨tm1,h1⟩):=by rw [e0];rfl
 have hoff1:putOff tm1 (ntOf P A)=[]:=by
  rw [← hoff0]
  refine putOff_same ?_
  rw [Tr.gt_up,if_neg (by omega),Tr.gt_up,if_neg (by omega)]
 have hoff2:putOff tm2 (ntOf P A)=[]:=by
  rw [← hoff1]
  refine putOff_same ?_
  rw [Tr.gt_up,if_neg (by omega)]
 have g12:tm1.gt 1=some sq:=rfl
 have x1:execA call lf (ntOf P A) A none (compC P (keep A) (ntOf P A) c1) ⟨tm1,h1⟩=some (.normal,⟨tm2,h1⟩):=by rw [e1];rfl
 refine wpIn_seq (exec_sound kD hm hn hc c0 ⟨tm0,h⟩ _ x0 ⟨w.heap.size,none⟩ ρ _ w none _ rfl hr htr hd (Nat.le_refl _) (fun e=>by cases e) (fun ρ1 a1 w1 hp1 ht1 hd1=>?_))
 simp only [exOf,Exit.then]
 refine wpIn_seq (wpIn_seq (exec_sound kD hm hn hc c1 ⟨tm1,h1⟩ _ x1 ⟨w.heap.size,none⟩ ρ1 _ w1 none _ rfl hp1.hr ht1 hd1 hp1.fr.size (fun e=>by cases e) (fun ρ2 a2 w2 hp2 ht2 hd2=>?_)))
 simp only [exOf,Exit.then]
 have hp02:=hp1.trans hp2
 
 let J:List AV->Heap->Prop:=fun ks h'=>h'.bs.gt l=some (.loop rec0)/\(∃ tb sv,h'.bs.gt B0=some (.cells tb [] 1 false)/\cellAt tb [] 0=some sv/\Grown h' (h.next+2) e (sz+1) sv (ks.flatMap AV.cells) ks.length)/\h.next+2<=h'.next/\∀ b,b<h.next->h'.bs.gt b=h.bs.gt b
 have hmlt:mb<h.next:=hr.has _ _ hmb
 obtain ⟨tc,zc,mc,rc,hcb,hclt,hcv⟩:=ld1_some hld
 have hclt2:cb<h.next:=hr.has _ _ hcb
 have h2old:∀ b,b<h.next->h2.bs.gt b=h.bs.gt b:=fun b hlt=>by
  rw [new_get,if_neg (by omega),new_get,if_neg (by omega)]
 have hJ0:J [] h2:=by
  refine ⟨by rw [new_get,if_pos rfl],⟨fillC [nilS] .leaf 0,nilS,?_,?_,.inl ⟨rfl,rfl,rfl⟩⟩,?_,h2old⟩
  ·rw [new_get,if_neg (by omega),new_get,if_pos rfl,len_rowBlk];rfl
  ·rfl
  ·show h.next+2<=(h1.new h1.next _).next
   rw [new_next];omega
 have hL:AppLoop P keep rec0 B0 ts sz F1:=by
  refine ⟨rfl,rfl,p7,?_,?_,by rw [nt];exact nt7,kD,eA,eB⟩
  ·show (tm2.up none (ntOf P A)).gt 2=_
   rw [Tr.gt_up,if_neg (by omega)];rfl
  ·show noOff (tm2.up none (ntOf P A)) (ntOf P A)=true
   unfold noOff
   rw [Tr.gt_up,if_pos rfl]
 refine wpIn_block (range_rel kD hn gres (s:=⟨tm2,h1⟩) (n0:=⟨w.heap.size,none⟩) hp2.hr ht2 hd2 hp02.fr.size rfl (i:=g) (cap:=[.ptr (some (cb,0))]) rfl (fun h'=>∃ π : List AV,π.Perm (es.map (·.key))/\J π h') ?_ ?_ ?_)
 ·intro ρ' w' avs' hr' hv'
  refine ⟨⟨gfn,gc,hg,hgb⟩,?_⟩
  refine (CallsIn.mono (F:=fen none) (keys_rel hn hc hg hgb hcode hres hnt htm hag (h:=h2) (l:=l) (cb:=cb) (mb:=mb) (clock:=clock) (es:=es) hr' hv' ?_ (by rw [h2old _ hmlt];exact hmb) hborn J hJ0 (fun ks h' hJ=>by rw [hJ.2.2.2 _ hmlt];exact hmb) ?_) ?_)
  ·exact ld1_of (by rw [h2old _ hclt2];exact hcb) hclt hcv
  ·intro ks h' k ⟨j1,⟨tb,sv,j2,j3,j4⟩,j5,j6⟩ hlt hk
   obtain ⟨k1,k2,k3⟩:=hkeys k hk
   obtain ⟨h'',sv',tb',r1,r2,r3,r4,r5,r6,r7⟩:=app_round (P:=P) (keep:=keep) (prims:=prims) (lf:=lf) (n:=n) hL hu hs hbs hz (h:=h') (l:=l) (lo:=h.next+2) (sv:=sv) (k:=k) (cs:=ks.flatMap AV.cells) (m:=ks.length) j1 (by omega) (by omega) (by omega) j2 j3 j4 j5 (by omega) (by omega) (hroom _ hlt) k1 k2 k3
   refine ⟨h'',r1,r2,⟨tb',sv',r3,r4,?_⟩,by omega,fun b hb2=>?_⟩
   ·rw [List.flatMap_append,List.length_append]
    simpa using r5
   ·rw [r7 b (by omega) (by omega) (by omega)];exact j6 b hb2
  ·rintro e' w'' ⟨v,rfl,π,h',hπ,hJ,ρ'',hp⟩
   exact ⟨v,rfl,h',⟨π,hπ,hJ⟩,ρ'',hp⟩
 ·rintro h' ⟨π,_,hJ⟩
  exact ⟨rec0,hJ.1,(fun e=>by cases e),rfl⟩
 ·rintro h' b ⟨π,hπ,j1,⟨tb,sv,j2,j3,j4⟩,j5,j6⟩ hbl
  have j1':=j1
  rw [show l=(⟨tm2,h1⟩:St).hp.next from rfl,hbl] at j1'
  cases j1'
  intro ρ3 a3 w3 hp3 ht3 hd3
  simp only [Exit.inBlock,Exit.then]
  
  let h3:=h'.put l (.loop { rec0 with st:=.exhausted })
  have hB3:h3.bs.gt B0=some (.cells tb [] 1 false):=by rw [put_get,if_neg (by omega)];exact j2
  have x2:execA call lf (ntOf P A) A none (compC P (keep A) (ntOf P A) c2) ⟨tm2,h3⟩=some (.ret,⟨tm2.up (some sv) 4,h3⟩):=by
   rw [e2]
   have r1:GIns.ev ⟨none,.ld1 (.tmp 2)⟩ [] .leaf tm2 call h3.next h3=some (sv,h3):=by
    show ob (h3.ld1 B0 0) _=_
    rw [ld1_of hB3 (by omega) j3]
   show ob (ob (ob (GIns.ev ⟨none,.ld1 (.tmp 2)⟩ [] .leaf tm2 call h3.next h3) (fun r=>some ([r.1],r.2))) (fun r=>ob (putOuts [(4,.loc 0)] r.1 tm2 tm2) fun tm=>some (Ex.normal,(⟨tm,r.2⟩:St)))) (fun r=>thenX r fun s=>some (.ret,s))=_
   rw [r1]
   rfl
  have hoff3:putOff (tm2.up (some sv) 4) (ntOf P A)=[]:=by
   rw [← hoff2]
   refine putOff_same ?_
   rw [Tr.gt_up,if_neg (by omega)]
  have hp03:=hp02.trans hp3
  refine exec_sound kD hm hn hc c2 ⟨tm2,h3⟩ _ x2 ⟨w.heap.size,none⟩ ρ3 a3 w3 none _ rfl hp3.hr ht3 hd3 hp03.fr.size (fun e=>by cases e) (fun ρ4 a4 w4 hp4 ht4 hd4=>?_)
  have hp04:=hp03.trans hp4
  have hd4':DefOk ⟨w.heap.size,none⟩ ρ4 h3 [] a4.defers w4:=by rw [← hoff3];exact hd4
  refine leaves_all (lf:=lf) (call:=call) hm hn hc (n0:=⟨w.heap.size,none⟩) rfl rfl a4.defers [] ρ4 h3 w4 hp04 hd4' rfl (fun ρ5 w5 hp5 hle=>?_)
  have hk:okRes (keep A) fn.results.toList=true:=by rw [res];simp [okRes,k4]
  obtain ⟨v,q1,q2⟩:=results_sound (fn:=fn) (s:=⟨tm2.up (some sv) 4,h3⟩) (vs:=[sv]) hp5.hr (ht4.mono hle) hk (by
   rw [res,resA_cons]
   show ob ((tm2.up (some sv) 4).gt 4) _=_
   rw [Tr.gt_up,if_pos rfl];rfl)
  refine ⟨v,q1,v,rfl,π,hπ,ρ5,h3,sv,q2,?_,hp5,fun b hb2=>?_⟩
  ·rcases j4 with ⟨a,b,c⟩|⟨id,t,z,a1,a2,a3,a4,a5⟩
   ·exact .inl ⟨a,b,c⟩
   ·refine .inr ⟨id,t,z,a1,a2,a3,?_,a5⟩
    rw [put_get,if_neg (by omega)];exact a4
  ·rw [put_get,if_neg (by omega)];exact j6 b hb2
end
end Go.Am
namespace Go.Am
section
variable {P:Program} {keep:Keeps}
theorem ops_call {ops:Array Oper} {i:Nat} {rest:List Nat} {o:Oper} {a:Act} {w:World} {dst:Tmp} {k:FuncId} {args:Array Operand} {ts:Array TypeId} {Q:Exit->Act->World->Prop} {S:Value->World->Prop} (hn:NamesOk P) (ho:ops[i]?=some o) (hi:IsOp o (some dst) (.call ⟨.value (.func k),args,ts⟩))
  (hk:∃ fn c,P.funcs[k]?=some fn/\fn.body=some c) (hc:CallsIn (fen none) 0 P k (args.map a.eval) w (fun e w'=>∃ v,e=.returned v/\S v w'))
  (h:∀ v w',S v w'->wpOpsIn (fen none) 0 P ops Q rest (a.put (some dst) v) w'):wpOpsIn (fen none) 0 P ops Q (i::rest) a w:=by
 obtain ⟨h1,h2,hg⟩:=hi
 obtain ⟨fn,c,hf,hb⟩:=hk
 have hw:Region.wanted o (yielded ops a.tmps)=true:=by simp [Region.wanted,hg]
 simp only [wpOpsIn,ho]
 rw [if_pos hw]
 refine ⟨fun _ _=>trivial,?_⟩
 have hrun:(execOp a.eval o).run P w=.ok (.enter k (args.map a.eval)) w:=by
  obtain ⟨d,op,ty,pos,after,guard⟩:=o
  simp only at h2
  subst h2
  have e1:(execOp a.eval ⟨d,.call ⟨.value (.func k),args,ts⟩,ty,pos,after,guard⟩)=callFunc k (#[]++args.map a.eval++#[]):=rfl
  rw [e1,Array.empty_append,Array.append_empty]
  exact run_callFunc hn hf hb
 rw [Oper.semAt_eq _ _ _ (by rw [h2];intro c e;cases e),hrun,Oper.uponIn_enter,h1]
 refine ⟨fun e=>(by cases e),CallsIn.mono (F:=fen none) hc fun e w' hR=>?_⟩
 obtain ⟨v,rfl,hS⟩:=hR
 exact h v w' hS
theorem ops_nil {ops:Array Oper} {a:Act} {w:World} {Q:Exit->Act->World->Prop} (h:Q .normal a w):wpOpsIn (fen none) 0 P ops Q [] a w:=h
theorem ops_mv {ops:Array Oper} {i:Nat} {rest:List Nat} {o:Oper} {a:Act} {w:World} {x:Operand} {d:Tmp} {Q:Exit->Act->World->Prop} (ho:ops[i]?=some o) (hi:IsOp o (some d) (.move x)∨IsOp o (some d) (.assign x))
  (h:wpOpsIn (fen none) 0 P ops Q rest (a.put (some d) (a.eval x)) w):wpOpsIn (fen none) 0 P ops Q (i::rest) a w:=by
 rcases hi with hi | hi
 ·refine ops_value ho hi (by intro c e;cases e) (w':=w) (v:=a.eval x) ?_ h
  obtain ⟨dst,op,ty,pos,after,guard⟩:=o
  obtain ⟨_,rfl,_⟩:=hi
  rfl
 ·refine ops_value ho hi (by intro c e;cases e) (w':=w) (v:=a.eval x) ?_ h
  obtain ⟨dst,op,ty,pos,after,guard⟩:=o
  obtain ⟨_,rfl,_⟩:=hi
  rfl
def CollectCode (A:FuncId) (c:Code):Prop:=∃ (i0 i1:Nat) (o0 o1 o2 o3:Oper) (ts:Array TypeId),
 c=.seq (.region i0 #[o0] false) (.seq (.region i1 #[o1,o2,o3] false) .ret) /\
 IsOp o0 (some 2) (.assign (.const (.slice none 0 0)))/\IsOp o1 (some 3) (.move (.tmp 0))/\IsOp o2 (some 4) (.call ⟨.value (.func A),#[.const (.slice none 0 0),.tmp 3],ts⟩)/\IsOp o3 (some 2) (.assign (.tmp 4))
theorem results_tmp {fn:Func} {a:Act} {t:Nat} {w:World} (h:fn.results=#[.tmp t]):(results fn a.tmps).run P w=.ok (a.eval (.tmp t)) w:=by
 unfold results
 rw [h]
 simp [Act.eval]
theorem collect_thru (hn:NamesOk P) {C A:FuncId} {fn:Func} {c:Code} (hf:P.funcs[C]?=some fn) (hb:fn.body=some c) (hcode:CollectCode A c) (hres:fn.results=#[.tmp 2]) (hnt:5<=fn.ntmps) (hA:∃ fn c,P.funcs[A]?=some fn/\fn.body=some c)
  {sv:Value} {w:World} {S:Value->World->Prop} (h:CallsIn (fen none) 0 P A #[.slice none 0 0,sv] w (fun e w'=>∃ v,e=.returned v/\S v w')) :
  CallsIn (fen none) 0 P C #[sv] w (fun e w'=>∃ v,e=.returned v/\S v w'):=by
 refine callsIn_of_wp hf hb trivial ?_
 obtain ⟨i0,i1,o0,o1,o2,o3,ts,rfl,q0,q1,q2,q3⟩:=hcode
 generalize ha0:({ tmps:=#[sv]++Array.replicate (fn.ntmps - (#[sv]:Array Value).size) undef,defers:=[] }:Act)=a0
 have hsz:5<=a0.tmps.size:=by subst ha0;simp;omega
 have hd0:a0.defers=[]:=by subst ha0;rfl
 have e0:a0.eval (.tmp 0)=sv:=by subst ha0;simp only [Act.eval,Array.getD_eq_getD_getElem?];rw [Array.getElem?_append_left (by simp)];rfl
 clear ha0
 refine wpIn_seq (wpIn_region ?_)
 show wpOpsIn (fen none) 0 P #[o0] _ [0] a0 w
 refine ops_mv (o:=o0) rfl (.inr q0) (ops_nil ?_)
 simp only [Exit.then]
 refine wpIn_seq (wpIn_region ?_)
 show wpOpsIn (fen none) 0 P #[o1,o2,o3] _ [0,1,2] _ w
 refine ops_mv (o:=o1) rfl (.inl q1) ?_
 have e1:(a0.put (some 2) (a0.eval (.const (.slice none 0 0)))).eval (.tmp 0)=sv:=by rw [put_eval (by omega),if_neg (by decide)];exact e0
 rw [e1]
 refine ops_call (o:=o2) hn rfl q2 hA (S:=S) ?_ (fun v w' hS=>?_)
 ·have e2:(#[.const (.slice none 0 0),.tmp 3]:Array Operand).map ((a0.put (some 2) (a0.eval (.const (.slice none 0 0)))).put (some 3) sv).eval=#[.slice none 0 0,sv]:=by
   simp only [List.map_toArray,List.map_cons,List.map_nil]
   rw [put_eval (by rw [put_size];omega),if_pos rfl]
   rfl
  rw [e2];exact h
 ·refine ops_mv (o:=o3) rfl (.inr q3) (ops_nil ?_)
  simp only [Exit.then]
  refine wpIn_ret ⟨by simp only [put_defers];exact hd0,v,?_,v,rfl,hS⟩
  rw [results_tmp hres,put_eval (by simp only [put_size];omega),if_pos rfl,put_eval (by simp only [put_size];omega),if_pos rfl]
def SortedCode (C T:FuncId) (c:Code):Prop:=∃ (i0 i1 i2 i3:Nat) (o0 o1 o2 o3 o4 o5 o6 o7:Oper) (ts tt:Array TypeId),
 c=.seq (.region i0 #[o0] false) (.seq (.region i1 #[o1,o2,o3] false) (.seq (.region i2 #[o4,o5] false) (.seq (.region i3 #[o6,o7] false) .ret))) /\
 IsOp o0 (some 2) (.assign (.const (.slice none 0 0)))/\IsOp o1 (some 4) (.move (.tmp 0))/\IsOp o2 (some 5) (.call ⟨.value (.func C),#[.tmp 4],ts⟩)/\IsOp o3 (some 3) (.assign (.tmp 5)) /\
 IsOp o4 (some 6) (.move (.tmp 3))/\IsOp o5 (some 7) (.call ⟨.value (.func T),#[.tmp 6],tt⟩)/\IsOp o6 (some 8) (.move (.tmp 3))/\IsOp o7 (some 2) (.assign (.tmp 8))
theorem sorted_thru (hn:NamesOk P) {G C T:FuncId} {fn:Func} {c:Code} (hf:P.funcs[G]?=some fn) (hb:fn.body=some c) (hcode:SortedCode C T c) (hres:fn.results=#[.tmp 2]) (hnt:9<=fn.ntmps) (hC:∃ fn c,P.funcs[C]?=some fn/\fn.body=some c) (hT:∃ fn c,P.funcs[T]?=some fn/\fn.body=some c)
  {sv:Value} {w:World} {S S':Value->World->Prop} (h:CallsIn (fen none) 0 P C #[sv] w (fun e w'=>∃ v,e=.returned v/\S v w')) (h2:∀ v w',S v w'->CallsIn (fen none) 0 P T #[v] w' (fun e w''=>∃ u,e=.returned u/\S' v w'')) :
  CallsIn (fen none) 0 P G #[sv] w (fun e w'=>∃ v,e=.returned v/\S' v w'):=by
 refine callsIn_of_wp hf hb trivial ?_
 obtain ⟨i0,i1,i2,i3,o0,o1,o2,o3,o4,o5,o6,o7,ts,tt,rfl,q0,q1,q2,q3,q4,q5,q6,q7⟩:=hcode
 generalize ha0:({ tmps:=#[sv]++Array.replicate (fn.ntmps - (#[sv]:Array Value).size) undef,defers:=[] }:Act)=a0
 have hsz:9<=a0.tmps.size:=by subst ha0;simp;omega
 have hd0:a0.defers=[]:=by subst ha0;rfl
 have e0:a0.eval (.tmp 0)=sv:=by subst ha0;simp only [Act.eval,Array.getD_eq_getD_getElem?];rw [Array.getElem?_append_left (by simp)];rfl
 clear ha0
 refine wpIn_seq (wpIn_region ?_)
 show wpOpsIn (fen none) 0 P #[o0] _ [0] a0 w
 refine ops_mv (o:=o0) rfl (.inr q0) (ops_nil ?_)
 simp only [Exit.then]
 generalize ha1:a0.put (some 2) (a0.eval (.const (.slice none 0 0)))=a1
 have e1:a1.eval (.tmp 0)=sv:=by subst ha1;rw [put_eval (by omega),if_neg (by decide)];exact e0
 have z1:9<=a1.tmps.size:=by subst ha1;rw [put_size];exact hsz
 have d1:a1.defers=[]:=by subst ha1;rw [put_defers];exact hd0
 clear ha1
 refine wpIn_seq (wpIn_region ?_)
 show wpOpsIn (fen none) 0 P #[o1,o2,o3] _ [0,1,2] _ w
 refine ops_mv (o:=o1) rfl (.inl q1) ?_
 rw [e1]
 refine ops_call (o:=o2) hn rfl q2 hC (S:=S) ?_ (fun v w' hS=>?_)
 ·have e2:(#[.tmp 4]:Array Operand).map (a1.put (some 4) sv).eval=#[sv]:=by
   simp only [List.map_toArray,List.map_cons,List.map_nil]
   rw [put_eval (by omega),if_pos rfl]
  rw [e2];exact h
 ·refine ops_mv (o:=o3) rfl (.inr q3) (ops_nil ?_)
  simp only [Exit.then]
  generalize ha2:(((a1.put (some 4) sv).put (some 5) v).put (some 3) (((a1.put (some 4) sv).put (some 5) v).eval (.tmp 5)))=a2
  have e3:a2.eval (.tmp 3)=v:=by subst ha2;rw [put_eval (by simp only [put_size];omega),if_pos rfl,put_eval (by simp only [put_size];omega),if_pos rfl]
  have z2:9<=a2.tmps.size:=by subst ha2;simp only [put_size];exact z1
  have d2:a2.defers=[]:=by subst ha2;simp only [put_defers];exact d1
  clear ha2
  refine wpIn_seq (wpIn_region ?_)
  show wpOpsIn (fen none) 0 P #[o4,o5] _ [0,1] _ w'
  refine ops_mv (o:=o4) rfl (.inl q4) ?_
  rw [e3]
  refine ops_call (o:=o5) hn rfl q5 hT (S:=fun _ w''=>S' v w'') ?_ (fun u w'' hS2=>ops_nil ?_)
  ·have e4:(#[.tmp 6]:Array Operand).map (a2.put (some 6) v).eval=#[v]:=by
    simp only [List.map_toArray,List.map_cons,List.map_nil]
    rw [put_eval (by omega),if_pos rfl]
   rw [e4];exact h2 v w' hS
  ·simp only [Exit.then]
   refine wpIn_seq (wpIn_region ?_)
   show wpOpsIn (fen none) 0 P #[o6,o7] _ [0,1] _ w''
   refine ops_mv (o:=o6) rfl (.inl q6) (ops_mv (o:=o7) rfl (.inr q7) (ops_nil ?_))
   simp only [Exit.then]
   refine wpIn_ret ⟨by simp only [put_defers];exact d2,v,?_,v,rfl,hS2⟩
   rw [results_tmp hres,put_eval (by simp only [put_size];omega),if_pos rfl,put_eval (by simp only [put_size];omega),if_pos rfl,put_eval (by simp only [put_size];omega),if_neg (by decide),put_eval (by omega),if_neg (by decide)]
   exact congrArg (fun x=>Result.ok x w'') e3
end
end Go.Am
namespace Go.Am
section
variable {P:Program} {keep:Keeps}
theorem VR.plain {ρ σ : Pls} {c:AV} {v:Value} (hp:plainCell c=true) (h:VR ρ c v):VR σ c v:=by
 cases c with
 | bool b=>exact h
 | int k n=>exact h
 | str s=>exact h
 | _=>cases hp
theorem plain_one {c:AV} (hp:plainCell c=true):c.one=true:=by cases c <;> first | rfl | cases hp
mutual
theorem VR.back {ρ σ : Pls} (h:ρ.le σ):∀ (x:AV) (u v:Value),VR ρ x u->VR σ x v->VR ρ x v
 | .bool _,_,_,_,hv=>hv
 | .int _ _,_,_,_,hv=>hv
 | .str _,_,_,_,hv=>hv
 | .ptr none,_,_,_,hv=>hv
 | .ptr (some (_,_)),_,_,hu,hv=>by
  obtain ⟨p,hp,_⟩:=hu
  obtain ⟨q,hq,e⟩:=hv
  have:=h _ _ hp;rw [hq] at this;cases this
  exact ⟨p,hp,e⟩
 | .slice none _ _ _,_,_,_,hv=>hv
 | .slice (some (_,_)) _ _ _,_,_,hu,hv=>by
  obtain ⟨p,a,c,hp,_⟩:=hu
  obtain ⟨q,a',c',hq,r⟩:=hv
  have:=h _ _ hp;rw [hq] at this;cases this
  exact ⟨p,a',c',hp,r⟩
 | .map none,_,_,_,hv=>hv
 | .map (some _),_,_,hu,hv=>by
  obtain ⟨p,hp,_⟩:=hu
  obtain ⟨q,hq,r⟩:=hv
  have:=h _ _ hp;rw [hq] at this;cases this
  exact ⟨p,hp,r⟩
 | .func fn a b,_,_,hu,hv=>by
  obtain ⟨fn1,a1,b1,_,hf1,ha1,hb1⟩:=hu
  obtain ⟨fn2,a2,b2,e,hf2,ha2,hb2⟩:=hv
  refine ⟨fn2,a2,b2,e,?_,VRs.back h a _ _ ha1 ha2,VRs.back h b _ _ hb1 hb2⟩
  cases fn with
  | func f=>exact hf2
  | yield l =>
   obtain ⟨p,hp,_⟩:=hf1
   obtain ⟨q,hq,r⟩:=hf2
   have:=h _ _ hp;rw [hq] at this;cases this
   exact ⟨p,hp,r⟩
  | _=>exact hf2.elim
 | .nilFunc,_,_,_,hv=>hv
 | .iface _ x,_,_,hu,hv=>by
  obtain ⟨y,_,hy⟩:=hu
  obtain ⟨z,e,hz⟩:=hv
  exact ⟨z,e,VR.back h x _ _ hy hz⟩
 | .nilIface,_,_,_,hv=>hv
 | .agg cs,_,_,hu,hv=>by
  obtain ⟨c1,_,h1⟩:=hu
  obtain ⟨c2,e,h2⟩:=hv
  exact ⟨c2,e,VRs.back h cs _ _ h1 h2⟩
 | .tuple cs,_,_,hu,hv=>by
  obtain ⟨c1,_,h1⟩:=hu
  obtain ⟨c2,e,h2⟩:=hv
  exact ⟨c2,e,VRs.back h cs _ _ h1 h2⟩
theorem VRs.back {ρ σ : Pls} (h:ρ.le σ):∀ (x:List AV) (u v:List Value),VRs ρ x u->VRs σ x v->VRs ρ x v
 | [],_,_,_,hv=>hv
 | x::xs,_,_,hu,hv=>by
  obtain ⟨u,us,rfl,h1,h2⟩:=hu
  obtain ⟨v,vs,rfl,h3,h4⟩:=hv
  exact ⟨v,vs,rfl,VR.back h x _ _ h1 h3,VRs.back h xs _ _ h2 h4⟩
end
theorem ERs.back {ρ σ : Pls} (h:ρ.le σ):∀ {es:List MEnt} {l m:List MapEntry},ERs ρ es l->ERs σ es m->ERs ρ es m
 | [],_,_,_,hm=>hm
 | e::es,_,_,hl,hm=>by
  obtain ⟨x,xs,rfl,⟨a1,a2,a3⟩,hx⟩:=hl
  obtain ⟨y,ys,rfl,⟨b1,b2,b3⟩,hy⟩:=hm
  exact ⟨y,ys,rfl,⟨VR.back h _ _ _ a1 b1,VR.back h _ _ _ a2 b2,b3⟩,ERs.back h hx hy⟩
theorem TR.back {kp:Nat->Bool} {nt:Nat} {ρ σ : Pls} (h:ρ.le σ) {tm:Tr AV} {a b:Array Value} (ha:TR kp nt ρ tm a) (hb:TR kp nt σ tm b):TR kp nt ρ tm b :=
 ⟨hb.1,fun t v hk hv=>by
  obtain ⟨c,_,h1⟩:=ha.2 t v hk hv
  obtain ⟨d,h2,h3⟩:=hb.2 t v hk hv
  exact ⟨d,h2,VR.back h _ _ _ h1 h3⟩⟩
theorem BR.back {ρ σ : Pls} (hl:ρ.le σ) {b:Nat} {x:Blk} {w w':World} (ho:BR P keep ρ b x w) (hb:BR P keep σ b x w'):BR P keep ρ b x w':=by
 cases x with
 | dead=>trivial
 | cells t z n ro =>
  obtain ⟨q,c',e,fz,g1,g2,g3,g4,g5,g6⟩:=hb
  obtain ⟨q0,c0,e0,fz0,k1,k2,k3,k4,k5,k6⟩:=ho
  have:=hl _ _ k1;rw [g1] at this;cases this
  refine ⟨q,c',e,fz,k1,g2,g3,g4,fun i hi=>?_,g6⟩
  obtain ⟨v,cv,m1,m2,m3,m4⟩:=g5 i hi
  obtain ⟨v',cv',n1,n2,n3,n4⟩:=k5 i hi
  rw [m1] at n1;cases n1
  exact ⟨v,cv,m1,m2,m3,VR.back hl _ _ _ n4 m4⟩
 | map es clock =>
  obtain ⟨q,e1,g1,g2,g3,g4⟩:=hb
  obtain ⟨q0,e0,k1,_,_,k4⟩:=ho
  have:=hl _ _ k1;rw [g1] at this;cases this
  exact ⟨q,e1,k1,g2,g3,ERs.back hl k4 g4⟩
 | siter s pos =>
  obtain ⟨q,e1,g1,r⟩:=hb
  obtain ⟨q0,e0,k1,_⟩:=ho
  have:=hl _ _ k1;rw [g1] at this;cases this
  exact ⟨q,e1,k1,r⟩
 | loop l =>
  obtain ⟨q,L,g1,g2,g3,g4⟩:=hb
  obtain ⟨q0,L0,k1,_,_,k4⟩:=ho
  have:=hl _ _ k1;rw [g1] at this;cases this
  exact ⟨q,L,k1,g2,g3,{ g4 with tm:=TR.back hl k4.tm g4.tm }⟩
theorem Post.old {ρ ρ':Pls} {h h':Heap} {w w':World} (ha:Post P keep ρ h w ρ' h' w') (hr:HR P keep ρ h w) (hold:∀ b,b<h.next->h'.bs.gt b=h.bs.gt b):Post P keep ρ h w ρ h w':=by
 refine ⟨Pls.le_refl _,{ hr with blk:=fun c x hx=>?_ },ha.fr,fun _ _ ho=>ho,Nat.le_refl _,fun _ _ h _=>h,fun _ _ h=>h⟩
 exact BR.back ha.le (hr.blk c x hx) (ha.hr.blk c x (by rw [hold c (hr.has _ _ hx)];exact hx))
noncomputable def minH (cs:List AV):Heap:=⟨Tr.leaf.up (some (.cells (fillC cs .leaf 0) [] cs.length false)) 0,1⟩
def onePl (p:Pl):Pls:=fun b=>if b=0 then some p else none
theorem minH_get (cs:List AV) (b:Nat):(minH cs).bs.gt b=if b=0 then some (.cells (fillC cs .leaf 0) [] cs.length false) else none:=by
 unfold minH
 rw [Tr.gt_up,Tr.gt_leaf]
theorem sub_row {ρ : Pls} {h:Heap} {w:World} {id n:Nat} {t:Tr AV} {z:List AV} {p:Pl} {cs:List AV} (hr:HR P keep ρ h w) (hb:h.bs.gt id=some (.cells t z n false)) (hp:ρ id=some p) (hn:n=cs.length) (hcell:∀ i,i<n->cellAt t z i=cs[i]?) (hpl:∀ c∈cs,plainCell c=true) :
  HR P keep (onePl p) (minH cs) w:=by
 refine ⟨fun b q hq=>?_,fun b x hx=>?_,fun b x hx=>?_,fun b b' x x' q q' hx hx' _ _ _ _ _ hne=>?_⟩
 ·unfold onePl at hq
  split at hq
  ·rename_i e;subst e;exact Nat.zero_lt_one
  ·cases hq
 ·rw [minH_get] at hx
  split at hx
  ·rename_i e;subst e;exact Nat.zero_lt_one
  ·cases hx
 ·rw [minH_get] at hx
  split at hx
  ·rename_i e;subst e;cases hx
   obtain ⟨p0,c,e,fz,hp0,hc,hcs,hpm,hval,hf⟩:=hr.blk _ _ hb
   rw [hp] at hp0;cases hp0
   refine ⟨p,c,e,fz,rfl,hc,hcs,by omega,fun i hi=>?_,hf.1,markOk_nil⟩
   obtain ⟨v,cv,g1,g2,g3,g4⟩:=hval i (by omega)
   rw [hcell i (by omega)] at g1
   have hmem:v∈cs:=List.mem_of_getElem? g1
   exact ⟨v,cv,by rw [cellAt_fill _ _ _ hi];exact g1,g2,g3,g4.plain (hpl v hmem)⟩
  ·cases hx
 ·rw [minH_get] at hx hx'
  split at hx
  ·split at hx'
   ·rename_i e e';exact absurd (e.trans e'.symm) hne
   ·cases hx'
  ·cases hx
theorem row_post {ρ ρ' ρ1:Pls} {h h' h1:Heap} {w w' w2:World} {id N:Nat} {t t1:Tr AV} {z z1:List AV} {p:Pl} {cs ds:List AV} (ha:Post P keep ρ h w ρ' h' w') (hr:HR P keep ρ h w) (hid:h.next<=id) (hb:h'.bs.gt id=some (.cells t z N false)) (hp:ρ' id=some p)
  (hold:∀ b,b<h.next->h'.bs.gt b=h.bs.gt b) (hc:Post P keep (onePl p) (minH cs) w' ρ1 h1 w2) (h1b:h1.bs.gt 0=some (.cells t1 z1 ds.length false)) (hcell:∀ i,i<ds.length->cellAt t1 z1 i=ds[i]?) (hpl:∀ c∈ds,plainCell c=true) :
  Post P keep ρ h w (ρ.up h.next p) (h.new h.next (.cells (fillC ds .leaf 0) [] ds.length false)) w2:=by
 obtain ⟨f1,f2⟩:=hr.fresh (Nat.le_refl h.next)
 have hown1:∀ k,k≠p.blk->¬Own (onePl p) (minH cs) k:=by
  rintro k hk ⟨b,x,q,hx,_,hq,rfl⟩
  unfold onePl at hq
  split at hq
  ·cases hq;exact hk rfl
  ·cases hq
 have hplt:p.blk<w'.heap.size:=by
  obtain ⟨q,hq,hlt⟩:=(ha.hr.blk _ _ hb).place rfl
  rw [hp] at hq;cases hq;exact hlt
 have hownp:Own ρ' h' p.blk:=⟨id,_,p,hb,rfl,hp,rfl⟩
 have hownpW:OwnW ρ' h' p.blk:=⟨id,_,p,hb,rfl,hp,rfl⟩
 have hsame:∀ k,k<w'.heap.size->k≠p.blk->w2.heap[k]?=w'.heap[k]?:=fun k hk hne=>hc.fr.same k hk (hown1 k hne)
 have hplace:∀ c x q,h.bs.gt c=some x->x.dead?=false->ρ c=some q->q.blk≠p.blk/\q.blk<w'.heap.size:=by
  intro c x q hx hd hq
  have hlt:=hr.has _ _ hx
  have hx':h'.bs.gt c=some x:=by rw [hold c hlt];exact hx
  have hq':=ha.le _ _ hq
  refine ⟨ha.hr.inj c id x _ q p hx' hb hd rfl (.inr rfl) hq' hp (by omega),?_⟩
  obtain ⟨q2,hq2,hlt2⟩:=(ha.hr.blk _ _ hx').place hd
  rw [hq'] at hq2;cases hq2;exact hlt2
 have ha':=ha.old hr hold
 have hk2:w'.heap.size<=w2.heap.size:=hc.fr.size
 refine ⟨Pls.le_up f1,?_,⟨hc.fr.os.trans ha.fr.os,hc.fr.output.trans ha.fr.output,Nat.le_trans ha.fr.size hk2,fun k hk ho=>?_⟩,fun k hk ho=>?_,?_,fun b q hq hlt=>?_,fun k hk ho=>?_⟩
 ·rw [new_eq (Nat.le_refl _)]
  refine ha'.hr.add f1 f2 (by omega) (by omega) (fun c x q hx hd hq=>(hplace c x q hx hd hq).1) (fun c x q hx hd hq=>?_) ?_
  ·obtain ⟨g1,g2⟩:=hplace c x q hx hd hq
   exact hsame _ g2 g1
  ·obtain ⟨p0,c,e,fz,hp1,hcc,hcs,hpm,hval,hf⟩:=hc.hr.blk _ _ h1b
   have:ρ1 0=some p:=hc.le 0 p rfl
   rw [this] at hp1;cases hp1
   refine ⟨p,c,e,fz,Pls.up_same _ _ _,hcc,hcs,hpm,fun i hi=>?_,hf.1,markOk_nil⟩
   obtain ⟨v,cv,g1,g2,g3,g4⟩:=hval i hi
   rw [hcell i hi] at g1
   exact ⟨v,cv,by rw [cellAt_fill _ _ _ hi];exact g1,g2,g3,g4.plain (hpl v (List.mem_of_getElem? g1))⟩
 ·have h1:k≠p.blk:=fun e=>ho (ha.ownW k hk (e▸hownpW))
  exact (hsame k (Nat.lt_of_lt_of_le hk ha.fr.size) h1).trans (ha.fr.sameW k hk ho)
 ·obtain ⟨c,x,q,hx,hd,hq,rfl⟩:=ho
  rw [new_get] at hx
  by_cases e:c=h.next
  ·subst e;rw [Pls.up_same] at hq;cases hq
   exact ha.own _ hk hownp
  ·rw [if_neg e] at hx
   unfold Pls.up at hq;rw [if_neg e] at hq
   exact ⟨c,x,q,hx,hd,hq,rfl⟩
 ·show h.next<=(h.new h.next _).next
  rw [new_next];omega
 ·unfold Pls.up at hq
  rwa [if_neg (by omega)] at hq
 ·obtain ⟨c,x,q,hx,hd,hq,rfl⟩:=ho
  rw [new_get] at hx
  by_cases e:c=h.next
  ·subst e;rw [Pls.up_same] at hq;cases hq
   exact ha.ownW _ hk hownpW
  ·rw [if_neg e] at hx
   unfold Pls.up at hq;rw [if_neg e] at hq
   exact ⟨c,x,q,hx,hd,hq,rfl⟩
end
end Go.Am

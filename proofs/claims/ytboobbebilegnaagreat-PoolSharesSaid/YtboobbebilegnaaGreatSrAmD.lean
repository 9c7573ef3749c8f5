/- A part of the proof of the law PoolShares. -/
import Derived.Test.YtboobbebilegnaaGreatSrAmC
import Derived.Maps.RangeRun
import Derived.SliceStrings
import Derived.WideShapes
import Derived.ChangeShapes
open Nat (reduceEqDiff reduceAdd reduceMul)
set_option linter.unusedVariables false
set_option linter.unusedSimpArgs false
set_option linter.constructorNameAsVariable false
set_option linter.defProp false
set_option maxRecDepth 20000

namespace Go.Am
section
variable {P:Program} {keep:aK} {call:an}
def fU (o:Oper) (dst:Option Tmp) (op:Op):Prop:=o.dst=dst/\o.op=op/\o.guard=none
theorem cN {ops:Array Oper} {i:Nat} {rest:List Nat} {o:Oper} {a:Act} {w w':World} {v:Value} {dst:Option Tmp} {op:Op} {Q:Exit->Act->World->Prop} (ho:ops[i]?=some o) (hi:fU o dst op) (hnd:∀ c,op≠.defer c)
  (hr:(execOp a.eval o).run P w=.ok (.value v) w') (h:wpOpsIn (dM none) 0 P ops Q rest (a.put dst v) w'):wpOpsIn (dM none) 0 P ops Q (i::rest) a w:=by
 obtain ⟨rfl,rfl,hg⟩:=hi
 have hw:Region.wanted o (yielded ops a.tmps)=true:=by simp [Region.wanted,hg]
 simp only [wpOpsIn,ho]
 rw [if_pos hw]
 refine ⟨fun _ _=>trivial,?_⟩
 rw [Oper.semAt_eq _ _ _ hnd,hr]
 exact h
theorem aA {a:Act} {d t:Nat} {v:Value} (hd:d<a.tmps.size):(a.put (some d) v).eval (.tmp t)=if t=d then v else a.eval (.tmp t):=lh hd
def qK (tm:TypeId) (c:Code):Prop:=∃ (i0 i1 i2 i3 b0 b1:Nat) (o0 o1 o2 o3 o4 o5 o6 o7 o8 o9 o10:Oper) (ts:Array TypeId) (tb:TypeId),
 c=.seq (.region i0 #[o0,o1] false) (.block b0 (.loop (.seq (.region i1 #[o2,o3] false) (.seq (.cond (.tmp 7) .skip (.exit b0)) (.block b1 (.seq (.region i2 #[o4,o5,o6] false) (.seq (.region i3 #[o7,o8,o9,o10] false) (.cond (.tmp 13) .ret .skip)))))))) /\
 fU o0 (some 4) (.load tm (.tmp 1))/\fU o1 (some 5) (.range tm (.tmp 4))/\fU o2 (some 6) (.next (.tmp 5) false)/\fU o3 (some 7) (.extract (.tmp 6) 0) /\
 fU o4 (some 8) (.entry (.tmp 5))/\fU o5 (some 9) (.extract (.tmp 8) 0)/\fU o6 (some 3) (.assign (.tmp 9)) /\
 fU o7 (some 10) (.move (.tmp 0))/\fU o8 (some 11) (.move (.tmp 3))/\fU o9 (some 12) (.call ⟨.value (.tmp 10),#[.tmp 11],ts⟩)/\fU o10 (some 13) (.unOp .not tb (.tmp 12))
def fh (es:List aG) (clock:Nat):Prop:=(∀ e∈es,e.born<clock)/\es.Pairwise fun e e'=>e.born≠e'.born
theorem km.elem {ρ : aL}:∀ {es:List aG} {l:List MapEntry},km ρ es l->∀ e'∈l,∃ e∈es,ER ρ e e'
 | [],l,h,e',he=>by cases h;simp at he
 | e::es,l,h,e',he=>by
  obtain ⟨x,xs,rfl,h1,h2⟩:=h
  rcases List.mem_cons.1 he with rfl | he
  ·exact ⟨e,List.mem_cons_self ..,h1⟩
  ·obtain ⟨y,hy,h3⟩:=km.elem h2 e' he;exact ⟨y,List.mem_cons_of_mem _ hy,h3⟩
theorem km.elem2 {ρ : aL}:∀ {es:List aG} {l:List MapEntry},km ρ es l->∀ e∈es,∃ e'∈l,ER ρ e e'
 | [],l,h,e',he=>by simp at he
 | e::es,l,h,e',he=>by
  obtain ⟨x,xs,rfl,h1,h2⟩:=h
  rcases List.mem_cons.1 he with rfl | he
  ·exact ⟨x,List.mem_cons_self ..,h1⟩
  ·obtain ⟨y,hy,h3⟩:=km.elem2 h2 e' he;exact ⟨y,List.mem_cons_of_mem _ hy,h3⟩
theorem km.borns {ρ : aL}:∀ {es:List aG} {l:List MapEntry},km ρ es l->l.map (·.born)=es.map (·.born)
 | [],l,h=>by cases h;rfl
 | e::es,l,h=>by obtain ⟨x,xs,rfl,h1,h2⟩:=h;simp [h1.2.2,km.borns h2]
theorem rX {es:List aG} {clock:Nat} (h:fh es clock):(es.map (·.born)).Nodup:=by
 unfold List.Nodup
 rw [List.pairwise_map]
 exact h.2
theorem Lv {es:List aG} {clock:Nat} (h:fh es clock) {e d:aG} (he:e∈es) (hd:d∈es) (hb:e.born=d.born):e=d:=by
 have key:∀ {l:List aG},(l.Pairwise fun e e'=>e.born≠e'.born)->∀ e∈l,∀ d∈l,e.born=d.born->e=d:=by
  intro l hl
  induction l with
  | nil=>intro e he;cases he
  | cons x l ih =>
   rw [List.pairwise_cons] at hl
   intro e he d hd hb
   rcases List.mem_cons.1 he with h1 | h1 <;> rcases List.mem_cons.1 hd with h2 | h2
   ·rw [h1,h2]
   ·subst h1;exact absurd hb (hl.1 d h2)
   ·subst h2;exact absurd hb.symm (hl.1 e h1)
   ·exact ih hl.2 e h1 d h2 hb
 exact key h.2 e he d hd hb
theorem zu:∀ {l m:List Nat},l.Nodup->l ⊆ m->l.length<=m.length
 | [],m,_,_=>Nat.zero_le _
 | x::l,m,hn,hs=>by
  rw [List.nodup_cons] at hn
  have hx:x∈m:=hs (List.mem_cons_self ..)
  have h1:=zu (l:=l) (m:=m.erase x) hn.2 (fun y hy=>by
   have:y≠x:=fun e=>hn.1 (e▸hy)
   exact (List.mem_erase_of_ne this).2 (hs (List.mem_cons_of_mem _ hy)))
  rw [List.length_erase_of_mem hx] at h1
  have:0<m.length:=List.length_pos_of_mem hx
  simp only [List.length_cons];omega
theorem uK {α β : Type} {f:α->β} {l:List α} (h:(l.map f).Nodup):l.Nodup:=List.Pairwise.of_map f (fun _ _ hne e=>hne (by rw [e])) h
theorem Su (_hn:NamesOk P) (hc:dR P keep call) {g:FuncId} {fn:Func} {c:Code} {tm tk te:TypeId} (hg:P.funcs[g]?=some fn) (hb:fn.body=some c) (hcode:qK tm c) (hres:fn.results=#[]) (hnt:14<=fn.ntmps)
  (htm:P.underlying tm=some (.map tk te)) (hag:gB P tm=some false)
  {ρ : aL} {h:ac} {w:World} {l cb mb clock:Nat} {es:List aG} {avs:List Value} (hr:HR P keep ρ h w) (hv:bH ρ [.func (.yield l) [] [],.ptr (some (cb,0))] avs)
  (hld:h.ld1 cb 0=some (.map (some mb))) (hmb:h.bs.gt mb=some (.map es clock)) (hborn:fh es clock)
  (J:List AV->ac->Prop) (h0:J [] h) (hmap:∀ ks h',J ks h'->h'.bs.gt mb=some (.map es clock))
  (hstep:∀ ks h' k,J ks h'->ks.length<es.length->k∈es.map (·.key)->∃ h'',call (.loop l) [k] h'=some (.bool true,h'')/\J (ks++[k]) h'') :
  CallsIn (dM none) 0 P g avs.toArray w (fun e w'=>∃ v,e=.returned v/\∃ π h',π.Perm (es.map (·.key))/\J π h'/\∃ ρ',bv P keep ρ h w ρ' h' w'):=by
 obtain ⟨yv,cv,rfl,vy,vc⟩:=hv.two
 have vy':=vy
 have vc':=vc
 obtain ⟨pc,hpc,rfl⟩:=vc
 obtain ⟨fn',fa,ca,rfl,⟨pl,hpl,hpl0,rfl⟩,hfa,hca⟩:=vy
 obtain rfl:fa=#[]:=Array.toList_inj.1 hfa
 obtain rfl:ca=#[]:=Array.toList_inj.1 hca
 obtain ⟨pm,es0,hpm,hpm0,hm0,hes0⟩:=hr.blk _ _ hmb
 refine callsIn_of_wp hg hb trivial ?_
 obtain ⟨i0,i1,i2,i3,b0,b1,o0,o1,o2,o3,o4,o5,o6,o7,o8,o9,o10,ts,tb,rfl,q0,q1,q2,q3,q4,q5,q6,q7,q8,q9,q10⟩:=hcode
 
 generalize ha0:({tmps:=[Value.func (Fn.yield pl.blk) #[] #[],Value.pointer (some ⟨pc.blk,pc.off+0,none⟩)].toArray++Array.replicate (fn.ntmps - [Value.func (Fn.yield pl.blk) #[] #[],Value.pointer (some ⟨pc.blk,pc.off+0,none⟩)].toArray.size) undef,defers:=[] }:Act)=a0
 have hsz0:14<=a0.tmps.size:=by subst ha0;simp;omega
 have hd0:a0.defers=[]:=by subst ha0;rfl
 have e0:a0.eval (.tmp 0)=Value.func (Fn.yield pl.blk) #[] #[]:=by subst ha0;simp only [Act.eval,Array.getD_eq_getD_getElem?];rw [Array.getElem?_append_left (by simp)];rfl
 have e1:a0.eval (.tmp 1)=Value.pointer (some ⟨pc.blk,pc.off+0,none⟩):=by subst ha0;simp only [Act.eval,Array.getD_eq_getD_getElem?];rw [Array.getElem?_append_left (by simp)];rfl
 clear ha0
 refine wpIn_seq (wpIn_region ?_)
 show wpOpsIn (dM none) 0 P #[o0,o1] _ [0,1] a0 w
 
 obtain ⟨mv,hload,vm⟩:=pN (t:=tm) hag hr (show am h (.ptr (some (cb,0)))=some (.map (some mb)) from hld) vc'
 obtain ⟨pm',hpm',_,rfl⟩:=vm
 rw [hpm] at hpm';cases hpm'
 refine cN (o:=o0) rfl q0 (by intro c;simp) (w':=w) (v:=.map (some pm.blk)) ?_ ?_
 ·obtain ⟨dst,op,ty,pos,after,guard⟩:=o0
  obtain ⟨_,rfl,_⟩:=q0
  simp only [execOp,e1,Sem.run_bind,hload,Result.andThen_ok,Sem.run_pure]
 have s1:∀ (a:Act) (d:Nat) (v:Value),(a.put (some d) v).tmps.size=a.tmps.size:=fun a d v=>cC _ _ _
 
 refine cN (o:=o1) rfl q1 (by intro c;simp) (w':={w with heap:=w.heap.push (.mapIter (some pm.blk) clock #[] clock) }) (v:=.pointer (some ⟨w.heap.size,0,none⟩)) ?_ ?_
 ·obtain ⟨dst,op,ty,pos,after,guard⟩:=o1
  obtain ⟨_,rfl,_⟩:=q1
  have e4:(a0.put (some 4) (.map (some pm.blk))).eval (.tmp 4)=.map (some pm.blk):=by rw [aA (by omega),if_pos rfl]
  simp only [execOp,e4,Instr.range,Sem.run_bind,run_underlying htm,Result.andThen_ok]
  simp [getObj,newObj,Sem.run,hm0]
 simp only [wpOpsIn,Exit.then]
 let W1:World:={w with heap:=w.heap.push (.mapIter (some pm.blk) clock #[] clock) }
 have hp1:bv P keep ρ h w ρ h W1:=bv.grow hr rfl rfl rfl
 refine wpIn_block (wpIn_loop (fun a W=>∃ (dn:List aG) (ρ1:aL) (h1:ac),(∀ e∈dn,e∈es)/\(dn.map (·.born)).Nodup/\J (dn.map (·.key)) h1/\bv P keep ρ h w ρ1 h1 W /\
   W.heap[w.heap.size]?=some (.mapIter (some pm.blk) clock (dn.map (·.born)).toArray clock)/\¬mu ρ1 h1 w.heap.size/\a.eval (.tmp 0)=Value.func (Fn.yield pl.blk) #[] #[]/\a.eval (.tmp 5)=.pointer (some ⟨w.heap.size,0,none⟩)/\14<=a.tmps.size/\a.defers=[])
  (fun _ W=>match W.heap[w.heap.size]? with | some (.mapIter _ _ seen _)=>es.length - seen.size | _=>0) ?_ ?_)
 ·refine ⟨[],ρ,h,(by intro e he;cases he),List.nodup_nil,h0,hp1,?_,?_,?_,?_,?_,?_⟩
  ·show (w.heap.push _)[w.heap.size]?=_
   simp
  ·intro ho;exact Nat.lt_irrefl _ (SV hr ho)
  ·rw [aA (by rw [s1];omega),if_neg (by decide),aA (by omega),if_neg (by decide)];exact e0
  ·rw [aA (by rw [s1];omega),if_pos rfl]
  ·rw [s1,s1];exact hsz0
  ·rw [ba,ba];exact hd0
 intro a W hI
 obtain ⟨dn,ρ1,h1,hsub,hnd,hJ,hP,hit,hown,f0,f5,fsz,fd⟩:=hI
 
 obtain ⟨pm',es1,hpm',_,hm1,hes1⟩:=hP.hr.blk _ _ (hmap _ _ hJ)
 have:=hP.le _ _ hpm;rw [hpm'] at this;cases this
 have hold:∀ x∈es1.toList,x.born<clock:=fun x hx=>by
  obtain ⟨e,he,hER⟩:=hes1.elem x hx
  rw [hER.2.2];exact hborn.1 e he
 refine wpIn_seq (wpIn_region ?_)
 show wpOpsIn (dM none) 0 P #[o2,o3] _ [0,1] a W
 rcases run_next_at (P:=P) W o2.type w.heap.size pm.blk clock clock (dn.map (·.born)).toArray es1 clock hit hm1 hold (Nat.le_refl _) with ⟨hleft,hnext⟩|⟨e',he',W2,hW2,hnext⟩
 · 
  refine cN (o:=o2) rfl q2 (by intro c;simp) (w':=W) (v:=.tuple #[.bool false]) ?_ ?_
  ·obtain ⟨dst,op,ty,pos,after,guard⟩:=o2
   obtain ⟨_,rfl,_⟩:=q2
   simp only [execOp,f5,Sem.run_bind]
   rw [hnext];rfl
  refine cN (o:=o3) rfl q3 (by intro c;simp) (w':=W) (v:=.bool false) ?_ ?_
  ·obtain ⟨dst,op,ty,pos,after,guard⟩:=o3
   obtain ⟨_,rfl,_⟩:=q3
   have e6:(a.put (some 6) (.tuple #[.bool false])).eval (.tmp 6)=.tuple #[.bool false]:=by rw [aA (by omega),if_pos rfl]
   simp only [execOp,e6]
   rfl
  simp only [wpOpsIn,Exit.then]
  refine wpIn_seq (wpIn_cond_false (by rw [aA (by rw [s1];omega),if_pos rfl]) (wpIn_exit ?_))
  simp only [Exit.then,Exit.inBlock,if_true]
  refine ⟨by rw [ba,ba];exact fd,.tuple #[],?_,.tuple #[],rfl,dn.map (·.key),h1,?_,hJ,ρ1,hP⟩
  ·simp [results,hres]
  ·refine List.Perm.map _ ?_
   have hnd2:dn.Nodup:=uK hnd
   have hes:es.Nodup:=uK (rX hborn)
   refine (List.perm_ext_iff_of_nodup hnd2 hes).2 fun e=>⟨hsub e,fun he=>?_⟩
   obtain ⟨x,hx,hER⟩:=hes1.elem2 e he
   have hx2:x∉leftOf es1 (dn.map (·.born)).toArray:=by
    have:leftOf es1 (dn.map (·.born)).toArray=#[]:=Array.eq_empty_of_size_eq_zero hleft
    rw [this];simp
   simp only [leftOf,Array.mem_filter,not_and,Bool.not_eq_true',Bool.not_eq_false] at hx2
   have hc2:=hx2 (by simpa using hx)
   rw [hER.2.2] at hc2
   have:e.born∈dn.map (·.born):=by simpa using hc2
   obtain ⟨d,hd,hde⟩:=List.mem_map.1 this
   rw [← Lv hborn (hsub d hd) he hde];exact hd
 · 
  simp only [leftOf,Array.mem_toList_iff,Array.mem_filter,Bool.not_eq_true'] at he'
  obtain ⟨he1,he2⟩:=he'
  obtain ⟨e,hee,hER⟩:=hes1.elem e' (by simpa using he1)
  have hnew:e.born∉dn.map (·.born):=by
   rw [hER.2.2] at he2
   intro hx
   have:(dn.map (·.born)).toArray.contains e.born=true:=by simpa using hx
   rw [this] at he2;cases he2
  let W3:World:=ChangeMaps.setBlock W2 w.heap.size (.mapIter (some pm.blk) clock ((dn.map (·.born)).toArray.push e'.born) clock)
  have hW2h:W2.heap=W.heap:=by rcases hW2 with rfl | rfl <;> rfl
  have hW2o:W2.os=W.os/\W2.output=W.output:=by rcases hW2 with rfl | rfl <;> exact ⟨rfl,rfl⟩
  have hlt:w.heap.size<W.heap.size:=(Array.getElem?_eq_some_iff.1 hit).1
  have hW3:∀ k,k≠w.heap.size->W3.heap[k]?=W.heap[k]?:=fun k hk=>by
   show (W2.heap.setIfInBounds _ _)[k]?=_
   rw [Array.getElem?_setIfInBounds,if_neg (fun e=>hk e.symm),hW2h]
  have hit3:W3.heap[w.heap.size]?=some (.mapIter (some pm.blk) clock ((dn.map (·.born)).toArray.push e'.born) clock):=by
   show (W2.heap.setIfInBounds _ _)[w.heap.size]?=_
   rw [Array.getElem?_setIfInBounds,if_pos rfl,if_pos (by rw [hW2h];exact hlt)]
  have hP3:bv P keep ρ h w ρ1 h1 W3:=by
   refine ⟨hP.le,hP.hr.frame fun b x p hx hd hp=>hW3 _ fun e=>hown ⟨b,x,p,hx,hd,hp,e⟩,⟨hW2o.1.trans hP.fr.os,hW2o.2.trans hP.fr.output,?_,fun k hk ho=>(hW3 k (by omega)).trans (hP.fr.sameW k hk ho)⟩,hP.own,hP.next,hP.new,hP.ownW⟩
   show w.heap.size<=(W2.heap.setIfInBounds _ _).size
   have:=hP.fr.size
   simp [hW2h];omega
  have hnext:(Instr.next (.pointer (some ⟨w.heap.size,0,none⟩)) false o2.type).run P W=.ok (.tuple #[.bool true,e'.key,e'.val]) W3:=hnext
  refine cN (o:=o2) rfl q2 (by intro c;simp) (w':=W3) (v:=.tuple #[.bool true,e'.key,e'.val]) ?_ ?_
  ·obtain ⟨dst,op,ty,pos,after,guard⟩:=o2
   obtain ⟨_,rfl,_⟩:=q2
   simp only [execOp,f5,Sem.run_bind]
   rw [hnext];rfl
  refine cN (o:=o3) rfl q3 (by intro c;simp) (w':=W3) (v:=.bool true) ?_ ?_
  ·obtain ⟨dst,op,ty,pos,after,guard⟩:=o3
   obtain ⟨_,rfl,_⟩:=q3
   have e6:(a.put (some 6) (.tuple #[.bool true,e'.key,e'.val])).eval (.tmp 6)=.tuple #[.bool true,e'.key,e'.val]:=by rw [aA (by omega),if_pos rfl]
   simp only [execOp,e6]
   rfl
  simp only [wpOpsIn,Exit.then]
  generalize hA:((a.put (some 6) (.tuple #[.bool true,e'.key,e'.val])).put (some 7) (.bool true))=A
  have A0:A.eval (.tmp 0)=Value.func (Fn.yield pl.blk) #[] #[]:=by subst hA;rw [aA (by rw [s1];omega),if_neg (by decide),aA (by omega),if_neg (by decide)];exact f0
  have A5:A.eval (.tmp 5)=.pointer (some ⟨w.heap.size,0,none⟩):=by subst hA;rw [aA (by rw [s1];omega),if_neg (by decide),aA (by omega),if_neg (by decide)];exact f5
  have A7:A.eval (.tmp 7)=.bool true:=by subst hA;rw [aA (by rw [s1];omega),if_pos rfl]
  have Asz:14<=A.tmps.size:=by subst hA;rw [s1,s1];exact fsz
  have Ad:A.defers=[]:=by subst hA;rw [ba,ba];exact fd
  clear hA
  refine wpIn_seq (wpIn_cond_true A7 (wpIn_skip ?_))
  simp only [Exit.then]
  refine wpIn_block (wpIn_seq (wpIn_region ?_))
  show wpOpsIn (dM none) 0 P #[o4,o5,o6] _ [0,1,2] A W3
  have hm3:W3.heap[pm.blk]?=some (.map es1 clock):=by
   rw [hW3 _ (fun e=>?_)];exact hm1
   exact hown ⟨mb,_,pm,hmap _ _ hJ,rfl,hpm',e⟩
  have hnb:(es1.toList.map (·.born)).Nodup:=by rw [hes1.borns];exact rX hborn
  refine cN (o:=o4) rfl q4 (by intro c;simp) (w':=W3) (v:=.tuple #[e'.key,e'.val]) ?_ ?_
  ·obtain ⟨dst,op,ty,pos,after,guard⟩:=o4
   obtain ⟨_,rfl,_⟩:=q4
   simp only [execOp,A5,Sem.run_bind]
   rw [run_entry_at W3 w.heap.size pm.blk clock _ es1 clock e' hit3 hm3 (by simpa using he1) hnb];rfl
  refine cN (o:=o5) rfl q5 (by intro c;simp) (w':=W3) (v:=e'.key) ?_ ?_
  ·obtain ⟨dst,op,ty,pos,after,guard⟩:=o5
   obtain ⟨_,rfl,_⟩:=q5
   have e8:(A.put (some 8) (.tuple #[e'.key,e'.val])).eval (.tmp 8)=.tuple #[e'.key,e'.val]:=by rw [aA (by omega),if_pos rfl]
   simp only [execOp,e8]
   rfl
  refine cN (o:=o6) rfl q6 (by intro c;simp) (w':=W3) (v:=e'.key) ?_ ?_
  ·obtain ⟨dst,op,ty,pos,after,guard⟩:=o6
   obtain ⟨_,rfl,_⟩:=q6
   have e9:((A.put (some 8) (.tuple #[e'.key,e'.val])).put (some 9) e'.key).eval (.tmp 9)=e'.key:=by rw [aA (by rw [s1];omega),if_pos rfl]
   simp only [execOp,e9]
   rfl
  simp only [wpOpsIn,Exit.then]
  generalize hB:(((A.put (some 8) (.tuple #[e'.key,e'.val])).put (some 9) e'.key).put (some 3) e'.key)=B
  have B0:B.eval (.tmp 0)=Value.func (Fn.yield pl.blk) #[] #[]:=by subst hB;rw [aA (by rw [s1,s1];omega),if_neg (by decide),aA (by rw [s1];omega),if_neg (by decide),aA (by omega),if_neg (by decide)];exact A0
  have B5:B.eval (.tmp 5)=.pointer (some ⟨w.heap.size,0,none⟩):=by subst hB;rw [aA (by rw [s1,s1];omega),if_neg (by decide),aA (by rw [s1];omega),if_neg (by decide),aA (by omega),if_neg (by decide)];exact A5
  have B3:B.eval (.tmp 3)=e'.key:=by subst hB;rw [aA (by rw [s1,s1];omega),if_pos rfl]
  have Bsz:14<=B.tmps.size:=by subst hB;rw [s1,s1,s1];exact Asz
  have Bd:B.defers=[]:=by subst hB;rw [ba,ba,ba];exact Ad
  clear hB
  refine wpIn_seq (wpIn_region ?_)
  show wpOpsIn (dM none) 0 P #[o7,o8,o9,o10] _ [0,1,2,3] B W3
  refine cN (o:=o7) rfl q7 (by intro c;simp) (w':=W3) (v:=Value.func (Fn.yield pl.blk) #[] #[]) ?_ ?_
  ·obtain ⟨dst,op,ty,pos,after,guard⟩:=o7
   obtain ⟨_,rfl,_⟩:=q7
   simp only [execOp,B0];rfl
  refine cN (o:=o8) rfl q8 (by intro c;simp) (w':=W3) (v:=e'.key) ?_ ?_
  ·obtain ⟨dst,op,ty,pos,after,guard⟩:=o8
   obtain ⟨_,rfl,_⟩:=q8
   have e3:(B.put (some 10) (Value.func (Fn.yield pl.blk) #[] #[])).eval (.tmp 3)=e'.key:=by rw [aA (by omega),if_neg (by decide)];exact B3
   simp only [execOp,e3];rfl
  generalize hC:((B.put (some 10) (Value.func (Fn.yield pl.blk) #[] #[])).put (some 11) e'.key)=C
  have C0:C.eval (.tmp 0)=Value.func (Fn.yield pl.blk) #[] #[]:=by subst hC;rw [aA (by rw [s1];omega),if_neg (by decide),aA (by omega),if_neg (by decide)];exact B0
  have C5:C.eval (.tmp 5)=.pointer (some ⟨w.heap.size,0,none⟩):=by subst hC;rw [aA (by rw [s1];omega),if_neg (by decide),aA (by omega),if_neg (by decide)];exact B5
  have C10:C.eval (.tmp 10)=Value.func (Fn.yield pl.blk) #[] #[]:=by subst hC;rw [aA (by rw [s1];omega),if_neg (by decide),aA (by omega),if_pos rfl]
  have C11:C.eval (.tmp 11)=e'.key:=by subst hC;rw [aA (by rw [s1];omega),if_pos rfl]
  have Csz:14<=C.tmps.size:=by subst hC;rw [s1,s1];exact Bsz
  have Cd:C.defers=[]:=by subst hC;rw [ba,ba];exact Bd
  clear hC
  
  have hdl:dn.length<es.length:=by
   have hsub2:(dn++[e]).map (·.born) ⊆ es.map (·.born):=by
    intro x hx
    obtain ⟨y,hy,rfl⟩:=List.mem_map.1 hx
    refine List.mem_map.2 ⟨y,?_,rfl⟩
    rcases List.mem_append.1 hy with h1 | h1
    ·exact hsub y h1
    ·rw [List.mem_singleton.1 h1];exact hee
   have hnd2:((dn++[e]).map (·.born)).Nodup:=by
    rw [List.map_append,List.nodup_append]
    exact ⟨hnd,by simp,fun x hx y hy e2=>by
     simp only [List.map_cons,List.map_nil,List.mem_singleton] at hy
     subst hy;subst e2;exact hnew hx⟩
   have:=zu hnd2 hsub2
   simp at this;omega
  obtain ⟨h2,hcall,hJ2⟩:=hstep (dn.map (·.key)) h1 e.key hJ (by simpa using hdl) (List.mem_map.2 ⟨e,hee,rfl⟩)
  have hER2:VR ρ1 e.key e'.key:=by
   have:=hER.1
   exact this
  obtain ⟨f',tmps',assign',body',hy,hround⟩:=hc _ _ _ _ hcall ρ1 W3 [e'.key] hP3.hr ⟨_,[],rfl,hER2,rfl⟩ pl (hP.le _ _ hpl)
  have hcallrun:(execOp C.eval o9).run P W3=.ok (.round pl.blk f' tmps' assign' body') W3:=by
   obtain ⟨dst,op,ty,pos,after,guard⟩:=o9
   obtain ⟨_,rfl,_⟩:=q9
   simp only [execOp,Go.resolve,C10,Deferred.ofValue,Sem.run_bind,Sem.run_pure,Result.andThen_ok,invoke,List.map_toArray,List.map_cons,List.map_nil,C11]
   simp only [Array.empty_append]
   exact hy
  have hdst9:o9.dst=some 12:=q9.1
  have hg9:Region.wanted o9 (yielded #[o7,o8,o9,o10] C.tmps)=true:=by simp [Region.wanted,q9.2.2]
  simp only [wpOpsIn]
  rw [show (#[o7,o8,o9,o10]:Array Oper)[2]?=some o9 from rfl]
  simp only
  rw [if_pos hg9]
  refine ⟨fun _ _=>trivial,?_⟩
  rw [Oper.semAt_eq _ _ _ (by rw [q9.2.1];intro c e;cases e),hcallrun,Oper.uponIn_round]
  refine ⟨fun hd=>(by cases hd),RoundIn.mono (F:=dM none) hround fun en W4 hR=>?_⟩
  cases en with
  | panicked chain=>exact hR.elim
  | outgrown=>exact hR.elim
  | returned rv =>
   obtain ⟨ρ2,vr,hP4⟩:=hR
   cases vr
   rw [hdst9]
   rw [show (#[o7,o8,o9,o10]:Array Oper)[3]?=some o10 from rfl]
   simp only
   rw [if_pos (by simp [Region.wanted,q10.2.2])]
   refine ⟨fun _ _=>trivial,?_⟩
   have hnot:(execOp (C.put (some 12) (.bool true)).eval o10).run P W4=.ok (.value (.bool false)) W4:=by
    obtain ⟨dst,op,ty,pos,after,guard⟩:=o10
    obtain ⟨_,rfl,_⟩:=q10
    have e12:(C.put (some 12) (.bool true)).eval (.tmp 12)=.bool true:=by rw [aA (by omega),if_pos rfl]
    simp only [execOp,e12];rfl
   rw [Oper.semAt_eq _ _ _ (by rw [q10.2.1];intro c e;cases e),hnot,Oper.uponIn_value,q10.1]
   refine wpIn_cond_false (by rw [aA (by rw [s1];omega),if_pos rfl]) (wpIn_skip ?_)
   simp only [Exit.inBlock,Exit.then]
   have hP5:=hP3.trans hP4
   have hown3:¬mu ρ1 h1 w.heap.size:=hown
   have hlt3:w.heap.size<W3.heap.size:=(Array.getElem?_eq_some_iff.1 hit3).1
   have hit4:W4.heap[w.heap.size]?=some (.mapIter (some pm.blk) clock ((dn.map (·.born)).toArray.push e'.born) clock):=(hP4.fr.same _ hlt3 hown3).trans hit3
   refine ⟨⟨dn++[e],ρ2,h2,?_,?_,?_,hP5,?_,?_,?_,?_,?_,?_⟩,?_⟩
   ·intro x hx
    rcases List.mem_append.1 hx with h1 | h1
    ·exact hsub x h1
    ·rw [List.mem_singleton.1 h1];exact hee
   ·rw [List.map_append,List.nodup_append]
    exact ⟨hnd,by simp,fun x hx y hy e2=>by
     simp only [List.map_cons,List.map_nil,List.mem_singleton] at hy
     subst hy;subst e2;exact hnew hx⟩
   ·rw [List.map_append];exact hJ2
   ·rw [hit4,hER.2.2];simp
   ·exact fun ho=>hown3 (hP4.own _ hlt3 ho)
   ·rw [aA (by rw [s1];omega),if_neg (by decide),aA (by omega),if_neg (by decide)];exact C0
   ·rw [aA (by rw [s1];omega),if_neg (by decide),aA (by omega),if_neg (by decide)];exact C5
   ·rw [s1,s1];exact Csz
   ·rw [ba,ba];exact Cd
   ·simp only [hit4,hit,Array.size_push,List.size_toArray,List.length_map]
    omega
end
end Go.Am
namespace Go.Am
section
variable {P:Program} {keep:aK} {call:an} {lf:Nat}
theorem eN (h:ac) (b:Nat) (x:cX) (c:Nat):(h.new b x).bs.gt c=if c=b then some x else h.bs.gt c:=Tr.gt_up _ _ _ _
theorem gu (h:ac) (x:cX):(h.new h.next x).next=h.next+1:=by
 rw [ii (Nat.le_refl _)]
theorem fl {β : Type} {h:ac} {b:Nat} {r:fE} {f:fE->Option β} (hb:h.bs.gt b=some (.loop r)):h.theLoop b f=f r:=by unfold ac.theLoop;rw [hb]
theorem kG {β : Type} {h:ac} {b:Nat} {t:Tr AV} {z:List AV} {n:Nat} {ro:Bool} {f:Tr AV->List AV->Nat->Bool->Option β} (hb:h.bs.gt b=some (.cells t z n ro)):h.cells b f=f t z n ro:=by unfold ac.cells;rw [hb]
theorem Bx {h:ac} {b o n:Nat} {t:Tr AV} {z:List AV} {ro:Bool} {v:AV} (hb:h.bs.gt b=some (.cells t z n ro)) (ho:o<n) (hv:aR t z o=some v):h.ld1 b o=some v:=by
 unfold ac.ld1
 rw [kG hb]
 show (Bool.rec (motive:=fun _=>Option AV) none (aR t z o) (Nat.ble (o+1) n):Option AV)=_
 rw [Nat.ble_eq_true_of_le ho,hv]
theorem loadC_of {t:Tr AV} {z:List AV}:∀ {vs:List AV} {i:Nat},(∀ j,j<vs.length->aR t z (i+j)=vs[j]?)->gQ t z vs.length i=some vs
 | [],i,_=>rfl
 | v::vs,i,h=>by
  rw [List.length_cons,mH]
  have h0:=h 0 (by simp)
  simp only [Nat.add_zero,List.getElem?_cons_zero] at h0
  rw [h0]
  have ih:=loadC_of (t:=t) (z:=z) (vs:=vs) (i:=i+1) (fun j hj=>by
   have:=h (j+1) (by simp;omega)
   rw [show i+(j+1)=i+1+j by omega] at this
   simpa using this)
  show ob (gQ t z vs.length (i+1)) _=_
  rw [ih]
theorem zeW {h:ac} {b o n:Nat} {t:Tr AV} {z:List AV} {ro:Bool} {vs:List AV} (hb:h.bs.gt b=some (.cells t z n ro)) (hn:o+vs.length<=n) (hv:∀ j,j<vs.length->aR t z (o+j)=vs[j]?):h.ld b o vs.length=some vs:=by
 unfold ac.ld
 rw [kG hb]
 show (Bool.rec (motive:=fun _=>Option (List AV)) none (gQ t z vs.length o) (Nat.ble (o+vs.length) n):Option (List AV))=_
 rw [Nat.ble_eq_true_of_le hn]
 exact loadC_of hv
theorem zcQ {h:ac} {b o n:Nat} {t:Tr AV} {z:List AV} {v:AV} (hb:h.bs.gt b=some (.cells t z n false)) (ho:o<n) (hv:v.one=true):h.st1 b o v=some (h.put b (.cells (t.up (some v) o) z n false)):=by
 unfold ac.st1
 rw [kG hb]
 show (Bool.rec (motive:=fun _=>Option ac) none (Bool.rec (motive:=fun _=>Option ac) none _ v.one) (Nat.ble (o+1) n):Option ac)=_
 rw [Nat.ble_eq_true_of_le ho,hv]
theorem em (vs:List AV) (z:List AV) (i:Nat) (hi:i<vs.length):aR (az vs .leaf 0) z i=vs[i]?:=by
 unfold aR
 rw [cr,if_pos (by omega),Nat.sub_zero,List.getElem?_eq_getElem hi]
theorem Jy (t:Tr AV) (z:List AV) (o i:Nat) (v:AV):aR (t.up (some v) o) z i=if i=o then some v else aR t z i:=by
 unfold aR
 rw [Tr.gt_up]
 split <;> rfl
theorem tS (vs:List AV) (t:Tr AV) (z:List AV) (o i:Nat):aR (az vs t o) z i=if o<=i/\i<o+vs.length then vs[i - o]? else aR t z i:=by
 unfold aR
 rw [cr]
 split
 ·rename_i h
  rw [List.getElem?_eq_getElem (by omega)]
 ·rfl
theorem au {β : Type} (r:Option β):aV true r=r:=rfl
theorem ik {α β : Type} (x:α) (f:α->Option β):ob (some x) f=f x:=rfl
def pu (h:ac) (lo:Nat) (e sz:Nat) (sv:AV) (cs:List AV) (n:Nat):Prop :=
 (n=0/\cs=[]/\sv=.slice none 0 0 none) ∨
 ∃ id t z,lo<=id/\id<h.next/\sv=.slice (some (id,0)) n n (some sz)/\h.bs.gt id=some (.cells t z (n*sz) false)/\rG e z=true/\cs.length=n*sz/\(∀ i,i<n*sz->aR t z i=cs[i]?)/\0<n
theorem wC {ts e sz bs:Nat} (hu:P.underlying ts=some (.slice e)) (hs:aC P e=some (sz+1)) (hb:cF P e=some bs) (hz:(cd P e).map (fun z=>Nat.beq (bp z.cells) (sz+1))=some true) {h:ac} {lo:Nat} {sv:AV} {cs:List AV} {n:Nat}
  (hg:pu h lo e (sz+1) sv cs n) (hlo:lo<=h.next) (hroom:gy bs (n+1)=true) {x:Nat} {vs:List AV} {tx:Tr AV} {zx:List AV} {rx:Bool} (hx:h.bs.gt x=some (.cells tx zx (sz+1) rx)) (hvs:vs.length=sz+1) (hxv:∀ j,j<vs.length->aR tx zx j=vs[j]?) (hone:bO vs=true) :
  ∃ sv' h',aS P ts sv (.slice (some (x,0)) 1 1 none) h.next h=some (sv',h')/\h'.next=h.next+1/\pu h' lo e (sz+1) sv' (cs++vs) (n+1)/\sv'.one=true /\
   ∀ b,b<h.next->(∀ id,sv=.slice (some (id,0)) n n (some (sz+1))->b≠id)->h'.bs.gt b=h.bs.gt b:=by
 have hld:h.ld x 0 (1*(sz+1))=some vs:=by
  rw [Nat.one_mul,← hvs]
  exact zeW hx (by omega) (fun j hj=>by rw [Nat.zero_add];exact hxv j hj)
 have hsrc:cI (sz+1) (fun n=>n) (.slice (some (x,0)) 1 1 none) h=some (vs,1):=by
  show (Option.rec (motive:=fun _=>Option (List AV×Nat)) none (fun vs=>some (vs,1)) (h.ld x 0 (1*(sz+1))):Option (List AV×Nat))=_
  rw [hld]
 have hunf:∀ a len cap g,aS P ts (.slice a len cap g) (.slice (some (x,0)) 1 1 none) h.next h=aV (bT (gy bs (len+1)) (Nat.beq (bp vs) (1*(sz+1)))) (je (sz+1) e a len cap g h.next h vs 1):=by
  intro a len cap g
  unfold aS
  rw [hu]
  simp only [hs,hb]
  rw [show (some (sz+1):Option Nat).getD 0=sz+1 from rfl,hz]
  show (Option.rec (motive:=fun _=>Option (AV×ac)) none _ (cI (sz+1) (fun n=>n) (.slice (some (x,0)) 1 1 none) h):Option (AV×ac))=_
  rw [hsrc]
  rfl
 have hl1:Nat.beq (bp vs) (1*(sz+1))=true:=by rw [aO,hvs,Nat.one_mul];simp
 rcases hg with ⟨rfl,rfl,rfl⟩|⟨id,t,z,h1,h2,rfl,h3,h4,h5,h6,_⟩
 ·refine ⟨.slice (some (h.next,0)) 1 1 (some (sz+1)),h.new h.next (.cells (az vs .leaf 0) (ay e false) (bp vs) false),?_,gu _ _,?_,rfl,?_⟩
  ·rw [hunf,hroom,hl1]
   show aV (bO vs) _=_
   rw [hone];rfl
  ·refine .inr ⟨h.next,az vs .leaf 0,ay e false,hlo,by rw [gu];omega,rfl,by rw [eN,if_pos rfl,aO,hvs,Nat.one_mul],?_,by simp [hvs],fun i hi=>?_,by omega⟩
   ·show (Bool.rec (motive:=fun _=>Bool) (Nat.beq e e) false false:Bool)=true
    simp
   ·rw [List.nil_append];exact em _ _ _ (by omega)
  ·intro b hb' _
   rw [eN,if_neg (by omega)]
 ·refine ⟨.slice (some (h.next,0)) (n+1) (n+1) (some (sz+1)),(h.put id .dead).new h.next (.cells (az vs t (n*(sz+1))) z (n*(sz+1)+1*(sz+1)) false),?_,?_,?_,rfl,?_⟩
  ·rw [hunf,hroom,hl1]
   have hble:Nat.ble (n+1) n=false:=by
    cases hx:Nat.ble (n+1) n with
    | false=>rfl
    | true=>have:=Nat.le_of_ble_eq_true hx;omega
   show (Bool.rec (motive:=fun _=>Option (AV×ac)) (aV (Nat.beq (sz+1) (sz+1)) (fG (sz+1) (n+1) e 0 n 1 vs id h.next h)) _ (Nat.ble (n+1) n):Option (AV×ac))=_
   rw [hble,show Nat.beq (sz+1) (sz+1)=true from by simp]
   show fG (sz+1) (n+1) e 0 n 1 vs id h.next h=_
   unfold fG
   rw [kG h3]
   have e1:bT (bT (fM false) (bO vs)) (rG e z)=true:=by rw [hone,h4];rfl
   rw [e1,au]
   have e2:bT (Nat.beq 0 0) (Nat.beq (Nat.mul n (sz+1)) (n*(sz+1)))=true:=by
    rw [ax,show Nat.mul n (sz+1)=n*(sz+1) from rfl];simp
   rw [e2]
   rfl
  ·show ((h.put id .dead).new h.next _).next=_
   rw [show h.next=(h.put id .dead).next from rfl,gu]
  ·refine .inr ⟨h.next,_,_,hlo,?_,rfl,by rw [eN,if_pos rfl,Nat.add_mul],h4,by rw [List.length_append,h5,hvs,Nat.add_mul,Nat.one_mul],fun i hi=>?_,by omega⟩
   ·show h.next<((h.put id .dead).new h.next _).next
    rw [show h.next=(h.put id .dead).next from rfl,gu];omega
   ·rw [tS]
    rw [Nat.add_mul,Nat.one_mul] at hi
    by_cases hlt:i<n*(sz+1)
    ·rw [if_neg (by omega),h6 i hlt,List.getElem?_append_left (by omega)]
    ·rw [if_pos (by omega),List.getElem?_append_right (by omega),h5]
  ·intro b hb' hne
   have:=hne id rfl
   rw [eN,if_neg (by omega),bA,if_neg this]
structure CE (P:Program) (keep:aK) (rec:fE) (B0:Nat) (ts sz:Nat) (F1:List AV->Option (cX×(Nat->AV))):Prop where
 st:rec.st=.ready
 pending:rec.pending=none
 params:rec.params=[7]
 slot:rec.tm.gt 2=some (.ptr (some (B0,0)))
 off:nK rec.tm (aD P rec.fn)=true
 nt:7<aD P rec.fn
 keepD:keep rec.fn (aD P rec.fn)=false
 assign:bu P (keep rec.fn) (aD P rec.fn) rec.assign=.reg [] [(5,.tmp 7)]
 body:bu P (keep rec.fn) (aD P rec.fn) rec.body=.block 1 (.reg [⟨none,.ld1 (.tmp 2)⟩,⟨none,.al F1 [.tmp 5]⟩,⟨none,.ef (fun vs id h=>l2 (fun s x=>aS P ts s x id h) vs) [.loc 1,.loc 0]⟩,⟨none,.st1 (.tmp 2) (.loc 0)⟩] [])
theorem Jq {prims:Prims} {n:Nat} {rec:fE} {B0 ts e sz bs:Nat} {F1:List AV->Option (cX×(Nat->AV))} (hL:CE P keep rec B0 ts sz F1)
  (hu:P.underlying ts=some (.slice e)) (hs:aC P e=some (sz+1)) (hbs:cF P e=some bs) (hz:(cd P e).map (fun z=>Nat.beq (bp z.cells) (sz+1))=some true)
  {h:ac} {l lo:Nat} {sv k:AV} {cs:List AV} {m:Nat} (hl:h.bs.gt l=some (.loop rec)) (hln:l<h.next) (hB:B0<h.next) (hlB:l≠B0) {tb:Tr AV} {zb:List AV} (hb0:h.bs.gt B0=some (.cells tb zb 1 false)) (hsv:aR tb zb 0=some sv)
  (hg:pu h lo e (sz+1) sv cs m) (hlo:lo<=h.next) (hlol:l<lo) (hloB:B0<lo) (hroom:gy bs (m+1)=true) (hF:F1 [k]=some (rowBlk k.cells,sliceTo 1)) (hk:k.cells.length=sz+1) (hone:bO k.cells=true) :
  ∃ h' sv' tb',callN P keep prims lf (n+1) (.loop l) [k] h=some (.bool true,h')/\h'.bs.gt l=some (.loop rec)/\h'.bs.gt B0=some (.cells tb' zb 1 false)/\aR tb' zb 0=some sv'/\pu h' lo e (sz+1) sv' (cs++k.cells) (m+1)/\h.next<=h'.next /\
   ∀ b,b<lo->b≠l->b≠B0->h'.bs.gt b=h.bs.gt b:=by
 obtain ⟨st,pending,fn,tm,params,assign,body⟩:=rec
 obtain ⟨h1,h2,h3,h4,h5,h6,h7,h8,h9⟩:=hL
 simp only at h1 h2 h3 h4 h5 h6 h7 h8 h9
 subst h1 h2 h3
 generalize hRec:(⟨.ready,none,fn,tm,[7],assign,body⟩:fE)=rec at hl
 generalize hBusy:(⟨.busy,none,fn,tm,[7],assign,body⟩:fE)=rbusy
 let tm1:=tm.up (some k) 7
 let tm2:=tm1.up (some k) 5
 let hb:=h.put l (.loop rbusy)
 have hbB:hb.bs.gt B0=some (.cells tb zb 1 false):=by rw [bA,if_neg (fun e=>hlB e.symm)];exact hb0
 have hbn:hb.next=h.next:=rfl
 let hc:=hb.new hb.next (rowBlk k.cells)
 have hcn:hc.next=h.next+1:=gu hb _
 have hcx:hc.bs.gt h.next=some (rowBlk k.cells):=by rw [eN,hbn,if_pos rfl]
 have hcold:∀ b,b<h.next->hc.bs.gt b=hb.bs.gt b:=fun b hlt=>by rw [eN,hbn,if_neg (by omega)]
 have hgc:pu hc lo e (sz+1) sv cs m:=by
  rcases hg with ⟨a,b,c⟩|⟨id,t,z,a1,a2,a3,a4,a5⟩
  ·exact .inl ⟨a,b,c⟩
  ·refine .inr ⟨id,t,z,a1,by omega,a3,?_,a5⟩
   rw [hcold id a2,bA,if_neg (by omega)];exact a4
 have hcx':hc.bs.gt h.next=some (.cells (az k.cells .leaf 0) [] (sz+1) false):=by rw [hcx,mF,hk]
 obtain ⟨sv',hd,ha1,ha2,ha3,ha4,ha5⟩:=wC (P:=P) hu hs hbs hz hgc (by omega) hroom hcx' hk (fun j hj=>em _ _ _ hj) hone
 have hdB:hd.bs.gt B0=some (.cells tb zb 1 false):=by
  rw [ha5 B0 (by omega) (fun id e1 e2=>?_),hcold B0 hB,hbB]
  rcases hgc with ⟨_,_,c⟩|⟨id',t,z,a1,a2,a3,_⟩
  ·rw [c] at e1;cases e1
  ·rw [a3] at e1;cases e1;omega
 have hdl:hd.bs.gt l=some (.loop rbusy):=by
  rw [ha5 l (by omega) (fun id e1 e2=>?_),hcold l hln,bA,if_pos rfl]
  rcases hgc with ⟨_,_,c⟩|⟨id',t,z,a1,a2,a3,_⟩
  ·rw [c] at e1;cases e1
  ·rw [a3] at e1;cases e1;omega
 have hst:=zcQ (o:=0) hdB (by omega) ha4
 let he:=hd.put B0 (.cells (tb.up (some sv') 0) zb 1 false)
 have hel:he.bs.gt l=some (.loop rbusy):=by rw [bA,if_neg hlB];exact hdl
 let h':=he.put l (.loop rec)
 refine ⟨h',sv',tb.up (some sv') 0,?_,by rw [bA,if_pos rfl],by rw [bA,if_neg (fun e=>hlB e.symm),bA,if_pos rfl],by rw [Jy,if_pos rfl],?_,?_,fun b hlt hbl hbB0=>?_⟩
 ·show mi P keep lf (callN P keep prims lf n) l [k] h=_
  unfold mi
  rw [fl hl]
  subst hRec
  simp only
  have e1:pV (aD P fn) [7] [k] tm=some tm1:=by
   rw [mO,show Nat.ble (7+1) (aD P fn)=true from Nat.ble_eq_true_of_le h6]
   rfl
  rw [e1,ik,h7,h5]
  show ob (aZ (callN P keep prims lf n) lf (aD P fn) fn (some l) (bu P (keep fn) (aD P fn) assign) ⟨tm1,h⟩) _=_
  rw [h8]
  have e2:aZ (callN P keep prims lf n) lf (aD P fn) fn (some l) (.reg [] [(5,.tmp 7)]) ⟨tm1,h⟩=some (.normal,⟨tm2,h⟩):=by
   show ob (ob (tm1.gt 7) (fun v=>some (tm1.up (some v) 5))) (fun tm=>some (Ex.normal,(⟨tm,h⟩:St)))=_
   rw [show tm1.gt 7=some k from by rw [Tr.gt_up,if_pos rfl]]
  rw [e2,ik]
  show h.theLoop l _=_
  rw [fl hl]
  simp only
  rw [h9]
  have e3:aZ (callN P keep prims lf n) lf (aD P fn) fn (some l) (.block 1 (.reg [⟨none,.ld1 (.tmp 2)⟩,⟨none,.al F1 [.tmp 5]⟩,⟨none,.ef (fun vs id h=>l2 (fun s x=>aS P ts s x id h) vs) [.loc 1,.loc 0]⟩,⟨none,.st1 (.tmp 2) (.loc 0)⟩] [])) ⟨tm2,hb⟩=some (.normal,⟨tm2,he⟩):=by
   have g2:tm2.gt 2=some (.ptr (some (B0,0))):=by rw [Tr.gt_up,if_neg (by decide),Tr.gt_up,if_neg (by decide)];exact h4
   have g5:tm2.gt 5=some k:=by rw [Tr.gt_up,if_pos rfl]
   have r1:aw.ev ⟨none,.ld1 (.tmp 2)⟩ [] .leaf tm2 (callN P keep prims lf n) hb.next hb=some (sv,hb):=by
    show ob (tm2.gt 2) (fun v=>ob (am hb v) fun r=>some (r,hb))=_
    rw [g2,ik]
    show ob (hb.ld1 B0 0) _=_
    rw [Bx hbB (by omega) hsv]
   have r2:aw.ev ⟨none,.al F1 [.tmp 5]⟩ [sv] .leaf tm2 (callN P keep prims lf n) hb.next hb=some (.slice (some (h.next,0)) 1 1 none,hc):=by
    show ob (be [.tmp 5] [sv] .leaf tm2) (fun us=>ob (F1 us) fun r=>some (r.2 hb.next,hb.new hb.next r.1))=_
    have:be [.tmp 5] [sv] .leaf tm2=some [k]:=by
     show ob (tm2.gt 5) _=_
     rw [g5]
    rw [this,ik,hF]
    rfl
   have r3:aw.ev ⟨none,.ef (fun vs id h=>l2 (fun s x=>aS P ts s x id h) vs) [.loc 1,.loc 0]⟩ [.slice (some (h.next,0)) 1 1 none,sv] .leaf tm2 (callN P keep prims lf n) hc.next hc=some (sv',hd):=ha1
   have r4:aw.ev ⟨none,.st1 (.tmp 2) (.loc 0)⟩ [sv',.slice (some (h.next,0)) 1 1 none,sv] .leaf tm2 (callN P keep prims lf n) hd.next hd=some (aJ,he):=by
    show ob (tm2.gt 2) (fun p=>ob (some sv') fun v=>aW hd p v)=_
    rw [g2,ik,ik]
    show (Option.rec (motive:=fun _=>Option (AV×ac)) none (fun h=>some (aJ,h)) (hd.st1 B0 0 sv'):Option (AV×ac))=_
    rw [hst]
   have hrun:aT [⟨none,.ld1 (.tmp 2)⟩,⟨none,.al F1 [.tmp 5]⟩,⟨none,.ef (fun vs id h=>l2 (fun s x=>aS P ts s x id h) vs) [.loc 1,.loc 0]⟩,⟨none,.st1 (.tmp 2) (.loc 0)⟩] tm2 (callN P keep prims lf n) [] hb=some ([aJ,sv',.slice (some (h.next,0)) 1 1 none,sv],he):=by
    rw [ir,r1]
    show aT _ tm2 (callN P keep prims lf n) [sv] hb=_
    rw [ir,r2]
    show aT _ tm2 (callN P keep prims lf n) [.slice (some (h.next,0)) 1 1 none,sv] hc=_
    rw [ir,r3]
    show aT _ tm2 (callN P keep prims lf n) [sv',.slice (some (h.next,0)) 1 1 none,sv] hd=_
    rw [ir,r4]
    rfl
   show ob (ob (aT _ tm2 (callN P keep prims lf n) [] hb) fun r=>ob (bf [] r.1 tm2 tm2) fun tm=>some (Ex.normal,(⟨tm,r.2⟩:St))) (fun r=>y6 1 r)=_
   rw [hrun]
   rfl
  have e4:(({st:=vh.busy,pending:=none,fn:=fn,tm:=tm,params:=[7],assign:=assign,body:=body }:fE))=rbusy:=hBusy
  show ob (aZ (callN P keep prims lf n) lf (aD P fn) fn (some l) _ ⟨tm2,h.put l (.loop ⟨.busy,none,fn,tm,[7],assign,body⟩)⟩) _=_
  rw [e4,e3,ik]
  unfold endRound
  rw [fl hel]
  subst hBusy
  rfl
 ·rcases ha3 with ⟨a,b,c⟩|⟨id,t,z,a1,a2,a3,a4,a5⟩
  ·exact .inl ⟨a,b,c⟩
  ·refine .inr ⟨id,t,z,a1,a2,a3,?_,a5⟩
   rw [bA,if_neg (by omega),bA,if_neg (by omega)];exact a4
 ·show h.next<=hd.next
  omega
 ·rw [bA,if_neg hbl,bA,if_neg hbB0,ha5 b (by omega) (fun id e1 e2=>?_),hcold b (by omega),bA,if_neg hbl]
  rcases hgc with ⟨_,_,c⟩|⟨id',t,z,a1,a2,a3,_⟩
  ·rw [c] at e1;cases e1
  ·rw [a3] at e1;cases e1;omega
end
end Go.Am
namespace Go.Am
section
variable {P:Program} {keep:aK} {call:an} {lf:Nat} {f:FuncId}
theorem Kn (hkD:keep f (aD P f)=false) (hn:NamesOk P) {g:Operand} {x:bN} {ps:Array Tmp} {assign body:Code} (hx:Am.resolve (fun t=>if keep f t then some (.tmp t) else none) g=some x)
  {s:St} {n0:DP} {ρ : aL} {act:Act} {w:World} {Q:Exit->Act->World->Prop} (hh:HR P keep ρ s.hp w) (ht:TR (keep f) (aD P f) ρ s.tm act.tmps) (hd:fD n0 ρ s.hp (bt s.tm (aD P f)) act.defers w) (hn0:n0.base<=w.heap.size) (hpd:n0.pd=none)
  {i:FuncId} {cap:List AV} (hf:x.get [] .leaf s.tm=some (.func (.func i) [] cap)) (R:ac->Prop)
  (hcall:∀ ρ' w' avs,HR P keep ρ' (s.hp.new s.hp.next (.loop ⟨.ready,none,f,s.tm.up none (aD P f),ps.toList,assign,body⟩)) w'->bH ρ' (.func (.yield s.hp.next) [] []::cap) avs ->
   (∃ fn c,P.funcs[i]?=some fn/\fn.body=some c)/\CallsIn (dM none) 0 P i avs.toArray w' (fun e w''=>∃ v,e=.returned v/\∃ h',R h'/\∃ ρ'',bv P keep ρ' (s.hp.new s.hp.next (.loop ⟨.ready,none,f,s.tm.up none (aD P f),ps.toList,assign,body⟩)) w' ρ'' h' w''))
  (hloop:∀ h',R h'->∃ b,h'.bs.gt s.hp.next=some (.loop b)/\b.st≠.busy/\b.pending=none)
  (hg:∀ h' b,R h'->h'.bs.gt s.hp.next=some (.loop b)->Jo P keep f n0 ρ s.hp w .normal ⟨s.tm,h'.put s.hp.next (.loop {b with st:=.exhausted })⟩ Q) :
  (Code.rangeFunc g ps assign body).wpIn (dM none) 0 P Q act w:=by
 have vf:=aM (rg ht) hx hf
 let L0:fE:=⟨.ready,none,f,s.tm.up none (aD P f),ps.toList,assign,body⟩
 obtain ⟨fn',a',b',e2,hfr,ha,hb⟩:=vf
 cases hfr
 obtain rfl:a'=#[]:=Array.toList_inj.1 ha
 obtain ⟨wA,mark,dn,hpA,hdA,hosA,houtA,hrunA⟩:=pD (ro:=none) (rom:=none) hh rfl hd hn0 hpd (fun l e=>by cases e) act.tmps ps assign body
 have mk:∀ fn:FuncId,let L:Loop:={state:=.ready,pending:=none,fn,tmps:=act.tmps,params:=ps,assign,body,defers:=dn }
   bv P keep ρ s.hp wA (ρ.up s.hp.next ⟨wA.heap.size,0,0⟩) (s.hp.new s.hp.next (.loop L0)) {wA with heap:=wA.heap.push (.loop L) }:=by
  intro fn L
  rw [ii (Nat.le_refl _)]
  refine hpA.hr.push (w':={wA with heap:=wA.heap.push (.loop L) }) (o:=.loop L) (Nat.le_refl _) (by omega) rfl rfl rfl ⟨_,L,aL.up_same _ _ _,rfl,?_,⟨rfl,rfl,?_,rfl,rfl,rfl⟩⟩
  ·show (wA.heap.push _)[wA.heap.size]?=_
   simp
  ·refine TR.mono (aL.le_up (hh.fresh (Nat.le_refl _)).1) ⟨ht.1,fun t v hk hv=>?_⟩
   have hv:(s.tm.up none (aD P f)).gt t=some v:=hv
   rw [Tr.gt_up,if_neg (fun e=>by rw [e] at hk;rw [hk] at hkD;cases hkD)] at hv
   exact ht.2 t v hk hv
 have hle1:ρ.le (ρ.up s.hp.next ⟨wA.heap.size,0,0⟩):=aL.le_up (hh.fresh (Nat.le_refl _)).1
 refine wpIn_rangeFunc fun fn _=>?_
 have hmk:=mk fn
 simp only at hmk
 obtain ⟨⟨fn1,c1,hfn,hbody⟩,hcl⟩:=hcall _ _ ((#[Value.func (Fn.yield wA.heap.size) #[] #[]]++b').toList) hmk.hr (by
  simp only [Array.toList_append]
  exact bH.append (xs:=[_]) ⟨_,[],rfl,⟨_,_,_,rfl,⟨_,aL.up_same _ _ _,rfl,rfl⟩,rfl,rfl⟩,rfl⟩ (hb.mono hle1))
 let wB:World:={wA with heap:=wA.heap.push (.loop {state:=.ready,pending:=none,fn,tmps:=act.tmps,params:=ps,assign,body,defers:=dn }) }
 refine ⟨wA.heap.size,mark,wB,{target:=.fn (.func i) b',args:=#[]++#[Value.func (Fn.yield wA.heap.size) #[] #[]] },wB,i,#[]++#[Value.func (Fn.yield wA.heap.size) #[] #[]]++b',wB,hrunA fn,?_,fun _ _=>trivial,?_,fun hd=>(by cases hd),?_⟩
 ·have hmap:Array.map act.eval #[Operand.const (Value.func (Fn.yield wA.heap.size) #[] #[])]=#[Value.func (Fn.yield wA.heap.size) #[] #[]]:=by simp [Act.eval]
  simp only [Go.resolve,e2,Deferred.ofValue,Sem.run_pure,hmap]
 ·simp only [invoke]
  exact eQ hn hfn hbody
 ·rw [Array.toArray_toList] at hcl
  rw [Array.empty_append]
  refine CallsIn.mono (F:=dM none) hcl (fun e w3 hR=>?_)
  obtain ⟨v,rfl,h',hRh,ρ',hp⟩:=hR
  obtain ⟨b,hbl,hst,hpd'⟩:=hloop h' hRh
  obtain ⟨p,L,hpl,hp0,hh3,hlr⟩:=hp.hr.blk _ _ hbl
  have hpe:p=⟨wA.heap.size,0,0⟩:=by
   have:=hp.le _ _ (aL.up_same ρ s.hp.next ⟨wA.heap.size,0,0⟩)
   rw [hpl] at this;exact Option.some.inj this
  subst hpe
  have hset:=hp.hr.setLoop (r':={b with st:=.exhausted }) (L':={L with state:=.exhausted }) hbl hpl rfl hh3 {hlr with st:=rfl }
  have hbusy:(L.state==.busy)=false:=by
   have h8:=hlr.st
   cases hs:b.st with
   | busy=>exact absurd hs hst
   | ready=>rw [hs] at h8;rw [show L.state=.ready from h8];rfl
   | done=>rw [hs] at h8;rw [show L.state=.done from h8];rfl
   | exhausted=>rw [hs] at h8;rw [show L.state=.exhausted from h8];rfl
  have hall:=((hpA.trans hmk).trans hp).trans hset
  have hdef:fD n0 ρ' (h'.put s.hp.next (.loop {b with st:=.exhausted })) (bt s.tm (aD P f)) (mark++act.defers) _:=(hdA.post (hmk.trans hp)).post hset
  clear hset
  let w4:World:={w3 with heap:=w3.heap.setIfInBounds wA.heap.size (.loop {L with state:=.exhausted }) }
  refine ⟨L.pending,w4,?_,?_⟩
  ·simp only [Instr.endLoop,Sem.run_bind,ft hh3,Result.andThen_ok,hbusy,Bool.false_eq_true,if_false,Sem.run_pure,iR hh3]
   rfl
  ·rw [hlr.pending,hpd']
   exact hg h' b hRh hbl ρ' _ _ hall (ht.mono hall.le) hdef
structure AppCode (P:Program) (keep:aK) (A:FuncId) (ts sz:Nat) (F1:List AV->Option (cX×(Nat->AV))) where
 fn:Func
 c0:Code
 c1:Code
 c2:Code
 As:Code
 Bd:Code
 g0:Operand
 ps:Array Tmp
 b0:Nat
 hf:P.funcs[A]?=some fn
 hb:fn.body=some (.seq c0 (.seq (.seq c1 (.block b0 (.rangeFunc g0 ps As Bd))) c2))
 res:fn.results.toList=[.tmp 4]
 nt:aD P A=fn.ntmps
 nt7:7<fn.ntmps
 kD:keep A (aD P A)=false
 k4:keep A 4=true
 g:Am.resolve (fun t=>if keep A t then some (.tmp t) else none) g0=some (.tmp 6)
 p7:ps.toList=[7]
 e0:bu P (keep A) (aD P A) c0=.reg [⟨none,.al (l1 cV) [.tmp 0]⟩] [(4,.cst (.slice none 0 0 none)),(2,.loc 0)]
 e1:bu P (keep A) (aD P A) c1=.reg [] [(6,.tmp 1)]
 e2:bu P (keep A) (aD P A) c2=.seq (.reg [⟨none,.ld1 (.tmp 2)⟩] [(4,.loc 0)]) .ret
 eA:bu P (keep A) (aD P A) As=.reg [] [(5,.tmp 7)]
 eB:bu P (keep A) (aD P A) Bd=.block 1 (.reg [⟨none,.ld1 (.tmp 2)⟩,⟨none,.al F1 [.tmp 5]⟩,⟨none,.ef (fun vs id h=>l2 (fun s x=>aS P ts s x id h) vs) [.loc 1,.loc 0]⟩,⟨none,.st1 (.tmp 2) (.loc 0)⟩] [])
theorem AD {prims:Prims} {n:Nat} (hm:P.follows .mixedOrders=true) (hn:NamesOk P) (hc:dR P keep (callN P keep prims lf (n+1)))
  {A:FuncId} {ts e sz bs:Nat} {F1:List AV->Option (cX×(Nat->AV))} (C:AppCode P keep A ts sz F1)
  (hu:P.underlying ts=some (.slice e)) (hs:aC P e=some (sz+1)) (hbs:cF P e=some bs) (hz:(cd P e).map (fun z=>Nat.beq (bp z.cells) (sz+1))=some true)
  {g:FuncId} {gfn:Func} {gc:Code} {tm tk te:TypeId} (hg:P.funcs[g]?=some gfn) (hgb:gfn.body=some gc) (hcode:qK tm gc) (hres:gfn.results=#[]) (hnt:14<=gfn.ntmps)
  (htm:P.underlying tm=some (.map tk te)) (hag:gB P tm=some false)
  {ρ : aL} {h:ac} {w:World} {cb mb clock:Nat} {es:List aG} {avs:List Value} (hr:HR P keep ρ h w) (hv:bH ρ [.slice none 0 0 none,.func (.func g) [] [.ptr (some (cb,0))]] avs)
  (hld:h.ld1 cb 0=some (.map (some mb))) (hmb:h.bs.gt mb=some (.map es clock)) (hborn:fh es clock)
  (hkeys:∀ k∈es.map (·.key),F1 [k]=some (rowBlk k.cells,sliceTo 1)/\k.cells.length=sz+1/\bO k.cells=true) (hroom:∀ m,m<es.length->gy bs (m+1)=true) :
  CallsIn (dM none) 0 P A avs.toArray w (fun e' w'=>∃ v,e'=.returned v/\∃ π : List AV,π.Perm (es.map (·.key))/\∃ ρ' h' sv,VR ρ' sv v/\pu h' (h.next+2) e (sz+1) sv (π.flatMap AV.cells) π.length/\bv P keep ρ h w ρ' h' w'/\∀ b,b<h.next->h'.bs.gt b=h.bs.gt b):=by
 obtain ⟨fn,c0,c1,c2,As,Bd,g0,ps,b0,hf,hb,res,nt,nt7,kD,k4,gres,p7,e0,e1,e2,eA,eB⟩:=C
 let nilS:AV:=.slice none 0 0 none
 let sq:AV:=.func (.func g) [] [.ptr (some (cb,0))]
 let call:=callN P keep prims lf (n+1)
 let B0:=h.next
 let tm0:Tr AV:=az [nilS,sq] .leaf 0
 let h1:=h.new B0 (rowBlk [nilS])
 let tm1:Tr AV:=(tm0.up (some nilS) 4).up (some (.ptr (some (B0,0)))) 2
 let tm2:Tr AV:=tm1.up (some sq) 6
 let l:=h1.next
 have hl:l=h.next+1:=gu h _
 let rec0:fE:=⟨.ready,none,A,tm2.up none (aD P A),ps.toList,As,Bd⟩
 let h2:=h1.new l (.loop rec0)
 have hlen:=hv.length
 have htr:TR (keep A) (aD P A) ρ tm0 (avs.toArray++Array.replicate (fn.ntmps - avs.toArray.size) undef):=by rw [nt];exact vo hv
 refine callsIn_of_wp_marks hf hb trivial ?_
 have hoff0:bt tm0 (aD P A)=[]:=qR (by rw [nt];simp;omega)
 have hd:fD ⟨w.heap.size,none⟩ ρ h (bt tm0 (aD P A)) [] w:=⟨⟨(fun d hd=>by cases hd),List.Pairwise.nil⟩,hoff0,fun ds0 e=>by cases e⟩
 have x0:aZ call lf (aD P A) A none (bu P (keep A) (aD P A) c0) ⟨tm0,h⟩=some (.normal,⟨tm1,h1⟩):=by rw [e0];rfl
 have hoff1:bt tm1 (aD P A)=[]:=by
  rw [← hoff0]
  refine eE ?_
  rw [Tr.gt_up,if_neg (by omega),Tr.gt_up,if_neg (by omega)]
 have hoff2:bt tm2 (aD P A)=[]:=by
  rw [← hoff1]
  refine eE ?_
  rw [Tr.gt_up,if_neg (by omega)]
 have g12:tm1.gt 1=some sq:=rfl
 have x1:aZ call lf (aD P A) A none (bu P (keep A) (aD P A) c1) ⟨tm1,h1⟩=some (.normal,⟨tm2,h1⟩):=by rw [e1];rfl
 refine wpIn_seq (fi kD hm hn hc c0 ⟨tm0,h⟩ _ x0 ⟨w.heap.size,none⟩ ρ _ w none _ rfl hr htr hd (Nat.le_refl _) (fun e=>by cases e) (fun ρ1 a1 w1 hp1 ht1 hd1=>?_))
 simp only [Sh,Exit.then]
 refine wpIn_seq (wpIn_seq (fi kD hm hn hc c1 ⟨tm1,h1⟩ _ x1 ⟨w.heap.size,none⟩ ρ1 _ w1 none _ rfl hp1.hr ht1 hd1 hp1.fr.size (fun e=>by cases e) (fun ρ2 a2 w2 hp2 ht2 hd2=>?_)))
 simp only [Sh,Exit.then]
 have hp02:=hp1.trans hp2
 
 let J:List AV->ac->Prop:=fun ks h'=>h'.bs.gt l=some (.loop rec0)/\(∃ tb sv,h'.bs.gt B0=some (.cells tb [] 1 false)/\aR tb [] 0=some sv/\pu h' (h.next+2) e (sz+1) sv (ks.flatMap AV.cells) ks.length)/\h.next+2<=h'.next/\∀ b,b<h.next->h'.bs.gt b=h.bs.gt b
 have hmlt:mb<h.next:=hr.has _ _ hmb
 obtain ⟨tc,zc,mc,rc,hcb,hclt,hcv⟩:=zg hld
 have hclt2:cb<h.next:=hr.has _ _ hcb
 have h2old:∀ b,b<h.next->h2.bs.gt b=h.bs.gt b:=fun b hlt=>by
  rw [eN,if_neg (by omega),eN,if_neg (by omega)]
 have hJ0:J [] h2:=by
  refine ⟨by rw [eN,if_pos rfl],⟨az [nilS] .leaf 0,nilS,?_,?_,.inl ⟨rfl,rfl,rfl⟩⟩,?_,h2old⟩
  ·rw [eN,if_neg (by omega),eN,if_pos rfl,mF];rfl
  ·rfl
  ·show h.next+2<=(h1.new h1.next _).next
   rw [gu];omega
 have hL:CE P keep rec0 B0 ts sz F1:=by
  refine ⟨rfl,rfl,p7,?_,?_,by rw [nt];exact nt7,kD,eA,eB⟩
  ·show (tm2.up none (aD P A)).gt 2=_
   rw [Tr.gt_up,if_neg (by omega)];rfl
  ·show nK (tm2.up none (aD P A)) (aD P A)=true
   unfold nK
   rw [Tr.gt_up,if_pos rfl]
 refine wpIn_block (Kn kD hn gres (s:=⟨tm2,h1⟩) (n0:=⟨w.heap.size,none⟩) hp2.hr ht2 hd2 hp02.fr.size rfl (i:=g) (cap:=[.ptr (some (cb,0))]) rfl (fun h'=>∃ π : List AV,π.Perm (es.map (·.key))/\J π h') ?_ ?_ ?_)
 ·intro ρ' w' avs' hr' hv'
  refine ⟨⟨gfn,gc,hg,hgb⟩,?_⟩
  refine (CallsIn.mono (F:=dM none) (Su hn hc hg hgb hcode hres hnt htm hag (h:=h2) (l:=l) (cb:=cb) (mb:=mb) (clock:=clock) (es:=es) hr' hv' ?_ (by rw [h2old _ hmlt];exact hmb) hborn J hJ0 (fun ks h' hJ=>by rw [hJ.2.2.2 _ hmlt];exact hmb) ?_) ?_)
  ·exact Bx (by rw [h2old _ hclt2];exact hcb) hclt hcv
  ·intro ks h' k ⟨j1,⟨tb,sv,j2,j3,j4⟩,j5,j6⟩ hlt hk
   obtain ⟨k1,k2,k3⟩:=hkeys k hk
   obtain ⟨h'',sv',tb',r1,r2,r3,r4,r5,r6,r7⟩:=Jq (P:=P) (keep:=keep) (prims:=prims) (lf:=lf) (n:=n) hL hu hs hbs hz (h:=h') (l:=l) (lo:=h.next+2) (sv:=sv) (k:=k) (cs:=ks.flatMap AV.cells) (m:=ks.length) j1 (by omega) (by omega) (by omega) j2 j3 j4 j5 (by omega) (by omega) (hroom _ hlt) k1 k2 k3
   refine ⟨h'',r1,r2,⟨tb',sv',r3,r4,?_⟩,by omega,fun b hb2=>?_⟩
   ·rw [List.flatMap_append,List.length_append]
    simpa using r5
   ·rw [r7 b (by omega) (by omega) (by omega)];exact j6 b hb2
  ·rintro e' w'' ⟨v,rfl,π,h',hπ,hJ,ρ'',hp⟩
   exact ⟨v,rfl,h',⟨π,hπ,hJ⟩,ρ'',hp⟩
 ·rintro h' ⟨π,_,hJ⟩
  exact ⟨rec0,hJ.1,(fun e=>by cases e),rfl⟩
 ·rintro h' b ⟨π,hπ,j1,⟨tb,sv,j2,j3,j4⟩,j5,j6⟩ hbl
  have j1':=j1
  rw [show l=(⟨tm2,h1⟩:St).hp.next from rfl,hbl] at j1'
  cases j1'
  intro ρ3 a3 w3 hp3 ht3 hd3
  simp only [Exit.inBlock,Exit.then]
  
  let h3:=h'.put l (.loop {rec0 with st:=.exhausted })
  have hB3:h3.bs.gt B0=some (.cells tb [] 1 false):=by rw [bA,if_neg (by omega)];exact j2
  have x2:aZ call lf (aD P A) A none (bu P (keep A) (aD P A) c2) ⟨tm2,h3⟩=some (.ret,⟨tm2.up (some sv) 4,h3⟩):=by
   rw [e2]
   have r1:aw.ev ⟨none,.ld1 (.tmp 2)⟩ [] .leaf tm2 call h3.next h3=some (sv,h3):=by
    show ob (h3.ld1 B0 0) _=_
    rw [Bx hB3 (by omega) j3]
   show ob (ob (ob (aw.ev ⟨none,.ld1 (.tmp 2)⟩ [] .leaf tm2 call h3.next h3) (fun r=>some ([r.1],r.2))) (fun r=>ob (bf [(4,.loc 0)] r.1 tm2 tm2) fun tm=>some (Ex.normal,(⟨tm,r.2⟩:St)))) (fun r=>tf r fun s=>some (.ret,s))=_
   rw [r1]
   rfl
  have hoff3:bt (tm2.up (some sv) 4) (aD P A)=[]:=by
   rw [← hoff2]
   refine eE ?_
   rw [Tr.gt_up,if_neg (by omega)]
  have hp03:=hp02.trans hp3
  refine fi kD hm hn hc c2 ⟨tm2,h3⟩ _ x2 ⟨w.heap.size,none⟩ ρ3 a3 w3 none _ rfl hp3.hr ht3 hd3 hp03.fr.size (fun e=>by cases e) (fun ρ4 a4 w4 hp4 ht4 hd4=>?_)
  have hp04:=hp03.trans hp4
  have hd4':fD ⟨w.heap.size,none⟩ ρ4 h3 [] a4.defers w4:=by rw [← hoff3];exact hd4
  refine jK (lf:=lf) (call:=call) hm hn hc (n0:=⟨w.heap.size,none⟩) rfl rfl a4.defers [] ρ4 h3 w4 hp04 hd4' rfl (fun ρ5 w5 hp5 hle=>?_)
  have hk:iN (keep A) fn.results.toList=true:=by rw [res];simp [iN,k4]
  obtain ⟨v,q1,q2⟩:=i7 (fn:=fn) (s:=⟨tm2.up (some sv) 4,h3⟩) (vs:=[sv]) hp5.hr (ht4.mono hle) hk (by
   rw [res,uR]
   show ob ((tm2.up (some sv) 4).gt 4) _=_
   rw [Tr.gt_up,if_pos rfl];rfl)
  refine ⟨v,q1,v,rfl,π,hπ,ρ5,h3,sv,q2,?_,hp5,fun b hb2=>?_⟩
  ·rcases j4 with ⟨a,b,c⟩|⟨id,t,z,a1,a2,a3,a4,a5⟩
   ·exact .inl ⟨a,b,c⟩
   ·refine .inr ⟨id,t,z,a1,a2,a3,?_,a5⟩
    rw [bA,if_neg (by omega)];exact a4
  ·rw [bA,if_neg (by omega)];exact j6 b hb2
end
end Go.Am
namespace Go.Am
section
variable {P:Program} {keep:aK}
theorem sj {ops:Array Oper} {i:Nat} {rest:List Nat} {o:Oper} {a:Act} {w:World} {dst:Tmp} {k:FuncId} {args:Array Operand} {ts:Array TypeId} {Q:Exit->Act->World->Prop} {S:Value->World->Prop} (hn:NamesOk P) (ho:ops[i]?=some o) (hi:fU o (some dst) (.call ⟨.value (.func k),args,ts⟩))
  (hk:∃ fn c,P.funcs[k]?=some fn/\fn.body=some c) (hc:CallsIn (dM none) 0 P k (args.map a.eval) w (fun e w'=>∃ v,e=.returned v/\S v w'))
  (h:∀ v w',S v w'->wpOpsIn (dM none) 0 P ops Q rest (a.put (some dst) v) w'):wpOpsIn (dM none) 0 P ops Q (i::rest) a w:=by
 obtain ⟨h1,h2,hg⟩:=hi
 obtain ⟨fn,c,hf,hb⟩:=hk
 have hw:Region.wanted o (yielded ops a.tmps)=true:=by simp [Region.wanted,hg]
 simp only [wpOpsIn,ho]
 rw [if_pos hw]
 refine ⟨fun _ _=>trivial,?_⟩
 have hrun:(execOp a.eval o).run P w=.ok (.enter k (args.map a.eval)) w:=by
  obtain ⟨d,op,ty,pos,after,guard⟩:=o
  simp only at h2
  subst h2
  have e1:(execOp a.eval ⟨d,.call ⟨.value (.func k),args,ts⟩,ty,pos,after,guard⟩)=callFunc k (#[]++args.map a.eval++#[]):=rfl
  rw [e1,Array.empty_append,Array.append_empty]
  exact eQ hn hf hb
 rw [Oper.semAt_eq _ _ _ (by rw [h2];intro c e;cases e),hrun,Oper.uponIn_enter,h1]
 refine ⟨fun e=>(by cases e),CallsIn.mono (F:=dM none) hc fun e w' hR=>?_⟩
 obtain ⟨v,rfl,hS⟩:=hR
 exact h v w' hS
theorem lX {ops:Array Oper} {a:Act} {w:World} {Q:Exit->Act->World->Prop} (h:Q .normal a w):wpOpsIn (dM none) 0 P ops Q [] a w:=h
theorem jM {ops:Array Oper} {i:Nat} {rest:List Nat} {o:Oper} {a:Act} {w:World} {x:Operand} {d:Tmp} {Q:Exit->Act->World->Prop} (ho:ops[i]?=some o) (hi:fU o (some d) (.move x)∨fU o (some d) (.assign x))
  (h:wpOpsIn (dM none) 0 P ops Q rest (a.put (some d) (a.eval x)) w):wpOpsIn (dM none) 0 P ops Q (i::rest) a w:=by
 rcases hi with hi | hi
 ·refine cN ho hi (by intro c e;cases e) (w':=w) (v:=a.eval x) ?_ h
  obtain ⟨dst,op,ty,pos,after,guard⟩:=o
  obtain ⟨_,rfl,_⟩:=hi
  rfl
 ·refine cN ho hi (by intro c e;cases e) (w':=w) (v:=a.eval x) ?_ h
  obtain ⟨dst,op,ty,pos,after,guard⟩:=o
  obtain ⟨_,rfl,_⟩:=hi
  rfl
def CollectCode (A:FuncId) (c:Code):Prop:=∃ (i0 i1:Nat) (o0 o1 o2 o3:Oper) (ts:Array TypeId),
 c=.seq (.region i0 #[o0] false) (.seq (.region i1 #[o1,o2,o3] false) .ret) /\
 fU o0 (some 2) (.assign (.const (.slice none 0 0)))/\fU o1 (some 3) (.move (.tmp 0))/\fU o2 (some 4) (.call ⟨.value (.func A),#[.const (.slice none 0 0),.tmp 3],ts⟩)/\fU o3 (some 2) (.assign (.tmp 4))
theorem pT {fn:Func} {a:Act} {t:Nat} {w:World} (h:fn.results=#[.tmp t]):(results fn a.tmps).run P w=.ok (a.eval (.tmp t)) w:=by
 unfold results
 rw [h]
 simp [Act.eval]
theorem wj (hn:NamesOk P) {C A:FuncId} {fn:Func} {c:Code} (hf:P.funcs[C]?=some fn) (hb:fn.body=some c) (hcode:CollectCode A c) (hres:fn.results=#[.tmp 2]) (hnt:5<=fn.ntmps) (hA:∃ fn c,P.funcs[A]?=some fn/\fn.body=some c)
  {sv:Value} {w:World} {S:Value->World->Prop} (h:CallsIn (dM none) 0 P A #[.slice none 0 0,sv] w (fun e w'=>∃ v,e=.returned v/\S v w')) :
  CallsIn (dM none) 0 P C #[sv] w (fun e w'=>∃ v,e=.returned v/\S v w'):=by
 refine callsIn_of_wp hf hb trivial ?_
 obtain ⟨i0,i1,o0,o1,o2,o3,ts,rfl,q0,q1,q2,q3⟩:=hcode
 generalize ha0:({tmps:=#[sv]++Array.replicate (fn.ntmps - (#[sv]:Array Value).size) undef,defers:=[] }:Act)=a0
 have hsz:5<=a0.tmps.size:=by subst ha0;simp;omega
 have hd0:a0.defers=[]:=by subst ha0;rfl
 have e0:a0.eval (.tmp 0)=sv:=by subst ha0;simp only [Act.eval,Array.getD_eq_getD_getElem?];rw [Array.getElem?_append_left (by simp)];rfl
 clear ha0
 refine wpIn_seq (wpIn_region ?_)
 show wpOpsIn (dM none) 0 P #[o0] _ [0] a0 w
 refine jM (o:=o0) rfl (.inr q0) (lX ?_)
 simp only [Exit.then]
 refine wpIn_seq (wpIn_region ?_)
 show wpOpsIn (dM none) 0 P #[o1,o2,o3] _ [0,1,2] _ w
 refine jM (o:=o1) rfl (.inl q1) ?_
 have e1:(a0.put (some 2) (a0.eval (.const (.slice none 0 0)))).eval (.tmp 0)=sv:=by rw [aA (by omega),if_neg (by decide)];exact e0
 rw [e1]
 refine sj (o:=o2) hn rfl q2 hA (S:=S) ?_ (fun v w' hS=>?_)
 ·have e2:(#[.const (.slice none 0 0),.tmp 3]:Array Operand).map ((a0.put (some 2) (a0.eval (.const (.slice none 0 0)))).put (some 3) sv).eval=#[.slice none 0 0,sv]:=by
   simp only [List.map_toArray,List.map_cons,List.map_nil]
   rw [aA (by rw [cC];omega),if_pos rfl]
   rfl
  rw [e2];exact h
 ·refine jM (o:=o3) rfl (.inr q3) (lX ?_)
  simp only [Exit.then]
  refine wpIn_ret ⟨by simp only [ba];exact hd0,v,?_,v,rfl,hS⟩
  rw [pT hres,aA (by simp only [cC];omega),if_pos rfl,aA (by simp only [cC];omega),if_pos rfl]
def SortedCode (C T:FuncId) (c:Code):Prop:=∃ (i0 i1 i2 i3:Nat) (o0 o1 o2 o3 o4 o5 o6 o7:Oper) (ts tt:Array TypeId),
 c=.seq (.region i0 #[o0] false) (.seq (.region i1 #[o1,o2,o3] false) (.seq (.region i2 #[o4,o5] false) (.seq (.region i3 #[o6,o7] false) .ret))) /\
 fU o0 (some 2) (.assign (.const (.slice none 0 0)))/\fU o1 (some 4) (.move (.tmp 0))/\fU o2 (some 5) (.call ⟨.value (.func C),#[.tmp 4],ts⟩)/\fU o3 (some 3) (.assign (.tmp 5)) /\
 fU o4 (some 6) (.move (.tmp 3))/\fU o5 (some 7) (.call ⟨.value (.func T),#[.tmp 6],tt⟩)/\fU o6 (some 8) (.move (.tmp 3))/\fU o7 (some 2) (.assign (.tmp 8))
theorem zV (hn:NamesOk P) {G C T:FuncId} {fn:Func} {c:Code} (hf:P.funcs[G]?=some fn) (hb:fn.body=some c) (hcode:SortedCode C T c) (hres:fn.results=#[.tmp 2]) (hnt:9<=fn.ntmps) (hC:∃ fn c,P.funcs[C]?=some fn/\fn.body=some c) (hT:∃ fn c,P.funcs[T]?=some fn/\fn.body=some c)
  {sv:Value} {w:World} {S S':Value->World->Prop} (h:CallsIn (dM none) 0 P C #[sv] w (fun e w'=>∃ v,e=.returned v/\S v w')) (h2:∀ v w',S v w'->CallsIn (dM none) 0 P T #[v] w' (fun e w''=>∃ u,e=.returned u/\S' v w'')) :
  CallsIn (dM none) 0 P G #[sv] w (fun e w'=>∃ v,e=.returned v/\S' v w'):=by
 refine callsIn_of_wp hf hb trivial ?_
 obtain ⟨i0,i1,i2,i3,o0,o1,o2,o3,o4,o5,o6,o7,ts,tt,rfl,q0,q1,q2,q3,q4,q5,q6,q7⟩:=hcode
 generalize ha0:({tmps:=#[sv]++Array.replicate (fn.ntmps - (#[sv]:Array Value).size) undef,defers:=[] }:Act)=a0
 have hsz:9<=a0.tmps.size:=by subst ha0;simp;omega
 have hd0:a0.defers=[]:=by subst ha0;rfl
 have e0:a0.eval (.tmp 0)=sv:=by subst ha0;simp only [Act.eval,Array.getD_eq_getD_getElem?];rw [Array.getElem?_append_left (by simp)];rfl
 clear ha0
 refine wpIn_seq (wpIn_region ?_)
 show wpOpsIn (dM none) 0 P #[o0] _ [0] a0 w
 refine jM (o:=o0) rfl (.inr q0) (lX ?_)
 simp only [Exit.then]
 generalize ha1:a0.put (some 2) (a0.eval (.const (.slice none 0 0)))=a1
 have e1:a1.eval (.tmp 0)=sv:=by subst ha1;rw [aA (by omega),if_neg (by decide)];exact e0
 have z1:9<=a1.tmps.size:=by subst ha1;rw [cC];exact hsz
 have d1:a1.defers=[]:=by subst ha1;rw [ba];exact hd0
 clear ha1
 refine wpIn_seq (wpIn_region ?_)
 show wpOpsIn (dM none) 0 P #[o1,o2,o3] _ [0,1,2] _ w
 refine jM (o:=o1) rfl (.inl q1) ?_
 rw [e1]
 refine sj (o:=o2) hn rfl q2 hC (S:=S) ?_ (fun v w' hS=>?_)
 ·have e2:(#[.tmp 4]:Array Operand).map (a1.put (some 4) sv).eval=#[sv]:=by
   simp only [List.map_toArray,List.map_cons,List.map_nil]
   rw [aA (by omega),if_pos rfl]
  rw [e2];exact h
 ·refine jM (o:=o3) rfl (.inr q3) (lX ?_)
  simp only [Exit.then]
  generalize ha2:(((a1.put (some 4) sv).put (some 5) v).put (some 3) (((a1.put (some 4) sv).put (some 5) v).eval (.tmp 5)))=a2
  have e3:a2.eval (.tmp 3)=v:=by subst ha2;rw [aA (by simp only [cC];omega),if_pos rfl,aA (by simp only [cC];omega),if_pos rfl]
  have z2:9<=a2.tmps.size:=by subst ha2;simp only [cC];exact z1
  have d2:a2.defers=[]:=by subst ha2;simp only [ba];exact d1
  clear ha2
  refine wpIn_seq (wpIn_region ?_)
  show wpOpsIn (dM none) 0 P #[o4,o5] _ [0,1] _ w'
  refine jM (o:=o4) rfl (.inl q4) ?_
  rw [e3]
  refine sj (o:=o5) hn rfl q5 hT (S:=fun _ w''=>S' v w'') ?_ (fun u w'' hS2=>lX ?_)
  ·have e4:(#[.tmp 6]:Array Operand).map (a2.put (some 6) v).eval=#[v]:=by
    simp only [List.map_toArray,List.map_cons,List.map_nil]
    rw [aA (by omega),if_pos rfl]
   rw [e4];exact h2 v w' hS
  ·simp only [Exit.then]
   refine wpIn_seq (wpIn_region ?_)
   show wpOpsIn (dM none) 0 P #[o6,o7] _ [0,1] _ w''
   refine jM (o:=o6) rfl (.inl q6) (jM (o:=o7) rfl (.inr q7) (lX ?_))
   simp only [Exit.then]
   refine wpIn_ret ⟨by simp only [ba];exact d2,v,?_,v,rfl,hS2⟩
   rw [pT hres,aA (by simp only [cC];omega),if_pos rfl,aA (by simp only [cC];omega),if_pos rfl,aA (by simp only [cC];omega),if_neg (by decide),aA (by omega),if_neg (by decide)]
   exact congrArg (fun x=>Result.ok x w'') e3
end
end Go.Am
namespace Go.Am
section
variable {P:Program} {keep:aK}
theorem VR.plain {ρ σ : aL} {c:AV} {v:Value} (hp:plainCell c=true) (h:VR ρ c v):VR σ c v:=by
 cases c with
 | bool b=>exact h
 | int k n=>exact h
 | str s=>exact h
 | _=>cases hp
theorem Kg {c:AV} (hp:plainCell c=true):c.one=true:=by cases c <;> first | rfl | cases hp
mutual
theorem VR.back {ρ σ : aL} (h:ρ.le σ):∀ (x:AV) (u v:Value),VR ρ x u->VR σ x v->VR ρ x v
 | .bool _,_,_,_,hv=>hv
 | .int _ _,_,_,_,hv=>hv
 | .str _,_,_,_,hv=>hv
 | .ptr none,_,_,_,hv=>hv
 | .ptr (some (_,_)),_,_,hu,hv=>by
  obtain ⟨p,hp,_⟩:=hu
  obtain ⟨q,hq,e⟩:=hv
  have:=h _ _ hp;rw [hq] at this;cases this
  exact ⟨p,hp,e⟩
 | .slice none _ _ _,_,_,_,hv=>hv
 | .slice (some (_,_)) _ _ _,_,_,hu,hv=>by
  obtain ⟨p,a,c,hp,_⟩:=hu
  obtain ⟨q,a',c',hq,r⟩:=hv
  have:=h _ _ hp;rw [hq] at this;cases this
  exact ⟨p,a',c',hp,r⟩
 | .map none,_,_,_,hv=>hv
 | .map (some _),_,_,hu,hv=>by
  obtain ⟨p,hp,_⟩:=hu
  obtain ⟨q,hq,r⟩:=hv
  have:=h _ _ hp;rw [hq] at this;cases this
  exact ⟨p,hp,r⟩
 | .func fn a b,_,_,hu,hv=>by
  obtain ⟨fn1,a1,b1,_,hf1,ha1,hb1⟩:=hu
  obtain ⟨fn2,a2,b2,e,hf2,ha2,hb2⟩:=hv
  refine ⟨fn2,a2,b2,e,?_,bH.back h a _ _ ha1 ha2,bH.back h b _ _ hb1 hb2⟩
  cases fn with
  | func f=>exact hf2
  | yield l =>
   obtain ⟨p,hp,_⟩:=hf1
   obtain ⟨q,hq,r⟩:=hf2
   have:=h _ _ hp;rw [hq] at this;cases this
   exact ⟨p,hp,r⟩
  | _=>exact hf2.elim
 | .nilFunc,_,_,_,hv=>hv
 | .iface _ x,_,_,hu,hv=>by
  obtain ⟨y,_,hy⟩:=hu
  obtain ⟨z,e,hz⟩:=hv
  exact ⟨z,e,VR.back h x _ _ hy hz⟩
 | .nilIface,_,_,_,hv=>hv
 | .agg cs,_,_,hu,hv=>by
  obtain ⟨c1,_,h1⟩:=hu
  obtain ⟨c2,e,h2⟩:=hv
  exact ⟨c2,e,bH.back h cs _ _ h1 h2⟩
 | .tuple cs,_,_,hu,hv=>by
  obtain ⟨c1,_,h1⟩:=hu
  obtain ⟨c2,e,h2⟩:=hv
  exact ⟨c2,e,bH.back h cs _ _ h1 h2⟩
theorem bH.back {ρ σ : aL} (h:ρ.le σ):∀ (x:List AV) (u v:List Value),bH ρ x u->bH σ x v->bH ρ x v
 | [],_,_,_,hv=>hv
 | x::xs,_,_,hu,hv=>by
  obtain ⟨u,us,rfl,h1,h2⟩:=hu
  obtain ⟨v,vs,rfl,h3,h4⟩:=hv
  exact ⟨v,vs,rfl,VR.back h x _ _ h1 h3,bH.back h xs _ _ h2 h4⟩
end
theorem km.back {ρ σ : aL} (h:ρ.le σ):∀ {es:List aG} {l m:List MapEntry},km ρ es l->km σ es m->km ρ es m
 | [],_,_,_,hm=>hm
 | e::es,_,_,hl,hm=>by
  obtain ⟨x,xs,rfl,⟨a1,a2,a3⟩,hx⟩:=hl
  obtain ⟨y,ys,rfl,⟨b1,b2,b3⟩,hy⟩:=hm
  exact ⟨y,ys,rfl,⟨VR.back h _ _ _ a1 b1,VR.back h _ _ _ a2 b2,b3⟩,km.back h hx hy⟩
theorem TR.back {kp:Nat->Bool} {nt:Nat} {ρ σ : aL} (h:ρ.le σ) {tm:Tr AV} {a b:Array Value} (ha:TR kp nt ρ tm a) (hb:TR kp nt σ tm b):TR kp nt ρ tm b :=
 ⟨hb.1,fun t v hk hv=>by
  obtain ⟨c,_,h1⟩:=ha.2 t v hk hv
  obtain ⟨d,h2,h3⟩:=hb.2 t v hk hv
  exact ⟨d,h2,VR.back h _ _ _ h1 h3⟩⟩
theorem BR.back {ρ σ : aL} (hl:ρ.le σ) {b:Nat} {x:cX} {w w':World} (ho:BR P keep ρ b x w) (hb:BR P keep σ b x w'):BR P keep ρ b x w':=by
 cases x with
 | dead=>trivial
 | cells t z n ro =>
  obtain ⟨q,c',e,fz,g1,g2,g3,g4,g5,g6⟩:=hb
  obtain ⟨q0,c0,e0,fz0,k1,k2,k3,k4,k5,k6⟩:=ho
  have:=hl _ _ k1;rw [g1] at this;cases this
  refine ⟨q,c',e,fz,k1,g2,g3,g4,fun i hi=>?_,g6⟩
  obtain ⟨v,cv,m1,m2,m3,m4⟩:=g5 i hi
  obtain ⟨v',cv',n1,n2,n3,n4⟩:=k5 i hi
  rw [m1] at n1;cases n1
  exact ⟨v,cv,m1,m2,m3,VR.back hl _ _ _ n4 m4⟩
 | map es clock =>
  obtain ⟨q,e1,g1,g2,g3,g4⟩:=hb
  obtain ⟨q0,e0,k1,_,_,k4⟩:=ho
  have:=hl _ _ k1;rw [g1] at this;cases this
  exact ⟨q,e1,k1,g2,g3,km.back hl k4 g4⟩
 | siter s pos =>
  obtain ⟨q,e1,g1,r⟩:=hb
  obtain ⟨q0,e0,k1,_⟩:=ho
  have:=hl _ _ k1;rw [g1] at this;cases this
  exact ⟨q,e1,k1,r⟩
 | loop l =>
  obtain ⟨q,L,g1,g2,g3,g4⟩:=hb
  obtain ⟨q0,L0,k1,_,_,k4⟩:=ho
  have:=hl _ _ k1;rw [g1] at this;cases this
  exact ⟨q,L,k1,g2,g3,{g4 with tm:=TR.back hl k4.tm g4.tm }⟩
theorem bv.old {ρ ρ':aL} {h h':ac} {w w':World} (ha:bv P keep ρ h w ρ' h' w') (hr:HR P keep ρ h w) (hold:∀ b,b<h.next->h'.bs.gt b=h.bs.gt b):bv P keep ρ h w ρ h w':=by
 refine ⟨aL.le_refl _,{hr with blk:=fun c x hx=>?_ },ha.fr,fun _ _ ho=>ho,Nat.le_refl _,fun _ _ h _=>h,fun _ _ h=>h⟩
 exact BR.back ha.le (hr.blk c x hx) (ha.hr.blk c x (by rw [hold c (hr.has _ _ hx)];exact hx))
noncomputable def tV (cs:List AV):ac:=⟨Tr.leaf.up (some (.cells (az cs .leaf 0) [] cs.length false)) 0,1⟩
def uL (p:Pl):aL:=fun b=>if b=0 then some p else none
theorem nJ (cs:List AV) (b:Nat):(tV cs).bs.gt b=if b=0 then some (.cells (az cs .leaf 0) [] cs.length false) else none:=by
 unfold tV
 rw [Tr.gt_up,Tr.gt_leaf]
theorem WP {ρ : aL} {h:ac} {w:World} {id n:Nat} {t:Tr AV} {z:List AV} {p:Pl} {cs:List AV} (hr:HR P keep ρ h w) (hb:h.bs.gt id=some (.cells t z n false)) (hp:ρ id=some p) (hn:n=cs.length) (hcell:∀ i,i<n->aR t z i=cs[i]?) (hpl:∀ c∈cs,plainCell c=true) :
  HR P keep (uL p) (tV cs) w:=by
 refine ⟨fun b q hq=>?_,fun b x hx=>?_,fun b x hx=>?_,fun b b' x x' q q' hx hx' _ _ _ _ _ hne=>?_⟩
 ·unfold uL at hq
  split at hq
  ·rename_i e;subst e;exact Nat.zero_lt_one
  ·cases hq
 ·rw [nJ] at hx
  split at hx
  ·rename_i e;subst e;exact Nat.zero_lt_one
  ·cases hx
 ·rw [nJ] at hx
  split at hx
  ·rename_i e;subst e;cases hx
   obtain ⟨p0,c,e,fz,hp0,hc,hcs,hpm,hval,hf⟩:=hr.blk _ _ hb
   rw [hp] at hp0;cases hp0
   refine ⟨p,c,e,fz,rfl,hc,hcs,by omega,fun i hi=>?_,hf.1,ie⟩
   obtain ⟨v,cv,g1,g2,g3,g4⟩:=hval i (by omega)
   rw [hcell i (by omega)] at g1
   have hmem:v∈cs:=List.mem_of_getElem? g1
   exact ⟨v,cv,by rw [em _ _ _ hi];exact g1,g2,g3,g4.plain (hpl v hmem)⟩
  ·cases hx
 ·rw [nJ] at hx hx'
  split at hx
  ·split at hx'
   ·rename_i e e';exact absurd (e.trans e'.symm) hne
   ·cases hx'
  ·cases hx
theorem To {ρ ρ' ρ1:aL} {h h' h1:ac} {w w' w2:World} {id N:Nat} {t t1:Tr AV} {z z1:List AV} {p:Pl} {cs ds:List AV} (ha:bv P keep ρ h w ρ' h' w') (hr:HR P keep ρ h w) (hid:h.next<=id) (hb:h'.bs.gt id=some (.cells t z N false)) (hp:ρ' id=some p)
  (hold:∀ b,b<h.next->h'.bs.gt b=h.bs.gt b) (hc:bv P keep (uL p) (tV cs) w' ρ1 h1 w2) (h1b:h1.bs.gt 0=some (.cells t1 z1 ds.length false)) (hcell:∀ i,i<ds.length->aR t1 z1 i=ds[i]?) (hpl:∀ c∈ds,plainCell c=true) :
  bv P keep ρ h w (ρ.up h.next p) (h.new h.next (.cells (az ds .leaf 0) [] ds.length false)) w2:=by
 obtain ⟨f1,f2⟩:=hr.fresh (Nat.le_refl h.next)
 have hown1:∀ k,k≠p.blk->¬mu (uL p) (tV cs) k:=by
  rintro k hk ⟨b,x,q,hx,_,hq,rfl⟩
  unfold uL at hq
  split at hq
  ·cases hq;exact hk rfl
  ·cases hq
 have hplt:p.blk<w'.heap.size:=by
  obtain ⟨q,hq,hlt⟩:=(ha.hr.blk _ _ hb).place rfl
  rw [hp] at hq;cases hq;exact hlt
 have hownp:mu ρ' h' p.blk:=⟨id,_,p,hb,rfl,hp,rfl⟩
 have hownpW:jc ρ' h' p.blk:=⟨id,_,p,hb,rfl,hp,rfl⟩
 have hsame:∀ k,k<w'.heap.size->k≠p.blk->w2.heap[k]?=w'.heap[k]?:=fun k hk hne=>hc.fr.same k hk (hown1 k hne)
 have hplace:∀ c x q,h.bs.gt c=some x->x.dead?=false->ρ c=some q->q.blk≠p.blk/\q.blk<w'.heap.size:=by
  intro c x q hx hd hq
  have hlt:=hr.has _ _ hx
  have hx':h'.bs.gt c=some x:=by rw [hold c hlt];exact hx
  have hq':=ha.le _ _ hq
  refine ⟨ha.hr.inj c id x _ q p hx' hb hd rfl (.inr rfl) hq' hp (by omega),?_⟩
  obtain ⟨q2,hq2,hlt2⟩:=(ha.hr.blk _ _ hx').place hd
  rw [hq'] at hq2;cases hq2;exact hlt2
 have ha':=ha.old hr hold
 have hk2:w'.heap.size<=w2.heap.size:=hc.fr.size
 refine ⟨aL.le_up f1,?_,⟨hc.fr.os.trans ha.fr.os,hc.fr.output.trans ha.fr.output,Nat.le_trans ha.fr.size hk2,fun k hk ho=>?_⟩,fun k hk ho=>?_,?_,fun b q hq hlt=>?_,fun k hk ho=>?_⟩
 ·rw [ii (Nat.le_refl _)]
  refine ha'.hr.add f1 f2 (by omega) (by omega) (fun c x q hx hd hq=>(hplace c x q hx hd hq).1) (fun c x q hx hd hq=>?_) ?_
  ·obtain ⟨g1,g2⟩:=hplace c x q hx hd hq
   exact hsame _ g2 g1
  ·obtain ⟨p0,c,e,fz,hp1,hcc,hcs,hpm,hval,hf⟩:=hc.hr.blk _ _ h1b
   have:ρ1 0=some p:=hc.le 0 p rfl
   rw [this] at hp1;cases hp1
   refine ⟨p,c,e,fz,aL.up_same _ _ _,hcc,hcs,hpm,fun i hi=>?_,hf.1,ie⟩
   obtain ⟨v,cv,g1,g2,g3,g4⟩:=hval i hi
   rw [hcell i hi] at g1
   exact ⟨v,cv,by rw [em _ _ _ hi];exact g1,g2,g3,g4.plain (hpl v (List.mem_of_getElem? g1))⟩
 ·have h1:k≠p.blk:=fun e=>ho (ha.ownW k hk (e▸hownpW))
  exact (hsame k (Nat.lt_of_lt_of_le hk ha.fr.size) h1).trans (ha.fr.sameW k hk ho)
 ·obtain ⟨c,x,q,hx,hd,hq,rfl⟩:=ho
  rw [eN] at hx
  by_cases e:c=h.next
  ·subst e;rw [aL.up_same] at hq;cases hq
   exact ha.own _ hk hownp
  ·rw [if_neg e] at hx
   unfold aL.up at hq;rw [if_neg e] at hq
   exact ⟨c,x,q,hx,hd,hq,rfl⟩
 ·show h.next<=(h.new h.next _).next
  rw [gu];omega
 ·unfold aL.up at hq
  rwa [if_neg (by omega)] at hq
 ·obtain ⟨c,x,q,hx,hd,hq,rfl⟩:=ho
  rw [eN] at hx
  by_cases e:c=h.next
  ·subst e;rw [aL.up_same] at hq;cases hq
   exact ha.ownW _ hk hownpW
  ·rw [if_neg e] at hx
   unfold aL.up at hq;rw [if_neg e] at hq
   exact ⟨c,x,q,hx,hd,hq,rfl⟩
end
end Go.Am
namespace Go.Am
section
variable {P:Program} {keep:aK}
def y8 (x:AV):List AV->List (List AV)
 | []=>[[x]]
 | y::l=>(x::y::l)::(y8 x l).map (y::·)
def i5:List AV->List (List AV)
 | []=>[[]]
 | x::l=>(i5 l).flatMap (y8 x)
theorem zn (x:AV) (b:List AV):∀ (a:List AV),a++x::b∈y8 x (a++b)
 | []=>by cases b <;> simp [y8]
 | y::a=>by
  have:=zn x b a
  simp only [List.cons_append,y8,List.mem_cons,List.mem_map]
  exact .inr ⟨_,this,rfl⟩
theorem rV:∀ {l π : List AV},π.Perm l->π∈i5 l
 | [],π,h=>by rw [List.perm_nil.1 h];simp [i5]
 | x::l,π,h=>by
  obtain ⟨a,b,rfl⟩:=List.append_of_mem (h.mem_iff.2 (List.mem_cons_self ..))
  have h2:(a++b).Perm l:=(List.perm_cons x).1 (List.perm_middle.symm.trans h)
  exact List.mem_flatMap.2 ⟨_,rV h2,zn x b a⟩
noncomputable section
def dr (ks:List AV):List AV:=List.rec (motive:=fun _=>List AV) [] (fun k _ ih=>dS k.cells ih) ks
def rQ (es:List aG):List AV:=List.rec (motive:=fun _=>List AV) [] (fun e _ ih=>e.key::ih) es
def wG (lt:AV->AV->Option Bool) (x:AV) (l:List AV):Option (List AV) :=
 List.rec (motive:=fun _=>Option (List AV)) (some [x]) (fun y r ih=>ob (lt x y) fun b=>Bool.rec (motive:=fun _=>Option (List AV)) (ob ih fun l=>some (y::l)) (some (x::y::r)) b) l
def uW (lt:AV->AV->Option Bool) (l:List AV):Option (List AV) :=
 List.rec (motive:=fun _=>Option (List AV)) (some []) (fun x _ ih=>ob ih fun l=>wG lt x l) l
def mz (b:Nat) (r:List aG):Bool:=List.rec (motive:=fun _=>Bool) true (fun d _ jh=>bT (fM (Nat.beq b d.born)) jh) r
def py (clock:Nat) (es:List aG):Bool :=
 List.rec (motive:=fun _=>Bool) true (fun e r ih=>bT (bT (Nat.ble (Nat.succ e.born) clock) (mz e.born r)) ih) es
def pG (fine:AV->Bool) (es:List aG):Bool:=List.rec (motive:=fun _=>Bool) true (fun e _ ih=>bT (fine e.key) ih) es
def uT (h:ac) (ds:List AV):Bool :=
 Option.rec (motive:=fun _=>Bool) false (fun l=>AV.sames l ds) (h.cells 0 fun t z m ro=>aV (bT (fM ro) (Nat.beq m (bp ds))) (gQ t z m 0))
def iS (call:an) (T:FuncId) (sz n:Nat) (ds π : List AV):Bool :=
 Option.rec (motive:=fun _=>Bool) false (fun r=>uT r.2 ds) (call (.fn T) [.slice (some (0,0)) n n (some sz)] (tV (dr π)))
def pw (call:an) (T:FuncId) (sz n:Nat) (ds:List AV) (πs:List (List AV)):Bool:=List.rec (motive:=fun _=>Bool) true (fun π _ ih=>bT (iS call T sz n ds π) ih) πs
def zaN {β : Type} (seq:AV) (f:FuncId->Nat->Option β):Option β:=match seq with
 | .func (.func g) [] [.ptr (some (cb,0))]=>f g cb
 | _=>none
def SJ {β : Type} (v:AV) (f:Nat->Option β):Option β:=match v with
 | .map (some mb)=>f mb
 | _=>none
def lZ (call:an) (T:FuncId) (gs:List FuncId) (sz bs:Nat) (lt:AV->AV->Option Bool) (fine:AV->Bool) (seq:AV) (h:ac):dA :=
 zaN seq fun g cb=>aV (gs.contains g) (ob (h.ld1 cb 0) fun m=>SJ m fun mb=>h.theMap mb fun es clock =>
  aV (bT (py clock es) (bT (pG fine es) (gy bs (bp es)))) (ob (uW lt (rQ es)) fun ks =>
   aV (pw call T sz (bp es) (dr ks) (i5 (rQ es)))
    (Nat.rec (motive:=fun _=>dA) (ob (call (.fn T) [.slice none 0 0 none] ⟨.leaf,0⟩) fun _=>some (.slice none 0 0 none,h))
     (fun _ _=>some (.slice (some (h.next,0)) (bp es) (bp es) (some sz),h.new h.next (.cells (az (dr ks) .leaf 0) [] (dr ks).length false))) (bp es))))
def sortedP (call:an) (G T:FuncId) (gs:List FuncId) (sz bs:Nat) (lt:AV->AV->Option Bool) (fine:AV->Bool):Prims :=
 ⟨fun f args h=>Bool.rec (motive:=fun _=>Option dA) none (some (l1 (fun seq=>lZ call T gs sz bs lt fine seq h) args)) (Nat.beq f G)⟩
end
theorem ji (ks:List AV):dr ks=ks.flatMap AV.cells:=by
 induction ks with
 | nil=>rfl
 | cons k ks ih=>show dS k.cells (dr ks)=_;rw [cj,ih];rfl
theorem rR (es:List aG):rQ es=es.map (·.key):=by
 induction es with
 | nil=>rfl
 | cons e es ih=>show e.key::rQ es=_;rw [ih];rfl
theorem uq {b:Nat}:∀ {es:List aG},mz b es=true->∀ d∈es,b≠d.born
 | [],_,d,hd=>by cases hd
 | x::es,h,d,hd=>by
  have h:bT (fM (Nat.beq b x.born)) (mz b es)=true:=h
  simp only [ax,iM,Bool.and_eq_true,Bool.not_eq_true'] at h
  rcases List.mem_cons.1 hd with rfl | hd
  ·intro e;rw [e] at h;simp at h
  ·exact uq h.2 d hd
theorem xO {clock:Nat}:∀ {es:List aG},py clock es=true->fh es clock
 | [],_=>⟨(fun e he=>by cases he),List.Pairwise.nil⟩
 | e::es,h=>by
  have h:bT (bT (Nat.ble (e.born+1) clock) (mz e.born es)) (py clock es)=true:=h
  simp only [ax,Bool.and_eq_true] at h
  obtain ⟨⟨h1,h2⟩,h3⟩:=h
  obtain ⟨g1,g2⟩:=xO h3
  refine ⟨fun x hx=>?_,List.pairwise_cons.2 ⟨uq h2,g2⟩⟩
  rcases List.mem_cons.1 hx with rfl | hx
  ·exact Nat.le_of_ble_eq_true h1
  ·exact g1 x hx
theorem yQ {fine:AV->Bool}:∀ {es:List aG},pG fine es=true->∀ k∈es.map (·.key),fine k=true
 | [],_,k,hk=>by cases hk
 | e::es,h,k,hk=>by
  have h:bT (fine e.key) (pG fine es)=true:=h
  simp only [ax,Bool.and_eq_true] at h
  rcases List.mem_cons.1 hk with rfl | hk
  ·exact h.1
  ·exact yQ h.2 k hk
theorem xH {call:an} {T:FuncId} {sz n:Nat} {ds:List AV}:∀ {πs:List (List AV)},pw call T sz n ds πs=true->∀ π∈πs,iS call T sz n ds π=true
 | [],_,π,hp=>by cases hp
 | x::xs,h,π,hp=>by
  have h:bT (iS call T sz n ds x) (pw call T sz n ds xs)=true:=h
  simp only [ax,Bool.and_eq_true] at h
  rcases List.mem_cons.1 hp with rfl | hp
  ·exact h.1
  ·exact xH h.2 π hp
theorem Tl {h:ac} {ds:List AV} (hr:uT h ds=true):∃ t z,h.bs.gt 0=some (.cells t z ds.length false)/\∀ i,i<ds.length->aR t z i=ds[i]?:=by
 unfold uT at hr
 cases hc:(h.cells 0 fun t z m ro=>aV (bT (fM ro) (Nat.beq m (bp ds))) (gQ t z m 0)) with
 | none=>rw [hc] at hr;cases hr
 | some l =>
  rw [hc] at hr
  have hr:AV.sames l ds=true:=hr
  obtain ⟨t,z,m,ro,hb,h1⟩:=df hc
  obtain ⟨h2,h3⟩:=aE.1 h1
  simp only [ax,iM,Bool.and_eq_true,Bool.not_eq_true',aO] at h2
  obtain ⟨rfl,h4⟩:=h2
  obtain rfl:=Nat.eq_of_beq_eq_true h4
  obtain rfl:=iy _ _ hr
  obtain ⟨_,h5⟩:=mG h3
  exact ⟨t,z,hb,fun i hi=>by simpa using h5 i hi⟩
theorem Kv {bs m n:Nat} (h:gy bs n=true) (hm:m<n):gy bs (m+1)=true:=by
 unfold gy at h ⊢
 simp only [ax,Bool.and_eq_true] at h ⊢
 have h1:n*bs<=68719476736:=Nat.le_of_ble_eq_true h.1
 have h2:n<=68719476736:=Nat.le_of_ble_eq_true h.2
 have h3:(m+1)*bs<=n*bs:=Nat.mul_le_mul_right _ hm
 exact ⟨Nat.ble_eq_true_of_le (show (m+1)*bs<=68719476736 by omega),Nat.ble_eq_true_of_le (show m+1<=68719476736 by omega)⟩
theorem uX {lt:AV->AV->Option Bool}:∀ {l ks:List AV},uW lt l=some ks->∀ k∈ks,k∈l
 | [],ks,h,k,hk=>by cases h;cases hk
 | x::l,ks,h,k,hk=>by
  obtain ⟨ms,h1,h2⟩:=af.1 (show ob (uW lt l) (fun l=>wG lt x l)=some ks from h)
  have key:∀ {ms ks:List AV},wG lt x ms=some ks->∀ k∈ks,k=x∨k∈ms:=by
   intro ms
   induction ms with
   | nil=>intro ks h k hk;cases h;simpa using hk
   | cons y r ih =>
    intro ks h k hk
    obtain ⟨b,g1,g2⟩:=af.1 (show ob (lt x y) (fun b=>Bool.rec (motive:=fun _=>Option (List AV)) (ob (wG lt x r) fun l=>some (y::l)) (some (x::y::r)) b)=some ks from h)
    cases b with
    | true=>cases g2;rcases List.mem_cons.1 hk with e | hk;exact .inl e;exact .inr hk
    | false =>
     obtain ⟨q,g3,g4⟩:=af.1 (show ob (wG lt x r) (fun l=>some (y::l))=some ks from g2)
     cases g4
     rcases List.mem_cons.1 hk with e | hk
     ·exact .inr (by rw [e];exact List.mem_cons_self ..)
     ·rcases ih g3 k hk with e | hk
      ·exact .inl e
      ·exact .inr (List.mem_cons_of_mem _ hk)
  rcases key h2 k hk with e | hk
  ·rw [e];exact List.mem_cons_self ..
  ·exact List.mem_cons_of_mem _ (uX h1 k hk)
def KeysFn (P:Program) (g:FuncId):Prop:=∃ gfn gc tm tk te,P.funcs[g]?=some gfn/\gfn.body=some gc/\qK tm gc/\gfn.results=#[]/\14<=gfn.ntmps/\P.underlying tm=some (.map tk te)/\gB P tm=some false
theorem sortedP_ok {lf n:Nat} (hm:P.follows .mixedOrders=true) (hn:NamesOk P) {A C T G:FuncId} {ts e sz bs:Nat} {F1:List AV->Option (cX×(Nat->AV))} {lt:AV->AV->Option Bool} {fine:AV->Bool} {gs:List FuncId} (K:AppCode P keep A ts sz F1)
  (hu:P.underlying ts=some (.slice e)) (hs:aC P e=some (sz+1)) (hbs:cF P e=some bs) (hz:(cd P e).map (fun z=>Nat.beq (bp z.cells) (sz+1))=some true)
  (hC:∃ fn c,P.funcs[C]?=some fn/\fn.body=some c/\CollectCode A c/\fn.results=#[.tmp 2]/\5<=fn.ntmps) (hT:∃ fn c,P.funcs[T]?=some fn/\fn.body=some c) (hG:∃ fn c,P.funcs[G]?=some fn/\fn.body=some c/\SortedCode C T c/\fn.results=#[.tmp 2]/\9<=fn.ntmps)
  (hgs:∀ g∈gs,KeysFn P g) (hfine:∀ k,fine k=true->F1 [k]=some (rowBlk k.cells,sliceTo 1)/\k.cells.length=sz+1/\∀ c∈k.cells,plainCell c=true) :
  PrimsOk P keep (sortedP (callN P keep noPrims lf (n+1)) G T gs (sz+1) bs lt fine):=by
 intro f args h r hr ρ w avs hh hv
 have hcall:dR P keep (callN P keep noPrims lf (n+1)):=kF hm hn BL (n+1)
 generalize hcl:callN P keep noPrims lf (n+1)=call at hr hcall
 replace hr:(Bool.rec (motive:=fun _=>Option dA) none (some (l1 (fun seq=>lZ call T gs (sz+1) bs lt fine seq h) args)) (Nat.beq f G):Option dA)=some (some r):=hr
 cases hfg:Nat.beq f G with
 | false=>rw [hfg] at hr;cases hr
 | true =>
  rw [hfg] at hr
  obtain rfl:=Nat.eq_of_beq_eq_true hfg
  have hr:l1 (fun seq=>lZ call T gs (sz+1) bs lt fine seq h) args=some r:=Option.some.inj hr
  obtain ⟨gfn,gc,hGf,hGb,hGc,hGr,hGn⟩:=hG
  refine ⟨⟨gfn,gc,hGf,hGb⟩,?_⟩
  obtain ⟨seq,rfl,h1⟩:=c7 hr
  obtain ⟨sv,rfl,vs⟩:=hv.one
  unfold lZ zaN at h1
  split at h1
  case h_2=>cases h1
  rename_i g cb _
  obtain ⟨h2,h3⟩:=aE.1 h1
  have hmem:g∈gs:=by simpa using h2
  obtain ⟨m,h4,h5⟩:=af.1 h3
  unfold SJ at h5
  split at h5
  case h_2=>cases h5
  rename_i mb
  obtain ⟨es,clock,h6,h7⟩:=fy h5
  obtain ⟨h8,h9⟩:=aE.1 h7
  simp only [ax,Bool.and_eq_true,aO] at h8
  obtain ⟨hb1,hb2,hb3⟩:=h8
  obtain ⟨ks,h10,h11⟩:=af.1 h9
  obtain ⟨h12,h13⟩:=aE.1 h11
  have hall:=xH h12
  obtain ⟨kfn,kc,tm,tk,te,k1,k2,k3,k4,k5,k6,k7⟩:=hgs g hmem
  obtain ⟨cfn,cc,c1,c2,c3,c4,c5⟩:=hC
  have hkf:=yQ hb2
  have hplain:∀ c∈dr ks,plainCell c=true:=by
   intro c hc
   rw [ji] at hc
   obtain ⟨k,hk,hc⟩:=List.mem_flatMap.1 hc
   have:=uX h10 k hk
   rw [rR] at this
   exact (hfine k (hkf k this)).2.2 c hc
  have happ:=AD (lf:=lf) (n:=n) (prims:=noPrims) hm hn (by rw [hcl];exact hcall) K hu hs hbs hz k1 k2 k3 k4 k5 k6 k7 (avs:=[.slice none 0 0,sv]) hh ⟨_,[sv],rfl,⟨rfl,rfl,rfl,rfl⟩,_,[],rfl,vs,rfl⟩ h4 h6 (xO hb1)
   (fun k hk=>by
    obtain ⟨a,b,c⟩:=hfine k (hkf k hk)
    refine ⟨a,b,?_⟩
    rw [bI,List.all_eq_true]
    exact fun x hx=>Kg (c x hx)) (fun m hm=>Kv hb3 hm)
  have hcol:=wj hn c1 c2 c3 c4 c5 ⟨_,_,K.hf,K.hb⟩ (S:=fun v w'=>∃ π : List AV,π.Perm (es.map (·.key))/\∃ ρ' h' sv,VR ρ' sv v/\pu h' (h.next+2) e (sz+1) sv (π.flatMap AV.cells) π.length/\bv P keep ρ h w ρ' h' w'/\∀ b,b<h.next->h'.bs.gt b=h.bs.gt b) happ
  have hfin:=zV hn hGf hGb hGc hGr hGn ⟨_,_,c1,c2⟩ hT (S':=fun v w'=>∃ ρ',VR ρ' r.1 v/\bv P keep ρ h w ρ' r.2 w') hcol (fun v w' hS=>?_)
  ·refine CallsIn.mono (F:=dM none) hfin fun en w'' ⟨v,he,hR⟩=>?_
   subst he
   exact hR
  ·obtain ⟨π,hπ,ρ',h',sv',v1,v2,v3,v4⟩:=hS
   have hlen:π.length=es.length:=by rw [hπ.length_eq,List.length_map]
   have hso:=hall π (rV (by rw [rR];exact hπ))
   rcases v2 with ⟨n0,n1,rfl⟩|⟨id,t,z,a1,a2,rfl,a3,a4,a5,a6,a7⟩
   · 
    have hn0:es.length=0:=by omega
    rw [aO,hn0] at h13
    obtain ⟨q,g1,g2⟩:=af.1 (show ob (call (.fn T) [.slice none 0 0 none] ⟨.leaf,0⟩) (fun _=>some (.slice none 0 0 none,h))=some r from h13)
    cases g2
    obtain ⟨_,hT2⟩:=hcall _ _ _ _ g1 (fun _=>none) w' [v] (yN w') ⟨v,[],rfl,v1,rfl⟩
    refine CallsIn.mono (F:=dM none) hT2 fun en w'' hR=>?_
    cases en with
    | panicked c=>exact hR.elim
    | outgrown=>exact hR.elim
    | returned u =>
     obtain ⟨ρ1,_,hp⟩:=hR
     refine ⟨u,rfl,ρ,v1,?_⟩
     have ho:=v3.old hh v4
     refine ⟨aL.le_refl _,ho.hr.frame fun b x p hx hd hpl=>?_,⟨hp.fr.os.trans ho.fr.os,hp.fr.output.trans ho.fr.output,Nat.le_trans ho.fr.size hp.fr.size,fun k hk hno=>?_⟩,fun _ _ h=>h,Nat.le_refl _,fun _ _ h _=>h,fun _ _ h=>h⟩
     ·obtain ⟨q,hq,hlt⟩:=(ho.hr.blk b x hx).place hd
      rw [hpl] at hq;cases hq
      exact hp.fr.same _ hlt (by rintro ⟨_,_,_,hx,_⟩;cases hx)
     ·exact (hp.fr.same k (Nat.lt_of_lt_of_le hk ho.fr.size) (by rintro ⟨_,_,_,hx,_⟩;cases hx)).trans (ho.fr.sameW k hk hno)
   · 
    have hpos:0<es.length:=by omega
    obtain ⟨k,hk⟩:∃ k,es.length=k+1:=⟨es.length - 1,by omega⟩
    rw [aO,hk] at h13
    have h13:some (AV.slice (some (h.next,0)) (k+1) (k+1) (some (sz+1)),h.new h.next (.cells (az (dr ks) .leaf 0) [] (dr ks).length false))=some r:=h13
    cases h13
    have hv1:=v1
    obtain ⟨p,a',c',hp,rfl,w1,w2,_,w4,w5⟩:=v1
    have hπp:∀ c∈dr π,plainCell c=true:=by
     intro c hc
     rw [ji] at hc
     obtain ⟨k,hk,hc⟩:=List.mem_flatMap.1 hc
     exact (hfine k (hkf k (hπ.mem_iff.1 hk))).2.2 c hc
    have hsub:=WP (cs:=dr π) v3.hr a3 hp (by rw [ji,a5]) (fun i hi=>by rw [ji];exact a6 i hi) hπp
    unfold iS at hso
    cases hrun:call (.fn T) [.slice (some (0,0)) (bp es) (bp es) (some (sz+1))] (tV (dr π)) with
    | none=>rw [hrun] at hso;cases hso
    | some q =>
     rw [hrun] at hso
     obtain ⟨t1,z1,r1,r2⟩:=Tl (show uT q.2 (dr ks)=true from hso)
     obtain ⟨_,hT2⟩:=hcall _ _ _ _ hrun (uL p) w' [.slice (some a') π.length c'] hsub ⟨_,[],rfl,⟨p,a',c',rfl,by rw [aO,hlen],by rw [aO,← hlen];exact w1,by rw [aO,← hlen];exact w2,(fun e=>by cases e),w4,w5⟩,rfl⟩
     refine CallsIn.mono (F:=dM none) hT2 fun en w'' hR=>?_
     cases en with
     | panicked c=>exact hR.elim
     | outgrown=>exact hR.elim
     | returned u =>
      obtain ⟨ρ1,_,hp1⟩:=hR
      refine ⟨u,rfl,ρ.up h.next p,?_,To v3 hh (by omega) a3 hp v4 hp1 r1 r2 hplain⟩
      exact ⟨p,a',c',aL.up_same _ _ _,by rw [hlen,hk],by omega,by omega,(fun e=>by cases e),w4,w5⟩
end
end Go.Am
namespace Go.Am
noncomputable section
section
variable {β : Type}
def hk (h:ac) (k:ac->β):β:=ac.rec (motive:=fun _=>β) (fun bs n=>k (ac.mk bs n)) h
def rk (r:AV×ac) (k:AV->ac->β):β:=Prod.rec (motive:=fun _=>β) (fun v h=>ac.rec (motive:=fun _=>β) (fun bs n=>k v (ac.mk bs n)) h) r
def sk (s:St) (k:Tr AV->ac->β):β:=St.rec (motive:=fun _=>β) (fun tm h=>ac.rec (motive:=fun _=>β) (fun bs n=>k tm (ac.mk bs n)) h) s
def pk {α γ : Type} (r:α×γ) (k:α->γ->β):β:=Prod.rec (motive:=fun _=>β) k r
theorem zaH (h:ac) (k:ac->β):hk h k=k h:=by cases h;rfl
theorem Tj (r:AV×ac) (k:AV->ac->β):rk r k=k r.1 r.2:=by obtain ⟨v,h⟩:=r;cases h;rfl
theorem zaP (s:St) (k:Tr AV->ac->β):sk s k=k s.tm s.hp:=by obtain ⟨tm,h⟩:=s;cases h;rfl
theorem ze8 {α γ : Type} (r:α×γ) (k:α->γ->β):pk r k=k r.1 r.2:=rfl
end
theorem eC {α β : Type} {x:Option α} {f g:α->Option β} (h:∀ a,f a=g a):ob x f=ob x g:=by
 cases x with
 | none=>rfl
 | some a=>exact h a
theorem se {α β : Type} {x y:Option α} {f g:α->Option β} (e:x=y) (h:∀ a,f a=g a):ob x f=ob y g:=by
 subst e;exact eC h
def oR (is:List aw):Tr AV->an->List AV->ac->Option (List AV×ac) :=
 List.rec (motive:=fun _=>Tr AV->an->List AV->ac->Option (List AV×ac)) (fun _ _ loc h=>some (loc,h))
  (fun i _ ih tm call loc h=>ob (i.ev loc .leaf tm call h.next h) fun r=>rk r fun v h'=>ih tm call (v::loc) h') is
theorem uU (is:List aw):oR is=aT is:=by
 induction is with
 | nil=>rfl
 | cons i is ih =>
  funext tm call loc h
  show ob (i.ev loc .leaf tm call h.next h) (fun r=>rk r fun v h'=>oR is tm call (v::loc) h')=ob (i.ev loc .leaf tm call h.next h) fun r=>aT is tm call (r.1::loc) r.2
  refine eC fun r=>?_
  rw [Tj,ih]
def nS (base:Nat) (tm vs:Tr AV) (l:List (Nat×aw)):ac->Option ac :=
 List.rec (motive:=fun _=>ac->Option ac) (fun h=>some h) (fun x _ ih h=>ob (x.2.blk vs tm) fun b=>Option.rec (motive:=fun _=>Option ac) (ih h) (fun b=>hk h fun h=>ih (ac.mk (h.bs.up (some b) (Nat.add base x.1)) h.next)) b) l
theorem zO (base:Nat) (tm vs:Tr AV) (l:List (Nat×aw)):nS base tm vs l=ck base tm vs l:=by
 induction l with
 | nil=>rfl
 | cons x l ih =>
  funext h
  show ob (x.2.blk vs tm) (fun b=>Option.rec (motive:=fun _=>Option ac) (nS base tm vs l h) (fun b=>hk h fun h=>nS base tm vs l (ac.mk (h.bs.up (some b) (Nat.add base x.1)) h.next)) b)=ob (x.2.blk vs tm) (fun b=>Option.rec (motive:=fun _=>Option ac) (ck base tm vs l h) (fun b=>ck base tm vs l (ac.mk (h.bs.up (some b) (Nat.add base x.1)) h.next)) b)
  refine eC fun b=>?_
  cases b with
  | none=>rw [ih]
  | some b=>rw [ih];exact zaH _ _
def I3 (tm vs:Tr AV) (call:an) (h:ac) (k:Tr AV->ac->Option (Tr AV×ac)) (a:Option (Nat×aw)):Option (Tr AV×ac) :=
 Option.rec (motive:=fun _=>Option (Tr AV×ac)) (k vs h) (fun x=>ob (x.2.ev [] vs tm call h.next h) fun r=>rk r fun v h'=>k (vs.up (some v) x.1) h') a
def oS (base:Nat) (tm:Tr AV) (call:an) (s:gk) (k:Tr AV->ac->Option (Tr AV×ac)) (vs:Tr AV) (h:ac):Option (Tr AV×ac) :=
 aV (i8 base tm vs h s.own s.cks) (ob (gM base tm h s.own s.evs vs) fun vs=>ob (nS base tm vs s.mats h) fun h=>hk h fun h=>I3 tm vs call h k s.act)
def jR (base:Nat) (tm:Tr AV) (call:an) (ss:List gk):Tr AV->ac->Option (Tr AV×ac) :=
 List.rec (motive:=fun _=>Tr AV->ac->Option (Tr AV×ac)) (fun vs h=>some (vs,h)) (fun s _ ih=>oS base tm call s ih) ss
theorem BX (tm vs:Tr AV) (call:an) (h:ac) (k:Tr AV->ac->Option (Tr AV×ac)) (a:Option (Nat×aw)):I3 tm vs call h k a=sL tm vs call h k a:=by
 cases a with
 | none=>rfl
 | some x =>
  show ob (x.2.ev [] vs tm call h.next h) (fun r=>rk r fun v h'=>k (vs.up (some v) x.1) h')=ob (x.2.ev [] vs tm call h.next h) fun r=>k (vs.up (some r.1) x.1) r.2
  exact eC fun r=>Tj _ _
theorem ub (base:Nat) (tm:Tr AV) (call:an) (ss:List gk):jR base tm call ss=bw base tm call ss:=by
 induction ss with
 | nil=>rfl
 | cons s ss ih =>
  show oS base tm call s (jR base tm call ss)=sN base tm call s (bw base tm call ss)
  rw [ih]
  funext vs h
  unfold oS sN
  show aV _ _=aV _ _
  refine congrArg (aV _) (eC fun vs=>?_)
  rw [zO]
  refine eC fun h=>?_
  rw [zaH,BX]
def exK (e:Ex) (s:St) (f:Tr AV->ac->XR):XR:=Ex.rec (motive:=fun _=>XR) (sk s f) (some (.ret,s)) (fun id=>some (.exit id,s)) (fun l=>some (.goto l,s)) e
theorem Sg (r:Ex×St) (f:Tr AV->ac->XR) (g:St->XR) (h:∀ tm h,f tm h=g ⟨tm,h⟩):exK r.1 r.2 f=tf r g:=by
 obtain ⟨e,s⟩:=r
 cases e with
 | normal=>exact (zaP s f).trans (h _ _)
 | ret=>rfl
 | exit id=>rfl
 | goto l=>rfl
def BC (body:Tr AV->ac->XR) (n:Nat):Tr AV->ac->XR :=
 Nat.rec (motive:=fun _=>Tr AV->ac->XR) (fun _ _=>none) (fun _ ih tm h=>ob (body tm h) fun r=>pk r fun e s=>exK e s ih) n
theorem J7 (body:Tr AV->ac->XR) (b:St->XR) (hb:∀ tm h,body tm h=b ⟨tm,h⟩) (n:Nat):∀ tm h,BC body n tm h=nH b n ⟨tm,h⟩:=by
 induction n with
 | zero=>intro tm h;rfl
 | succ n ih =>
  intro tm h
  show ob (body tm h) (fun r=>pk r fun e s=>exK e s (BC body n))=ob (b ⟨tm,h⟩) fun r=>tf r (nH b n)
  refine se (hb tm h) fun r=>?_
  exact Sg r _ _ ih
def rB (tm:Tr AV) (l:Nat) (h':ac):XR :=
 h'.theLoop l fun b=>match b.st with
   | .busy=>none
   | _=>match b.pending with
    | none=>some (.normal,⟨tm,h'.put l (.loop {b with st:=.exhausted })⟩)
    | some c=>ob (kT c) fun e=>some (e,⟨tm,h'.put l (.loop {b with st:=.exhausted })⟩)
def uV (call:an) (nt:Nat) (f:FuncId) (ro:Option Nat) (ps:List Nat) (assign body:Code) (tm:Tr AV) (h:ac) (fv:AV):XR :=
 let l:=h.next
 let enter:XR:=ob (my call [.func (.yield l) [] []] (h.new l (.loop ⟨.ready,none,f,tm.up none nt,ps,assign,body⟩)) fv) fun r =>
  rk r fun _ h'=>rB tm l h'
 match ro with
 | none=>enter
 | some l0=>h.theLoop l0 fun _=>enter
theorem xm (call:an) (nt:Nat) (f:FuncId) (ro:Option Nat) (ps:List Nat) (assign body:Code) (tm:Tr AV) (h:ac) (fv:AV) :
  uV call nt f ro ps assign body tm h fv=lw call nt f ro ps assign body ⟨tm,h⟩ fv:=by
 have e:ob (my call [.func (.yield h.next) [] []] (h.new h.next (.loop ⟨.ready,none,f,tm.up none nt,ps,assign,body⟩)) fv) (fun r=>rk r fun _ h'=>rB tm h.next h')
   = ob (my call [.func (.yield h.next) [] []] (h.new h.next (.loop ⟨.ready,none,f,tm.up none nt,ps,assign,body⟩)) fv) fun r=>rB tm h.next r.2:=eC fun r=>Tj _ _
 cases ro with
 | none=>exact e
 | some l0 =>
  show ac.theLoop h l0 (fun _=>_)=ac.theLoop h l0 (fun _=>_)
  rw [show (fun _:fE=>ob (my call [.func (.yield h.next) [] []] (h.new h.next (.loop ⟨.ready,none,f,tm.up none nt,ps,assign,body⟩)) fv) (fun r=>rk r fun _ h'=>rB tm h.next h'))=(fun _=>ob (my call [.func (.yield h.next) [] []] (h.new h.next (.loop ⟨.ready,none,f,tm.up none nt,ps,assign,body⟩)) fv) fun r=>rB tm h.next r.2) from by funext _;exact e]
  rfl
def uy (call:an) (lf:Nat) (nt:Nat) (f:FuncId) (ro:Option Nat) (c:AC):Tr AV->ac->XR :=
 AC.rec (motive:=fun _=>Tr AV->ac->XR)
  (fun tm h=>some (.normal,⟨tm,h⟩))
  (fun is outs tm h=>ob (oR is tm call [] h) fun r=>pk r fun loc h'=>ob (bf outs loc tm tm) fun tm'=>some (.normal,⟨tm',h'⟩))
  (fun is outs nt xs tm h=>Option.rec (motive:=fun _=>XR) (ob (oR is tm call [] h) fun r=>pk r fun loc h'=>ob (bf outs loc tm tm) fun tm'=>ob (be xs loc .leaf tm) fun vs=>aV (qh vs) (some (.normal,⟨tm'.up (some (.tuple (.tuple vs::bt tm' nt))) nt,h'⟩))) (fun _=>none) ro)
  (fun n ss outs tm h=>ob (jR h.next tm call ss .leaf (ac.mk h.bs (Nat.add h.next n))) fun r=>pk r fun vs h'=>ob (bP outs vs tm) fun tm'=>some (.normal,⟨tm',h'⟩))
  (fun _ _ ea eb tm h=>ob (ea tm h) fun r=>pk r fun e s=>exK e s eb)
  (fun c _ _ ea eb tm h=>ob (c.get [] .leaf tm) fun v=>cH (fun b=>Bool.rec (motive:=fun _=>XR) (eb tm h) (ea tm h) b) v)
  (fun id _ ea tm h=>ob (ea tm h) fun r=>y6 id r)
  (fun _ ea tm h=>BC ea lf tm h)
  (fun g ps assign body tm h=>ob (g.get [] .leaf tm) fun fv=>uV call nt f ro ps assign body tm h fv)
  (fun id tm h=>some (.exit id,⟨tm,h⟩))
  (fun tm h=>some (.ret,⟨tm,h⟩))
  (fun _ ea tm h=>ob (ea tm h) fun r=>Ex.rec (motive:=fun _=>XR) (some r) (some r) (fun _=>some r) (fun _=>none) r.1)
  (fun _ _=>none) c
theorem rC (call:an) (lf nt:Nat) (f:FuncId) (ro:Option Nat) (c:AC):∀ tm h,uy call lf nt f ro c tm h=aZ call lf nt f ro c ⟨tm,h⟩:=by
 induction c with
 | skip=>intro tm h;rfl
 | reg is outs =>
  intro tm h
  show ob (oR is tm call [] h) _=ob (aT is tm call [] h) _
  rw [uU]
  rfl
 | dfr is outs nt' xs =>
  intro tm h
  cases ro with
  | some _=>rfl
  | none =>
   show ob (oR is tm call [] h) _=ob (aT is tm call [] h) _
   rw [uU]
   rfl
 | draw n ss outs =>
  intro tm h
  show ob (jR h.next tm call ss .leaf (ac.mk h.bs (Nat.add h.next n))) _=ob (bw h.next tm call ss .leaf (ac.mk h.bs (Nat.add h.next n))) _
  rw [ub]
  rfl
 | seq a b iha ihb =>
  intro tm h
  exact se (iha tm h) fun r=>Sg r _ _ ihb
 | cond c a b iha ihb =>
  intro tm h
  refine eC fun v=>?_
  rw [show (fun b=>Bool.rec (motive:=fun _=>XR) _ _ b)=_ from rfl]
  show cH (fun b'=>Bool.rec (motive:=fun _=>XR) (uy call lf nt f ro b tm h) (uy call lf nt f ro a tm h) b') v=cH (fun b'=>Bool.rec (motive:=fun _=>XR) (aZ call lf nt f ro b ⟨tm,h⟩) (aZ call lf nt f ro a ⟨tm,h⟩) b') v
  rw [iha,ihb]
 | block id a iha =>
  intro tm h
  exact se (iha tm h) fun r=>rfl
 | loop a iha =>
  intro tm h
  exact J7 _ _ iha lf tm h
 | rangeF g ps assign body =>
  intro tm h
  exact eC fun fv=>xm ..
 | exit id=>intro tm h;rfl
 | ret=>intro tm h;rfl
 | scope a iha =>
  intro tm h
  exact se (iha tm h) fun r=>rfl
 | bad=>intro tm h;rfl
def zbT (P:Program) (keep:aK) (lf:Nat) (rec:an) (nt:Nat) (tm:Tr AV) (h:ac):Option ac :=
 Option.rec (motive:=fun _=>Option ac) (some h) (fun v=>oE (fun ds=>sM P keep lf rec ds h) v) (tm.gt nt)
def zaA (P:Program) (keep:aK) (lf:Nat) (rec:an) (nt:Nat) (res:List ResultVar) (e:Ex) (tm:Tr AV) (h:ac):dA :=
 let out:dA:=ob (zbT P keep lf rec nt tm h) fun h=>hk h fun h=>ob (dz P res ⟨tm,h⟩) fun vs=>some (dV vs,h)
 Ex.rec (motive:=fun _=>dA) out out (fun _=>none) (fun _=>none) e
theorem Se (P:Program) (keep:aK) (lf:Nat) (rec:an) (nt:Nat) (res:List ResultVar) (r:Ex×St) :
  (pk r fun e s=>sk s fun tm h=>zaA P keep lf rec nt res e tm h)=kM P keep lf rec nt res r:=by
 obtain ⟨e,tm,h⟩:=r
 cases h
 rfl
def Bk (P:Program) (keep:aK) (prims:Prims) (lf:Nat) (rec:an) (f:FuncId) (args:List AV) (h:ac):dA :=
 Option.rec (motive:=fun _=>dA)
  (ob (ci P keep f) fun k=>aV (Nat.ble (bp args) k.nt) (ob (uy rec lf k.nt f none k.code (az args .leaf 0) h) fun r=>pk r fun e s=>sk s fun tm h=>zaA P keep lf rec k.nt k.res e tm h))
  (fun r=>r) (prims.fn f args h)
theorem Ju (P:Program) (keep:aK) (prims:Prims) (lf:Nat) (rec:an):Bk P keep prims lf rec=ur P keep prims lf rec:=by
 funext f args h
 show Option.rec (motive:=fun _=>dA) _ _ _=Option.rec (motive:=fun _=>dA) _ _ _
 congr 1
 refine eC fun k=>?_
 refine congrArg (aV _) (se (rC ..) fun r=>Se ..)
def lk (l:fE) (k:fE->dA):dA:=fE.rec (motive:=fun _=>dA) (fun a b c d e f g=>k (fE.mk a b c d e f g)) l
def we (P:Program) (keep:aK) (lf:Nat) (rec:an) (l:Nat) (args:List AV) (h:ac):dA :=
 h.theLoop l fun b=>lk b fun b=>ob (pV (aD P b.fn) b.params args b.tm) fun tm =>
  aV (bT (fM (keep b.fn (aD P b.fn))) (nK b.tm (aD P b.fn))) (ob (uy rec lf (aD P b.fn) b.fn (some l) (bu P (keep b.fn) (aD P b.fn) b.assign) tm h) fun r=>pk r fun e s =>
   Ex.rec (motive:=fun _=>dA) (sk s fun tm h =>
   h.theLoop l fun b'=>lk b' fun b'=>match b'.st with
    | .ready=>ob (uy rec lf (aD P b.fn) b.fn (some l) (bu P (keep b.fn) (aD P b.fn) b.body) tm (h.put l (.loop {b' with st:=.busy }))) fun r=>pk r fun e s=>sk s fun tm h=>endRound l (e,⟨tm,h⟩)
    | _=>none) none (fun _=>none) (fun _=>none) e)
theorem zaI (l:fE) (k:fE->dA):lk l k=k l:=by cases l;rfl
theorem Jv (P:Program) (keep:aK) (lf:Nat) (rec:an):we P keep lf rec=mi P keep lf rec:=by
 funext l args h
 unfold we mi
 congr 1
 funext b
 rw [zaI]
 refine eC fun tm=>?_
 refine congrArg (aV _) (se (rC ..) fun r=>?_)
 obtain ⟨e,tm,h⟩:=r
 cases e with
 | normal =>
  rw [ze8]
  dsimp only
  rw [zaP]
  refine congrArg (ac.theLoop h l) ?_
  funext b'
  rw [zaI]
  cases b'.st with
  | ready =>
   refine se (rC ..) fun r=>?_
   obtain ⟨e,tm,h⟩:=r
   cases h
   rfl
  | _=>rfl
 | _=>rfl
def callNF (P:Program) (keep:aK) (prims:Prims) (lf n:Nat):an :=
 Nat.rec (motive:=fun _=>an) (fun _ _ _=>none)
  (fun _ ih t args h=>Tgt.rec (motive:=fun _=>dA) (fun f=>Bk P keep prims lf ih f args h) (fun l=>we P keep lf ih l args h) t) n
theorem Jw (P:Program) (keep:aK) (prims:Prims) (lf n:Nat):callNF P keep prims lf n=callN P keep prims lf n:=by
 induction n with
 | zero=>rfl
 | succ n ih =>
  funext t args h
  cases t with
  | fn f =>
   show Bk P keep prims lf (callNF P keep prims lf n) f args h=ur P keep prims lf (callN P keep prims lf n) f args h
   rw [Ju,ih]
  | loop l =>
   show we P keep lf (callNF P keep prims lf n) l args h=mi P keep lf (callN P keep prims lf n) l args h
   rw [Jv,ih]
end
end Go.Am
namespace Go.Am
section
variable {P:Program} {keep:aK} {ρ ρ':aL} {g h h':ac} {w w':World}
end
noncomputable section
end
end Go.Am
namespace Go.Am
noncomputable section
mutual
def AV.flat:AV->Bool
 | .bool _ | .int _ _ | .str _ | .ptr none | .slice none _ _ _ | .map none | .nilFunc | .nilIface | .func (.func _) [] []=>true
 | .iface _ x=>AV.flat x
 | .agg cs=>AV.flats cs
 | .tuple cs=>AV.flats cs
 | _=>false
def AV.flats:List AV->Bool
 | []=>true
 | x::xs=>AV.flat x&&AV.flats xs
end
mutual
theorem VR.flat {ρ σ : aL}:∀ (x:AV) (v:Value),AV.flat x=true->VR ρ x v->VR σ x v
 | .bool _,_,_,hv=>hv
 | .int _ _,_,_,hv=>hv
 | .str _,_,_,hv=>hv
 | .ptr none,_,_,hv=>hv
 | .ptr (some (_,_)),_,hf,_=>by simp [AV.flat] at hf
 | .slice none _ _ _,_,_,hv=>hv
 | .slice (some (_,_)) _ _ _,_,hf,_=>by simp [AV.flat] at hf
 | .map none,_,_,hv=>hv
 | .map (some _),_,hf,_=>by simp [AV.flat] at hf
 | .func fn a b,_,hf,hv=>by
  cases fn with
  | func f =>
   cases a with
   | nil =>
    cases b with
    | nil=>exact hv
    | cons=>simp [AV.flat] at hf
   | cons=>simp [AV.flat] at hf
  | _=>simp [AV.flat] at hf
 | .nilFunc,_,_,hv=>hv
 | .iface _ x,_,hf,hv=>by
  obtain ⟨y,e,hy⟩:=hv
  exact ⟨y,e,VR.flat x y (by simpa [AV.flat] using hf) hy⟩
 | .nilIface,_,_,hv=>hv
 | .agg cs,_,hf,hv=>by
  obtain ⟨cs',e,hc⟩:=hv
  exact ⟨cs',e,bH.flat cs _ (by simpa [AV.flat] using hf) hc⟩
 | .tuple cs,_,hf,hv=>by
  obtain ⟨cs',e,hc⟩:=hv
  exact ⟨cs',e,bH.flat cs _ (by simpa [AV.flat] using hf) hc⟩
theorem bH.flat {ρ σ : aL}:∀ (x:List AV) (v:List Value),AV.flats x=true->bH ρ x v->bH σ x v
 | [],_,_,hv=>hv
 | x::xs,_,hf,hv=>by
  obtain ⟨v,vs,e,h1,h2⟩:=hv
  have hf':AV.flat x=true/\AV.flats xs=true:=by simpa [AV.flats] using hf
  exact ⟨v,vs,e,VR.flat x v hf'.1 h1,bH.flat xs vs hf'.2 h2⟩
end
def says (r:dA) (v:AV):Bool:=Option.rec (motive:=fun _=>Bool) false (fun r=>AV.same v r.1) r
theorem WH {r:dA} {v:AV} (h:says r v=true):∃ q,r=some (v,q):=by
 cases r with
 | none=>cases h
 | some r =>
  have h:AV.same v r.1=true:=h
  exact ⟨r.2,by rw [nU _ _ h]⟩
def pureP (f:FuncId) (args:List AV) (v:AV):Prims :=
 ⟨fun f' args' h'=>Bool.rec (motive:=fun _=>Option dA) none (Bool.rec (motive:=fun _=>Option dA) none (some (some (v,h'))) (AV.sames args args')) (Nat.beq f f')⟩
theorem pureP_ok {P:Program} {keep:aK} {prims:Prims} {lf n:Nat} (hm:P.follows .mixedOrders=true) (hn:NamesOk P) (hpr:PrimsOk P keep prims) {f:FuncId} {args:List AV} {v:AV}
  (hfl:AV.flats (v::args)=true) (hr:says (callNF P keep prims lf n (.fn f) args ⟨.leaf,0⟩) v=true):PrimsOk P keep (pureP f args v):=by
 intro f' args' h' r hr' ρ w avs hh hv
 replace hr':(Bool.rec (motive:=fun _=>Option dA) none (Bool.rec (motive:=fun _=>Option dA) none (some (some (v,h'))) (AV.sames args args')) (Nat.beq f f'):Option dA)=some (some r):=hr'
 have hfl':AV.flat v=true/\AV.flats args=true:=by simpa [AV.flats] using hfl
 cases h1:Nat.beq f f' with
 | false=>rw [h1] at hr';cases hr'
 | true =>
  rw [h1] at hr'
  cases h2:AV.sames args args' with
  | false=>rw [h2] at hr';cases hr'
  | true =>
   rw [h2] at hr'
   obtain rfl:(v,h')=r:=Option.some.inj (Option.some.inj hr')
   obtain rfl:=Nat.eq_of_beq_eq_true h1
   obtain rfl:=iy _ _ h2
   obtain ⟨q,hq⟩:=WH hr
   rw [Jw] at hq
   obtain ⟨hb,hc⟩:=kF (lf:=lf) hm hn hpr n (.fn f) args ⟨.leaf,0⟩ _ hq (fun _=>none) w avs (yN w) (bH.flat _ _ hfl'.2 hv)
   refine ⟨hb,CallsIn.mono (F:=dM none) hc fun e w' hR=>?_⟩
   cases e with
   | returned u =>
    obtain ⟨σ,hv',hp⟩:=hR
    have hno:∀ k,k<w.heap.size->w'.heap[k]?=w.heap[k]?:=fun k hk=>hp.fr.same k hk (by rintro ⟨_,_,_,hx,_⟩;cases hx)
    refine ⟨ρ,VR.flat _ _ hfl'.1 hv',aL.le_refl _,hh.frame fun b x p hx hd hpl=>?_,⟨hp.fr.os,hp.fr.output,hp.fr.size,fun k hk _=>hno k hk⟩,fun _ _ h=>h,Nat.le_refl _,fun _ _ h _=>h,fun _ _ h=>h⟩
    obtain ⟨p',hp',hlt⟩:=(hh.blk b x hx).place hd
    rw [hpl] at hp';cases hp'
    exact hno _ hlt
   | _=>exact hR.elim
end
end Go.Am
namespace Go.Am
noncomputable section
inductive Wt where
 | seq (b:AC)
 | blk (id:Nat)
 | sco
abbrev XQ:=Ex->Tr AV->ac->Prop
def nR (X:AC->St->XR) (Q:XQ):List Wt->Ex->Tr AV->ac->Prop
 | [],e,tm,h=>Q e tm h
 | .seq b::k,.normal,tm,h=>match X b ⟨tm,h⟩ with
  | some (e,s)=>nR X Q k e s.tm s.hp
  | none=>False
 | .seq _::k,e,tm,h=>nR X Q k e tm h
 | .blk id::k,.exit j,tm,h=>if j=id then nR X Q k .normal tm h else nR X Q k (.exit j) tm h
 | .blk _::k,e,tm,h=>nR X Q k e tm h
 | .sco::_,.goto _,_,_=>False
 | .sco::k,e,tm,h=>nR X Q k e tm h
section
variable (call:an) (lf nt:Nat) (f:FuncId) (ro:Option Nat)
def run (c:AC) (k:List Wt) (tm:Tr AV) (h:ac) (Q:XQ):Prop :=
 match aZ call lf nt f ro c ⟨tm,h⟩ with
 | some (e,s)=>nR (aZ call lf nt f ro) Q k e s.tm s.hp
 | none=>False
def ret (e:Ex) (k:List Wt) (tm:Tr AV) (h:ac) (Q:XQ):Prop:=nR (aZ call lf nt f ro) Q k e tm h
variable {call lf nt f ro} {k:List Wt} {tm:Tr AV} {h:ac} {Q:XQ}
theorem Wz {e:Ex}:ret call lf nt f ro e [] tm h Q=Q e tm h:=rfl
theorem WA {b:AC}:ret call lf nt f ro .normal (.seq b::k) tm h Q=run call lf nt f ro b k tm h Q:=rfl
theorem zK {b:AC}:ret call lf nt f ro .ret (.seq b::k) tm h Q=ret call lf nt f ro .ret k tm h Q:=rfl
theorem xh {b:AC} {j:Nat}:ret call lf nt f ro (.exit j) (.seq b::k) tm h Q=ret call lf nt f ro (.exit j) k tm h Q:=rfl
theorem Wy {id:Nat}:ret call lf nt f ro .normal (.blk id::k) tm h Q=ret call lf nt f ro .normal k tm h Q:=rfl
theorem zJ {id:Nat}:ret call lf nt f ro .ret (.blk id::k) tm h Q=ret call lf nt f ro .ret k tm h Q:=rfl
theorem xf {id j:Nat}:ret call lf nt f ro (.exit j) (.blk id::k) tm h Q=if j=id then ret call lf nt f ro .normal k tm h Q else ret call lf nt f ro (.exit j) k tm h Q:=rfl
theorem Ts:run call lf nt f ro .skip k tm h Q=ret call lf nt f ro .normal k tm h Q:=rfl
theorem Tq {id:Nat}:run call lf nt f ro (.exit id) k tm h Q=ret call lf nt f ro (.exit id) k tm h Q:=rfl
theorem WE:run call lf nt f ro .ret k tm h Q=ret call lf nt f ro .ret k tm h Q:=rfl
theorem WF {a b:AC}:run call lf nt f ro (.seq a b) k tm h Q=run call lf nt f ro a (.seq b::k) tm h Q:=by
 unfold run
 show (match ob (aZ call lf nt f ro a ⟨tm,h⟩) (fun r=>tf r (aZ call lf nt f ro b)) with | some (e,s)=>_ | none=>False)=_
 cases aZ call lf nt f ro a ⟨tm,h⟩ with
 | none=>rfl
 | some r=>obtain ⟨e,s⟩:=r;cases e <;> rfl
theorem Kx {id:Nat} {a:AC}:run call lf nt f ro (.block id a) k tm h Q=run call lf nt f ro a (.blk id::k) tm h Q:=by
 unfold run
 show (match ob (aZ call lf nt f ro a ⟨tm,h⟩) (fun r=>y6 id r) with | some (e,s)=>_ | none=>False)=_
 cases aZ call lf nt f ro a ⟨tm,h⟩ with
 | none=>rfl
 | some r =>
  obtain ⟨e,s⟩:=r
  cases e with
  | exit j =>
   show (match (Bool.rec (motive:=fun _=>XR) (some (.exit j,s)) (some (.normal,s)) (Nat.beq j id):XR) with | some (e,s)=>_ | none=>False)=(if j=id then _ else _)
   rw [dC]
   by_cases e:j=id
   ·rw [if_pos e,if_pos e]
   ·rw [if_neg e,if_neg e]
  | _=>rfl
theorem KA {a:AC}:run call lf nt f ro (.scope a) k tm h Q=run call lf nt f ro a (.sco::k) tm h Q:=by
 unfold run
 show (match ob (aZ call lf nt f ro a ⟨tm,h⟩) (fun r=>Ex.rec (motive:=fun _=>XR) (some r) (some r) (fun _=>some r) (fun _=>none) r.1) with | some (e,s)=>_ | none=>False)=_
 cases aZ call lf nt f ro a ⟨tm,h⟩ with
 | none=>rfl
 | some r=>obtain ⟨e,s⟩:=r;cases e <;> rfl
theorem zQ {c:bN} {a b:AC} {t:Bool} (hc:c.get [] .leaf tm=some (.bool t)) :
  run call lf nt f ro (.cond c a b) k tm h Q=if t=true then run call lf nt f ro a k tm h Q else run call lf nt f ro b k tm h Q:=by
 unfold run
 show (match ob (c.get [] .leaf tm) (fun v=>cH (fun b'=>Bool.rec (motive:=fun _=>XR) (aZ call lf nt f ro b ⟨tm,h⟩) (aZ call lf nt f ro a ⟨tm,h⟩) b') v) with | some (e,s)=>_ | none=>False)=_
 rw [hc]
 cases t <;> rfl
theorem Ky {c:bN} {a b:AC}:run call lf nt f ro (.cond c a b) k tm h Q=match c.get [] .leaf tm with
  | some (.bool b')=>(match b' with | true=>run call lf nt f ro a k tm h Q | false=>run call lf nt f ro b k tm h Q)
  | _=>False:=by
 cases hc:c.get [] .leaf tm with
 | none =>
  unfold run
  show (match ob (c.get [] .leaf tm) (fun v=>cH (fun b'=>Bool.rec (motive:=fun _=>XR) (aZ call lf nt f ro b ⟨tm,h⟩) (aZ call lf nt f ro a ⟨tm,h⟩) b') v) with | some (e,s)=>_ | none=>False)=_
  rw [hc]
 | some v =>
  cases v with
  | bool t=>rw [zQ hc];cases t <;> simp
  | _ =>
   unfold run
   show (match ob (c.get [] .leaf tm) (fun v=>cH (fun b'=>Bool.rec (motive:=fun _=>XR) (aZ call lf nt f ro b ⟨tm,h⟩) (aZ call lf nt f ro a ⟨tm,h⟩) b') v) with | some (e,s)=>_ | none=>False)=_
   rw [hc]
   rfl
theorem WD {is:List aw} {outs:List (Nat×bN)}:run call lf nt f ro (.reg is outs) k tm h Q =
  match aT is tm call [] h with
  | some (loc,h')=>match bf outs loc tm tm with
   | some tm'=>ret call lf nt f ro .normal k tm' h' Q
   | none=>False
  | none=>False:=by
 unfold run
 show (match ob (aT is tm call [] h) (fun r=>ob (bf outs r.1 tm tm) fun tm'=>some (Ex.normal,(⟨tm',r.2⟩:St))) with | some (e,s)=>_ | none=>False)=_
 cases aT is tm call [] h with
 | none=>rfl
 | some r =>
  obtain ⟨loc,h'⟩:=r
  show (match ob (bf outs loc tm tm) (fun tm'=>some (Ex.normal,(⟨tm',h'⟩:St))) with | some (e,s)=>_ | none=>False)=(match bf outs loc tm tm with | some tm'=>_ | none=>False)
  cases bf outs loc tm tm <;> rfl
theorem Tp {n:Nat} {ss:List gk} {outs:List (Nat×Nat)}:run call lf nt f ro (.draw n ss outs) k tm h Q =
  match bw h.next tm call ss .leaf ⟨h.bs,h.next+n⟩ with
  | some (vs,h')=>match bP outs vs tm with
   | some tm'=>ret call lf nt f ro .normal k tm' h' Q
   | none=>False
  | none=>False:=by
 unfold run
 show (match ob (bw h.next tm call ss .leaf ⟨h.bs,Nat.add h.next n⟩) (fun r=>ob (bP outs r.1 tm) fun tm'=>some (Ex.normal,(⟨tm',r.2⟩:St))) with | some (e,s)=>_ | none=>False)=_
 show _=(match bw h.next tm call ss .leaf ⟨h.bs,Nat.add h.next n⟩ with | some (vs,h')=>_ | none=>False)
 cases bw h.next tm call ss .leaf ⟨h.bs,Nat.add h.next n⟩ with
 | none=>rfl
 | some r =>
  obtain ⟨loc,h'⟩:=r
  show (match ob (bP outs loc tm) (fun tm'=>some (Ex.normal,(⟨tm',h'⟩:St))) with | some (e,s)=>_ | none=>False)=(match bP outs loc tm with | some tm'=>_ | none=>False)
  cases bP outs loc tm <;> rfl
theorem aF {c:AC} (I:Nat->Tr AV->ac->Prop) {n:Nat} (h0:I n tm h) (hn:n<lf)
  (step:∀ n tm h,I n tm h->∀ Q':XQ,(∀ tm' h' n',n'<n->I n' tm' h'->Q' .normal tm' h')->(∀ e tm' h',e≠.normal->ret call lf nt f ro e k tm' h' Q->Q' e tm' h')->run call lf nt f ro c [] tm h Q') :
  run call lf nt f ro (.loop c) k tm h Q:=by
 have key:∀ m n tm h,I n tm h->n<m->match nH (aZ call lf nt f ro c) m ⟨tm,h⟩ with | some (e,s)=>nR (aZ call lf nt f ro) Q k e s.tm s.hp | none=>False:=by
  intro m
  induction m with
  | zero=>intro n tm h _ hn;omega
  | succ m ih =>
   intro n tm h hI hn
   have hs:=step n tm h hI (fun e tm' h'=>match e with | .normal=>∃ n',n'<n/\I n' tm' h' | e=>ret call lf nt f ro e k tm' h' Q) (fun tm' h' n' h1 h2=>⟨n',h1,h2⟩) (fun e tm' h' he hr=>by cases e <;> first | exact absurd rfl he | exact hr)
   unfold run at hs
   show (match ob (aZ call lf nt f ro c ⟨tm,h⟩) (fun r=>Ex.rec (motive:=fun _=>XR) (nH (aZ call lf nt f ro c) m r.2) (some r) (fun _=>some r) (fun _=>some r) r.1) with | some (e,s)=>_ | none=>False)
   cases he:aZ call lf nt f ro c ⟨tm,h⟩ with
   | none=>rw [he] at hs;exact hs.elim
   | some r =>
    rw [he] at hs
    obtain ⟨e,s⟩:=r
    cases e with
    | normal =>
     obtain ⟨n',h1,h2⟩:=hs
     exact ih n' s.tm s.hp h2 (by omega)
    | ret=>exact hs
    | exit j=>exact hs
    | goto j=>exact hs
 exact key lf n tm h h0 hn
end
abbrev Ub (c:AC) (e:Ex):Prop:=∀ call lf nt f ro k tm h Q,run call lf nt f ro c k tm h Q=ret call lf nt f ro e k tm h Q
abbrev Uc (c a b:AC):Prop:=∀ call lf nt f ro k tm h Q,run call lf nt f ro c k tm h Q=run call lf nt f ro a (.seq b::k) tm h Q
abbrev T9 (c:AC) (id:Nat) (a:AC):Prop:=∀ call lf nt f ro k tm h Q,run call lf nt f ro c k tm h Q=run call lf nt f ro a (.blk id::k) tm h Q
abbrev zc8 (c a:AC):Prop:=∀ call lf nt f ro k tm h Q,run call lf nt f ro c k tm h Q=run call lf nt f ro a (.sco::k) tm h Q
abbrev Ua (c:AC) (t:Nat) (a b:AC):Prop:=∀ call lf nt f ro k tm h Q,run call lf nt f ro c k tm h Q=match tm.gt t with
 | some (.bool b')=>(match b' with | true=>run call lf nt f ro a k tm h Q | false=>run call lf nt f ro b k tm h Q)
 | _=>False
abbrev bY (c:AC) (E:an->Tr AV->ac->Option (Tr AV×ac)):Prop:=∀ call lf nt f ro k tm h Q,run call lf nt f ro c k tm h Q=match E call tm h with
 | none=>False
 | some (tm',h')=>ret call lf nt f ro .normal k tm' h' Q
theorem zaK:Ub .skip .normal:=fun _ _ _ _ _ _ _ _ _=>Ts
theorem zff {id:Nat}:Ub (.exit id) (.exit id):=fun _ _ _ _ _ _ _ _ _=>Tq
theorem zg9:Ub .ret .ret:=fun _ _ _ _ _ _ _ _ _=>WE
theorem zfg {a b:AC}:Uc (.seq a b) a b:=fun _ _ _ _ _ _ _ _ _=>WF
theorem zfd {id:Nat} {a:AC}:T9 (.block id a) id a:=fun _ _ _ _ _ _ _ _ _=>Kx
theorem zha {a:AC}:zc8 (.scope a) a:=fun _ _ _ _ _ _ _ _ _=>KA
theorem zfe {t:Nat} {a b:AC}:Ua (.cond (.tmp t) a b) t a b:=fun _ _ _ _ _ _ _ _ _=>Ky
theorem zg8 {n:Nat} {ss:List gk} {outs:List (Nat×Nat)} {E:an->Tr AV->ac->Option (Tr AV×ac)}
  (hE:(fun call tm h=>E call tm h)=fun call tm h=>ob (bw h.next tm call ss .leaf ⟨h.bs,h.next+n⟩) fun r=>ob (bP outs r.1 tm) fun tm'=>some (tm',r.2)):bY (.draw n ss outs) E:=fun call lf nt f ro k tm h Q=>by
 rw [Tp]
 have this:E call tm h=ob (bw h.next tm call ss .leaf ⟨h.bs,h.next+n⟩) (fun r=>ob (bP outs r.1 tm) fun tm'=>some (tm',r.2)):=congrFun (congrFun (congrFun hE call) tm) h
 rw [this]
 cases bw h.next tm call ss .leaf ⟨h.bs,h.next+n⟩ with
 | none=>rfl
 | some r =>
  obtain ⟨vs,h'⟩:=r
  show (match bP outs vs tm with | some tm'=>ret call lf nt f ro .normal k tm' h' Q | none=>False)=(match ob (bP outs vs tm) (fun tm'=>some (tm',h')) with | none=>False | some (tm',h')=>ret call lf nt f ro .normal k tm' h' Q)
  cases bP outs vs tm <;> rfl
def j9 (P:Program) (f:FuncId):Code:=match P.funcs[f]? with
 | some fn=>match fn.body with
  | some c=>c
  | none=>.skip
 | none=>.skip
def ja:Code->List Nat->Nat->Code
 | .rangeFunc _ _ a b,[],j=>match j with | 0=>a | _=>b
 | .rangeFunc _ _ a b,i::p,j=>match i with | 0=>ja a p j | _=>ja b p j
 | .seq a b,i::p,j=>match i with | 0=>ja a p j | _=>ja b p j
 | .cond _ a b,i::p,j=>match i with | 0=>ja a p j | _=>ja b p j
 | .block _ a,_::p,j=>ja a p j
 | .loop a,_::p,j=>ja a p j
 | .scope a,_::p,j=>ja a p j
 | _,_,_=>.skip
def W {α : Type} (r:Option α) (Q:α->Prop):Prop:=∃ v,r=some v/\Q v
def WC (r:dA) (Q:AV->ac->Prop):Prop:=∃ v h,r=some (v,h)/\Q v h
theorem ak {P:Program} {keep:aK} {prims:Prims} {lf n:Nat} {f:FuncId} {args:List AV} {h:ac} {k:cA} (Q:AV->ac->Prop) (hk:ci P keep f=some k) (hp:prims.fn f args h=none) (hl:args.length<=k.nt)
  (hrun:∀ Q':XQ,(∀ e tm h vs,(e=.normal∨e=.ret)->tm.gt k.nt=none->dz P k.res ⟨tm,h⟩=some vs->Q (dV vs) h->Q' e tm h)->run (callN P keep prims lf n) lf k.nt f none k.code [] (az args .leaf 0) h Q') :
  WC (callN P keep prims lf (n+1) (.fn f) args h) Q:=by
 have hr:=hrun (fun e tm h=>(e=.normal∨e=.ret)/\tm.gt k.nt=none/\∃ vs,dz P k.res ⟨tm,h⟩=some vs/\Q (dV vs) h) (fun e tm h vs h1 h2 h3 h4=>⟨h1,h2,vs,h3,h4⟩)
 unfold run at hr
 show WC (Option.rec (motive:=fun _=>dA) (ob (ci P keep f) fun k=>aV (Nat.ble (bp args) k.nt) (ob (aZ (callN P keep prims lf n) lf k.nt f none k.code ⟨az args .leaf 0,h⟩) fun r=>kM P keep lf (callN P keep prims lf n) k.nt k.res r)) (fun r=>r) (prims.fn f args h)) Q
 rw [hp,hk]
 show WC (aV (Nat.ble (bp args) k.nt) (ob (aZ (callN P keep prims lf n) lf k.nt f none k.code ⟨az args .leaf 0,h⟩) fun r=>kM P keep lf (callN P keep prims lf n) k.nt k.res r)) Q
 rw [aO,show Nat.ble args.length k.nt=true from Nat.ble_eq_true_of_le hl]
 show WC (ob (aZ (callN P keep prims lf n) lf k.nt f none k.code ⟨az args .leaf 0,h⟩) fun r=>kM P keep lf (callN P keep prims lf n) k.nt k.res r) Q
 cases he:aZ (callN P keep prims lf n) lf k.nt f none k.code ⟨az args .leaf 0,h⟩ with
 | none=>rw [he] at hr;exact hr.elim
 | some r =>
  rw [he] at hr
  obtain ⟨e,s⟩:=r
  obtain ⟨h1,h2,vs,h3,h4⟩:=hr
  have hend:kM P keep lf (callN P keep prims lf n) k.nt k.res (e,s)=some (dV vs,s.hp):=by
   have hl:gI P keep lf (callN P keep prims lf n) k.nt s=some s.hp:=by unfold gI;rw [show s.tm.gt k.nt=none from h2]
   have:(ob (gI P keep lf (callN P keep prims lf n) k.nt s) fun h=>ob (dz P k.res ⟨s.tm,h⟩) fun vs=>some (dV vs,h))=some (dV vs,s.hp):=by
    rw [hl]
    show ob (dz P k.res ⟨s.tm,s.hp⟩) _=_
    rw [show dz P k.res ⟨s.tm,s.hp⟩=some vs from h3]
   rcases h1 with rfl | rfl
   ·exact this
   ·exact this
  exact ⟨_,_,hend,h4⟩
end
end Go.Am
namespace Go.Am
theorem cy {β : Type} (k:IntKind) (r:Option β):qi k k r=r:=by cases k <;> rfl
theorem Bp {β : Type} (f:Bool->Option β) (b:Bool):cH f (.bool b)=f b:=rfl
section
variable {P:Program} {t:TypeId} {k:IntKind} {a b:Int} {s u:List Nat}
theorem zdm:ag P .lss t (.int k a) (.int k b)=some (.bool (decide (a<b))):=by
 show qi k k (jx (ltI a b))=_;rw [cy,ltI_eq];rfl
theorem zdl:ag P .leq t (.int k a) (.int k b)=some (.bool (decide (a<=b))):=by
 show qi k k (jx (leI a b))=_;rw [cy,wL];rfl
theorem zdk:ag P .gtr t (.int k a) (.int k b)=some (.bool (decide (b<a))):=by
 show qi k k (jx (ltI b a))=_;rw [cy,ltI_eq];rfl
theorem zdj:ag P .geq t (.int k a) (.int k b)=some (.bool (decide (b<=a))):=by
 show qi k k (jx (leI b a))=_;rw [cy,wL];rfl
theorem zdg:ag P .add t (.int k a) (.int k b)=some (.int k (k.wrap (a+b))):=by
 show qi k k (zaZ k a b)=_;rw [cy,CI]
theorem zdq:ag P .sub t (.int k a) (.int k b)=some (.int k (k.wrap (a - b))):=by
 show qi k k (zcR k a b)=_;rw [cy,I8]
theorem zdn:ag P .mul t (.int k a) (.int k b)=some (.int k (k.wrap (a*b))):=by
 show qi k k (zb0 k a b)=_;rw [cy,I0]
theorem Wx (h:b≠0):Ww k a b=some (.int k (a.tmod b)):=by
 cases a with
 | ofNat x =>
  cases b with
  | ofNat y =>
   cases y with
   | zero=>exact absurd rfl h
   | succ y=>rfl
  | negSucc y=>show iQ k _ _=_;unfold iQ;rw [if_neg h]
 | negSucc x=>show iQ k _ _=_;unfold iQ;rw [if_neg h]
theorem xL (h:b≠0):ag P .rem t (.int k a) (.int k b)=some (.int k (a.tmod b)):=by
 show qi k k (Ww k a b)=_;rw [cy,Wx h]
theorem zdi:ag P .eql t (.int k a) (.int k b)=some (.bool (decide (a=b))):=by
 show Option.rec (motive:=fun _=>Option AV) none jx (qi k k (some (T1 a b)))=_
 rw [cy,mB];rfl
theorem zdo:ag P .neq t (.int k a) (.int k b)=some (.bool (!decide (a=b))):=by
 show Option.rec (motive:=fun _=>Option AV) none (fun b=>jx (fM b)) (qi k k (some (T1 a b)))=_
 rw [cy,mB]
 show jx (fM (a==b))=_
 rw [iM];rfl
theorem za6:ag P .eql t (.str s) (.str u)=some (.bool (decide (s=u))):=by
 show jx (mr s u)=_
 rw [sW]
 show some (AV.bool (s==u))=_
 by_cases h:s=u <;> simp [h]
theorem za8:ag P .neq t (.str s) (.str u)=some (.bool (!decide (s=u))):=by
 show jx (fM (mr s u))=_
 rw [sW,iM]
 show some (AV.bool (!(s==u)))=_
 by_cases h:s=u <;> simp [h]
theorem vp {e:TypeId} {x:Option (Nat×Nat)} (hu:P.underlying t=some (.pointer e)):ag P .eql t (.ptr x) (.ptr none)=some (.bool x.isNone):=by
 show Option.rec (motive:=fun _=>Option AV) none jx (aX P 50 t (.ptr x) (.ptr none))=_
 unfold aX;rw [hu]
 cases x <;> rfl
theorem ou {e:TypeId} {x:Option (Nat×Nat)} (hu:P.underlying t=some (.pointer e)):ag P .neq t (.ptr x) (.ptr none)=some (.bool x.isSome):=by
 show Option.rec (motive:=fun _=>Option AV) none (fun b=>jx (fM b)) (aX P 50 t (.ptr x) (.ptr none))=_
 unfold aX;rw [hu]
 cases x <;> rfl
theorem za7 {e f:TypeId} {x:Option Nat} (hu:P.underlying t=some (.map e f)):ag P .neq t (.map x) (.map none)=some (.bool x.isSome):=by
 show Option.rec (motive:=fun _=>Option AV) none (fun b=>jx (fM b)) (aX P 50 t (.map x) (.map none))=_
 unfold aX;rw [hu]
 cases x <;> rfl
theorem AG {e:TypeId} {x:Option (Nat×Nat)} {n c:Nat} {g:Option Nat} (hu:P.underlying t=some (.slice e)):ag P .eql t (.slice x n c g) (.slice none 0 0 none)=some (.bool x.isNone):=by
 show Option.rec (motive:=fun _=>Option AV) none jx (aX P 50 t (.slice x n c g) (.slice none 0 0 none))=_
 unfold aX;rw [hu]
 cases x <;> rfl
end
theorem zfC {b:Bool}:iG .not (.bool b)=some (.bool (!b)):=by show jx (fM b)=_;rw [iM];rfl
theorem zcX {b:Bool}:wanted true (.bool b)=b:=by show eqB b true=b;cases b <;> rfl
theorem WU {b:Bool}:wanted false (.bool b)=!b:=by show eqB b false=!b;cases b <;> rfl
theorem zb1 {k l:IntKind} {a b:Int}:kP max2 [.int k a,.int l b]=some (.int k (max a b)):=by
 have:Bool.rec (motive:=fun _=>Int) a b (ltI a b)=max a b:=by
  rw [ltI_eq]
  by_cases h:a<b
  ·rw [show decide (a<b)=true from decide_eq_true h,show max a b=b from by omega]
  ·rw [show decide (a<b)=false from decide_eq_false h,show max a b=a from by omega]
 show some (AV.int k (Bool.rec (motive:=fun _=>Int) a b (ltI a b)))=_
 rw [this]
theorem zbY {k l:IntKind} {a b:Int}:kP min2 [.int k a,.int l b]=some (.int k (min a b)):=by
 have:Bool.rec (motive:=fun _=>Int) a b (ltI b a)=min a b:=by
  rw [ltI_eq]
  by_cases h:b<a
  ·rw [show decide (b<a)=true from decide_eq_true h,show min a b=b from by omega]
  ·rw [show decide (b<a)=false from decide_eq_false h,show min a b=a from by omega]
 show some (AV.int k (Bool.rec (motive:=fun _=>Int) a b (ltI b a)))=_
 rw [this]
theorem wrap_i64 {n:Int} (h:-9223372036854775808<=n) (h':n<=9223372036854775807):IntKind.i64.wrap n=n:=by
 simp [IntKind.wrap,IntKind.signed,IntKind.bits]
 omega
theorem TK {n:Int} (h:0<=n) (h':n<=4294967295):IntKind.u32.wrap n=n:=by
 simp [IntKind.wrap,IntKind.signed,IntKind.bits]
 omega
theorem Je {n:Int} (h:0<=n) (h':n<=255):IntKind.u8.wrap n=n:=by
 simp [IntKind.wrap,IntKind.signed,IntKind.bits]
 omega
section
variable {β : Type}
theorem zbR {f:AV->Option β} {a:AV}:l1 f [a]=f a:=rfl
theorem zbS {f:AV->AV->Option β} {a b:AV}:l2 f [a,b]=f a b:=rfl
theorem Sv {f:AV->AV->AV->Option β} {a b c:AV}:l3 f [a,b,c]=f a b c:=rfl
end
theorem zbF {a:AV} {l:List AV} {vs tm:Tr AV}:bN.get (.loc 0) (a::l) vs tm=some a:=rfl
theorem zbG {a:AV} {l:List AV} {vs tm:Tr AV} {n:Nat}:bN.get (.loc (n+1)) (a::l) vs tm=bN.get (.loc n) l vs tm:=rfl
theorem zeQ {l:List AV} {vs tm:Tr AV} {t:Nat}:bN.get (.tmp t) l vs tm=tm.gt t:=rfl
theorem zeP {l:List AV} {vs tm:Tr AV} {v:AV}:bN.get (.cst v) l vs tm=some v:=rfl
theorem ai {t:Tr AV} {i:Nat}:az [] t i=t:=rfl
theorem ah {v:AV} {vs:List AV} {t:Tr AV} {i:Nat}:az (v::vs) t i=az vs (t.up (some v) i) (i+1):=rfl
theorem gt_leaf {α : Type} {n:Nat}:(Tr.leaf:Tr α).gt n=none:=rfl
theorem fe {α : Type} {t:Tr α} {x:Option α} {n:Nat}:(t.up x n).gt n=x:=by rw [Tr.gt_up,if_pos rfl]
theorem dN {α : Type} {t:Tr α} {x:Option α} {n m:Nat} (h:(m==n)=false):(t.up x n).gt m=t.gt m:=by
 rw [Tr.gt_up,if_neg (by simpa using h)]
theorem zfy {i:Nat} {vs:List AV}:aq i (.tuple vs)=vs[i]?:=by show SO vs i=_;rw [mK]
theorem zb3 {b:Bool}:(AV.bool b).one=true:=rfl
theorem ze2 {k:IntKind} {n:Int}:(AV.int k n).one=true:=rfl
theorem ze5 {s:List Nat}:(AV.str s).one=true:=rfl
theorem ze4 {p:Option (Nat×Nat)}:(AV.ptr p).one=true:=rfl
theorem VE {p:Option (Nat×Nat)} {n c:Nat} {g:Option Nat}:(AV.slice p n c g).one=true:=rfl
theorem ze3 {p:Option Nat}:(AV.map p).one=true:=rfl
section
variable {P:Program} {tm:Tr AV} {h:ac}
theorem Te:dz P [] ⟨tm,h⟩=some []:=rfl
theorem Tf {t:Nat} {rs:List ResultVar}:dz P (.tmp t::rs) ⟨tm,h⟩=match tm.gt t with
  | none=>none
  | some v=>match dz P rs ⟨tm,h⟩ with
   | none=>none
   | some vs=>some (v::vs):=by
 show ob (tm.gt t) (fun v=>ob (dz P rs ⟨tm,h⟩) fun vs=>some (v::vs))=_
 cases tm.gt t with
 | none=>rfl
 | some v=>cases dz P rs ⟨tm,h⟩ <;> rfl
theorem Kt {a t:Nat} {rs:List ResultVar}:dz P (.cell a t::rs) ⟨tm,h⟩=match tm.gt a with
  | none=>none
  | some p=>match nQ P t h p with
   | none=>none
   | some v=>match dz P rs ⟨tm,h⟩ with
    | none=>none
    | some vs=>some (v::vs):=by
 show ob (ob (tm.gt a) (nQ P t h)) (fun v=>ob (dz P rs ⟨tm,h⟩) fun vs=>some (v::vs))=_
 cases tm.gt a with
 | none=>rfl
 | some p =>
  show ob (nQ P t h p) (fun v=>ob (dz P rs ⟨tm,h⟩) fun vs=>some (v::vs))=(match nQ P t h p with
   | none=>none
   | some v=>match dz P rs ⟨tm,h⟩ with
    | none=>none
    | some vs=>some (v::vs))
  cases nQ P t h p with
  | none=>rfl
  | some v =>
   show ob (dz P rs ⟨tm,h⟩) (fun vs=>some (v::vs))=_
   cases dz P rs ⟨tm,h⟩ <;> rfl
theorem ST {v:AV} {b:Bool}:fN true v b=.tuple [v,.bool b]:=rfl
theorem Kd {v:AV} {b:Bool}:fN false v b=v:=rfl
theorem Cg:dV []=.tuple []:=rfl
theorem iD {v:AV}:dV [v]=v:=rfl
theorem lC {v u:AV} {r:List AV}:dV (v::u::r)=.tuple (v::u::r):=rfl
end
section
variable {h:ac} {b o:Nat} {v:AV}
theorem zbU:am h (.ptr (some (b,o)))=h.ld1 b o:=rfl
theorem qz {n:Nat}:di n h (.ptr (some (b,o)))=match h.ld b o n with
  | none=>none
  | some vs=>some (.agg vs):=by
 show (Option.rec (motive:=fun _=>Option AV) none (fun vs=>some (.agg vs)) (h.ld b o n):Option AV)=_
 cases h.ld b o n <;> rfl
theorem VA:aW h (.ptr (some (b,o))) v=match h.st1 b o v with
  | none=>none
  | some h'=>some (aJ,h'):=by
 show (Option.rec (motive:=fun _=>Option (AV×ac)) none (fun h=>some (aJ,h)) (h.st1 b o v):Option (AV×ac))=_
 cases h.st1 b o v <;> rfl
theorem ze0 {a:Nat×Nat}:aj (.ptr (some a))=some (.ptr (some a)):=rfl
end
end Go.Am
namespace Go.Am
def Rw (h:ac) (b:Nat) (vs z:List AV) (ro:Bool):Prop:=∃ t,h.bs.gt b=some (.cells t z vs.length ro)/\∀ i,i<vs.length->aR t z i=vs[i]?
def Sm (F:Nat->Prop) (h h':ac):Prop:=h.next<=h'.next/\∀ c,c<h.next->¬F c->h'.bs.gt c=h.bs.gt c
def bm:Nat->Prop:=fun _=>False
theorem Sm.refl (F:Nat->Prop) (h:ac):Sm F h h:=⟨Nat.le_refl _,fun _ _ _=>rfl⟩
theorem Sm.trans {F G H:Nat->Prop} {h h' h'':ac} (a:Sm F h h') (b:Sm G h' h'') (hF:∀ c,c<h.next->F c->H c) (hG:∀ c,c<h.next->G c->H c):Sm H h h'' :=
 ⟨Nat.le_trans a.1 b.1,fun c hc hH=>(b.2 c (Nat.lt_of_lt_of_le hc a.1) fun hg=>hH (hG c hc hg)).trans (a.2 c hc fun hf=>hH (hF c hc hf))⟩
theorem Sm.mono {F G:Nat->Prop} {h h':ac} (a:Sm F h h') (hG:∀ c,c<h.next->F c->G c):Sm G h h':=⟨a.1,fun c hc hF=>a.2 c hc fun hg=>hF (hG c hc hg)⟩
theorem Sm.bump (h:ac) (n:Nat):∃ hb,ac.mk h.bs (h.next+n)=hb/\Sm bm h hb/\hb.bs=h.bs/\hb.next=h.next+n:=⟨_,rfl,⟨Nat.le_add_right _ _,fun _ _ _=>rfl⟩,rfl,rfl⟩
theorem Sm.no {F:Nat->Prop} {h h':ac} (a:Sm bm h h'):Sm F h h':=a.mono fun _ _ h=>h.elim
section
variable {h h':ac} {b:Nat} {vs z:List AV} {ro:Bool}
theorem Rw.same (hr:Rw h b vs z ro) (he:h'.bs.gt b=h.bs.gt b):Rw h' b vs z ro:=by obtain ⟨t,h1,h2⟩:=hr;exact ⟨t,he.trans h1,h2⟩
theorem Rw.sm {F:Nat->Prop} (hr:Rw h b vs z ro) (hs:Sm F h h') (hb:b<h.next) (hF:¬F b):Rw h' b vs z ro:=hr.same (hs.2 b hb hF)
theorem Rw.ld1 (hr:Rw h b vs z ro) (i:Nat):h.ld1 b i=vs[i]?:=by
 obtain ⟨t,h1,h2⟩:=hr
 unfold ac.ld1 ac.cells
 rw [h1]
 show (Bool.rec (motive:=fun _=>Option AV) none (aR t z i) (Nat.ble (i+1) vs.length):Option AV)=_
 by_cases hi:i<vs.length
 ·rw [show Nat.ble (i+1) vs.length=true from Nat.ble_eq_true_of_le hi];exact h2 i hi
 ·rw [show Nat.ble (i+1) vs.length=false from by cases hb:Nat.ble (i+1) vs.length with | false=>rfl | true=>exact absurd (Nat.le_of_ble_eq_true hb) (by omega)]
  exact (List.getElem?_eq_none (by omega)).symm
theorem uH {t:Tr AV}:∀ (n i:Nat),i+n<=vs.length->(∀ i,i<vs.length->aR t z i=vs[i]?)->gQ t z n i=some ((vs.drop i).take n)
 | 0,i,_,_=>by rw [List.take_zero];rfl
 | n+1,i,h1,h2=>by
  rw [mH,h2 i (by omega),List.getElem?_eq_getElem (by omega),uH n (i+1) (by omega) h2]
  show some (vs[i]::_)=_
  rw [List.drop_eq_getElem_cons (show i<vs.length by omega)]
  rfl
theorem Rw.ld (hr:Rw h b vs z ro) {i n:Nat} (hi:i+n<=vs.length):h.ld b i n=some ((vs.drop i).take n):=by
 obtain ⟨t,h1,h2⟩:=hr
 unfold ac.ld ac.cells
 rw [h1]
 show (Bool.rec (motive:=fun _=>Option (List AV)) none (gQ t z n i) (Nat.ble (i+n) vs.length):Option (List AV))=_
 rw [show Nat.ble (i+n) vs.length=true from Nat.ble_eq_true_of_le hi]
 exact uH n i hi h2
def eD (vs:List AV) (o:Nat) (us:List AV):List AV:=vs.take o++(us++vs.drop (o+us.length))
theorem pR {o:Nat} {us:List AV} (ho:o+us.length<=vs.length):(eD vs o us).length=vs.length:=by
 unfold eD;simp;omega
theorem zD {o:Nat} {us:List AV} (ho:o+us.length<=vs.length) (i:Nat):(eD vs o us)[i]?=if o<=i/\i<o+us.length then us[i - o]? else vs[i]?:=by
 unfold eD
 by_cases h1:i<o
 ·rw [List.getElem?_append_left (by simp;omega),if_neg (by omega),List.getElem?_take_of_lt h1]
 ·rw [List.getElem?_append_right (by simp;omega)]
  simp only [List.length_take]
  rw [show min o vs.length=o from by omega]
  by_cases h2:i<o+us.length
  ·rw [if_pos (by omega),List.getElem?_append_left (by omega)]
  ·rw [if_neg (by omega),List.getElem?_append_right (by omega),List.getElem?_drop]
   congr 1;omega
theorem S7 {o:Nat} {u:AV} (ho:o<vs.length):eD vs o [u]=vs.set o u:=by
 apply List.ext_getElem?
 intro i
 rw [zD (by simp;omega),List.getElem?_set]
 by_cases e:o=i
 ·subst e;simp [ho]
 ·rw [if_neg (by simp;omega),if_neg e]
noncomputable def ac.wr (h:ac) (b o:Nat) (us:List AV):ac:=(h.sto b o us).getD h
theorem Rw.sto (hr:Rw h b vs z false) {o:Nat} {us:List AV} (ho:o+us.length<=vs.length) (h1:us.all AV.one=true) :
  h.sto b o us=some (h.wr b o us)/\Rw (h.wr b o us) b (eD vs o us) z false/\(h.wr b o us).next=h.next/\∀ c,c≠b->(h.wr b o us).bs.gt c=h.bs.gt c:=by
 obtain ⟨t,g1,g2⟩:=hr
 have e:h.sto b o us=some (h.put b (.cells (az us t o) z vs.length false)):=by
  unfold ac.sto ac.cells
  rw [g1]
  show (Bool.rec (motive:=fun _=>Option ac) none (Bool.rec (motive:=fun _=>Option ac) none (some _) (bO us)) (Nat.ble (o+bp us) vs.length):Option ac)=_
  rw [aO,show Nat.ble (o+us.length) vs.length=true from Nat.ble_eq_true_of_le ho,bI,h1]
 have e2:h.wr b o us=h.put b (.cells (az us t o) z vs.length false):=by unfold ac.wr;rw [e];rfl
 refine ⟨by rw [e,e2],?_,by rw [e2];rfl,fun c hc=>by rw [e2,bA,if_neg hc]⟩
 rw [e2]
 refine ⟨az us t o,by rw [bA,if_pos rfl,pR ho],fun i hi=>?_⟩
 rw [pR ho] at hi
 rw [zD ho]
 unfold aR
 rw [cr]
 by_cases hin:o<=i/\i<o+us.length
 ·rw [if_pos hin,if_pos hin,List.getElem?_eq_getElem (by omega)]
 ·rw [if_neg hin,if_neg hin];exact g2 i hi
theorem mP (h:ac) (b o:Nat) (v:AV):h.st1 b o v=h.sto b o [v]:=by
 unfold ac.st1 ac.sto ac.cells
 cases h.bs.gt b with
 | none=>rfl
 | some x =>
  cases x with
  | cells t z n r =>
   cases r with
   | true=>rfl
   | false =>
    show (Bool.rec (motive:=fun _=>Option ac) none (Bool.rec (motive:=fun _=>Option ac) none _ v.one) (Nat.ble (o+1) n):Option ac)=(Bool.rec (motive:=fun _=>Option ac) none (Bool.rec (motive:=fun _=>Option ac) none _ (bO [v])) (Nat.ble (o+1) n):Option ac)
    rw [bI,show [v].all AV.one=v.one from by simp]
    rfl
  | _=>rfl
theorem Rw.st1 (hr:Rw h b vs z false) {o:Nat} {v:AV} (ho:o<vs.length) (h1:v.one=true) :
  h.st1 b o v=some (h.wr b o [v])/\Rw (h.wr b o [v]) b (vs.set o v) z false/\(h.wr b o [v]).next=h.next/\∀ c,c≠b->(h.wr b o [v]).bs.gt c=h.bs.gt c:=by
 obtain ⟨a,c,d,e⟩:=hr.sto (o:=o) (us:=[v]) (by simp only [List.length_cons,List.length_nil];omega) (by simpa using h1)
 exact ⟨by rw [mP];exact a,by rw [← S7 ho];exact c,d,e⟩
theorem Rw.new {id:Nat} (hid:h.next<=id):Rw (h.new id (.cells (az vs .leaf 0) z vs.length ro)) id vs z ro/\(h.new id (.cells (az vs .leaf 0) z vs.length ro)).next=id+1/\∀ c,c≠id->(h.new id (.cells (az vs .leaf 0) z vs.length ro)).bs.gt c=h.bs.gt c:=by
 rw [ii hid]
 refine ⟨⟨az vs .leaf 0,by show (h.bs.up _ id).gt id=_;rw [Tr.gt_up,if_pos rfl],fun i hi=>?_⟩,rfl,fun c hc=>by show (h.bs.up _ id).gt c=_;rw [Tr.gt_up,if_neg hc]⟩
 unfold aR
 rw [cr,if_pos (by omega),Nat.sub_zero,List.getElem?_eq_getElem hi]
theorem cM {id:Nat} (hid:h.next<=id) (x:cX):(h.new id x).next=id+1:=by rw [ii hid]
theorem bX {id:Nat} (hid:h.next<=id) (x:cX) (c:Nat):(h.new id x).bs.gt c=if c=id then some x else h.bs.gt c:=by rw [ii hid];exact Tr.gt_up _ _ _ _
end
end Go.Am
namespace Go.Am
section
variable {P:Program} {t e:TypeId} {k:IntKind} {s:Nat}
theorem Vx (hu:P.underlying t=some .string) (l:List Nat):bL P t (.str l)=some (.int .i64 l.length):=by
 unfold bL;rw [hu];show pI (bp l)=_;rw [aO];rfl
theorem fq (hu:P.underlying t=some (.slice e)) (a:Option (Nat×Nat)) (n c:Nat) (g:Option Nat):bL P t (.slice a n c g)=some (.int .i64 n):=by
 unfold bL;rw [hu];rfl
theorem qT:∀ (s:List Nat) (i:Nat),vA s i=s[i]?.map fun c=>.int .u8 (c:Int)
 | [],_=>rfl
 | c::s,0=>rfl
 | c::s,i+1=>qT s i
theorem zbI (hu:P.underlying t=some .string) (l:List Nat) (i:Nat):kQ P t (.str l) (.int k (i:Int))=l[i]?.map fun c=>.int .u8 (c:Int):=by
 unfold kQ;rw [hu];exact qT l i
theorem oB {src dst:TypeId} {d:TypeDesc} (hs:P.underlying src=some d) (hd:P.underlying dst=some (.int k)) (l:IntKind) (n:Int):eU P src dst (.int l n)=some (.int k (k.wrap n)):=by
 unfold eU;rw [hs,hd]
 show (Int.rec (motive:=fun _=>Option AV) (fun x=>oI k x) (fun _=>eH k n) n:Option AV)=_
 cases n with
 | ofNat x=>exact jC k x
 | negSucc x=>rfl
theorem rN {n i:Nat} {f:Nat->Option AV} (hi:i<n):jG n (i:Int) f=f i:=by
 show (Bool.rec (motive:=fun _=>Option AV) none (f i) (Nat.ble (i+1) n):Option AV)=_
 rw [show Nat.ble (i+1) n=true from Nat.ble_eq_true_of_le hi]
theorem gq (hu:P.underlying t=some (.slice e)) (hs:aC P e=some s) {b o n c i:Nat} {g:Option Nat} (hi:i<n):aa P t (.slice (some (b,o)) n c g) (.int k (i:Int))=some (.ptr (some (b,o+i*s))):=by
 unfold aa;rw [hu];simp only [hs]
 show jG n (i:Int) (fun i=>some (.ptr (some (b,Nat.add o (Nat.mul i s)))))=_
 rw [rN hi];rfl
theorem Sp {n:Nat} (hu:P.underlying t=some (.array n e)) (hs:aC P e=some s) {b o i:Nat} (hi:i<n):aa P t (.ptr (some (b,o))) (.int k (i:Int))=some (.ptr (some (b,o+i*s))):=by
 unfold aa;rw [hu];simp only [hs]
 show jG n (i:Int) (fun i=>some (.ptr (some (b,Nat.add o (Nat.mul i s)))))=_
 rw [rN hi];rfl
theorem cZ {d y n:Nat} {f:Nat->Option AV} (h:n<=y):bF d y (some (.int k (n:Int))) f=f n:=by
 show (Bool.rec (motive:=fun _=>Option AV) none (f n) (Nat.ble n y):Option AV)=_
 rw [show Nat.ble n y=true from Nat.ble_eq_true_of_le h]
section
variable {l:List Nat} {lo hi:Nat}
theorem KG (hu:P.underlying t=some .string) (h:lo<=l.length):aU P t true false false [.str l,.int k (lo:Int)]=some (.str (l.drop lo)):=by
 show bZ P t (.str l) (some (.int k (lo:Int))) none none=_
 unfold bZ;rw [hu]
 show bF 0 (bp l) (some (.int k (lo:Int))) (fun x=>some (.str (gC (Nat.sub (bp l) x) (iI x l))))=_
 rw [cZ (by rw [aO];exact h),eG,fJ,aO,List.take_of_length_le (by simp only [List.length_drop];exact Nat.le_refl _)]
theorem KF (hu:P.underlying t=some .string) (h:hi<=l.length):aU P t false true false [.str l,.int k (hi:Int)]=some (.str (l.take hi)):=by
 show bZ P t (.str l) none (some (.int k (hi:Int))) none=_
 unfold bZ;rw [hu]
 show bF (bp l) (bp l) (some (.int k (hi:Int))) (fun h=>some (.str (gC (Nat.sub h 0) (iI 0 l))))=_
 rw [cZ (by rw [aO];exact h),eG,fJ];rfl
end
section
variable {a:Option (Nat×Nat)} {n c lo hi mx:Nat} {g:Option Nat}
theorem Tx (hu:P.underlying t=some (.slice e)) (hs:aC P e=some s) (hg:Aq g s=true) (h:lo<=n) :
  aU P t true false false [.slice a n c g,.int k (lo:Int)]=some (.slice (a.map fun p=>(p.1,p.2+lo*s)) (n - lo) (c - lo) g):=by
 show bZ P t (.slice a n c g) (some (.int k (lo:Int))) none none=_
 unfold bZ;rw [hu];simp only [hs]
 show aV (Aq g s) (bF 0 n (some (.int k (lo:Int))) fun l=>some (.slice (a.map fun p=>(p.1,p.2+l*s)) (n - l) (c - l) g))=_
 rw [hg,cZ h];rfl
theorem Tw (hu:P.underlying t=some (.slice e)) (hs:aC P e=some s) (hg:Aq g s=true) (h:hi<=c) :
  aU P t false true false [.slice a n c g,.int k (hi:Int)]=some (.slice (a.map fun p=>(p.1,p.2+0*s)) (hi - 0) (c - 0) g):=by
 show bZ P t (.slice a n c g) none (some (.int k (hi:Int))) none=_
 unfold bZ;rw [hu];simp only [hs]
 show aV (Aq g s) (bF n c (some (.int k (hi:Int))) fun x=>some (.slice (a.map fun p=>(p.1,p.2+0*s)) (x - 0) (c - 0) g))=_
 rw [hg,cZ h];rfl
theorem zcM {k':IntKind} (hu:P.underlying t=some (.slice e)) (hs:aC P e=some s) (hg:Aq g s=true) (h:hi<=c) (h':lo<=hi) :
  aU P t true true false [.slice a n c g,.int k (lo:Int),.int k' (hi:Int)]=some (.slice (a.map fun p=>(p.1,p.2+lo*s)) (hi - lo) (c - lo) g):=by
 show bZ P t (.slice a n c g) (some (.int k (lo:Int))) (some (.int k' (hi:Int))) none=_
 unfold bZ;rw [hu];simp only [hs]
 show aV (Aq g s) (bF n c (some (.int k' (hi:Int))) fun x=>bF 0 x (some (.int k (lo:Int))) fun l=>some (.slice (a.map fun p=>(p.1,p.2+l*s)) (x - l) (c - l) g))=_
 rw [hg,cZ h,cZ h'];rfl
theorem zcN {k' k'':IntKind} (hu:P.underlying t=some (.slice e)) (hs:aC P e=some s) (h:mx<=c) (h':hi<=mx) (h'':lo<=hi) :
  aU P t true true true [.slice a n c g,.int k (lo:Int),.int k' (hi:Int),.int k'' (mx:Int)]=some (.slice (a.map fun p=>(p.1,p.2+lo*s)) (hi - lo) (mx - lo) none):=by
 show bZ P t (.slice a n c g) (some (.int k (lo:Int))) (some (.int k' (hi:Int))) (some (.int k'' (mx:Int)))=_
 unfold bZ;rw [hu];simp only [hs]
 show bF 0 c (some (.int k'' (mx:Int))) (fun m=>bF 0 m (some (.int k' (hi:Int))) fun x=>bF 0 x (some (.int k (lo:Int))) fun l=>some (.slice (a.map fun p=>(p.1,p.2+l*s)) (x - l) (m - l) none))=_
 rw [cZ h,cZ h',cZ h'']
theorem zcL {k' k'':IntKind} (hu:P.underlying t=some (.slice e)) (hs:aC P e=some s) (h:mx<=c) (h':hi<=mx) :
  aU P t false true true [.slice a n c g,.int k' (hi:Int),.int k'' (mx:Int)]=some (.slice (a.map fun p=>(p.1,p.2+0*s)) (hi - 0) (mx - 0) none):=by
 show bZ P t (.slice a n c g) none (some (.int k' (hi:Int))) (some (.int k'' (mx:Int)))=_
 unfold bZ;rw [hu];simp only [hs]
 show bF 0 c (some (.int k'' (mx:Int))) (fun m=>bF 0 m (some (.int k' (hi:Int))) fun x=>some (.slice (a.map fun p=>(p.1,p.2+0*s)) (x - 0) (m - 0) none))=_
 rw [cZ h,cZ h']
end
def d7 (k:IntKind) (n:Int) (e:aG):Bool:=match e.key with
 | .int l m=>l==k&&m==n
 | _=>false
def gD (k:IntKind) (es:List aG):Prop:=∀ e,e∈es->∃ n,e.key=.int k n
theorem oN (hu:P.underlying t=some (.int k)) (n m:Int):bV P t (.int k n) (.int k m)=some (n==m):=by
 unfold bV;rw [hu]
 show qi k k (some (T1 n m))=_
 rw [cy,mB]
theorem uz (hu:P.underlying t=some (.int k)) (n:Int):∀ es:List aG,gD k es->gn (bV P t) (.int k n) es=some ((es.find? (d7 k n)).map (·.val))
 | [],_=>rfl
 | e::es,ha=>by
  obtain ⟨m,hm⟩:=ha e (List.mem_cons_self ..)
  have ih:=uz hu n es fun x hx=>ha x (List.mem_cons_of_mem _ hx)
  show (Option.rec (motive:=fun _=>Option (Option AV)) none (fun b=>Bool.rec (motive:=fun _=>Option (Option AV)) (gn (bV P t) (.int k n) es) (some (some e.val)) b) (bV P t (.int k n) e.key):Option (Option AV))=_
  rw [hm,oN hu,List.find?_cons]
  have hk:d7 k n e=(n==m):=by
   unfold d7;rw [hm]
   have hkk:(k==k)=true:=by cases k <;> rfl
   show (k==k&&m==n)=(n==m)
   rw [hkk,Bool.true_and]
   by_cases e:n=m
   ·subst e;rfl
   ·have e':¬m=n:=fun h=>e h.symm
    rw [show (m==n)=false from by simpa using e',show (n==m)=false from by simpa using e]
  rw [hk]
  cases n==m with
  | true=>rfl
  | false=>exact ih
theorem SH {kt:TypeId} {z:AV} {ok:Bool} (hu:P.underlying t=some (.map kt e)) (hk:P.underlying kt=some (.int k)) (hz:cd P e=some z) {h:ac} {b c:Nat} {es:List aG} (hb:h.bs.gt b=some (.map es c)) (ha:gD k es) (n:Int) :
  dY P t ok (.map (some b)) (.int k n) h=some (match es.find? (d7 k n) with | some x=>fN ok x.val true | none=>fN ok z false):=by
 unfold dY;rw [hu];simp only [hz]
 have hko:gP P kt (.int k n)=true:=by unfold gP;rw [hk];rfl
 rw [hko]
 show h.theMap b (fun es _=>Option.rec (motive:=fun _=>Option AV) none (fun r=>Option.rec (motive:=fun _=>Option AV) (some (fN ok z false)) (fun v=>some (fN ok v true)) r) (gn (bV P kt) (.int k n) es))=_
 unfold ac.theMap;rw [hb]
 show (Option.rec (motive:=fun _=>Option AV) none _ (gn (bV P kt) (.int k n) es):Option AV)=_
 rw [uz hk n es ha]
 cases es.find? (d7 k n) <;> rfl
def gw (k:IntKind) (n:Int) (v:AV) (clock:Nat):List aG->List aG
 | []=>[aG.mk (.int k n) v clock]
 | e::es=>if d7 k n e then aG.mk (.int k n) v e.born::es else e::gw k n v clock es
def qg (k:IntKind) (n:Int):List aG->List aG
 | []=>[]
 | e::es=>if d7 k n e then es else e::qg k n es
theorem Ac (hu:P.underlying t=some (.int k)) (n:Int) (v:AV):∀ es:List aG,gD k es->xz (bV P t) (.int k n) v es=some (if es.any (d7 k n) then some (gw k n v 0 es) else none)
 | [],_=>rfl
 | e::es,ha=>by
  obtain ⟨m,hm⟩:=ha e (List.mem_cons_self ..)
  have ih:=Ac hu n v es fun x hx=>ha x (List.mem_cons_of_mem _ hx)
  show (Option.rec (motive:=fun _=>Option (Option (List aG))) none (fun b=>Bool.rec (motive:=fun _=>Option (Option (List aG)))
   (Option.rec (motive:=fun _=>Option (Option (List aG))) none (fun o=>Option.rec (motive:=fun _=>Option (Option (List aG))) (some none) (fun l=>some (some (e::l))) o) (xz (bV P t) (.int k n) v es))
   (aV (AV.same (.int k n) e.key) (some (some (aG.mk (.int k n) v e.born::es)))) b) (bV P t (.int k n) e.key):Option (Option (List aG)))=_
  rw [hm,oN hu,ih]
  have hk:d7 k n e=(n==m):=by
   unfold d7;rw [hm]
   have hkk:(k==k)=true:=by cases k <;> rfl
   show (k==k&&m==n)=(n==m)
   rw [hkk,Bool.true_and]
   by_cases e:n=m
   ·subst e;rfl
   ·have e':¬m=n:=fun h=>e h.symm
    rw [show (m==n)=false from by simpa using e',show (n==m)=false from by simpa using e]
  rw [List.any_cons,hk]
  by_cases h:n=m
  ·subst h
   have hs:AV.same (.int k n) (.int k n)=true:=by simp [AV.same]
   have hp:gw k n v 0 (e::es)=aG.mk (.int k n) v e.born::es:=by rw [gw,hk];simp
   simp only [beq_self_eq_true,Bool.true_or,if_true,hs,hp]
   rfl
  ·have hb:(n==m)=false:=by simpa using h
   have hp:gw k n v 0 (e::es)=e::gw k n v 0 es:=by rw [gw,hk,hb];rfl
   rw [hb,Bool.false_or,hp]
   cases es.any (d7 k n) <;> rfl
theorem sF {k:IntKind} {n:Int} {v:AV} {c d:Nat}:∀ {es:List aG},es.any (d7 k n)=true->gw k n v c es=gw k n v d es
 | [],h=>by cases h
 | e::es,h=>by
  unfold gw
  cases hk:d7 k n e with
  | true=>rfl
  | false =>
   rw [List.any_cons,hk,Bool.false_or] at h
   rw [sF h]
theorem sG {k:IntKind} {n:Int} {v:AV} {c:Nat}:∀ {es:List aG},es.any (d7 k n)=false->gw k n v c es=es++[aG.mk (.int k n) v c]
 | [],_=>rfl
 | e::es,h=>by
  rw [List.any_cons,Bool.or_eq_false_iff] at h
  rw [gw,h.1,sG h.2];rfl
theorem zbZ {kt:TypeId} (hu:P.underlying t=some (.map kt e)) (hk:P.underlying kt=some (.int k)) {h:ac} {b c:Nat} {es:List aG} (hb:h.bs.gt b=some (.map es c)) (ha:gD k es) (n:Int) (v:AV) :
  gJ P t (.map (some b)) (.int k n) v h=some (aJ,h.put b (.map (gw k n v c es) (if es.any (d7 k n) then c else c+1))):=by
 unfold gJ;rw [hu]
 have hko:gP P kt (.int k n)=true:=by unfold gP;rw [hk];rfl
 simp only [hko]
 show h.theMap b (fun es clock=>Option.rec (motive:=fun _=>Option (AV×ac)) none
    (fun r=>Option.rec (motive:=fun _=>Option (AV×ac)) (some (aJ,h.put b (.map (dS es [aG.mk (.int k n) v clock]) (Nat.succ clock)))) (fun l=>some (aJ,h.put b (.map l clock))) r) (xz (bV P kt) (.int k n) v es))=_
 unfold ac.theMap;rw [hb]
 show (Option.rec (motive:=fun _=>Option (AV×ac)) none _ (xz (bV P kt) (.int k n) v es):Option (AV×ac))=_
 rw [Ac hk n v es ha]
 cases h1:es.any (d7 k n) with
 | true=>rw [if_pos rfl,if_pos rfl,sF (c:=c) (d:=0) h1]
 | false =>
  rw [sG (c:=c) h1,cj];rfl
theorem yK (hu:P.underlying t=some (.int k)) (n:Int):∀ es:List aG,gD k es->wt (bV P t) (.int k n) es=some (qg k n es)
 | [],_=>rfl
 | e::es,ha=>by
  obtain ⟨m,hm⟩:=ha e (List.mem_cons_self ..)
  have ih:=yK hu n es fun x hx=>ha x (List.mem_cons_of_mem _ hx)
  show (Option.rec (motive:=fun _=>Option (List aG)) none (fun b=>Bool.rec (motive:=fun _=>Option (List aG)) (Option.rec (motive:=fun _=>Option (List aG)) none (fun l=>some (e::l)) (wt (bV P t) (.int k n) es)) (some es) b) (bV P t (.int k n) e.key):Option (List aG))=_
  rw [hm,oN hu,ih]
  have hk:d7 k n e=(n==m):=by
   unfold d7;rw [hm]
   have hkk:(k==k)=true:=by cases k <;> rfl
   show (k==k&&m==n)=(n==m)
   rw [hkk,Bool.true_and]
   by_cases e:n=m
   ·subst e;rfl
   ·have e':¬m=n:=fun h=>e h.symm
    rw [show (m==n)=false from by simpa using e',show (n==m)=false from by simpa using e]
  rw [qg,hk]
  cases n==m <;> rfl
theorem zbV {kt:TypeId} (hu:P.underlying t=some (.map kt e)) (hk:P.underlying kt=some (.int k)) {h:ac} {b c:Nat} {es:List aG} (hb:h.bs.gt b=some (.map es c)) (ha:gD k es) (n:Int) :
  mJ P t (.map (some b)) (.int k n) h=some (aJ,h.put b (.map (qg k n es) c)):=by
 unfold mJ;rw [hu]
 have hko:gP P kt (.int k n)=true:=by unfold gP;rw [hk];rfl
 simp only [hko]
 show h.theMap b (fun es clock=>Option.rec (motive:=fun _=>Option (AV×ac)) none (fun l=>some (aJ,h.put b (.map l clock))) (wt (bV P kt) (.int k n) es))=_
 unfold ac.theMap;rw [hb]
 show (Option.rec (motive:=fun _=>Option (AV×ac)) none _ (wt (bV P kt) (.int k n) es):Option (AV×ac))=_
 rw [yK hk n es ha]
theorem zbX {kt:TypeId} (hu:P.underlying t=some (.map kt e)):ez P t true=some (.map [] 0,zj):=by unfold ez;rw [hu]
theorem jB {cs:List AV} (h1:cs.all AV.one=true):cV (.agg cs)=some (.cells (az cs .leaf 0) [] cs.length false,dy):=by
 show aV (bO cs) (some (rowBlk cs,dy))=_
 rw [bI,h1,mF];rfl
theorem lA {n:Nat} {h:ac} {b o:Nat} {cs:List AV} (hn:cs.length=n):eV n h (.ptr (some (b,o))) (.agg cs)=match h.sto b o cs with
  | none=>none
  | some h'=>some (aJ,h'):=by
 show (Bool.rec (motive:=fun _=>Option (AV×ac)) none (Option.rec (motive:=fun _=>Option (AV×ac)) none (fun h=>some (aJ,h)) (h.sto b o cs)) (Nat.beq (bp cs) n):Option (AV×ac))=_
 rw [aO,hn,Nat.beq_refl]
 cases h.sto b o cs <;> rfl
end
end Go.Am
namespace Go.Am
theorem Rw.alloc (h:ac) {id n:Nat} {vs z:List AV} {ro:Bool} (hid:h.next<=id) (hn:n=vs.length) :
  ∃ h1,h.new id (.cells (az vs .leaf 0) z n ro)=h1/\Rw h1 id vs z ro/\h1.next=id+1/\∀ c,c≠id->h1.bs.gt c=h.bs.gt c:=by
 subst hn
 obtain ⟨a,b,c⟩:=Rw.new (h:=h) (id:=id) (vs:=vs) (z:=z) (ro:=ro) hid
 exact ⟨_,rfl,a,b,c⟩
def mg (h:ac) (v:AV) (n s:Nat) (cs:List AV):Prop :=
 cs.length=n*s/\∃ a c g,v=.slice a n c g/\(a=none->n=0)/\∀ b o,a=some (b,o)->b<h.next/\h.ld b o (n*s)=some cs
def mX (h:ac) (v:AV) (n s:Nat) (cs:List AV):Prop :=
 cs.length=n*s/\∃ a c g,v=.slice a n c g/\(a=none->n=0)/\∀ b o,a=some (b,o)->b<h.next/\(0<n->h.ld b o (n*s)=some cs)
def iF (e s:Nat) (h:ac) (v:AV) (n:Nat) (cs:List AV) (bs:List Nat):Prop :=
 (v=.slice none 0 0 none/\n=0/\cs=[]/\bs=[]) ∨
 ∃ b c rest z,v=.slice (some (b,0)) n c (some s)/\cs.length=n*s/\(cs++rest).length=c*s/\n<=c/\Rw h b (cs++rest) z false/\b<h.next/\bs=[b]/\z=ay e false/\cs.all AV.one=true
section
variable {h h':ac} {v:AV} {n s e:Nat} {cs:List AV} {bs:List Nat}
theorem wJ {h:ac} {b o n:Nat} {cs:List AV} (hl:h.ld b o n=some cs):cs.length=n/\∀ j,j<n->h.ld1 b (o+j)=cs[j]?:=by
 obtain ⟨t,z,m,ro,h1,h2,h3,h4⟩:=lT hl
 refine ⟨h3,fun j hj=>?_⟩
 unfold ac.ld1 ac.cells
 rw [h1]
 show (Bool.rec (motive:=fun _=>Option AV) none (aR t z (o+j)) (Nat.ble (o+j+1) m):Option AV)=_
 rw [show Nat.ble (o+j+1) m=true from Nat.ble_eq_true_of_le (by omega)]
 exact h4 j hj
theorem mg.cell {a:Option (Nat×Nat)} {c:Nat} {g:Option Nat} (hv:mg h (.slice a n c g) n s cs) (hn:0<n):∃ b o,a=some (b,o)/\∀ j,j<n*s->h.ld1 b (o+j)=cs[j]?:=by
 obtain ⟨_,a',c',g',e,h1,h2⟩:=hv
 cases e
 cases a with
 | none=>have:=h1 rfl;omega
 | some p=>exact ⟨p.1,p.2,rfl,fun j hj=>(wJ (h2 p.1 p.2 rfl).2).2 j hj⟩
theorem mX.cell {a:Option (Nat×Nat)} {c:Nat} {g:Option Nat} (hv:mX h (.slice a n c g) n s cs) (hn:0<n):∃ b o,a=some (b,o)/\∀ j,j<n*s->h.ld1 b (o+j)=cs[j]?:=by
 obtain ⟨_,a',c',g',e,h1,h2⟩:=hv
 cases e
 cases a with
 | none=>have:=h1 rfl;omega
 | some p=>exact ⟨p.1,p.2,rfl,fun j hj=>(wJ ((h2 p.1 p.2 rfl).2 hn)).2 j hj⟩
theorem z6 {p:Nat×Nat} {c:Nat} {g:Option Nat}:cI s (fun n=>n) (.slice (some p) n c g) h=if n=0 then some ([],0) else match h.ld p.1 p.2 (n*s) with
  | none=>none
  | some vs=>some (vs,n):=by
 show (Bool.rec (motive:=fun _=>Option (List AV×Nat)) (Option.rec (motive:=fun _=>Option (List AV×Nat)) none (fun vs=>some (vs,n)) (h.ld p.1 p.2 (n*s))) (some ([],0)) (Nat.beq n 0):Option (List AV×Nat))=_
 cases n with
 | zero=>rfl
 | succ n =>
  rw [if_neg (by omega)]
  show (Option.rec (motive:=fun _=>Option (List AV×Nat)) none (fun vs=>some (vs,n+1)) (h.ld p.1 p.2 ((n+1)*s)):Option (List AV×Nat))=_
  cases h.ld p.1 p.2 ((n+1)*s) <;> rfl
theorem mg.src (hv:mg h v n s cs):cI s (fun n=>n) v h=some (cs,n):=by
 obtain ⟨h0,a,c,g,rfl,h1,h2⟩:=hv
 cases a with
 | none =>
  obtain rfl:=h1 rfl
  rw [Nat.zero_mul] at h0
  rw [List.eq_nil_of_length_eq_zero h0];rfl
 | some p =>
  rw [z6]
  by_cases h0':n=0
  ·subst h0'
   rw [Nat.zero_mul] at h0
   rw [if_pos rfl,List.eq_nil_of_length_eq_zero h0]
  ·rw [if_neg h0',(h2 p.1 p.2 rfl).2]
theorem eS {b o c:Nat} {g:Option Nat} {vs z:List AV} {ro:Bool} (hr:Rw h b vs z ro) (hi:o+n*s<=vs.length):cI s (fun n=>n) (.slice (some (b,o)) n c g) h=some ((vs.drop o).take (n*s),n):=by
 rw [z6]
 by_cases h0:n=0
 ·subst h0
  rw [if_pos rfl,Nat.zero_mul,List.take_zero]
 ·rw [if_neg h0]
  show (match h.ld b o (n*s) with | none=>none | some vs=>some (vs,n))=_
  rw [hr.ld hi]
theorem iF.els (ho:iF e s h v n cs bs):mg h v n s cs:=by
 rcases ho with ⟨rfl,rfl,rfl,rfl⟩|⟨b,c,rest,z,rfl,h1,_,_,h2,hlt,_,_,_⟩
 ·exact ⟨by simp,none,0,none,rfl,fun _=>rfl,fun _ _ e=>by cases e⟩
 ·refine ⟨h1,some (b,0),c,some s,rfl,(fun e=>by cases e),fun b' o e=>?_⟩
  cases e
  exact ⟨hlt,by rw [h2.ld (by rw [List.length_append];omega),List.drop_zero,← h1,List.take_left' rfl]⟩
theorem mg.same {h':ac} {b o c:Nat} {g:Option Nat} (hv:mg h (.slice (some (b,o)) n c g) n s cs) (hb:h'.bs.gt b=h.bs.gt b) (hn:h.next<=h'.next):mg h' (.slice (some (b,o)) n c g) n s cs:=by
 obtain ⟨h0,a,c',g',e,h1,h2⟩:=hv
 cases e
 refine ⟨h0,_,_,_,rfl,h1,fun b' o' e=>?_⟩
 cases e
 refine ⟨Nat.lt_of_lt_of_le (h2 b o rfl).1 hn,?_⟩
 rw [← (h2 b o rfl).2]
 unfold ac.ld ac.cells
 rw [hb]
theorem mg.lt {b o c:Nat} {g:Option Nat} (hv:mg h (.slice (some (b,o)) n c g) n s cs):b<h.next:=by
 obtain ⟨_,_,_,_,e,_,h2⟩:=hv
 cases e
 exact (h2 b o rfl).1
theorem iF.lt (ho:iF e s h v n cs bs):∀ b,b∈bs->b<h.next:=by
 rcases ho with ⟨_,_,_,rfl⟩|⟨b,c,rest,z,_,_,_,_,_,hlt,rfl,_,_⟩
 ·intro b hb;cases hb
 ·intro b' hb;rw [List.mem_singleton] at hb;subst hb;exact hlt
theorem iF.same (ho:iF e s h v n cs bs) (hb:∀ b,b∈bs->h'.bs.gt b=h.bs.gt b) (hn:h.next<=h'.next):iF e s h' v n cs bs:=by
 rcases ho with h0|⟨b,c,rest,z,h1,h2,h3,h4,h5,h6,rfl,h7,h8⟩
 ·exact .inl h0
 ·exact .inr ⟨b,c,rest,z,h1,h2,h3,h4,h5.same (hb b (List.mem_singleton.2 rfl)),Nat.lt_of_lt_of_le h6 hn,rfl,h7,h8⟩
theorem iF.sm {F:Nat->Prop} (ho:iF e s h v n cs bs) (hs:Sm F h h') (hF:∀ b,b∈bs->¬F b):iF e s h' v n cs bs :=
 ho.same (fun b hb=>hs.2 b (ho.lt b hb) (hF b hb)) hs.1
theorem iF.nil {h:ac}:iF e s h (.slice none 0 0 none) 0 [] []:=.inl ⟨rfl,rfl,rfl,rfl⟩
theorem eO {by' need:Nat} (h:need*by'<=68719476736) (h':need<=68719476736):gy by' need=true:=by
 unfold gy
 rw [ax,Bool.and_eq_true]
 exact ⟨Nat.ble_eq_true_of_le h,Nat.ble_eq_true_of_le h'⟩
theorem uA (e:Nat):rG e (ay e false)=true:=by
 show (Bool.rec (motive:=fun _=>Bool) (Nat.beq e e) false false:Bool)=true
 exact Nat.beq_refl e
theorem K7 (e:Nat):qe (ay e false)=ay e false:=rfl
theorem jf {size need id:Nat} {z:List AV} {h:ac} {cs:List AV} (h1:cs.all AV.one=true):dT size need z id h cs=some (.slice (some (id,0)) need need (some size),h.new id (.cells (az cs .leaf 0) z cs.length false)):=by
 unfold dT;rw [bI,h1,aO];rfl
theorem jA {P:Program} {t:TypeId} {k by' m len:Nat} {zv x:AV} {ys:List AV} (hu:P.underlying t=some (.slice e)) (hs:aC P e=some (k+1)) (hb:cF P e=some by') (hz:cd P e=some zv) (hzl:zv.cells.length=k+1)
  (hsrc:cI (k+1) (fun n=>n) x h=some (ys,m)) (hyl:ys.length=m*(k+1)) (hr:gy by' (len+m)=true) (a:Option (Nat×Nat)) (cap:Nat) (g:Option Nat) (id:Nat) :
  aS P t (.slice a len cap g) x id h=if m=0 then some (.slice a len cap g,h) else je (k+1) e a len cap g id h ys m:=by
 unfold aS
 rw [hu]
 simp only [hs,hb,hz,Option.map_some,Option.getD_some,aO,hzl,Nat.beq_refl]
 show (Option.rec (motive:=fun _=>Option (AV×ac)) none (fun src=>aV (bT (gy by' (Nat.add len src.2)) (Nat.beq src.1.length (Nat.mul src.2 (k+1)))) (Nat.rec (motive:=fun _=>Option (AV×ac)) (some (_,h)) (fun _ _=>je (k+1) e a len cap g id h src.1 src.2) src.2)) (cI (k+1) (fun n=>n) x h):Option (AV×ac))=_
 rw [hsrc]
 show aV (bT (gy by' (len+m)) (Nat.beq ys.length (m*(k+1)))) (Nat.rec (motive:=fun _=>Option (AV×ac)) (some (.slice a len cap g,h)) (fun _ _=>je (k+1) e a len cap g id h ys m) m)=_
 rw [hr,hyl,Nat.beq_refl]
 cases m <;> rfl
theorem xJ {P:Program} {t:TypeId} {k by' m b id:Nat} {zv x:AV} {ys:List AV} (hu:P.underlying t=some (.slice e)) (hs:aC P e=some (k+1)) (hb:cF P e=some by') (hz:cd P e=some zv) (hzl:zv.cells.length=k+1)
  (hsrc:cI (k+1) (fun n=>n) x h=some (ys,m)) (hyl:ys.length=m*(k+1)) (hy1:ys.all AV.one=true) (hr:gy by' (0+m)=true) (hb0:h.ld b 0 0=some []) :
  aS P t (.slice (some (b,0)) 0 0 none) x id h=if m=0 then some (.slice (some (b,0)) 0 0 none,h) else some (.slice (some (id,0)) m m (some (k+1)),h.new id (.cells (az ys .leaf 0) (ay e false) ys.length false)):=by
 rw [jA hu hs hb hz hzl hsrc hyl hr]
 cases m with
 | zero=>rfl
 | succ m =>
  rw [if_neg (by omega),if_neg (by omega)]
  have e1:je (k+1) e (some (b,0)) 0 0 none id h ys (m+1)=Option.rec (motive:=fun _=>Option (AV×ac)) none (fun old=>dT (k+1) (0+(m+1)) (ay e false) id h (dS old ys)) (h.ld b 0 (0*(k+1))):=rfl
  rw [e1,Nat.zero_mul,hb0,Nat.zero_add]
  show dT (k+1) (m+1) (ay e false) id h (dS [] ys)=_
  rw [cj,List.nil_append,jf hy1]
theorem za2 {P:Program} {t:TypeId} {k by' m b o len cap id:Nat} {g:Option Nat} {zv x:AV} {ys vs z:List AV} (hu:P.underlying t=some (.slice e)) (hs:aC P e=some (k+1)) (hb:cF P e=some by') (hz:cd P e=some zv) (hzl:zv.cells.length=k+1)
  (hsrc:cI (k+1) (fun n=>n) x h=some (ys,m)) (hyl:ys.length=m*(k+1)) (hy1:ys.all AV.one=true) (hr:gy by' (len+m)=true) (hrw:Rw h b vs z false) (hle:len+m<=cap) (hin:o+len*(k+1)+ys.length<=vs.length) :
  ∃ h',aS P t (.slice (some (b,o)) len cap g) x id h=some (.slice (some (b,o)) (len+m) cap g,h')/\Rw h' b (eD vs (o+len*(k+1)) ys) z false/\h'.next=h.next/\∀ c,c≠b->h'.bs.gt c=h.bs.gt c:=by
 rw [jA hu hs hb hz hzl hsrc hyl hr]
 cases m with
 | zero =>
  rw [Nat.zero_mul] at hyl
  obtain rfl:=List.eq_nil_of_length_eq_zero hyl
  refine ⟨h,by rw [if_pos rfl,Nat.add_zero],?_,rfl,fun _ _=>rfl⟩
  have:eD vs (o+len*(k+1)) []=vs:=by unfold eD;simp
  rw [this];exact hrw
 | succ m =>
  obtain ⟨s1,s2,s3,s4⟩:=hrw.sto hin hy1
  refine ⟨_,?_,s2,s3,s4⟩
  rw [if_neg (by omega)]
  show (Bool.rec (motive:=fun _=>Option (AV×ac)) _ (ju (.slice (some (b,o)) (len+(m+1)) cap g) (h.sto b (o+len*(k+1)) ys)) (Nat.ble (len+(m+1)) cap):Option (AV×ac))=_
  rw [show Nat.ble (len+(m+1)) cap=true from Nat.ble_eq_true_of_le hle,s1];rfl
theorem R5 {P:Program} {t:TypeId} {b o len cap:Nat} {g:Option Nat} {zv:AV} {vs z:List AV} (hu:P.underlying t=some (.slice e)) (hz:cd P e=some zv) (hrw:Rw h b vs z false) (hin:o+(List.replicate len zv.cells).flatten.length<=vs.length) (h1:zv.cells.all AV.one=true) :
  ∃ h',oA P t (.slice (some (b,o)) len cap g) h=some (aJ,h')/\Rw h' b (eD vs o (List.replicate len zv.cells).flatten) z false/\h'.next=h.next/\∀ c,c≠b->h'.bs.gt c=h.bs.gt c:=by
 have hall:(List.replicate len zv.cells).flatten.all AV.one=true:=by
  rw [List.all_eq_true] at h1 ⊢
  intro x hx
  obtain ⟨l,hl,hxl⟩:=List.mem_flatten.1 hx
  rw [(List.mem_replicate.1 hl).2] at hxl
  exact h1 x hxl
 obtain ⟨s1,s2,s3,s4⟩:=hrw.sto hin hall
 refine ⟨_,?_,s2,s3,s4⟩
 unfold oA
 rw [hu];simp only [hz]
 show ju aJ (h.sto b o (ua len zv.cells))=_
 rw [nP,s1];rfl
theorem CJ {P:Program} {t:TypeId} {k by' m id:Nat} {zv x:AV} {ys:List AV} (hu:P.underlying t=some (.slice e)) (hs:aC P e=some (k+1)) (hb:cF P e=some by') (hz:cd P e=some zv) (hzl:zv.cells.length=k+1)
  (ho:iF e (k+1) h v n cs bs) (hsrc:cI (k+1) (fun n=>n) x h=some (ys,m)) (hm:0<m) (hyl:ys.length=m*(k+1)) (hy1:ys.all AV.one=true) (hr:gy by' (n+m)=true) (hid:h.next<=id) :
  ∃ v' h' bs',aS P t v x id h=some (v',h')/\iF e (k+1) h' v' (n+m) (cs++ys) bs'/\h.next<=h'.next/\(∀ c,c∉bs->c≠id->h'.bs.gt c=h.bs.gt c)/\(∀ b,b∈bs'->b∈bs∨b=id)/\(h'.next=h.next∨h'.next=id+1):=by
 have hdef:∀ a len cap g,v=.slice a len cap g->len=n->aS P t v x id h=je (k+1) e a len cap g id h ys m:=by
  rintro a len cap g rfl rfl
  obtain ⟨m',rfl⟩:∃ m',m=m'+1:=⟨m - 1,by omega⟩
  unfold aS
  rw [hu]
  simp only [hs,hb,hz,Option.map_some,Option.getD_some,aO,hzl,Nat.beq_refl]
  show (Option.rec (motive:=fun _=>Option (AV×ac)) none (fun src=>aV (bT (gy by' (Nat.add len src.2)) (Nat.beq src.1.length (Nat.mul src.2 (k+1)))) (Nat.rec (motive:=fun _=>Option (AV×ac)) (some (_,h)) (fun _ _=>je (k+1) e a len cap g id h src.1 src.2) src.2)) (cI (k+1) (fun n=>n) x h):Option (AV×ac))=_
  rw [hsrc]
  show aV (bT (gy by' (len+(m'+1))) (Nat.beq ys.length ((m'+1)*(k+1)))) (je (k+1) e a len cap g id h ys (m'+1))=_
  rw [hr,hyl,Nat.beq_refl];rfl
 rcases ho with ⟨rfl,rfl,rfl,rfl⟩|⟨b,c,rest,z,rfl,h1,h2,h3,h4,h5,rfl,rfl,h8⟩
 ·have hn:=Rw.new (h:=h) (id:=id) (vs:=ys) (z:=ay e false) (ro:=false) hid
  refine ⟨.slice (some (id,0)) m m (some (k+1)),h.new id (.cells (az ys .leaf 0) (ay e false) ys.length false),[id],(hdef none 0 0 none rfl rfl).trans ?_,?_,?_,?_,?_,?_⟩
  ·show aV (Nat.beq 0 0) (dT (k+1) m (ay e false) id h ys)=_
   rw [jf hy1];rfl
  ·refine .inr ⟨id,m,[],_,by rw [Nat.zero_add],by rw [List.nil_append,hyl,Nat.zero_add],by rw [List.append_nil,List.nil_append,hyl],by omega,by rw [List.append_nil,List.nil_append];exact hn.1,by rw [hn.2.1];omega,rfl,rfl,by rw [List.nil_append];exact hy1⟩
  ·rw [cM hid];omega
  ·intro c _ hc;rw [bX hid,if_neg hc]
  ·intro b hb;exact .inr (List.mem_singleton.1 hb)
  ·exact .inr (cM hid _)
 ·rw [hdef _ _ _ _ rfl rfl]
  by_cases hle:n+m<=c
  · 
   have hroom:(n*(k+1))+ys.length<=(cs++rest).length:=by
    rw [h2,hyl,← Nat.add_mul];exact Nat.mul_le_mul_right _ hle
   obtain ⟨s1,s2,s3,s4⟩:=h4.sto hroom hy1
   refine ⟨.slice (some (b,0)) (n+m) c (some (k+1)),h.wr b (n*(k+1)) ys,[b],?_,?_,by rw [s3];exact Nat.le_refl _,fun c' hc' _=>s4 c' (fun e=>hc' (List.mem_singleton.2 e)),fun b hb=>.inl hb,.inl s3⟩
   ·show (Bool.rec (motive:=fun _=>Option (AV×ac)) _ (ju (.slice (some (b,0)) (n+m) c (some (k+1))) (h.sto b (0+n*(k+1)) ys)) (Nat.ble (n+m) c):Option (AV×ac))=_
    rw [show Nat.ble (n+m) c=true from Nat.ble_eq_true_of_le hle,Nat.zero_add,s1];rfl
   ·refine .inr ⟨b,c,rest.drop ys.length,_,rfl,by rw [List.length_append,h1,hyl,Nat.add_mul],?_,hle,?_,by rw [s3];exact h5,rfl,rfl,by rw [List.all_append,h8,hy1];rfl⟩
    ·rw [List.length_append] at hroom h2
     rw [List.length_append,List.length_append,List.length_drop];omega
    ·have:eD (cs++rest) (n*(k+1)) ys=cs++ys++rest.drop ys.length:=by
      unfold eD
      rw [← h1,List.take_left',List.append_assoc]
      ·congr 2
       rw [List.drop_append,List.drop_eq_nil_of_le (by omega),List.nil_append,Nat.add_sub_cancel_left]
      ·rfl
     rw [this] at s2;exact s2
  · 
   have hn:=Rw.new (h:=h.put b .dead) (id:=id) (vs:=cs++ys) (z:=ay e false) (ro:=false) hid
   have hall:(cs++ys).all AV.one=true:=by rw [List.all_append,h8,hy1];rfl
   have hnn:¬b=id:=by omega
   obtain ⟨tr,g1,g2⟩:=h4
   have htail:∀ (y:cX),((h.put b .dead).new id y).next=id+1/\∀ c,c≠b->c≠id->((h.put b .dead).new id y).bs.gt c=h.bs.gt c:=fun y =>
    ⟨cM (h:=h.put b .dead) hid y,fun c hc hc'=>by rw [bX (h:=h.put b .dead) hid,if_neg hc',bA,if_neg hc]⟩
   have hfull:∀ (y:cX),Rw ((h.put b .dead).new id y) id (cs++ys) (ay e false) false->je (k+1) e (some (b,0)) n c (some (k+1)) id h ys m=some (.slice (some (id,0)) (n+m) (n+m) (some (k+1)),(h.put b .dead).new id y) ->
     ∃ v' h' bs',je (k+1) e (some (b,0)) n c (some (k+1)) id h ys m=some (v',h')/\iF e (k+1) h' v' (n+m) (cs++ys) bs'/\h.next<=h'.next/\(∀ c,c∉[b]->c≠id->h'.bs.gt c=h.bs.gt c)/\(∀ b',b'∈bs'->b'∈[b]∨b'=id)/\(h'.next=h.next∨h'.next=id+1):=fun y hy he=>by
    refine ⟨_,_,[id],he,.inr ⟨id,n+m,[],_,rfl,by rw [List.length_append,h1,hyl,Nat.add_mul],by rw [List.append_nil,List.length_append,h1,hyl,Nat.add_mul],Nat.le_refl _,by rw [List.append_nil];exact hy,by rw [(htail y).1];omega,rfl,rfl,hall⟩,by rw [(htail y).1];omega,fun c hc hc'=>(htail y).2 c (fun e=>hc (List.mem_singleton.2 e)) hc',fun b' hb'=>.inr (List.mem_singleton.1 hb'),.inr (htail y).1⟩
   have hdead:je (k+1) e (some (b,0)) n c (some (k+1)) id h ys m=fG (k+1) (n+m) e 0 n m ys b id h:=by
    show (Bool.rec (motive:=fun _=>Option (AV×ac)) (aV (Nat.beq (k+1) (k+1)) (fG (k+1) (n+m) e 0 n m ys b id h)) _ (Nat.ble (n+m) c):Option (AV×ac))=_
    rw [show Nat.ble (n+m) c=false from by cases hb:Nat.ble (n+m) c with | false=>rfl | true=>exact absurd (Nat.le_of_ble_eq_true hb) hle]
    show aV (Nat.beq (k+1) (k+1)) _=_
    rw [Nat.beq_refl];rfl
   have hcell:∀ {β : Type} (f:Tr AV->List AV->Nat->Bool->Option β),h.cells b f=f tr (ay e false) (cs++rest).length false:=fun f=>by unfold ac.cells;rw [g1]
   by_cases hfit:n*(k+1)=(cs++rest).length
   ·refine hfull (.cells (az ys tr (cs++rest).length) (ay e false) ((cs++rest).length+m*(k+1)) false) ?_ ?_
    ·have hrest:rest=[]:=by
      rw [List.length_append,h1] at hfit
      exact List.eq_nil_of_length_eq_zero (by omega)
     subst hrest
     rw [List.append_nil] at g1 g2 hfit ⊢
     refine ⟨az ys tr cs.length,?_,fun i hi=>?_⟩
     ·rw [bX (h:=h.put b .dead) hid,if_pos rfl,List.length_append,hyl]
     ·unfold aR
      rw [cr]
      rw [List.length_append] at hi
      by_cases hin:cs.length<=i/\i<cs.length+ys.length
      ·rw [if_pos hin,List.getElem?_append_right hin.1,List.getElem?_eq_getElem (by omega)]
      ·rw [if_neg hin,List.getElem?_append_left (by omega)]
       exact g2 i (by omega)
    ·rw [hdead]
     unfold fG
     rw [hcell]
     show aV (bT (bT (fM false) (bO ys)) (rG e (ay e false))) (Bool.rec (motive:=fun _=>Option (AV×ac)) _ _ (bT (Nat.beq 0 0) (Nat.beq (n*(k+1)) (cs++rest).length)):Option (AV×ac))=_
     rw [uA,bI,hy1,show Nat.beq (n*(k+1)) (cs++rest).length=true from by rw [hfit];exact Nat.beq_refl _];rfl
   ·refine hfull _ hn.1 ?_
    rw [hdead]
    unfold fG
    rw [hcell]
    show aV (bT (bT (fM false) (bO ys)) (rG e (ay e false))) (Bool.rec (motive:=fun _=>Option (AV×ac)) (Option.rec (motive:=fun _=>Option (AV×ac)) none (fun old=>dT (k+1) (n+m) (qe (ay e false)) id (h.put b .dead) (dS old ys)) (h.ld b 0 (n*(k+1)))) _ (bT (Nat.beq 0 0) (Nat.beq (n*(k+1)) (cs++rest).length)):Option (AV×ac))=_
    have hld:h.ld b 0 (n*(k+1))=some cs:=by
     rw [Rw.ld (h:=h) (b:=b) (vs:=cs++rest) (z:=ay e false) (ro:=false) ⟨tr,g1,g2⟩ (by rw [List.length_append,h1];omega),List.drop_zero,← h1,List.take_left' rfl]
    rw [uA,bI,hy1,hld,show Nat.beq (n*(k+1)) (cs++rest).length=false from by cases hb:Nat.beq (n*(k+1)) (cs++rest).length with | false=>rfl | true=>exact absurd (Nat.eq_of_beq_eq_true hb) hfit]
    show dT (k+1) (n+m) (qe (ay e false)) id (h.put b .dead) (dS cs ys)=_
    rw [K7,cj,jf hall]
end
end Go.Am
namespace Go.Am
section
variable {P:Program} {keep:aK}
theorem tR {prims:Prims} {lf n:Nat} (hm:P.follows .mixedOrders=true) (hn:NamesOk P) (hpr:PrimsOk P keep prims) {f:FuncId} {args:List AV} {avs:Array Value} {b:Bool} {h h':ac} {ρ : aL} {w:World}
  (hr:callN P keep prims lf n (.fn f) args h=some (.bool b,h')) (hh:HR P keep ρ h w) (hv:bH ρ args avs.toList) (hfix:∀ c x,h.bs.gt c=some x->x.fixed=true) :
  Calls P f avs w fun e w'=>e=.returned (.bool b)/\w'.os=w.os/\w'.output=w.output/\w.heap.size<=w'.heap.size/\∀ k,k<w.heap.size->w'.heap[k]?=w.heap[k]?:=by
 have h1:=(kF (lf:=lf) hm hn hpr n (.fn f) args h _ hr ρ w avs.toList hh hv).2
 rw [Array.toArray_toList] at h1
 refine callsIn_wide.1 (CallsIn.mono (F:=Fence.wide) h1 fun e w' hR=>?_)
 cases e with
 | returned v =>
  obtain ⟨ρ',hv',hp⟩:=hR
  refine ⟨by rw [show v=.bool b from hv'],hp.fr.os,hp.fr.output,hp.fr.size,fun k hk=>hp.fr.sameW k hk ?_⟩
  rintro ⟨c,x,p,hx,hf,_⟩
  rw [hfix c x hx] at hf;cases hf
 | panicked chain=>exact hR.elim
 | outgrown=>exact hR.elim
end
structure dh where
 cs:Option (List AV)
 at':Pl
noncomputable def uE (x:dh):Option cX:=x.cs.map fun cs=>.cells (az cs .leaf 0) [] cs.length true
noncomputable def xK:List dh->Nat->Tr cX
 | [],_=>.leaf
 | x::l,i=>(xK l (i+1)).up (uE x) i
noncomputable def Jr (l:List dh):ac:=⟨xK l 0,l.length⟩
def vn (l:List dh):aL:=fun b=>(l[b]?).map dh.at'
theorem nh:∀ (l:List dh) (i j:Nat),(xK l i).gt j=if i<=j then (l[j - i]?).bind uE else none
 | [],i,j=>by
  rw [xK,Tr.gt_leaf];simp
 | x::l,i,j=>by
  rw [xK,Tr.gt_up,nh l (i+1) j]
  by_cases e:j=i
  ·subst e;simp
  ·rw [if_neg e]
   by_cases h:i+1<=j
   ·rw [if_pos h,if_pos (by omega),show j - i=(j - (i+1))+1 by omega,List.getElem?_cons_succ]
   ·rw [if_neg h,if_neg (by omega)]
def Xd (w:World) (ρ : aL) (x:dh):Prop:=∀ cs,x.cs=some cs->∃ c e fz,w.heap[x.at'.blk]?=some (.cells c e fz)/\c.size=x.at'.size/\x.at'.off+cs.length<=x.at'.size /\
 ∀ i v,cs[i]?=some v->v.one=true/\∃ cv,c[x.at'.off+i]?=some cv/\VR ρ v cv
theorem Uh {P:Program} {keep:aK} {w:World} {l:List dh} (h:∀ x,x∈l->Xd w (vn l) x):HR P keep (vn l) (Jr l) w:=by
 have get:∀ b x,(Jr l).bs.gt b=some x->∃ y cs,l[b]?=some y/\y.cs=some cs/\x=.cells (az cs .leaf 0) [] cs.length true:=by
  intro b x hx
  have hx:(xK l 0).gt b=some x:=hx
  rw [nh,if_pos (Nat.zero_le _),Nat.sub_zero] at hx
  cases hy:l[b]? with
  | none=>rw [hy] at hx;cases hx
  | some y =>
   rw [hy] at hx
   have hx:uE y=some x:=hx
   unfold uE at hx
   cases hc:y.cs with
   | none=>rw [hc] at hx;cases hx
   | some cs=>rw [hc] at hx;cases hx;exact ⟨y,cs,rfl,hc,rfl⟩
 refine ⟨fun b p hb=>?_,fun b x hx=>?_,fun b x hx=>?_,fun b b' x x' p p' hx hx' hd hd' hro=>?_⟩
 ·unfold vn at hb
  cases hy:l[b]? with
  | none=>rw [hy] at hb;cases hb
  | some y=>exact (List.getElem?_eq_some_iff.1 hy).1
 ·obtain ⟨y,cs,h1,_⟩:=get b x hx
  exact (List.getElem?_eq_some_iff.1 h1).1
 ·obtain ⟨y,cs,h1,h2,rfl⟩:=get b x hx
  obtain ⟨c,e,fz,g1,g2,g3,g4⟩:=h y (List.mem_of_getElem? h1) cs h2
  refine ⟨y.at',c,e,fz,by unfold vn;rw [h1];rfl,g1,g2,g3,fun i hi=>?_,(fun e=>by cases e),ie⟩
  obtain ⟨q1,cv,q2,q3⟩:=g4 i cs[i] (List.getElem?_eq_getElem hi)
  exact ⟨cs[i],cv,by rw [em _ _ _ hi];exact List.getElem?_eq_getElem hi,q1,q2,q3⟩
 ·obtain ⟨_,_,_,_,rfl⟩:=get b x hx
  obtain ⟨_,_,_,_,rfl⟩:=get b' x' hx'
  rcases hro with h | h <;> cases h
theorem AF (l:List dh):∀ c x,(Jr l).bs.gt c=some x->x.fixed=true:=by
 intro b x hx
 have hx:(xK l 0).gt b=some x:=hx
 rw [nh,if_pos (Nat.zero_le _),Nat.sub_zero] at hx
 cases hy:l[b]? with
 | none=>rw [hy] at hx;cases hx
 | some y =>
  rw [hy] at hx
  have hx:uE y=some x:=hx
  unfold uE at hx
  cases hc:y.cs with
  | none=>rw [hc] at hx;cases hx
  | some cs=>rw [hc] at hx;cases hx;rfl
theorem Ui {l:List dh} {b:Nat} {cs:List AV} {p:Pl} (h:l[b]?=some ⟨some cs,p⟩):Rw (Jr l) b cs [] true:=by
 refine ⟨az cs .leaf 0,?_,fun i hi=>em _ _ _ hi⟩
 show (xK l 0).gt b=_
 rw [nh,if_pos (Nat.zero_le _),Nat.sub_zero,h];rfl
theorem CK {l:List dh} {b:Nat} {x:dh} (h:l[b]?=some x):b<(Jr l).next:=(List.getElem?_eq_some_iff.1 h).1
section
open Go.ChangeShapes Go.WideShapes
end
end Go.Am
namespace Go.Am
noncomputable section
theorem fW {call:an} {lf nt:Nat} {f:FuncId} {t i:Nat} {ps:List Nat} {A B:Code} {k:List Wt} {tm:Tr AV} {h:ac} {Q:XQ} {cap:List AV} (ht:tm.gt t=some (.func (.func i) [] cap))
  (hc:WC (call (.fn i) (.func (.yield h.next) [] []::cap) (h.new h.next (.loop ⟨.ready,none,f,tm.up none nt,ps,A,B⟩))) fun _ h1=>∃ b,h1.bs.gt h.next=some (.loop b)/\b.st≠.busy /\
   match b.pending with
   | none=>ret call lf nt f none .normal k tm (h1.put h.next (.loop {b with st:=.exhausted })) Q
   | some c=>∃ e,kT c=some e/\ret call lf nt f none e k tm (h1.put h.next (.loop {b with st:=.exhausted })) Q) :
  run call lf nt f none (.rangeF (.tmp t) ps A B) k tm h Q:=by
 obtain ⟨v,h1,e,b,hb,hst,hp⟩:=hc
 have hx:aZ call lf nt f none (.rangeF (.tmp t) ps A B) ⟨tm,h⟩=(h1.theLoop h.next fun b=>match b.st with
   | .busy=>none
   | _=>match b.pending with
    | none=>some (.normal,⟨tm,h1.put h.next (.loop {b with st:=.exhausted })⟩)
    | some c=>ob (kT c) fun e=>some (e,⟨tm,h1.put h.next (.loop {b with st:=.exhausted })⟩):XR):=by
  show ob (tm.gt t) (fun fv=>lw call nt f none ps A B ⟨tm,h⟩ fv)=_
  rw [ht]
  show ob (call (.fn i) (.func (.yield h.next) [] []::cap) (h.new h.next (.loop ⟨.ready,none,f,tm.up none nt,ps,A,B⟩))) _=_
  rw [e]
  rfl
 unfold run
 rw [hx,fl hb]
 cases hs:b.st with
 | busy=>exact absurd hs hst
 | ready | done | exhausted =>
  cases hpp:b.pending with
  | none=>rw [hpp] at hp;exact hp
  | some c =>
   rw [hpp] at hp
   obtain ⟨e',g1,g2⟩:=hp
   show (match (ob (kT c) (fun e=>_):XR) with | some (e,s)=>nR _ Q k e s.tm s.hp | none=>False)
   rw [g1]
   exact g2
def oF (e:Ex) (b:fE):AV×fE:=match e with
 | .normal=>(.bool true,{b with st:=.ready,pending:=none })
 | .ret=>(.bool false,{b with st:=.done,pending:=some .ret })
 | .exit id=>(.bool false,{b with st:=.done,pending:=some (.exit id) })
 | .goto t=>(.bool false,{b with st:=.done,pending:=some (.goto t) })
theorem gU {P:Program} {keep:aK} {prims:Prims} {lf n l nt:Nat} {args:List AV} {h:ac} {b:fE} {CA CB:AC} {tm':Tr AV} (Q:AV->ac->Prop) (hb:h.bs.gt l=some (.loop b)) (hn:aD P b.fn=nt) (hs:pV nt b.params args b.tm=some tm') (hk:keep b.fn nt=false) (ho:b.tm.gt nt=none)
  (hA:bu P (keep b.fn) nt b.assign=CA) (hB:bu P (keep b.fn) nt b.body=CB)
  (hrun:∀ QA:XQ,(∀ tm2 h2 b2,h2.bs.gt l=some (.loop b2)->b2.st=.ready ->
    (∀ QB:XQ,(∀ e tm3 h3 b3,h3.bs.gt l=some (.loop b3)->b3.st=.busy->Q (oF e b3).1 (h3.put l (.loop (oF e b3).2))->QB e tm3 h3)->run (callN P keep prims lf n) lf nt b.fn (some l) CB [] tm2 (h2.put l (.loop {b2 with st:=.busy })) QB)->QA .normal tm2 h2) ->
   run (callN P keep prims lf n) lf nt b.fn (some l) CA [] tm' h QA) :
  WC (callN P keep prims lf (n+1) (.loop l) args h) Q:=by
 subst hn
 have h1:=hrun (fun e tm2 h2=>e=.normal/\∃ b2,h2.bs.gt l=some (.loop b2)/\b2.st=.ready /\
  run (callN P keep prims lf n) lf (aD P b.fn) b.fn (some l) CB [] tm2 (h2.put l (.loop {b2 with st:=.busy })) fun e tm3 h3=>∃ b3,h3.bs.gt l=some (.loop b3)/\b3.st=.busy/\Q (oF e b3).1 (h3.put l (.loop (oF e b3).2)))
  (fun tm2 h2 b2 g1 g2 g5=>⟨rfl,b2,g1,g2,g5 _ fun e tm3 h3 b3 k1 k2 k3=>⟨b3,k1,k2,k3⟩⟩)
 unfold run at h1
 show WC (mi P keep lf (callN P keep prims lf n) l args h) Q
 unfold mi
 rw [fl hb,hs]
 show WC (aV (bT (fM (keep b.fn (aD P b.fn))) (nK b.tm (aD P b.fn))) _) Q
 rw [hk,show nK b.tm (aD P b.fn)=true from by unfold nK;rw [ho]]
 show WC (ob (aZ (callN P keep prims lf n) lf (aD P b.fn) b.fn (some l) (bu P (keep b.fn) (aD P b.fn) b.assign) ⟨tm',h⟩) _) Q
 rw [hA]
 cases he:aZ (callN P keep prims lf n) lf (aD P b.fn) b.fn (some l) CA ⟨tm',h⟩ with
 | none=>rw [he] at h1;exact h1.elim
 | some r =>
  rw [he] at h1
  obtain ⟨e,s⟩:=r
  obtain ⟨e0,b2,g1,g2,g5⟩:=h1
  cases e0
  show WC (s.hp.theLoop l _) Q
  rw [fl g1]
  show WC (match b2.st with
    | .ready=>ob (aZ (callN P keep prims lf n) lf (aD P b.fn) b.fn (some l) (bu P (keep b.fn) (aD P b.fn) b.body) ⟨s.tm,s.hp.put l (.loop {b2 with st:=.busy })⟩) fun r=>endRound l r
    | _=>none) Q
  rw [g2]
  show WC (ob (aZ (callN P keep prims lf n) lf (aD P b.fn) b.fn (some l) (bu P (keep b.fn) (aD P b.fn) b.body) ⟨s.tm,s.hp.put l (.loop {b2 with st:=.busy })⟩) fun r=>endRound l r) Q
  rw [hB]
  cases he2:aZ (callN P keep prims lf n) lf (aD P b.fn) b.fn (some l) CB ⟨s.tm,s.hp.put l (.loop {b2 with st:=.busy })⟩ with
  | none=>rw [he2] at g5;exact g5.elim
  | some r2 =>
   rw [he2] at g5
   obtain ⟨e,s2⟩:=r2
   obtain ⟨b3,k1,k2,k3⟩:=g5
   have hend:endRound l (e,s2)=some ((oF e b3).1,s2.hp.put l (.loop (oF e b3).2)):=by
    show s2.hp.theLoop l _=_
    rw [fl k1]
    show (match b3.st with | .busy=>_ | _=>none)=_
    rw [k2]
    cases e <;> rfl
   exact ⟨_,_,hend,k3⟩
end
end Go.Am
/- A part of the proof of the law PoolLoads. -/
import Derived.Test.YtboobbebilegnaaGreatLoWalkA
set_option linter.unusedVariables false
set_option linter.unusedSimpArgs false
set_option linter.constructorNameAsVariable false
set_option linter.defProp false
set_option maxRecDepth 20000

namespace Go.Proofs.YtboobbebilegnaaGreat
open Go.Am
set_option maxRecDepth 10000
theorem call_prim {P:Program} {keep:Keeps} {prims:Prims} {lf n:Nat} {f:FuncId} {args:List AV} {h:Heap} {r:Res} (hp:prims.fn f args h=some r):callN P keep prims lf (n+1) (.fn f) args h=r:=by
 show (Option.rec (motive:=fun _=>Res) _ (fun r=>r) (prims.fn f args h):Res)=r
 rw [hp]
theorem bornB_mk {clock:Nat}:∀ {es:List MEnt},bornOk es clock->bornB clock es=true
 | [],_=>rfl
 | e::es,h=>by
  obtain ⟨p1,p2⟩:=List.pairwise_cons.1 h.2
  have hin:∀ l:List MEnt,(∀ d,d∈l->e.born≠d.born)->bornIn e.born l=true:=by
   intro l
   induction l with
   | nil=>intro _;rfl
   | cons d l ih =>
    intro hd
    show and' (notB (Nat.beq e.born d.born)) (bornIn e.born l)=true
    have h1:=hd d (List.mem_cons_self ..)
    have h2:Nat.beq e.born d.born=false:=by
     cases hb:Nat.beq e.born d.born with
     | false=>rfl
     | true=>exact absurd (Nat.eq_of_beq_eq_true hb) h1
    rw [h2,and'_eq,ih fun x hx=>hd x (List.mem_cons_of_mem _ hx)];rfl
  show and' (and' (Nat.ble (e.born+1) clock) (bornIn e.born es)) (bornB clock es)=true
  rw [show Nat.ble (e.born+1) clock=true from Nat.ble_eq_true_of_le (h.1 e (List.mem_cons_self ..)),hin es p1,bornB_mk ⟨fun x hx=>h.1 x (List.mem_cons_of_mem _ hx),p2⟩];rfl
theorem fine_u {es:List MEnt} (h:AllInt .u32 es):fineB suFine es=true:=by
 induction es with
 | nil=>rfl
 | cons e es ih =>
  obtain ⟨n,hn⟩:=h e (List.mem_cons_self ..)
  show and' (suFine e.key) (fineB suFine es)=true
  rw [hn,ih fun x hx=>h x (List.mem_cons_of_mem _ hx)];rfl
theorem sort_nil0:∃ r,SC 41 (.fn 95) [.slice none 0 0 none] ⟨.leaf,0⟩=some r:=⟨(.tuple [],⟨.leaf,0⟩),by kernel_rfl⟩
theorem Ents.keys {es:List MEnt} {L:List Ch} (h:Ents es L):es.map (·.key)=(L.map Ch.id).map en:=by
 have:=congrArg (List.map Prod.fst) h
 simp only [List.map_map] at this
 rw [List.map_map]
 exact this
theorem skeys_ok {m:Nat} (hm:1<=m) {h:Heap} {cb mb k:Nat} {es:List MEnt} {L R:List Ch} (hc:h.ld1 cb 0=some (.map (some mb))) (hmb:h.bs.gt mb=some (.map es k)) (he:EntsB k es L) (hr:Rel L R) (hl:L.length<=1000) :
  C m (.fn 113) [.func (.func 152) [] [.ptr (some (cb,0))]] h=some (if R=[] then (.slice none 0 0 none,h) else (.slice (some (h.next,0)) R.length R.length (some 1),h.new h.next (.cells (fillC ((R.map Ch.id).map u) .leaf 0) [] ((R.map Ch.id).map u).length false))):=by
 obtain ⟨m,rfl⟩:∃ m',m=m'+1:=⟨m - 1,by omega⟩
 have hsr:=sortedR_ok (n:=41) (by decide) (gs:=[152]) (bs:=4) (fine:=suFine) (g:=152) (l:=L.map Ch.id) rfl hc hmb he.e.keys (bornB_mk he.b) (fine_u he.e.all) (room_le (by rw [List.length_map];omega) (by rw [List.length_map];omega)) (by rw [List.length_map];omega) sort_nil0
 rw [hr.sortIds] at hsr
 have hp:prW.fn 113 [.func (.func 152) [] [.ptr (some (cb,0))]] h=some (sortedR (SC 41) 95 [152] 1 4 ltU suFine (.func (.func 152) [] [.ptr (some (cb,0))]) h):=rfl
 refine (call_prim (P:=P) (keep:=keepF P) (lf:=100000) hp).trans ?_
 rw [hsr]
 congr 1
 have hlen:(L.map Ch.id).length=R.length:=by rw [List.length_map,hr.len]
 by_cases e:R=[]
 ·have eL:L.map Ch.id=[]:=by rw [List.eq_nil_iff_length_eq_zero,hlen,e];rfl
  rw [if_pos e,if_pos eL]
 ·have eL:¬L.map Ch.id=[]:=fun h'=>e (List.eq_nil_of_length_eq_zero (by rw [← hlen,h'];rfl))
  rw [if_neg e,if_neg eL,hlen]
section
variable {h:Heap} {tb:Nat} {L R:List Ch} {next:Int} {F:Nat->Prop}
theorem TabAt.ok (ht:TabAt h tb L next F):∃ B,TabOk L next B:=by obtain ⟨_,_,_,_,B,_,_,_,_,_,t5,_⟩:=ht.ex;exact ⟨B,t5⟩
theorem TabAt.nxt (ht:TabAt h tb L next F):h.ld1 tb 2=some (u next):=by
 obtain ⟨mb,x,es,k,B,X,t1,_⟩:=ht.ex
 rw [t1.ld1];rfl
theorem tmay_full {n:Nat} (hn:5<=n) (ht:TabAt h tb L next F) {s:List Nat} (hl:s.length<=1000) (hb:Byts s) :
  WC (C n (.fn 156) [.ptr (some (tb,0)),.str s] h) fun r h'=>Sm NoB h h'/\((s.length<1∨64<s.length)/\r=.int .i64 4∨¬(s.length<1∨64<s.length)/\((∃ c,fdL L s=some c)/\r=.int .i64 6∨fdL L s=none/\r=.int .i64 0)):=by
 obtain ⟨m,rfl⟩:∃ m,n=m+1:=⟨n - 1,by omega⟩
 refine call_fn _ f156A rfl (by simp [fn156]) fun QQ hQ=>?_
 simp only [fn156] at hQ
 simp only [fn156,fill_cons,fill_nil,Nat.zero_add,Nat.reduceAdd]
 by_cases c0:s=[]
 ·subst c0
  simp only [F156,SS,Nat.reduceBEq,Nat.reduceEqDiff,Nat.reduceAdd,reduceIte,Nat.reduceMul,w_undef]
  refine hQ _ _ _ _ (.inr rfl) (by simp only [SS,Nat.reduceBEq]) (by simp only [SS,Nat.reduceBEq,Nat.reduceEqDiff,Nat.reduceAdd,reduceIte,Nat.reduceMul];rfl) ?_
  exact ⟨Sm.refl _ _,.inl ⟨.inl (by simp),rfl⟩⟩
 have hpos:1<=s.length:=by cases s with | nil=>exact absurd rfl c0 | cons _ _=>simp
 by_cases c1:64<s.length
 ·have d1:(64:Int)<(s.length:Int):=by omega
  simp only [F156,x_len_9,c0,d1,SS,Nat.reduceBEq,Nat.reduceEqDiff,Nat.reduceAdd,reduceIte,Nat.reduceMul,w_undef]
  refine hQ _ _ _ _ (.inr rfl) (by simp only [SS,Nat.reduceBEq]) (by simp only [SS,Nat.reduceBEq,Nat.reduceEqDiff,Nat.reduceAdd,reduceIte,Nat.reduceMul];rfl) ?_
  exact ⟨Sm.refl _ _,.inl ⟨.inr c1,rfl⟩⟩
 have d1:¬(64:Int)<(s.length:Int):=by omega
 obtain ⟨_,h1,ea,s1,rfl⟩:=tFind_ok (n:=m) (by omega) ht (s:=s) hl hb
 cases hd:fdL L s with
 | some c =>
  rw [hd] at ea
  simp only [F156,x_len_9,c0,d1,ea,SS,Nat.reduceBEq,Nat.reduceEqDiff,Nat.reduceAdd,reduceIte,Nat.reduceMul,w_undef]
  refine hQ _ _ _ _ (.inr rfl) (by simp only [SS,Nat.reduceBEq]) (by simp only [SS,Nat.reduceBEq,Nat.reduceEqDiff,Nat.reduceAdd,reduceIte,Nat.reduceMul];rfl) ?_
  exact ⟨s1,.inr ⟨by omega,.inl ⟨⟨c,hd⟩,rfl⟩⟩⟩
 | none =>
  rw [hd] at ea
  simp only [F156,x_len_9,c0,d1,ea,SS,Nat.reduceBEq,Nat.reduceEqDiff,Nat.reduceAdd,reduceIte,Nat.reduceMul,w_undef]
  refine hQ _ _ _ _ (.inr rfl) (by simp only [SS,Nat.reduceBEq]) (by simp only [SS,Nat.reduceBEq,Nat.reduceEqDiff,Nat.reduceAdd,reduceIte,Nat.reduceMul];rfl) ?_
  exact ⟨s1,.inr ⟨by omega,.inr ⟨hd,rfl⟩⟩⟩
theorem tnext_ok {n:Nat} (hn:2<=n) (ht:TabAt h tb L next F):WC (C n (.fn 84) [.ptr (some (tb,0))] h) fun r h'=>h'=h/\r=u next:=by
 obtain ⟨m,rfl⟩:∃ m,n=m+1:=⟨n - 1,by omega⟩
 refine call_fn _ f84A rfl (by simp [fn84]) fun QQ hQ=>?_
 simp only [fn84] at hQ
 simp only [fn84,fill_cons,fill_nil,Nat.zero_add,Nat.reduceAdd]
 obtain ⟨_,h0,ea,e0,rfl⟩:=tis_ok (n:=m) (by omega) ht
 subst e0
 have l2:=ht.nxt
 simp only [F84,ea,x_fa_177_2,l2,SS,Nat.reduceBEq,Nat.reduceEqDiff,Nat.reduceAdd,reduceIte,Nat.reduceMul]
 refine hQ _ _ _ _ (.inr rfl) (by simp only [SS,Nat.reduceBEq]) (by simp only [SS,Nat.reduceBEq,Nat.reduceEqDiff,Nat.reduceAdd,reduceIte,Nat.reduceMul];rfl) ?_
 exact ⟨rfl,rfl⟩
theorem tskip_ok {n:Nat} (hn:2<=n) (ht:TabAt h tb L next F) (x:Int) (hx:0<=x/\x<=4294967295):WC (C n (.fn 74) [.ptr (some (tb,0)),u x] h) fun r h'=>TabAt h' tb L (max next x) F/\Sm F h h':=by
 obtain ⟨m,rfl⟩:∃ m,n=m+1:=⟨n - 1,by omega⟩
 refine call_fn _ f74A rfl (by simp [fn74]) fun QQ hQ=>?_
 simp only [fn74] at hQ
 simp only [fn74,fill_cons,fill_nil,Nat.zero_add,Nat.reduceAdd]
 obtain ⟨_,h0,ea,e0,rfl⟩:=tis_ok (n:=m) (by omega) ht
 subst e0
 have l2:=ht.nxt
 have hlt:=ht.lt
 obtain ⟨mb,xx,es,k,B,X,t1,t2,t3,t4,t5,hmb,hne,hx1,hx2,rfl⟩:=ht.ex
 obtain ⟨w1,w2,w3,w4⟩:=t1.st1 (o:=2) (v:=u (max next x)) (by simp) rfl
 rw [show ([.map (some mb),.ptr (some (xx,0)),u next]:List AV).set 2 (u (max next x))=[.map (some mb),.ptr (some (xx,0)),u (max next x)] from rfl] at w2
 simp only [F74,ea,x_fa_177_2,l2,w1,SS,Nat.reduceBEq,Nat.reduceEqDiff,Nat.reduceAdd,reduceIte,Nat.reduceMul]
 refine hQ _ _ _ _ (.inl rfl) (by simp only [SS,Nat.reduceBEq]) (by simp only [SS,Nat.reduceBEq,Nat.reduceEqDiff,Nat.reduceAdd,reduceIte,Nat.reduceMul];rfl) ?_
 have hnx:=t5.next
 have hs:Sm (·= tb) h0 (h0.wr tb 2 [u (max next x)]):=⟨by omega,fun c _ hc=>w4 c hc⟩
 refine ⟨⟨⟨mb,xx,es,k,B,X,w2,(w4 mb (fun e=>hne e.symm)).trans t2,t3,t4.sm hs (fun b hb e=>hx1 (e▸hb)),⟨t5.ids,t5.datas,fun c hc=>?_,by omega,t5.inB,t5.ofB,t5.ndB,t5.len⟩,by omega,hne,hx1,hx2,rfl⟩,by omega⟩,hs.mono fun c _ hc=>.inl hc⟩
 have:=t5.ch c hc
 refine ⟨this.1,by omega,this.2.2⟩
end
end Go.Proofs.YtboobbebilegnaaGreat
namespace Go.Proofs.YtboobbebilegnaaGreat
open Go.Am
set_option maxRecDepth 10000
section
variable {h:Heap} {tb:Nat} {L R:List Ch} {next:Int} {F:Nat->Prop}
theorem tload_ok {n:Nat} (hn:6<=n) (ht:TabAt h tb L next F) (id:Int) (hid:0<=id/\id<=4294967295) {s:List Nat} (block refs:Int) (hl:s.length<=1000) (hb:Byts s) (hlen:L.length<=1000) :
  WC (C n (.fn 130) [.ptr (some (tb,0)),u id,.str s,.int .i64 block,.int .i64 refs] h) fun r h' =>
   (id=0∨id=4294967295)/\r=.int .i64 2/\Sm NoB h h'∨¬(id=0∨id=4294967295)/\((s.length<1∨64<s.length∨refs<1∨65535<refs)/\r=.int .i64 4/\Sm NoB h h'∨¬(s.length<1∨64<s.length∨refs<1∨65535<refs) /\
    (((∃ c,gtL L id=some c)∨∃ c,fdL L s=some c)/\r=.int .i64 6/\Sm NoB h h'∨gtL L id=none/\fdL L s=none/\r=.int .i64 0/\∃ F',TabAt h' tb (L++[⟨id,s,block,refs⟩]) (max next (id+1)) F'/\Sm F h h'/\∀ b,F' b->F b∨h.next<=b)):=by
 obtain ⟨m,rfl⟩:∃ m,n=m+1:=⟨n - 1,by omega⟩
 refine call_fn _ f130A rfl (by simp [fn130]) fun QQ hQ=>?_
 simp only [fn130] at hQ
 simp only [fn130,fill_cons,fill_nil,Nat.zero_add,Nat.reduceAdd]
 obtain ⟨_,h0,ea,e0,rfl⟩:=tis_ok (n:=m) (by omega) ht
 subst e0
 by_cases c0:id=0
 ·subst c0
  simp only [F130,SS,Nat.reduceBEq,Nat.reduceEqDiff,Nat.reduceAdd,reduceIte,Nat.reduceMul,ea,w_undef]
  refine hQ _ _ _ _ (.inr rfl) (by simp only [SS,Nat.reduceBEq]) (by simp only [SS,Nat.reduceBEq,Nat.reduceEqDiff,Nat.reduceAdd,reduceIte,Nat.reduceMul];rfl) ?_
  exact .inl ⟨.inl rfl,rfl,Sm.refl _ _⟩
 by_cases c1:id=4294967295
 ·subst c1
  simp only [F130,SS,Nat.reduceBEq,Nat.reduceEqDiff,Nat.reduceAdd,reduceIte,Nat.reduceMul,ea,c0,w_undef]
  refine hQ _ _ _ _ (.inr rfl) (by simp only [SS,Nat.reduceBEq]) (by simp only [SS,Nat.reduceBEq,Nat.reduceEqDiff,Nat.reduceAdd,reduceIte,Nat.reduceMul];rfl) ?_
  exact .inl ⟨.inr rfl,rfl,Sm.refl _ _⟩
 have cid:¬(id=0∨id=4294967295):=by omega
 obtain ⟨rm,h1,eb,s1,hcase⟩:=tmay_full (n:=m) (by omega) ht hl hb
 have ht1:=ht.sm s1 (fun _ _ h=>h)
 obtain ⟨mb,x,es,k,B,X,t1,t2,t3,_⟩:=ht1.ex
 obtain ⟨h2,e2,r2,n2,g2⟩:=Rw.alloc h1 (id:=h1.next) (n:=3) (vs:=[.str [],.int .i64 0,.int .i64 0]) (z:=tyMark 183 true) (ro:=false) (Nat.le_refl _) rfl
 obtain ⟨vb,sd,b0,q0,hlk,hvb⟩:∃ vb sd b0 q0,lookup2 P 173 true (.map (some mb)) (u id) h1=some (.tuple [.agg [.str sd,.int .i64 b0,.int .i64 q0],.bool vb])/\(vb=true/\(∃ c,gtL L id=some c)∨vb=false/\gtL L id=none):=by
  cases hg:gtL L id with
  | none=>exact ⟨false,_,_,_,lkT_none t2 t3.e hg,.inr ⟨rfl,rfl⟩⟩
  | some c=>exact ⟨true,_,_,_,lkT_some t2 t3.e hg,.inl ⟨rfl,c,rfl⟩⟩
 obtain ⟨w1,w2,w3,w4⟩:=r2.sto (o:=0) (us:=[.str sd,.int .i64 b0,.int .i64 q0]) (by simp) rfl
 have hs1:=s1.1
 obtain ⟨h3,e3⟩:∃ h3,h2.wr h1.next 0 [.str sd,.int .i64 b0,.int .i64 q0]=h3:=⟨_,rfl⟩
 rw [e3] at w1 w3 w4
 have s3:Sm NoB h1 h3:=⟨by omega,fun b hb hF=>by rw [w4 b (by omega),g2 b (by omega)]⟩
 have s03:Sm NoB h0 h3:=s1.trans s3 (fun _ _ h=>h) (fun _ _ h=>h)
 have k64:¬(6:Int)=4:=by decide
 have k04:¬(0:Int)=4:=by decide
 have k60:¬(6:Int)=0:=by decide
 obtain ⟨e,rfl,hcs⟩:∃ e:Int,rm=AV.int .i64 e/\((s.length<1∨64<s.length)/\e=4∨¬(s.length<1∨64<s.length)/\((∃ c,fdL L s=some c)/\e=6∨fdL L s=none/\e=0)):=by
  rcases hcase with ⟨q,rfl⟩|⟨q,⟨q2,rfl⟩|⟨q2,rfl⟩⟩
  ·exact ⟨4,rfl,.inl ⟨q,rfl⟩⟩
  ·exact ⟨6,rfl,.inr ⟨q,.inl ⟨q2,rfl⟩⟩⟩
  ·exact ⟨0,rfl,.inr ⟨q,.inr ⟨q2,rfl⟩⟩⟩
 by_cases c2:e=4
 ·have hq:s.length<1∨64<s.length:=by
   rcases hcs with ⟨q,_⟩|⟨_,⟨_,q⟩|⟨_,q⟩⟩
   ·exact q
   ·omega
   ·omega
  subst c2
  simp only [F130,SS,Nat.reduceBEq,Nat.reduceEqDiff,Nat.reduceAdd,reduceIte,Nat.reduceMul,ea,c0,c1,w_undef,eb,x_fa_177_0,t1.ld1,hlk,x_al_183,e2,w1]
  refine hQ _ _ _ _ (.inr rfl) (by simp only [SS,Nat.reduceBEq]) (by simp only [SS,Nat.reduceBEq,Nat.reduceEqDiff,Nat.reduceAdd,reduceIte,Nat.reduceMul];rfl) ?_
  exact .inr ⟨cid,.inl ⟨by omega,rfl,s03⟩⟩
 have hq:¬(s.length<1∨64<s.length):=by
  rcases hcs with ⟨_,q⟩|⟨q,_⟩
  ·exact absurd q c2
  ·exact q
 by_cases c3:refs<1
 ·simp only [F130,SS,Nat.reduceBEq,Nat.reduceEqDiff,Nat.reduceAdd,reduceIte,Nat.reduceMul,ea,c0,c1,w_undef,eb,x_fa_177_0,t1.ld1,hlk,x_al_183,e2,w1,c2,c3]
  refine hQ _ _ _ _ (.inr rfl) (by simp only [SS,Nat.reduceBEq]) (by simp only [SS,Nat.reduceBEq,Nat.reduceEqDiff,Nat.reduceAdd,reduceIte,Nat.reduceMul];rfl) ?_
  exact .inr ⟨cid,.inl ⟨by omega,rfl,s03⟩⟩
 by_cases c4:65535<refs
 ·simp only [F130,SS,Nat.reduceBEq,Nat.reduceEqDiff,Nat.reduceAdd,reduceIte,Nat.reduceMul,ea,c0,c1,w_undef,eb,x_fa_177_0,t1.ld1,hlk,x_al_183,e2,w1,c2,c3,c4]
  refine hQ _ _ _ _ (.inr rfl) (by simp only [SS,Nat.reduceBEq]) (by simp only [SS,Nat.reduceBEq,Nat.reduceEqDiff,Nat.reduceAdd,reduceIte,Nat.reduceMul];rfl) ?_
  exact .inr ⟨cid,.inl ⟨by omega,rfl,s03⟩⟩
 have hq2:¬(s.length<1∨64<s.length∨refs<1∨65535<refs):=by omega
 by_cases c5:e=0
 ·have hd:fdL L s=none:=by
   rcases hcs with ⟨_,q⟩|⟨_,⟨_,q⟩|⟨q,_⟩⟩
   ·exact absurd q c2
   ·omega
   ·exact q
  subst c5
  rcases hvb with ⟨rfl,hg⟩|⟨rfl,hg⟩
  ·simp only [F130,SS,Nat.reduceBEq,Nat.reduceEqDiff,Nat.reduceAdd,reduceIte,Nat.reduceMul,ea,c0,c1,w_undef,eb,x_fa_177_0,t1.ld1,hlk,x_al_183,e2,w1,c2,c3,c4]
   refine hQ _ _ _ _ (.inr rfl) (by simp only [SS,Nat.reduceBEq]) (by simp only [SS,Nat.reduceBEq,Nat.reduceEqDiff,Nat.reduceAdd,reduceIte,Nat.reduceMul];rfl) ?_
   exact .inr ⟨cid,.inr ⟨hq2,.inl ⟨.inl hg,rfl,s03⟩⟩⟩
  ·obtain ⟨_,h4,ec,rfl,F',ht4,s4,f4⟩:=tput_ok (n:=m) (by omega) (ht1.sm s3 (fun _ _ h=>h)) ⟨id,s,block,refs⟩ (by show 1<=id;omega) (by show id<_;omega) hg hd (by show 1<=s.length;omega) (by show s.length<=64;omega) hb (by show 1<=refs;omega) (by show refs<=65535;omega) (by omega)
   unfold Ch.val at ec
   simp only at ec
   simp only [F130,SS,Nat.reduceBEq,Nat.reduceEqDiff,Nat.reduceAdd,reduceIte,Nat.reduceMul,ea,c0,c1,w_undef,eb,x_fa_177_0,t1.ld1,hlk,x_al_183,e2,w1,c2,c3,c4,x_bd_183_0_1_2,ec]
   refine hQ _ _ _ _ (.inr rfl) (by simp only [SS,Nat.reduceBEq]) (by simp only [SS,Nat.reduceBEq,Nat.reduceEqDiff,Nat.reduceAdd,reduceIte,Nat.reduceMul];rfl) ?_
   exact .inr ⟨cid,.inr ⟨hq2,.inr ⟨hg,hd,rfl,F',ht4,s03.trans s4 (fun _ _ h=>h.elim) (fun _ _ h=>h),fun b hb=>(f4 b hb).imp (fun h9=>h9) fun h9=>Nat.le_trans s03.1 h9⟩⟩⟩
 ·have hd:∃ c,fdL L s=some c:=by
   rcases hcs with ⟨_,q⟩|⟨_,⟨q,_⟩|⟨_,q⟩⟩
   ·exact absurd q c2
   ·exact q
   ·exact absurd q c5
  simp only [F130,SS,Nat.reduceBEq,Nat.reduceEqDiff,Nat.reduceAdd,reduceIte,Nat.reduceMul,ea,c0,c1,w_undef,eb,x_fa_177_0,t1.ld1,hlk,x_al_183,e2,w1,c2,c3,c4,c5]
  refine hQ _ _ _ _ (.inr rfl) (by simp only [SS,Nat.reduceBEq]) (by simp only [SS,Nat.reduceBEq,Nat.reduceEqDiff,Nat.reduceAdd,reduceIte,Nat.reduceMul];rfl) ?_
  exact .inr ⟨cid,.inr ⟨hq2,.inl ⟨.inr hd,rfl,s03⟩⟩⟩
end
end Go.Proofs.YtboobbebilegnaaGreat
namespace Go.Proofs.YtboobbebilegnaaGreat
open Go.Am
set_option maxRecDepth 10000
section
variable {h:Heap} {rb:Nat} {R L:List Ch} {next:Int} {bs:List Nat}
theorem rload_ok {n:Nat} (hn:2<=n) (hr:RefAt h rb R next bs) (hrel:Rel L R) (hl:R.length<=1000) (id:Int) (hid:0<=id/\id<=4294967295) (s:List Nat) (block refs:Int) :
  WC (C n (.fn 77) [.ptr (some (rb,0)),.agg [u id,.str s,.int .i64 block,.int .i64 refs]] h) fun r h' =>
   (id=0∨id=4294967295)/\r=.int .i64 2/\Sm NoB h h'∨¬(id=0∨id=4294967295)/\((s.length<1∨64<s.length∨refs<1∨65535<refs)/\r=.int .i64 4/\Sm NoB h h'∨¬(s.length<1∨64<s.length∨refs<1∨65535<refs) /\
    (((∃ c,gtL L id=some c)∨∃ c,fdL L s=some c)/\r=.int .i64 6/\Sm NoB h h'∨gtL L id=none/\fdL L s=none/\r=.int .i64 0/\∃ bs',RefAt h' rb (insR ⟨id,s,block,refs⟩ R) (max next (id+1)) bs'/\Sm (·= rb) h h'/\∀ b,b∈bs'->h.next<=b)):=by
 obtain ⟨m,rfl⟩:∃ m,n=m+1:=⟨n - 1,by omega⟩
 refine call_fn _ f77A rfl (by simp [fn77]) fun QQ hQ=>?_
 simp only [fn77] at hQ
 simp only [fn77,fill_cons,fill_nil,Nat.zero_add,Nat.reduceAdd]
 obtain ⟨h1,e1,rx,n1,g1⟩:=Rw.alloc h (id:=h.next) (n:=4) (vs:=[u id,.str s,.int .i64 block,.int .i64 refs]) (z:=[]) (ro:=false) (Nat.le_refl _) rfl
 have s1:Sm NoB h h1:=⟨by omega,fun c hc _=>g1 c (by omega)⟩
 have hr1:=hr.no s1
 have i0:=rx.ld1 0
 have i1:=rx.ld1 1
 have i3:=rx.ld1 3
 have i4:=rx.ld (i:=0) (n:=4) (by simp)
 simp only [List.getElem?_cons_zero,List.getElem?_cons_succ,List.drop_zero] at i0 i1 i3 i4
 rw [show ([u id,.str s,.int .i64 block,.int .i64 refs]:List AV).take 4=[u id,.str s,.int .i64 block,.int .i64 refs] from rfl] at i4
 by_cases c0:id=0
 ·subst c0
  simp only [F77,SS,Nat.reduceBEq,Nat.reduceEqDiff,Nat.reduceAdd,reduceIte,Nat.reduceMul,e1,x_fa_143_0,x_fa_143_1,x_fa_143_3,i0,w_undef]
  refine hQ _ _ _ _ (.inr rfl) (by simp only [SS,Nat.reduceBEq]) (by simp only [SS,Nat.reduceBEq,Nat.reduceEqDiff,Nat.reduceAdd,reduceIte,Nat.reduceMul];rfl) ?_
  exact .inl ⟨.inl rfl,rfl,s1⟩
 by_cases c1:id=4294967295
 ·subst c1
  simp only [F77,SS,Nat.reduceBEq,Nat.reduceEqDiff,Nat.reduceAdd,reduceIte,Nat.reduceMul,e1,x_fa_143_0,x_fa_143_1,x_fa_143_3,i0,c0,w_undef]
  refine hQ _ _ _ _ (.inr rfl) (by simp only [SS,Nat.reduceBEq]) (by simp only [SS,Nat.reduceBEq,Nat.reduceEqDiff,Nat.reduceAdd,reduceIte,Nat.reduceMul];rfl) ?_
  exact .inl ⟨.inr rfl,rfl,s1⟩
 have cid:¬(id=0∨id=4294967295):=by omega
 by_cases c2:s.length<1
 ·have d2:(s.length:Int)<1:=by omega
  simp only [F77,SS,Nat.reduceBEq,Nat.reduceEqDiff,Nat.reduceAdd,reduceIte,Nat.reduceMul,e1,x_fa_143_0,x_fa_143_1,x_fa_143_3,i0,i1,i3,c0,c1,x_len_9,d2,w_undef]
  refine hQ _ _ _ _ (.inr rfl) (by simp only [SS,Nat.reduceBEq]) (by simp only [SS,Nat.reduceBEq,Nat.reduceEqDiff,Nat.reduceAdd,reduceIte,Nat.reduceMul];rfl) ?_
  exact .inr ⟨cid,.inl ⟨.inl c2,rfl,s1⟩⟩
 have d2:¬(s.length:Int)<1:=by omega
 by_cases c3:64<s.length
 ·have d3:(64:Int)<(s.length:Int):=by omega
  simp only [F77,SS,Nat.reduceBEq,Nat.reduceEqDiff,Nat.reduceAdd,reduceIte,Nat.reduceMul,e1,x_fa_143_0,x_fa_143_1,x_fa_143_3,i0,i1,i3,c0,c1,x_len_9,d2,d3,w_undef]
  refine hQ _ _ _ _ (.inr rfl) (by simp only [SS,Nat.reduceBEq]) (by simp only [SS,Nat.reduceBEq,Nat.reduceEqDiff,Nat.reduceAdd,reduceIte,Nat.reduceMul];rfl) ?_
  exact .inr ⟨cid,.inl ⟨.inr (.inl c3),rfl,s1⟩⟩
 have d3:¬(64:Int)<(s.length:Int):=by omega
 by_cases c4:refs<1
 ·simp only [F77,SS,Nat.reduceBEq,Nat.reduceEqDiff,Nat.reduceAdd,reduceIte,Nat.reduceMul,e1,x_fa_143_0,x_fa_143_1,x_fa_143_3,i0,i1,i3,c0,c1,x_len_9,d2,d3,c4,w_undef]
  refine hQ _ _ _ _ (.inr rfl) (by simp only [SS,Nat.reduceBEq]) (by simp only [SS,Nat.reduceBEq,Nat.reduceEqDiff,Nat.reduceAdd,reduceIte,Nat.reduceMul];rfl) ?_
  exact .inr ⟨cid,.inl ⟨.inr (.inr (.inl c4)),rfl,s1⟩⟩
 by_cases c5:65535<refs
 ·simp only [F77,SS,Nat.reduceBEq,Nat.reduceEqDiff,Nat.reduceAdd,reduceIte,Nat.reduceMul,e1,x_fa_143_0,x_fa_143_1,x_fa_143_3,i0,i1,i3,c0,c1,x_len_9,d2,d3,c4,c5,w_undef]
  refine hQ _ _ _ _ (.inr rfl) (by simp only [SS,Nat.reduceBEq]) (by simp only [SS,Nat.reduceBEq,Nat.reduceEqDiff,Nat.reduceAdd,reduceIte,Nat.reduceMul];rfl) ?_
  exact .inr ⟨cid,.inl ⟨.inr (.inr (.inr c5)),rfl,s1⟩⟩
 have hq:¬(s.length<1∨64<s.length∨refs<1∨65535<refs):=by omega
 obtain ⟨ra,h2,e2,rfl,hA⟩:=rat_ok (n:=m) (by omega) hr1 hl id
 have hA:=firstI hrel hA
 obtain ⟨rf,h3,e3,rfl,hF⟩:=rfd_ok (n:=m) (by omega) hr1 hl s
 have hF:=firstD hrel hF
 cases hg:gtL L id with
 | some c =>
  rw [hg] at hA
  obtain ⟨i,_,rfl⟩:=hA
  have d4:(0:Int)<=(i:Int):=by omega
  simp only [F77,SS,Nat.reduceBEq,Nat.reduceEqDiff,Nat.reduceAdd,reduceIte,Nat.reduceMul,e1,x_fa_143_0,x_fa_143_1,x_fa_143_3,i0,i1,i3,c0,c1,x_len_9,d2,d3,c4,c5,e2,d4,w_undef]
  refine hQ _ _ _ _ (.inr rfl) (by simp only [SS,Nat.reduceBEq]) (by simp only [SS,Nat.reduceBEq,Nat.reduceEqDiff,Nat.reduceAdd,reduceIte,Nat.reduceMul];rfl) ?_
  exact .inr ⟨cid,.inr ⟨hq,.inl ⟨.inl ⟨c,hg⟩,rfl,s1⟩⟩⟩
 | none =>
  rw [hg] at hA
  subst hA
  have d4:¬(0:Int)<=-1:=by decide
  cases hd:fdL L s with
  | some c =>
   rw [hd] at hF
   obtain ⟨i,_,rfl⟩:=hF
   have d5:(0:Int)<=(i:Int):=by omega
   simp only [F77,SS,Nat.reduceBEq,Nat.reduceEqDiff,Nat.reduceAdd,reduceIte,Nat.reduceMul,e1,x_fa_143_0,x_fa_143_1,x_fa_143_3,i0,i1,i3,c0,c1,x_len_9,d2,d3,c4,c5,e2,d4,e3,d5,w_undef]
   refine hQ _ _ _ _ (.inr rfl) (by simp only [SS,Nat.reduceBEq]) (by simp only [SS,Nat.reduceBEq,Nat.reduceEqDiff,Nat.reduceAdd,reduceIte,Nat.reduceMul];rfl) ?_
   exact .inr ⟨cid,.inr ⟨hq,.inl ⟨.inr ⟨c,hd⟩,rfl,s1⟩⟩⟩
  | none =>
   rw [hd] at hF
   subst hF
   obtain ⟨rp,h4,e4,bs',hr2,s2,hb2⟩:=rput_ok (n:=m) (by omega) hr1 hl ⟨id,s,block,refs⟩ ⟨by show 0<=id;omega,by show id<_;omega⟩
   unfold Ch.rc at e4
   simp only at e4
   simp only [F77,SS,Nat.reduceBEq,Nat.reduceEqDiff,Nat.reduceAdd,reduceIte,Nat.reduceMul,e1,x_fa_143_0,x_fa_143_1,x_fa_143_3,i0,i1,i3,i4,c0,c1,x_len_9,d2,d3,c4,c5,e2,d4,e3,e4,w_undef]
   refine hQ _ _ _ _ (.inr rfl) (by simp only [SS,Nat.reduceBEq]) (by simp only [SS,Nat.reduceBEq,Nat.reduceEqDiff,Nat.reduceAdd,reduceIte,Nat.reduceMul];rfl) ?_
   refine .inr ⟨cid,.inr ⟨hq,.inr ⟨hg,hd,rfl,bs',?_,s1.trans s2 (fun _ _ h=>h.elim) (fun _ _ h=>h),fun b hb=>Nat.le_trans s1.1 (hb2 b hb)⟩⟩⟩
   rw [show max next (id+1)=if next<=id then id+1 else next by split <;> omega]
   exact hr2
end
end Go.Proofs.YtboobbebilegnaaGreat
namespace Go.Proofs.YtboobbebilegnaaGreat
open Go.Am
set_option maxRecDepth 10000
theorem TabAt.flt {h:Heap} {tb:Nat} {L:List Ch} {next:Int} {F:Nat->Prop} (ht:TabAt h tb L next F):∀ b,F b->b<h.next:=by
 obtain ⟨mb,x,es,c,B,X,h1,h2,h3,h4,h5,h6,h7,h8,h9,rfl⟩:=ht.ex
 rintro b (rfl | rfl | rfl|⟨i,hi,hb⟩)
 ·exact ht.lt
 ·exact h6
 ·exact h4.lt
 ·obtain ⟨S,_,_,h3⟩:=h4.ex
  obtain ⟨v,_,o⟩:=h3 i hi
  exact o.lt b hb
structure St (h:Heap) (tb rb:Nat) (L R:List Ch) (next:Int) (F:Nat->Prop) (bs:List Nat):Prop where
 t:TabAt h tb L next F
 r:RefAt h rb R next bs
 rel:Rel L R
 dj:∀ b,F b->¬RefF rb bs b
section
variable {h h1 h2 h3:Heap} {tb rb:Nat} {L R L' R':List Ch} {next next':Int} {F F':Nat->Prop} {bs bs':List Nat}
theorem St.r2 (hs:St h1 tb rb L R next F bs) (s:Sm F h1 h2):RefAt h2 rb R next bs:=hs.r.sm s (fun h=>hs.dj _ h (.inl rfl)) (fun b hb h=>hs.dj _ h (.inr hb))
theorem St.no (hs:St h1 tb rb L R next F bs) (s:Sm NoB h1 h2):St h2 tb rb L R next F bs:=⟨hs.t.sm s (fun _ _ h=>h),hs.r.no s,hs.rel,hs.dj⟩
def StF (F:Nat->Prop) (rb:Nat) (bs:List Nat):Nat->Prop:=fun b=>F b∨RefF rb bs b
theorem St.flt (hs:St h tb rb L R next F bs):∀ b,StF F rb bs b->b<h.next:=fun b hb=>hb.elim (hs.t.flt b) (hs.r.flt b)
structure Nx (h1 h3:Heap) (tb rb:Nat) (L R:List Ch) (next:Int) (F:Nat->Prop) (bs:List Nat) (n:Nat):Prop where
 ex:∃ L' R' next' F' bs',St h3 tb rb L' R' next' F' bs'/\L'.length<=n+1/\∀ b,StF F' rb bs' b->StF F rb bs b∨h1.next<=b
 sm:Sm (StF F rb bs) h1 h3
theorem St.step {n:Nat} (hs:St h1 tb rb L R next F bs) (s12:Sm F h1 h2) (t2:TabAt h2 tb L' next' F') (hF:∀ b,F' b->F b∨h1.next<=b) (s23:Sm (RefF rb bs) h2 h3) (r3:RefAt h3 rb R' next' bs') (hb:∀ b,b∈bs'->b∈bs∨h2.next<=b) (rel:Rel L' R') (hn:L'.length<=n+1):Nx h1 h3 tb rb L R next F bs n:=by
 have hfr:=hs.r.flt
 have hft:=t2.flt
 have hn12:=s12.1
 have d2:∀ b,F' b->¬RefF rb bs b:=by
  intro b hb h9
  rcases hF b hb with h8 | h8
  ·exact hs.dj b h8 h9
  ·have:=hfr b h9;omega
 refine ⟨⟨L',R',next',F',bs',⟨t2.sm s23 d2,r3,rel,?_⟩,hn,?_⟩,s12.trans s23 (fun c _ hc=>.inl hc) (fun c _ hc=>.inr hc)⟩
 ·rintro b hb' (rfl | h9)
  ·exact d2 b hb' (.inl rfl)
  ·rcases hb b h9 with h8 | h8
   ·exact d2 b hb' (.inr h8)
   ·have:=hft b hb';omega
 ·rintro b (h9 | rfl | h9)
  ·exact (hF b h9).imp (fun h=>.inl h) (fun h=>h)
  ·exact .inl (.inr (.inl rfl))
  ·rcases hb b h9 with h8 | h8
   ·exact .inl (.inr (.inr h8))
   ·exact .inr (by omega)
theorem St.refs (hs:St h tb rb L R next F bs):∀ c,c∈L->1<=c.refs/\c.refs<=65535:=by
 obtain ⟨B,t5⟩:=hs.t.ok
 intro c hc
 exact ⟨(t5.ch c hc).2.2.2.2.2.1,(t5.ch c hc).2.2.2.2.2.2⟩
end
end Go.Proofs.YtboobbebilegnaaGreat
namespace Go.Proofs.YtboobbebilegnaaGreat
open Go.Am
set_option maxRecDepth 10000
section
variable {h h1 h3:Heap} {tb rb:Nat} {L R:List Ch} {next:Int} {F:Nat->Prop} {bs:List Nat}
theorem keys_ok {n:Nat} (hn:1<=n) {mb:Nat}:WC (C n (.fn 114) [.map (some mb)] h) fun r h'=>∃ cb,r=.func (.func 152) [] [.ptr (some (cb,0))]/\h'.ld1 cb 0=some (.map (some mb))/\Sm NoB h h':=by
 obtain ⟨m,rfl⟩:∃ m,n=m+1:=⟨n - 1,by omega⟩
 refine call_fn _ f114A rfl (by simp [fn114]) fun QQ hQ=>?_
 simp only [fn114] at hQ
 simp only [fn114,fill_cons,fill_nil,Nat.zero_add,Nat.reduceAdd]
 obtain ⟨h1,e1,rx,n1,g1⟩:=Rw.alloc h (id:=h.next) (n:=1) (vs:=[.map (some mb)]) (z:=[]) (ro:=false) (Nat.le_refl _) rfl
 have eb:box1 (.map (some mb))=some (.cells (fillC [.map (some mb)] .leaf 0) [] 1 false,ptrTo):=rfl
 have ef:∀ b,mkFunc (Fn.func 152) 0 [.ptr (some (b,0))]=some (.func (.func 152) [] [.ptr (some (b,0))]):=fun b=>rfl
 simp only [F114,SS,Nat.reduceBEq,Nat.reduceEqDiff,Nat.reduceAdd,reduceIte,Nat.reduceMul,eb,e1,ef]
 refine hQ _ _ _ _ (.inr rfl) (by simp only [SS,Nat.reduceBEq]) (by simp only [SS,Nat.reduceBEq,Nat.reduceEqDiff,Nat.reduceAdd,reduceIte,Nat.reduceMul];rfl) ?_
 exact ⟨h.next,rfl,rx.ld1 0,⟨by omega,fun c hc _=>g1 c (by omega)⟩⟩
theorem all_ok {n:Nat} (hn:1<=n):WC (C n (.fn 57) [.ptr (some (tb,0))] h) fun r h'=>∃ bx,r=.func (.func 112) [] [.ptr (some (bx,0))]/\Rw h' bx [.ptr (some (tb,0))] [] false/\bx<h'.next/\Sm NoB h h'/\h.next<=bx:=by
 obtain ⟨m,rfl⟩:∃ m,n=m+1:=⟨n - 1,by omega⟩
 refine call_fn _ f57A rfl (by simp [fn57]) fun QQ hQ=>?_
 simp only [fn57] at hQ
 simp only [fn57,fill_cons,fill_nil,Nat.zero_add,Nat.reduceAdd]
 obtain ⟨h1,e1,rx,n1,g1⟩:=Rw.alloc h (id:=h.next) (n:=1) (vs:=[.ptr (some (tb,0))]) (z:=[]) (ro:=false) (Nat.le_refl _) rfl
 have eb:box1 (.ptr (some (tb,0)))=some (.cells (fillC [.ptr (some (tb,0))] .leaf 0) [] 1 false,ptrTo):=rfl
 have ef:∀ b,mkFunc (Fn.func 112) 0 [.ptr (some (b,0))]=some (.func (.func 112) [] [.ptr (some (b,0))]):=fun b=>rfl
 simp only [F57,SS,Nat.reduceBEq,Nat.reduceEqDiff,Nat.reduceAdd,reduceIte,Nat.reduceMul,eb,e1,ef]
 refine hQ _ _ _ _ (.inr rfl) (by simp only [SS,Nat.reduceBEq]) (by simp only [SS,Nat.reduceBEq,Nat.reduceEqDiff,Nat.reduceAdd,reduceIte,Nat.reduceMul];rfl) ?_
 exact ⟨h.next,rfl,rx,by omega,⟨by omega,fun c hc _=>g1 c (by omega)⟩,Nat.le_refl _⟩
theorem allIt_ok {n:Nat} (hn:3<=n) (ht:TabAt h tb L next F) (hrel:Rel L R) (hlen:L.length<=1000) {bx l:Nat} (hbx:Rw h bx [.ptr (some (tb,0))] [] false)
  (J:Nat->Nat->Heap->Prop) (D:Heap->Prop) (hJ0:∀ h1,Sm NoB h h1->J h1.next 0 h1)
  (hround:∀ hi i h1 (_:i<R.length),J hi i h1->h.next<=hi->WC (C (n - 1) (.loop l) [u (Ri R i).id] h1) fun v h2=>(v=.bool true/\J hi (i+1) h2∨v=.bool false/\D h2)/\∀ b,h.next<=b->b<hi->h2.bs.gt b=h1.bs.gt b) :
  WC (C n (.fn 112) [.func (.yield l) [] [],.ptr (some (bx,0))] h) fun _ h'=>(∃ hi,J hi R.length h')∨D h':=by
 have hrl:=hrel.len
 obtain ⟨m,rfl⟩:∃ m,n=m+1:=⟨n - 1,by omega⟩
 refine call_fn _ f112A rfl (by simp [fn112]) fun QQ hQ=>?_
 simp only [fn112] at hQ
 simp only [fn112,fill_cons,fill_nil,Nat.zero_add,Nat.reduceAdd]
 simp only [Nat.add_sub_cancel] at hround
 have l0:=hbx.ld1 0
 rw [List.getElem?_cons_zero] at l0
 obtain ⟨_,h0,ea,e0,rfl⟩:=tis_ok (n:=m) (by omega) ht
 subst e0
 obtain ⟨mb,x,es,k,B,X,t1,t2,t3,_,_,hmb,_⟩:=ht.ex
 obtain ⟨_,h1,eb,cb,rfl,hcb,s1⟩:=keys_ok (n:=m) (by omega) (h:=h0) (mb:=mb)
 have hsk:=skeys_ok (m:=m) (by omega) hcb ((s1.2 mb hmb (fun h=>h)).trans t2) t3 hrel (by omega)
 obtain ⟨a,cc,gg,h2,ec,s2,hld⟩:∃ a cc gg h2,C m (.fn 113) [.func (.func 152) [] [.ptr (some (cb,0))]] h1=some (.slice a R.length cc gg,h2)/\Sm NoB h1 h2/\(∀ i,i<R.length->∃ sb,a=some (sb,0)/\h0.next<=sb/\sb<h2.next/\∀ h':Heap,h'.bs.gt sb=h2.bs.gt sb->h'.ld1 sb i=some (u (Ri R i).id)):=by
  by_cases hR:R=[]
  ·rw [if_pos hR] at hsk
   refine ⟨none,0,none,h1,?_,Sm.refl _ _,fun i hi=>?_⟩
   ·rw [hsk,hR];rfl
   ·rw [hR] at hi;cases hi
  ·rw [if_neg hR] at hsk
   obtain ⟨h2,e2,r2,n2,g2⟩:=Rw.alloc h1 (id:=h1.next) (n:=((R.map Ch.id).map u).length) (vs:=(R.map Ch.id).map u) (z:=[]) (ro:=false) (Nat.le_refl _) rfl
   rw [e2] at hsk
   have hs1:=s1.1
   refine ⟨_,_,_,h2,hsk,⟨by omega,fun c hc _=>g2 c (by omega)⟩,fun i hi=>⟨h1.next,rfl,by omega,by omega,fun h' e=>?_⟩⟩
   rw [(r2.same e).ld1,Ri_at hi]
   simp [hi]
 have s02:Sm NoB h0 h2:=s1.trans s2 (fun _ _ h=>h) (fun _ _ h=>h)
 simp only [F112,SS,Nat.reduceBEq,Nat.reduceEqDiff,Nat.reduceAdd,reduceIte,Nat.reduceMul,l0,ea,x_fa_177_0,t1.ld1,eb,ec,x_len_51]
 refine run_loop (c:=c112_10) (I:=fun m' tm' h'=>∃ i,i<=R.length/\m'=R.length - i/\J h2.next i h'/\(∀ b,h0.next<=b->b<h2.next->h'.bs.gt b=h2.bs.gt b)/\tm'.gt 0=some (.func (.yield l) [] [])/\tm'.gt 13=some (.slice a R.length cc gg)/\tm'.gt 14=some (I R.length)/\tm'.gt 15=some (I i)/\tm'.gt 24=none) (n:=R.length)
  ⟨0,by omega,rfl,hJ0 h2 s02,fun _ _ _=>rfl,by simp only [SS,Nat.reduceBEq],by simp only [SS,Nat.reduceBEq],by simp only [SS,Nat.reduceBEq],by simp only [SS,Nat.reduceBEq,Nat.reduceEqDiff,Nat.reduceAdd,reduceIte,Nat.reduceMul];rfl,by simp only [SS,Nat.reduceBEq]⟩ (by omega) ?_
 rintro _ tm h3 ⟨i,hil,rfl,hJ,hk,t0,t13,t14,t15,t24⟩ Q1 hN1 hE
 by_cases hlt:i<R.length
 ·have hlt':(i:Int)<(R.length:Int):=by omega
  obtain ⟨sb,rfl,hsb1,hsb2,hl1⟩:=hld i hlt
  have hl1:=hl1 h3 (hk sb hsb1 hsb2)
  obtain ⟨v,h4,ey,hv,hk4⟩:=hround h2.next i h3 hlt hJ s02.1
  have x2:=x_ia_51 (k:=.i64) (b:=sb) (o:=0) (c:=cc) (g:=gg) hlt
  rcases hv with ⟨rfl,hJ4⟩|⟨rfl,hD⟩
  ·simp only [F112,SS,Nat.reduceBEq,Nat.reduceEqDiff,Nat.reduceAdd,reduceIte,Nat.reduceMul,t0,t13,t14,t15,hlt',x2,hl1,ey,wAdd1 (show i<=1000000 by omega)]
   refine hN1 _ _ (R.length - (i+1)) (by omega) ⟨i+1,hlt,rfl,hJ4,fun b h8 h9=>(hk4 b h8 h9).trans (hk b h8 h9),by simp only [SS,Nat.reduceBEq,t0],by simp only [SS,Nat.reduceBEq,t13],by simp only [SS,Nat.reduceBEq,t14],by simp only [SS,Nat.reduceBEq],by simp only [SS,Nat.reduceBEq,t24]⟩
  ·simp only [F112,SS,Nat.reduceBEq,Nat.reduceEqDiff,Nat.reduceAdd,reduceIte,Nat.reduceMul,t0,t13,t14,t15,hlt',x2,hl1,ey]
   refine hE _ _ _ (by simp) ?_
   simp only [SS,Nat.reduceBEq,Nat.reduceEqDiff,Nat.reduceAdd,reduceIte,Nat.reduceMul]
   refine hQ _ _ _ _ (.inr rfl) (by simp only [SS,Nat.reduceBEq,t24]) (by simp only [SS,Nat.reduceBEq,Nat.reduceEqDiff,Nat.reduceAdd,reduceIte,Nat.reduceMul];rfl) (.inr hD)
 ·obtain rfl:i=R.length:=by omega
  have hlt':¬(R.length:Int)<(R.length:Int):=by omega
  simp only [F112,SS,Nat.reduceBEq,Nat.reduceEqDiff,Nat.reduceAdd,reduceIte,Nat.reduceMul,t0,t13,t14,t15,hlt']
  refine hE _ _ _ (by simp) ?_
  simp only [SS,Nat.reduceBEq,Nat.reduceEqDiff,Nat.reduceAdd,reduceIte,Nat.reduceMul]
  refine hQ _ _ _ _ (.inl rfl) (by simp only [SS,Nat.reduceBEq,t24]) (by simp only [SS,Nat.reduceBEq,Nat.reduceEqDiff,Nat.reduceAdd,reduceIte,Nat.reduceMul];rfl) (.inl ⟨_,hJ⟩)
end
end Go.Proofs.YtboobbebilegnaaGreat
namespace Go.Proofs.YtboobbebilegnaaGreat
open Go.Am
set_option maxRecDepth 10000
section
variable {α : Type} {f:α->List AV} {k:Nat}
theorem fl_len:∀ {D:List α},(∀ x,x∈D->(f x).length=k)->(D.flatMap f).length=D.length*k
 | [],_=>by simp
 | x::D,h=>by
  show (f x++D.flatMap f).length=_
  rw [List.length_append,h x (List.mem_cons_self ..),fl_len fun y hy=>h y (List.mem_cons_of_mem _ hy),List.length_cons,Nat.succ_mul];omega
theorem fl_split {D:List α} {i:Nat} (hi:i<D.length):D.flatMap f=(D.take i).flatMap f++(f D[i]++(D.drop (i+1)).flatMap f):=by
 conv=>lhs;rw [← List.take_append_drop i D,List.drop_eq_getElem_cons hi]
 rw [List.flatMap_append];rfl
theorem fl_set {D:List α} {i:Nat} (hi:i<D.length) (y:α):(D.set i y).flatMap f=(D.take i).flatMap f++(f y++(D.drop (i+1)).flatMap f):=by
 rw [List.set_eq_take_append_cons_drop,if_pos hi,List.flatMap_append];rfl
theorem fl_tlen {D:List α} (h:∀ x,x∈D->(f x).length=k) {i:Nat} (hi:i<=D.length):((D.take i).flatMap f).length=i*k:=by
 rw [fl_len fun x hx=>h x (List.mem_of_mem_take hx),List.length_take,Nat.min_eq_left hi]
theorem fl_part {D:List α} (h:∀ x,x∈D->(f x).length=k) {i o m:Nat} (hi:i<D.length) (ho:o+m<=k):((D.flatMap f).drop (i*k+o)).take m=((f D[i]).drop o).take m:=by
 have h1:=fl_tlen h (Nat.le_of_lt hi)
 have h2:=h _ (List.getElem_mem hi)
 rw [fl_split hi,← List.drop_drop,← h1,List.drop_left,List.drop_append_of_le_length (by omega),List.take_append_of_le_length (by rw [List.length_drop];omega)]
theorem fl_get {D:List α} (h:∀ x,x∈D->(f x).length=k) {i o:Nat} (hi:i<D.length) (ho:o<k):(D.flatMap f)[i*k+o]?=(f D[i])[o]?:=by
 have h1:=fl_tlen h (Nat.le_of_lt hi)
 have h2:=h _ (List.getElem_mem hi)
 rw [fl_split hi,List.getElem?_append_right (by omega),h1,Nat.add_sub_cancel_left,List.getElem?_append_left (by omega)]
end
structure Sl where
 firm:List Nat
 read:List Nat
 fresh:Bool
def B64 (s:List Nat):Prop:=s.length=64/\∀ c,c∈s->c<256
def Sl.Ok (x:Sl):Prop:=B64 x.firm/\B64 x.read
def Sl.c (x:Sl):List AV:=x.firm.map byteV++(x.read.map byteV++[.bool x.fresh])
def Sz:Sl:=⟨List.replicate 64 0,List.replicate 64 0,false⟩
def Si (D:List Sl) (i:Nat):Sl:=D.getD i Sz
theorem Si_at {D:List Sl} {i:Nat} (h:i<D.length):Si D i=D[i]:=by simp [Si,List.getD_eq_getElem?_getD,List.getElem?_eq_getElem h]
abbrev csD (D:List Sl):List AV:=D.flatMap Sl.c
theorem Sl.Ok.len {x:Sl} (h:x.Ok):x.c.length=129:=by
 unfold Sl.c;simp only [List.length_append,List.length_map,h.1.1,h.2.1,List.length_cons,List.length_nil]
theorem Sz_ok:Sz.Ok:=⟨⟨by simp [Sz],fun c hc=>by rw [(List.mem_replicate.1 hc).2];decide⟩,⟨by simp [Sz],fun c hc=>by rw [(List.mem_replicate.1 hc).2];decide⟩⟩
theorem c256:((256:Nat):Int)=256:=rfl
structure DevAt (h:Heap) (db sb:Nat) (D:List Sl):Prop where
 r:∃ z,Rw h db [.slice (some (sb,0)) 256 256 none] z false
 s:∃ z,Rw h sb (csD D) z false
 len:D.length=256
 ok:∀ x,x∈D->x.Ok
 lt:db<h.next/\sb<h.next
 ne:db≠sb
section
variable {h h':Heap} {db sb:Nat} {D:List Sl}
theorem DevAt.lens (hd:DevAt h db sb D):∀ x,x∈D->x.c.length=129:=fun x hx=>(hd.ok x hx).len
theorem DevAt.sm {F:Nat->Prop} (hd:DevAt h db sb D) (hs:Sm F h h') (h1:¬F db) (h2:¬F sb):DevAt h' db sb D:=by
 obtain ⟨⟨z,r⟩,⟨z',s⟩,l,o,⟨lt1,lt2⟩,n⟩:=hd
 have:=hs.1
 exact ⟨⟨z,r.sm hs lt1 h1⟩,⟨z',s.sm hs lt2 h2⟩,l,o,⟨by omega,by omega⟩,n⟩
theorem DevAt.si (hd:DevAt h db sb D) {j:Nat} (hj:j<256):(Si D j).Ok:=by
 rw [Si_at (by rw [hd.len];exact hj)];exact hd.ok _ (List.getElem_mem _)
theorem dat_ok {n:Nat} (hn:1<=n) (hd:DevAt h db sb D) (k:Int):WC (C n (.fn 126) [.ptr (some (db,0)),.int .i64 k] h) fun r h'=>h'=h /\
  ((k<0∨256<=k)/\r=.tuple [.ptr none,.int .i64 2]∨∃ j:Nat,j<256/\k=(j:Int)/\r=.tuple [.ptr (some (sb,j*129)),.int .i64 0]):=by
 obtain ⟨z,r⟩:=hd.r
 have l0:=r.ld1 0
 rw [List.getElem?_cons_zero] at l0
 obtain ⟨m,rfl⟩:∃ m,n=m+1:=⟨n - 1,by omega⟩
 refine call_fn _ f126A rfl (by simp [fn126]) fun QQ hQ=>?_
 simp only [fn126] at hQ
 simp only [fn126,fill_cons,fill_nil,Nat.zero_add,Nat.reduceAdd]
 have ne0:¬((256:Int)=0):=by decide
 by_cases h1:k<0
 ·simp only [F126,SS,Nat.reduceBEq,Nat.reduceEqDiff,Nat.reduceAdd,reduceIte,Nat.reduceMul,x_eq_33,Option.isNone_some,x_fa_120_0,l0,x_len_118,c256,ne0,h1]
  refine hQ _ _ _ _ (.inr rfl) (by simp only [SS,Nat.reduceBEq]) (by simp only [SS,Nat.reduceBEq,Nat.reduceEqDiff,Nat.reduceAdd,reduceIte,Nat.reduceMul];rfl) ?_
  exact ⟨rfl,.inl ⟨.inl h1,rfl⟩⟩
 ·by_cases h2:256<=k
  ·simp only [F126,SS,Nat.reduceBEq,Nat.reduceEqDiff,Nat.reduceAdd,reduceIte,Nat.reduceMul,x_eq_33,Option.isNone_some,x_fa_120_0,l0,x_len_118,c256,ne0,h1,h2]
   refine hQ _ _ _ _ (.inr rfl) (by simp only [SS,Nat.reduceBEq]) (by simp only [SS,Nat.reduceBEq,Nat.reduceEqDiff,Nat.reduceAdd,reduceIte,Nat.reduceMul];rfl) ?_
   exact ⟨rfl,.inl ⟨.inr h2,rfl⟩⟩
  ·obtain ⟨j,rfl⟩:∃ j:Nat,k=(j:Int):=⟨k.toNat,by omega⟩
   have hj:j<256:=by omega
   simp only [F126,SS,Nat.reduceBEq,Nat.reduceEqDiff,Nat.reduceAdd,reduceIte,Nat.reduceMul,x_eq_33,Option.isNone_some,x_fa_120_0,l0,x_len_118,c256,ne0,h1,h2,x_ia_118 hj]
   refine hQ _ _ _ _ (.inr rfl) (by simp only [SS,Nat.reduceBEq]) (by simp only [SS,Nat.reduceBEq,Nat.reduceEqDiff,Nat.reduceAdd,reduceIte,Nat.reduceMul];rfl) ?_
   exact ⟨rfl,.inr ⟨j,hj,rfl,rfl⟩⟩
end
end Go.Proofs.YtboobbebilegnaaGreat
namespace Go.Proofs.YtboobbebilegnaaGreat
open Go.Am
set_option maxRecDepth 10000
theorem putL_mid {A M B us:List AV} {o:Nat} (ho:o=A.length) (hu:us.length=M.length):putL (A++(M++B)) o us=A++(us++B):=by
 subst ho
 unfold putL
 rw [List.take_left,← List.drop_drop,List.drop_left,hu,List.drop_left]
theorem putL_in {A c B us:List AV} {n o:Nat} (hn:n=A.length+o) (ho:o+us.length<=c.length):putL (A++(c++B)) n us=A++(putL c o us++B):=by
 subst hn
 unfold putL
 rw [List.take_length_add_append,List.take_append_of_le_length (by omega),Nat.add_assoc,← List.drop_drop,List.drop_left,List.drop_append_of_le_length (by omega)]
 simp only [List.append_assoc]
section
variable {h h':Heap} {db sb:Nat} {D:List Sl}
theorem x_sl_207 (b o:Nat):sliceN P 207 false false false [.ptr (some (b,o))]=some (.slice (some (b,o)) 64 64 none):=sl_arr (e:=5) (s:=1) (by kernel_rfl) (by kernel_rfl)
theorem x_bd_207:buildN P 207 [] []=some (.agg ((List.replicate 64 0).map byteV)):=by kernel_rfl
theorem dread_ok {n:Nat} (hn:2<=n) (hd:DevAt h db sb D) (k:Int):WC (C n (.fn 158) [.ptr (some (db,0)),.int .i64 k] h) fun r h'=>h'=h /\
  ((k<0∨256<=k)/\r=.tuple [.str [],.int .i64 2]∨∃ j:Nat,j<256/\k=(j:Int)/\r=.tuple [.str (Si D j).read,.int .i64 0]):=by
 obtain ⟨m,rfl⟩:∃ m,n=m+1:=⟨n - 1,by omega⟩
 refine call_fn _ f158A rfl (by simp [fn158]) fun QQ hQ=>?_
 simp only [fn158] at hQ
 simp only [fn158,fill_cons,fill_nil,Nat.zero_add,Nat.reduceAdd]
 obtain ⟨_,h0,e1,e0,hr⟩:=dat_ok (n:=m) (by omega) hd k
 subst e0
 rcases hr with ⟨hk,rfl⟩|⟨j,hj,rfl,rfl⟩
 ·simp only [F158,SS,Nat.reduceBEq,Nat.reduceEqDiff,Nat.reduceAdd,reduceIte,Nat.reduceMul,e1]
  refine hQ _ _ _ _ (.inr rfl) (by simp only [SS,Nat.reduceBEq]) (by simp only [SS,Nat.reduceBEq,Nat.reduceEqDiff,Nat.reduceAdd,reduceIte,Nat.reduceMul];rfl) ?_
  exact ⟨rfl,.inl ⟨hk,rfl⟩⟩
 ·obtain ⟨z,s⟩:=hd.s
  have hjl:j<D.length:=by rw [hd.len];exact hj
  have ok:=hd.si hj
  have hld:h0.ld sb (j*129+64) 64=some ((Si D j).read.map byteV):=by
   rw [s.ld (by rw [fl_len hd.lens,hd.len];omega),fl_part hd.lens hjl (by decide),← Si_at hjl]
   unfold Sl.c
   rw [List.drop_append_of_le_length (by rw [List.length_map,ok.1.1];exact Nat.le_refl _),List.drop_of_length_le (by rw [List.length_map,ok.1.1];exact Nat.le_refl _),List.nil_append,List.take_append_of_le_length (by rw [List.length_map,ok.2.1];exact Nat.le_refl _),List.take_of_length_le (by rw [List.length_map,ok.2.1];exact Nat.le_refl _)]
  have eb:=fun (c:Nat) (g:Option Nat)=>of_bytes (e:=5) u_5 (n:=64) (c:=c) (g:=g) ok.2.2 hld
  simp only [F158,SS,Nat.reduceBEq,Nat.reduceEqDiff,Nat.reduceAdd,reduceIte,Nat.reduceMul,e1,x_fa_209_1,x_sl_207,eb]
  refine hQ _ _ _ _ (.inr rfl) (by simp only [SS,Nat.reduceBEq]) (by simp only [SS,Nat.reduceBEq,Nat.reduceEqDiff,Nat.reduceAdd,reduceIte,Nat.reduceMul];rfl) ?_
  exact ⟨rfl,.inr ⟨j,hj,rfl,rfl⟩⟩
def pad (s:List Nat):List Nat:=s++List.replicate (64 - s.length) 0
theorem pad_ok {s:List Nat} (h1:s.length<=64) (h2:∀ c,c∈s->c<256):B64 (pad s):=by
 refine ⟨by unfold pad;simp;omega,fun c hc=>?_⟩
 rcases List.mem_append.1 hc with h | h
 ·exact h2 c h
 ·rw [(List.mem_replicate.1 h).2];decide
theorem dwrite_ok {n:Nat} (hn:2<=n) (hd:DevAt h db sb D) (k:Int) {s:List Nat} (hs:∀ c,c∈s->c<256):WC (C n (.fn 68) [.ptr (some (db,0)),.int .i64 k,.str s] h) fun r h' =>
  (h'=h/\((k<0∨256<=k)/\r=.int .i64 2∨(0<=k/\k<256)/\64<s.length/\r=.int .i64 3))∨∃ j:Nat,j<256/\k=(j:Int)/\s.length<=64/\r=.int .i64 0/\DevAt h' db sb (D.set j ⟨(Si D j).firm,pad s,true⟩)/\Sm (·= sb) h h':=by
 obtain ⟨m,rfl⟩:∃ m,n=m+1:=⟨n - 1,by omega⟩
 refine call_fn _ f68A rfl (by simp [fn68]) fun QQ hQ=>?_
 simp only [fn68] at hQ
 simp only [fn68,fill_cons,fill_nil,Nat.zero_add,Nat.reduceAdd]
 obtain ⟨_,h0,e1,e0,hr⟩:=dat_ok (n:=m) (by omega) hd k
 subst e0
 rcases hr with ⟨hk,rfl⟩|⟨j,hj,rfl,rfl⟩
 ·simp only [F68,SS,Nat.reduceBEq,Nat.reduceEqDiff,Nat.reduceAdd,reduceIte,Nat.reduceMul,e1]
  refine hQ _ _ _ _ (.inr rfl) (by simp only [SS,Nat.reduceBEq]) (by simp only [SS,Nat.reduceBEq,Nat.reduceEqDiff,Nat.reduceAdd,reduceIte,Nat.reduceMul];rfl) ?_
  exact .inl ⟨rfl,.inl ⟨hk,rfl⟩⟩
 ·by_cases hl:64<s.length
  ·have hl':(64:Int)<(s.length:Int):=by omega
   simp only [F68,SS,Nat.reduceBEq,Nat.reduceEqDiff,Nat.reduceAdd,reduceIte,Nat.reduceMul,e1,x_len_9,hl']
   refine hQ _ _ _ _ (.inr rfl) (by simp only [SS,Nat.reduceBEq]) (by simp only [SS,Nat.reduceBEq,Nat.reduceEqDiff,Nat.reduceAdd,reduceIte,Nat.reduceMul];rfl) ?_
   exact .inl ⟨rfl,.inr ⟨by omega,hl,rfl⟩⟩
  ·have hl':¬(64:Int)<(s.length:Int):=by omega
   obtain ⟨z,sw⟩:=hd.s
   have hjl:j<D.length:=by rw [hd.len];exact hj
   have ok:=hd.si hj
   have hlen:=fl_len hd.lens
   rw [hd.len] at hlen
   rw [show csD D=_ from fl_split hjl] at sw
   have hA:((D.take j).flatMap Sl.c).length=j*129:=fl_tlen hd.lens (by omega)
   have hc:(D[j]).c=(Si D j).firm.map byteV++((Si D j).read.map byteV++[.bool (Si D j).fresh]):=by rw [Si_at hjl];rfl
   rw [hc] at sw
   have hF:((Si D j).firm.map byteV).length=64:=by rw [List.length_map];exact ok.1.1
   have hR:((Si D j).read.map byteV).length=64:=by rw [List.length_map];exact ok.2.1
   have hZ:((List.replicate 64 0).map byteV).length=64:=by simp
   have hS:(s.map byteV).length=s.length:=List.length_map _
   have hZ2:((List.replicate (64 - s.length) 0).map byteV).length=64 - s.length:=by simp
   obtain ⟨a1,a2,a3,a4⟩:=sw.sto (o:=j*129+64) (us:=(List.replicate 64 0).map byteV) (by simp only [List.length_append,hA,hF,hR,hZ,List.length_cons];omega) (bytes_one _)
   obtain ⟨h1,eh⟩:∃ h1,h0.wr sb (j*129+64) ((List.replicate 64 0).map byteV)=h1:=⟨_,rfl⟩
   rw [eh] at a1 a2 a3 a4
   rw [putL_in (by rw [hA]) (by simp only [List.length_append,hF,hR,hZ];omega),putL_mid hF.symm (by rw [hZ,hR])] at a2
   have hz:(List.replicate 64 0).map byteV=(List.replicate s.length 0).map byteV++(List.replicate (64 - s.length) 0).map byteV:=by
    rw [← List.map_append,List.replicate_append_replicate,show s.length+(64 - s.length)=64 by omega]
   rw [hz,List.append_assoc ((List.replicate s.length 0).map byteV)] at a2
   obtain ⟨h2,b1,b2,b3,b4⟩:=copy_str (t:=42) (e:=5) u_42 s_5 (o:=j*129+64) (n:=64) (c:=64) (g:=none) (m:=s) a2 (by omega) (by simp only [List.length_append,hA,hF,List.length_map,List.length_replicate,List.length_cons];omega)
   rw [putL_in (by rw [hA]) (by simp only [List.length_append,hF,hS,hZ2,List.length_map,List.length_replicate];omega),putL_mid hF.symm (by simp)] at b2
   obtain ⟨d1,d2,d3,d4⟩:=b2.sto (o:=j*129+128) (us:=[.bool true]) (by simp only [List.length_append,hA,hF,hS,hZ2,List.length_cons,List.length_nil];omega) rfl
   have d1:=(st1_eq_sto h2 sb (j*129+128) (.bool true)).trans d1
   rw [putL_in (o:=128) (by rw [hA]) (by simp only [List.length_append,hF,hS,hZ2,List.length_cons,List.length_nil];omega),
    show (Si D j).firm.map byteV++(s.map byteV++((List.replicate (64 - s.length) 0).map byteV++[AV.bool (Si D j).fresh]))=((Si D j).firm.map byteV++(s.map byteV++(List.replicate (64 - s.length) 0).map byteV))++([AV.bool (Si D j).fresh]++[]) by simp only [List.append_assoc,List.append_nil],
    putL_mid (us:=[AV.bool true]) (M:=[AV.bool (Si D j).fresh]) (by simp only [List.length_append,hF,hS,hZ2];omega) rfl] at d2
   have hst:=st_agg (n:=64) (h:=h0) (b:=sb) (o:=j*129+64) (cs:=(List.replicate 64 0).map byteV) (by simp)
   simp only [F68,SS,Nat.reduceBEq,Nat.reduceEqDiff,Nat.reduceAdd,reduceIte,Nat.reduceMul,e1,x_len_9,hl',x_bd_207,x_fa_209_1,hst,a1,x_sl_207,b1,x_fa_209_2,d1]
   refine hQ _ _ _ _ (.inr rfl) (by simp only [SS,Nat.reduceBEq]) (by simp only [SS,Nat.reduceBEq,Nat.reduceEqDiff,Nat.reduceAdd,reduceIte,Nat.reduceMul];rfl) ?_
   refine .inr ⟨j,hj,rfl,by omega,rfl,?_,⟨by omega,fun c _ hc=>by rw [d4 c hc,b4 c hc,a4 c hc]⟩⟩
   have hok:Sl.Ok ⟨(Si D j).firm,pad s,true⟩:=⟨ok.1,pad_ok (by omega) hs⟩
   obtain ⟨z',r'⟩:=hd.r
   have lt:=hd.lt
   refine ⟨⟨z',r'.same (by rw [d4 db hd.ne,b4 db hd.ne,a4 db hd.ne])⟩,⟨z,?_⟩,by rw [List.length_set];exact hd.len,fun x hx=>?_,by omega,hd.ne⟩
   ·rw [show csD (D.set j ⟨(Si D j).firm,pad s,true⟩)=_ from fl_set hjl _]
    have:Sl.c ⟨(Si D j).firm,pad s,true⟩=(Si D j).firm.map byteV++(s.map byteV++(List.replicate (64 - s.length) 0).map byteV)++([AV.bool true]++[]):=by
     unfold Sl.c pad;simp only [List.map_append,List.append_assoc,List.append_nil]
    rw [this];exact d2
   ·rcases List.mem_or_eq_of_mem_set hx with h1 | rfl
    ·exact hd.ok x h1
    ·exact hok
end
end Go.Proofs.YtboobbebilegnaaGreat
namespace Go.Proofs.YtboobbebilegnaaGreat
open Go.Am
set_option maxRecDepth 10000
theorem bx_ptr (p:Option (Nat×Nat)):box1 (.ptr p)=some (.cells (fillC [.ptr p] .leaf 0) [] 1 false,ptrTo):=rfl
theorem bx_int (k:IntKind) (i:Int):box1 (.int k i)=some (.cells (fillC [.int k i] .leaf 0) [] 1 false,ptrTo):=rfl
theorem bx_str (s:List Nat):box1 (.str s)=some (.cells (fillC [.str s] .leaf 0) [] 1 false,ptrTo):=rfl
theorem mkf1 (f:Nat) (a:AV):mkFunc (Fn.func f) 0 [a]=some (.func (.func f) [] [a]):=rfl
theorem mkf3 (f:Nat) (a b c:AV):mkFunc (Fn.func f) 0 [a,b,c]=some (.func (.func f) [] [a,b,c]):=rfl
theorem z209:tZero P 209=some (.agg Sz.c):=by kernel_rfl
theorem Sz_len:Sz.c.length=129:=Sz_ok.len
theorem x_bd_120_0s (a:Option (Nat×Nat)) (n c:Nat) (g:Option Nat):buildN P 120 [0] [.slice a n c g]=some (.agg [.slice a n c g]):=by kernel_rfl
theorem csD_rep (n:Nat):csD (List.replicate n Sz)=(List.replicate n Sz.c).flatten:=by
 show (List.replicate n Sz).flatMap Sl.c=_
 rw [List.flatMap_def,List.map_replicate]
theorem dnew_ok {n:Nat} (hn:1<=n) {h:Heap}:WC (C n (.fn 11) [.int .i64 256] h) fun r h'=>∃ db sb,r=.ptr (some (db,0))/\DevAt h' db sb (List.replicate 256 Sz)/\Sm NoB h h'/\h.next<=db/\h.next<=sb:=by
 obtain ⟨m,rfl⟩:∃ m,n=m+1:=⟨n - 1,by omega⟩
 refine call_fn _ f11A rfl (by simp [fn11]) fun QQ hQ=>?_
 simp only [fn11] at hQ
 simp only [fn11,fill_cons,fill_nil,Nat.zero_add,Nat.reduceAdd]
 obtain ⟨h1,e1,r1,n1,g1⟩:=Rw.zeros h (id:=h.next) (n:=256) (s:=129) (z:=Sz.c) (ro:=false) (Nat.le_refl _) Sz_len (by decide)
 have ms:makeSlice2 P 118 (.int .i64 256) (.int .i64 256)=some (.cells .leaf Sz.c (256*129) false,fun b=>.slice (some (b,0)) 256 256 none):=ms_make (n:=256) u_118 s_209 z209 b_209 Sz_len (by unfold Sl.c Sz;decide) (by decide) (by decide)
 obtain ⟨h2,e2,r2,n2,g2⟩:=Rw.alloc h1 (id:=h1.next) (n:=1) (vs:=[.slice (some (h.next,0)) 256 256 none]) (z:=[]) (ro:=false) (Nat.le_refl _) rfl
 have lt1:¬((256:Int)<256):=by decide
 have lt2:¬((2048:Int)<256):=by decide
 simp only [F11,SS,Nat.reduceBEq,Nat.reduceEqDiff,Nat.reduceAdd,reduceIte,Nat.reduceMul,lt1,lt2,ms,e1,x_bd_120_0s,e2]
 refine hQ _ _ _ _ (.inr rfl) (by simp only [SS,Nat.reduceBEq]) (by simp only [SS,Nat.reduceBEq,Nat.reduceEqDiff,Nat.reduceAdd,reduceIte,Nat.reduceMul];rfl) ?_
 refine ⟨h1.next,h.next,rfl,⟨⟨_,r2⟩,⟨_,by rw [csD_rep];exact r1.same (g2 h.next (by omega))⟩,by simp,fun x hx=>by rw [(List.mem_replicate.1 hx).2];exact Sz_ok,by omega,by omega⟩,⟨by omega,fun c hc _=>by rw [g2 c (by omega),g1 c (by omega)]⟩,by omega,by omega⟩
section
variable {h h':Heap} {db sb:Nat} {D:List Sl}
theorem dblocks_ok {n:Nat} (hn:1<=n) (hd:DevAt h db sb D):WC (C n (.fn 49) [.ptr (some (db,0))] h) fun r h'=>h'=h/\r=.int .i64 256:=by
 obtain ⟨z,r⟩:=hd.r
 have l0:=r.ld1 0
 rw [List.getElem?_cons_zero] at l0
 obtain ⟨m,rfl⟩:∃ m,n=m+1:=⟨n - 1,by omega⟩
 refine call_fn _ f49A rfl (by simp [fn49]) fun QQ hQ=>?_
 simp only [fn49] at hQ
 simp only [fn49,fill_cons,fill_nil,Nat.zero_add,Nat.reduceAdd]
 simp only [F49,SS,Nat.reduceBEq,Nat.reduceEqDiff,Nat.reduceAdd,reduceIte,Nat.reduceMul,x_eq_33,Option.isNone_some,x_fa_120_0,l0,x_len_118,c256]
 refine hQ _ _ _ _ (.inr rfl) (by simp only [SS,Nat.reduceBEq]) (by simp only [SS,Nat.reduceBEq,Nat.reduceEqDiff,Nat.reduceAdd,reduceIte,Nat.reduceMul];rfl) ?_
 exact ⟨rfl,rfl⟩
end
structure LnAt (h:Heap) (lb db:Nat) (cut:Int) (chv:AV) (acts:Nat) (down:Bool):Prop where
 r:∃ z,Rw h lb [.ptr (some (db,0)),.int .i64 cut,chv,.int .i64 (acts:Int),.bool down] z false
 lt:lb<h.next
section
variable {h h':Heap} {lb db sb:Nat} {D:List Sl} {cut:Int} {chv:AV} {acts:Nat} {down:Bool}
theorem LnAt.sm {F:Nat->Prop} (hl:LnAt h lb db cut chv acts down) (hs:Sm F h h') (h1:¬F lb):LnAt h' lb db cut chv acts down:=by
 obtain ⟨⟨z,r⟩,lt⟩:=hl
 have:=hs.1
 exact ⟨⟨z,r.sm hs lt h1⟩,by omega⟩
theorem cloneN_ok {n:Nat} (hn:1<=n):WC (C n (.fn 52) [.slice none 0 0 none] h) fun r h'=>h'=h/\r=.slice none 0 0 none:=by
 obtain ⟨m,rfl⟩:∃ m,n=m+1:=⟨n - 1,by omega⟩
 refine call_fn _ f52A rfl (by simp [fn52]) fun QQ hQ=>?_
 simp only [fn52] at hQ
 simp only [fn52,fill_cons,fill_nil,Nat.zero_add,Nat.reduceAdd]
 simp only [F52,SS,Nat.reduceBEq,Nat.reduceEqDiff,Nat.reduceAdd,reduceIte,Nat.reduceMul,x_eq_24,Option.isNone_none]
 refine hQ _ _ _ _ (.inr rfl) (by simp only [SS,Nat.reduceBEq]) (by simp only [SS,Nat.reduceBEq,Nat.reduceEqDiff,Nat.reduceAdd,reduceIte,Nat.reduceMul];rfl) ?_
 exact ⟨rfl,rfl⟩
theorem lnew_ok {n:Nat} (hn:2<=n) (hd:DevAt h db sb D) (cut:Int):WC (C n (.fn 10) [.ptr (some (db,0)),.int .i64 cut,.slice none 0 0 none] h) fun r h'=>∃ lb,r=.ptr (some (lb,0))/\LnAt h' lb db cut (.slice none 0 0 none) 0 false/\Sm NoB h h'/\h.next<=lb:=by
 obtain ⟨m,rfl⟩:∃ m,n=m+1:=⟨n - 1,by omega⟩
 refine call_fn _ f10A rfl (by simp [fn10]) fun QQ hQ=>?_
 simp only [fn10] at hQ
 simp only [fn10,fill_cons,fill_nil,Nat.zero_add,Nat.reduceAdd]
 obtain ⟨_,h0,e1,e0,rfl⟩:=dblocks_ok (n:=m) (by omega) hd
 subst e0
 obtain ⟨_,h1,ec,e0,rfl⟩:=cloneN_ok (n:=m) (by omega) (h:=h0)
 subst e0
 have ne0:¬((256:Int)=0):=by decide
 obtain ⟨h2,e2,r2,n2,g2⟩:=Rw.alloc h1 (id:=h1.next) (n:=5) (vs:=[.ptr (some (db,0)),.int .i64 cut,.slice none 0 0 none,.int .i64 0,.bool false]) (z:=[]) (ro:=false) (Nat.le_refl _) rfl
 simp only [F10,SS,Nat.reduceBEq,Nat.reduceEqDiff,Nat.reduceAdd,reduceIte,Nat.reduceMul,e1,ne0,ec,x_bd_117_0_1_2,e2]
 refine hQ _ _ _ _ (.inr rfl) (by simp only [SS,Nat.reduceBEq]) (by simp only [SS,Nat.reduceBEq,Nat.reduceEqDiff,Nat.reduceAdd,reduceIte,Nat.reduceMul];rfl) ?_
 exact ⟨h1.next,rfl,⟨⟨_,r2⟩,by omega⟩,⟨by omega,fun c hc _=>g2 c (by omega)⟩,Nat.le_refl _⟩
theorem lis_ok {n:Nat} (hn:1<=n) (hl:LnAt h lb db cut chv acts down):WC (C n (.fn 106) [.ptr (some (lb,0))] h) fun r h'=>h'=h/\r=.bool true:=by
 obtain ⟨z,r⟩:=hl.r
 have l0:=r.ld1 0
 rw [List.getElem?_cons_zero] at l0
 obtain ⟨m,rfl⟩:∃ m,n=m+1:=⟨n - 1,by omega⟩
 refine call_fn _ f106A rfl (by simp [fn106]) fun QQ hQ=>?_
 simp only [fn106] at hQ
 simp only [fn106,fill_cons,fill_nil,Nat.zero_add,Nat.reduceAdd]
 simp only [F106,SS,Nat.reduceBEq,Nat.reduceEqDiff,Nat.reduceAdd,reduceIte,Nat.reduceMul,x_ne_31,Option.isSome_some,x_fa_117_0,l0,x_ne_33]
 refine hQ _ _ _ _ (.inr rfl) (by simp only [SS,Nat.reduceBEq]) (by simp only [SS,Nat.reduceBEq,Nat.reduceEqDiff,Nat.reduceAdd,reduceIte,Nat.reduceMul];rfl) ?_
 exact ⟨rfl,rfl⟩
theorem lholds_ok {n:Nat} (hn:2<=n) (hl:LnAt h lb db cut chv acts down):WC (C n (.fn 123) [.ptr (some (lb,0))] h) fun r h'=>h'=h/\r=.int .i64 (if down then 8 else 0):=by
 obtain ⟨z,r⟩:=hl.r
 have l4:=r.ld1 4
 simp only [List.getElem?_cons_zero,List.getElem?_cons_succ] at l4
 obtain ⟨m,rfl⟩:∃ m,n=m+1:=⟨n - 1,by omega⟩
 refine call_fn _ f123A rfl (by simp [fn123]) fun QQ hQ=>?_
 simp only [fn123] at hQ
 simp only [fn123,fill_cons,fill_nil,Nat.zero_add,Nat.reduceAdd]
 obtain ⟨_,h0,e1,e0,rfl⟩:=lis_ok (n:=m) (by omega) hl
 subst e0
 cases down with
 | true =>
  simp only [F123,SS,Nat.reduceBEq,Nat.reduceEqDiff,Nat.reduceAdd,reduceIte,Nat.reduceMul,e1,x_fa_117_4,l4]
  refine hQ _ _ _ _ (.inr rfl) (by simp only [SS,Nat.reduceBEq]) (by simp only [SS,Nat.reduceBEq,Nat.reduceEqDiff,Nat.reduceAdd,reduceIte,Nat.reduceMul];rfl) ?_
  exact ⟨rfl,rfl⟩
 | false =>
  simp only [F123,SS,Nat.reduceBEq,Nat.reduceEqDiff,Nat.reduceAdd,reduceIte,Nat.reduceMul,e1,x_fa_117_4,l4]
  refine hQ _ _ _ _ (.inr rfl) (by simp only [SS,Nat.reduceBEq]) (by simp only [SS,Nat.reduceBEq,Nat.reduceEqDiff,Nat.reduceAdd,reduceIte,Nat.reduceMul];rfl) ?_
  exact ⟨rfl,rfl⟩
theorem ldevice_ok {n:Nat} (hn:2<=n) (hl:LnAt h lb db cut chv acts down):WC (C n (.fn 48) [.ptr (some (lb,0))] h) fun r h'=>h'=h/\r=.ptr (some (db,0)):=by
 obtain ⟨z,r⟩:=hl.r
 have l0:=r.ld1 0
 rw [List.getElem?_cons_zero] at l0
 obtain ⟨m,rfl⟩:∃ m,n=m+1:=⟨n - 1,by omega⟩
 refine call_fn _ f48A rfl (by simp [fn48]) fun QQ hQ=>?_
 simp only [fn48] at hQ
 simp only [fn48,fill_cons,fill_nil,Nat.zero_add,Nat.reduceAdd]
 obtain ⟨_,h0,e1,e0,rfl⟩:=lis_ok (n:=m) (by omega) hl
 subst e0
 simp only [F48,SS,Nat.reduceBEq,Nat.reduceEqDiff,Nat.reduceAdd,reduceIte,Nat.reduceMul,e1,x_fa_117_0,l0]
 refine hQ _ _ _ _ (.inr rfl) (by simp only [SS,Nat.reduceBEq]) (by simp only [SS,Nat.reduceBEq,Nat.reduceEqDiff,Nat.reduceAdd,reduceIte,Nat.reduceMul];rfl) ?_
 exact ⟨rfl,rfl⟩
theorem lread_ok {n:Nat} (hn:3<=n) (hl:LnAt h lb db cut chv acts false) (hd:DevAt h db sb D) (k:Int):WC (C n (.fn 129) [.ptr (some (lb,0)),.int .i64 k] h) fun r h'=>h'=h /\
  ((k<0∨256<=k)/\r=.tuple [.str [],.int .i64 2]∨∃ j:Nat,j<256/\k=(j:Int)/\r=.tuple [.str (Si D j).read,.int .i64 0]):=by
 obtain ⟨z,r⟩:=hl.r
 have l0:=r.ld1 0
 rw [List.getElem?_cons_zero] at l0
 obtain ⟨m,rfl⟩:∃ m,n=m+1:=⟨n - 1,by omega⟩
 refine call_fn _ f129A rfl (by simp [fn129]) fun QQ hQ=>?_
 simp only [fn129] at hQ
 simp only [fn129,fill_cons,fill_nil,Nat.zero_add,Nat.reduceAdd]
 obtain ⟨_,h0,e1,e0,rfl⟩:=lholds_ok (n:=m) (by omega) hl
 subst e0
 obtain ⟨_,h1,e2,e0,hr⟩:=dread_ok (n:=m) (by omega) hd k
 subst e0
 have e1:C m (.fn 123) [.ptr (some (lb,0))] h1=some (.int .i64 0,h1):=e1
 rcases hr with ⟨hk,rfl⟩|⟨j,hj,rfl,rfl⟩
 ·simp only [F129,SS,Nat.reduceBEq,Nat.reduceEqDiff,Nat.reduceAdd,reduceIte,Nat.reduceMul,e1,x_fa_117_0,l0,e2]
  refine hQ _ _ _ _ (.inr rfl) (by simp only [SS,Nat.reduceBEq]) (by simp only [SS,Nat.reduceBEq,Nat.reduceEqDiff,Nat.reduceAdd,reduceIte,Nat.reduceMul];rfl) ?_
  exact ⟨rfl,.inl ⟨hk,rfl⟩⟩
 ·simp only [F129,SS,Nat.reduceBEq,Nat.reduceEqDiff,Nat.reduceAdd,reduceIte,Nat.reduceMul,e1,x_fa_117_0,l0,e2]
  refine hQ _ _ _ _ (.inr rfl) (by simp only [SS,Nat.reduceBEq]) (by simp only [SS,Nat.reduceBEq,Nat.reduceEqDiff,Nat.reduceAdd,reduceIte,Nat.reduceMul];rfl) ?_
  exact ⟨rfl,.inr ⟨j,hj,rfl,rfl⟩⟩
theorem act_ok {n:Nat} (hn:3<=n) (hl:LnAt h lb db cut chv acts false) (ha:acts<1000000) (hc:(acts:Int)≠cut) (f:Nat) (caps:List AV) (Q:AV->Heap->Prop)
  (hf:∀ h1,LnAt h1 lb db cut chv (acts+1) false->Sm (·= lb) h h1->WC (C (n - 1) (.fn f) caps h1) Q):WC (C n (.fn 66) [.ptr (some (lb,0)),.func (.func f) [] caps] h) Q:=by
 obtain ⟨z,r⟩:=hl.r
 have l3:=r.ld1 3
 simp only [List.getElem?_cons_zero,List.getElem?_cons_succ] at l3
 obtain ⟨m,rfl⟩:∃ m,n=m+1:=⟨n - 1,by omega⟩
 refine call_fn _ f66A rfl (by simp [fn66]) fun QQ hQ=>?_
 simp only [fn66] at hQ
 simp only [fn66,fill_cons,fill_nil,Nat.zero_add,Nat.reduceAdd]
 rw [Nat.add_sub_cancel] at hf
 obtain ⟨_,h0,e1,e0,rfl⟩:=lholds_ok (n:=m) (by omega) hl
 subst e0
 have e1:C m (.fn 123) [.ptr (some (lb,0))] h0=some (.int .i64 0,h0):=e1
 obtain ⟨w1,w2,w3,w4⟩:=r.st1 (o:=3) (v:=I (acts+1)) (by simp) rfl
 simp only [List.set_cons_succ,List.set_cons_zero] at w2
 have l1:=w2.ld1 1
 simp only [List.getElem?_cons_zero,List.getElem?_cons_succ] at l1
 have s1:Sm (·= lb) h0 (h0.wr lb 3 [I (acts+1)]):=⟨by omega,fun c _ hc=>w4 c hc⟩
 obtain ⟨v,h2,e2,hq⟩:=hf _ ⟨⟨z,w2⟩,by have:=hl.lt;omega⟩ s1
 simp only [F66,SS,Nat.reduceBEq,Nat.reduceEqDiff,Nat.reduceAdd,reduceIte,Nat.reduceMul,e1,x_fa_117_3,l3,wAdd1 (show acts<=1000000 by omega),w1,x_fa_117_1,l1,hc,e2]
 refine hQ _ _ _ _ (.inr rfl) (by simp only [SS,Nat.reduceBEq]) (by simp only [SS,Nat.reduceBEq,Nat.reduceEqDiff,Nat.reduceAdd,reduceIte,Nat.reduceMul];rfl) ?_
 exact hq
theorem lwrite_ok {n:Nat} (hn:5<=n) (hl:LnAt h lb db cut chv acts false) (hd:DevAt h db sb D) (hlb:lb≠db/\lb≠sb) (ha:acts<1000000) (hc:(acts:Int)≠cut) (k:Int) {s:List Nat} (hs:∀ c,c∈s->c<256) :
  WC (C n (.fn 21) [.ptr (some (lb,0)),.int .i64 k,.str s] h) fun r h'=>LnAt h' lb db cut chv (acts+1) false/\Sm (fun b=>b=lb∨b=sb) h h' /\
  ((DevAt h' db sb D/\((k<0∨256<=k)/\r=.int .i64 2∨(0<=k/\k<256)/\64<s.length/\r=.int .i64 3))∨∃ j:Nat,j<256/\k=(j:Int)/\s.length<=64/\r=.int .i64 0/\DevAt h' db sb (D.set j ⟨(Si D j).firm,pad s,true⟩)):=by
 have lt:=hl.lt
 have dlt:=hd.lt
 obtain ⟨m,rfl⟩:∃ m,n=m+1:=⟨n - 1,by omega⟩
 refine call_fn _ f21A rfl (by simp [fn21]) fun QQ hQ=>?_
 simp only [fn21] at hQ
 simp only [fn21,fill_cons,fill_nil,Nat.zero_add,Nat.reduceAdd]
 obtain ⟨h1,e1,r1,n1,g1⟩:=Rw.alloc h (id:=h.next) (n:=1) (vs:=[.ptr (some (lb,0))]) (z:=[]) (ro:=false) (Nat.le_refl _) rfl
 obtain ⟨h2,e2,r2,n2,g2⟩:=Rw.alloc h1 (id:=h1.next) (n:=1) (vs:=[.int .i64 k]) (z:=[]) (ro:=false) (Nat.le_refl _) rfl
 obtain ⟨h3,e3,r3,n3,g3⟩:=Rw.alloc h2 (id:=h2.next) (n:=1) (vs:=[.str s]) (z:=[]) (ro:=false) (Nat.le_refl _) rfl
 have s3:Sm NoB h h3:=⟨by omega,fun c hc _=>by rw [g3 c (by omega),g2 c (by omega),g1 c (by omega)]⟩
 have r1:Rw h3 h.next [.ptr (some (lb,0))] [] false:=r1.same (by rw [g3 _ (by omega),g2 _ (by omega)])
 have r2:Rw h3 h1.next [.int .i64 k] [] false:=r2.same (by rw [g3 _ (by omega)])
 have la:=r1.ld1 0
 rw [List.getElem?_cons_zero] at la
 have hl3:=hl.sm s3 (fun h=>h)
 have hd3:=hd.sm s3 (fun h=>h) (fun h=>h)
 obtain ⟨v,h4,e4,hv⟩:=act_ok (n:=m) (by omega) hl3 ha hc 67 [.ptr (some (h.next,0)),.ptr (some (h1.next,0)),.ptr (some (h2.next,0))] (fun r h'=>LnAt h' lb db cut chv (acts+1) false/\Sm (fun b=>b=lb∨b=sb) h3 h' /\
  ((DevAt h' db sb D/\((k<0∨256<=k)/\r=.int .i64 2∨(0<=k/\k<256)/\64<s.length/\r=.int .i64 3))∨∃ j:Nat,j<256/\k=(j:Int)/\s.length<=64/\r=.int .i64 0/\DevAt h' db sb (D.set j ⟨(Si D j).firm,pad s,true⟩))) (fun h5 hl5 s5=>by
   have hd5:=hd3.sm s5 (fun e=>hlb.1 e.symm) (fun e=>hlb.2 e.symm)
   have q1:=r1.sm s5 (by omega) (by omega)
   have q2:=r2.sm s5 (by omega) (by omega)
   have q3:=r3.sm s5 (by omega) (by omega)
   obtain ⟨hb6,e6,s6,b6,n6⟩:=Sm.bump h5 8
   have k1:=(q1.same (h':=hb6) (by rw [b6])).ld1 0
   have k2:=(q2.same (h':=hb6) (by rw [b6])).ld1 0
   have k3:=(q3.same (h':=hb6) (by rw [b6])).ld1 0
   rw [List.getElem?_cons_zero] at k1 k2 k3
   have hl6:=hl5.sm s6 (fun h=>h)
   have hd6:=hd5.sm s6 (fun h=>h) (fun h=>h)
   obtain ⟨z,rl⟩:=hl6.r
   have l0:=rl.ld1 0
   rw [List.getElem?_cons_zero] at l0
   have hm:m - 1=(m - 2)+1:=by omega
   have hm2:2<=m - 2:=by omega
   rw [hm]
   clear hn
   generalize hN:(m - 2)=m' at *
   refine call_fn _ f67A rfl (by simp [fn67]) fun QQ hQ=>?_
   simp only [fn67] at hQ
   simp only [fn67,fill_cons,fill_nil,Nat.zero_add,Nat.reduceAdd]
   obtain ⟨v,h7,e7,hv⟩:=dwrite_ok (n:=m') (by omega) hd6 k hs
   simp only [F67,SS,Nat.reduceBEq,Nat.reduceEqDiff,Nat.reduceAdd,reduceIte,Nat.reduceMul,e6,k1,k2,k3,x_fa_117_0,l0,e7]
   have s67:Sm (·= lb) h3 hb6:=s5.trans s6 (fun _ _ h=>h) (fun _ _ h=>h.elim)
   refine hQ _ _ _ _ (.inr rfl) (by simp only [SS,Nat.reduceBEq]) (by simp only [SS,Nat.reduceBEq,Nat.reduceEqDiff,Nat.reduceAdd,reduceIte,Nat.reduceMul];rfl) ?_
   rcases hv with ⟨rfl,hv⟩|⟨j,hj,hk,hsl,hr,hd7,s7⟩
   ·exact ⟨hl6,s67.mono (fun c _ hc=>.inl hc),.inl ⟨hd6,hv⟩⟩
   ·exact ⟨hl6.sm s7 hlb.2,s67.trans s7 (fun c _ hc=>.inl hc) (fun c _ hc=>.inr hc),.inr ⟨j,hj,hk,hsl,hr,hd7⟩⟩)
 simp only [F21,SS,Nat.reduceBEq,Nat.reduceEqDiff,Nat.reduceAdd,reduceIte,Nat.reduceMul,bx_ptr,bx_int,bx_str,e1,e2,e3,la,mkf3,e4]
 refine hQ _ _ _ _ (.inr rfl) (by simp only [SS,Nat.reduceBEq]) (by simp only [SS,Nat.reduceBEq,Nat.reduceEqDiff,Nat.reduceAdd,reduceIte,Nat.reduceMul];rfl) ?_
 exact ⟨hv.1,s3.trans hv.2.1 (fun _ _ h=>h.elim) (fun _ _ h=>h),hv.2.2⟩
end
end Go.Proofs.YtboobbebilegnaaGreat
namespace Go.Proofs.YtboobbebilegnaaGreat
open Go.Am
set_option maxRecDepth 10000
abbrev w64 (w:Nat):AV:=.int .u64 (w:Int)
structure SpAt (h:Heap) (sp wb:Nat) (U:Nat->Bool):Prop where
 r:∃ z g,Rw h sp [.int .i64 128,.int .i64 256,.slice (some (wb,0)) 1 1 g] z false
 w:∃ z W,Rw h wb (W.map w64) z false/\Bits W U
 lt:sp<h.next/\wb<h.next
 ne:sp≠wb
theorem z187:tZero P 187=some (.agg ([0,0,0,0].map w64)):=z_187
section
variable {h h':Heap} {sp wb:Nat} {U:Nat->Bool}
theorem SpAt.sm {F:Nat->Prop} (hs:SpAt h sp wb U) (s:Sm F h h') (h1:¬F sp) (h2:¬F wb):SpAt h' sp wb U:=by
 obtain ⟨⟨z,g,r⟩,⟨z',W,w,bb⟩,⟨l1,l2⟩,n⟩:=hs
 have:=s.1
 exact ⟨⟨z,g,r.sm s l1 h1⟩,⟨z',W,w.sm s l2 h2,bb⟩,⟨by omega,by omega⟩,n⟩
theorem spnew_ok {n:Nat} (hn:1<=n) {h:Heap}:WC (C n (.fn 51) [.int .i64 128,.int .i64 256] h) fun r h'=>∃ sp wb,r=.ptr (some (sp,0))/\SpAt h' sp wb (fun _=>false)/\Sm NoB h h'/\h.next<=sp/\h.next<=wb:=by
 obtain ⟨m,rfl⟩:∃ m,n=m+1:=⟨n - 1,by omega⟩
 refine call_fn _ f51A rfl (by simp [fn51]) fun QQ hQ=>?_
 simp only [fn51] at hQ
 simp only [fn51,fill_cons,fill_nil,Nat.zero_add,Nat.reduceAdd]
 obtain ⟨h1,e1,r1,n1,g1⟩:=Rw.zeros h (id:=h.next) (n:=1) (s:=4) (z:=[0,0,0,0].map w64) (ro:=false) (Nat.le_refl _) rfl (by decide)
 have ms:makeSlice2 P 178 (.int .i64 1) (.int .i64 1)=some (.cells .leaf ([0,0,0,0].map w64) (1*4) false,fun b=>.slice (some (b,0)) 1 1 none):=ms_make (n:=1) u_178 s_187 z187 b_187 rfl rfl (by decide) (by decide)
 rw [show (1:Nat)*4=4 from rfl] at e1 ms
 obtain ⟨h2,e2,r2,n2,g2⟩:=Rw.alloc h1 (id:=h1.next) (n:=3) (vs:=[.int .i64 128,.int .i64 256,.slice (some (h.next,0)) 1 1 none]) (z:=[]) (ro:=false) (Nat.le_refl _) rfl
 have w1:IntKind.i64.wrap ((256:Int) - 1)=255:=by decide
 have w2:IntKind.i64.wrap ((255:Int).tdiv 256)=0:=by decide
 have w3:IntKind.i64.wrap ((0:Int)+1)=1:=by decide
 have c1:¬((128:Int)<0):=by decide
 have c2:¬((256:Int)<=128):=by decide
 have c3:¬((2048:Int)<256):=by decide
 simp only [F51,SS,Nat.reduceBEq,Nat.reduceEqDiff,Nat.reduceAdd,reduceIte,Nat.reduceMul,c1,c2,c3,w1,b_quo (show (256:Int)≠0 by decide),w2,w3,ms,e1,x_bd_180_0_1_2,e2]
 refine hQ _ _ _ _ (.inr rfl) (by simp only [SS,Nat.reduceBEq]) (by simp only [SS,Nat.reduceBEq,Nat.reduceEqDiff,Nat.reduceAdd,reduceIte,Nat.reduceMul];rfl) ?_
 have r1:Rw h2 h.next ([0,0,0,0].map w64) ([0,0,0,0].map w64) false:=r1.same (g2 h.next (by omega))
 refine ⟨h1.next,h.next,rfl,⟨⟨_,_,r2⟩,⟨_,[0,0,0,0],r1,Bits.zero⟩,by omega,by omega⟩,⟨by omega,fun c hc _=>by rw [g2 c (by omega),g1 c (by omega)]⟩,by omega,by omega⟩
theorem spis_ok {n:Nat} (hn:1<=n) (hs:SpAt h sp wb U):WC (C n (.fn 110) [.ptr (some (sp,0))] h) fun r h'=>h'=h/\r=.bool true:=by
 obtain ⟨z,g,r⟩:=hs.r
 have l1:=r.ld1 1
 simp only [List.getElem?_cons_zero,List.getElem?_cons_succ] at l1
 have c1:(0:Int)<256:=by decide
 obtain ⟨m,rfl⟩:∃ m,n=m+1:=⟨n - 1,by omega⟩
 refine call_fn _ f110A rfl (by simp [fn110]) fun QQ hQ=>?_
 simp only [fn110] at hQ
 simp only [fn110,fill_cons,fill_nil,Nat.zero_add,Nat.reduceAdd]
 simp only [F110,SS,Nat.reduceBEq,Nat.reduceEqDiff,Nat.reduceAdd,reduceIte,Nat.reduceMul,x_ne_95,Option.isSome_some,x_fa_180_1,l1,c1]
 refine hQ _ _ _ _ (.inr rfl) (by simp only [SS,Nat.reduceBEq]) (by simp only [SS,Nat.reduceBEq,Nat.reduceEqDiff,Nat.reduceAdd,reduceIte,Nat.reduceMul];rfl) ?_
 exact ⟨rfl,rfl⟩
theorem sprules_ok {n:Nat} (hn:2<=n) (hs:SpAt h sp wb U) (k:Int):WC (C n (.fn 116) [.ptr (some (sp,0)),.int .i64 k] h) fun r h'=>h'=h/\r=.int .i64 (if 128<=k/\k<256 then 0 else 2):=by
 obtain ⟨z,g,r⟩:=hs.r
 have l0:=r.ld1 0
 have l1:=r.ld1 1
 simp only [List.getElem?_cons_zero,List.getElem?_cons_succ] at l0 l1
 obtain ⟨m,rfl⟩:∃ m,n=m+1:=⟨n - 1,by omega⟩
 refine call_fn _ f116A rfl (by simp [fn116]) fun QQ hQ=>?_
 simp only [fn116] at hQ
 simp only [fn116,fill_cons,fill_nil,Nat.zero_add,Nat.reduceAdd]
 obtain ⟨_,h0,e1,e0,rfl⟩:=spis_ok (n:=m) (by omega) hs
 subst e0
 by_cases h1:k<128
 ·simp only [F116,SS,Nat.reduceBEq,Nat.reduceEqDiff,Nat.reduceAdd,reduceIte,Nat.reduceMul,e1,x_fa_180_0,x_fa_180_1,l0,l1,h1]
  refine hQ _ _ _ _ (.inr rfl) (by simp only [SS,Nat.reduceBEq]) (by simp only [SS,Nat.reduceBEq,Nat.reduceEqDiff,Nat.reduceAdd,reduceIte,Nat.reduceMul];rfl) ?_
  rw [if_neg (by omega)]
  exact ⟨rfl,rfl⟩
 ·by_cases h2:256<=k
  ·simp only [F116,SS,Nat.reduceBEq,Nat.reduceEqDiff,Nat.reduceAdd,reduceIte,Nat.reduceMul,e1,x_fa_180_0,x_fa_180_1,l0,l1,h1,h2]
   refine hQ _ _ _ _ (.inr rfl) (by simp only [SS,Nat.reduceBEq]) (by simp only [SS,Nat.reduceBEq,Nat.reduceEqDiff,Nat.reduceAdd,reduceIte,Nat.reduceMul];rfl) ?_
   rw [if_neg (by omega)]
   exact ⟨rfl,rfl⟩
  ·simp only [F116,SS,Nat.reduceBEq,Nat.reduceEqDiff,Nat.reduceAdd,reduceIte,Nat.reduceMul,e1,x_fa_180_0,x_fa_180_1,l0,l1,h1,h2]
   refine hQ _ _ _ _ (.inr rfl) (by simp only [SS,Nat.reduceBEq]) (by simp only [SS,Nat.reduceBEq,Nat.reduceEqDiff,Nat.reduceAdd,reduceIte,Nat.reduceMul];rfl) ?_
   rw [if_pos (by omega)]
   exact ⟨rfl,rfl⟩
theorem spbit_ok {n:Nat} (hn:1<=n) (hs:SpAt h sp wb U) {k:Nat} (hk:k<256):WC (C n (.fn 117) [.ptr (some (sp,0)),.int .i64 (k:Int)] h) fun r h'=>Sm NoB h h'/\r=.tuple [.ptr (some (wb,k / 64)),w64 (2^(k%64))]:=by
 obtain ⟨h1,e1,s1,b1,n1⟩:=Sm.bump h 16
 obtain ⟨z,g,r⟩:=(hs.sm s1 (fun h=>h) (fun h=>h)).r
 have l2:=r.ld1 2
 simp only [List.getElem?_cons_zero,List.getElem?_cons_succ] at l2
 obtain ⟨m,rfl⟩:∃ m,n=m+1:=⟨n - 1,by omega⟩
 refine call_fn _ f117A rfl (by simp [fn117]) fun QQ hQ=>?_
 simp only [fn117] at hQ
 simp only [fn117,fill_cons,fill_nil,Nat.zero_add,Nat.reduceAdd]
 have w1:IntKind.i64.wrap ((k:Int).tdiv 256)=((0:Nat):Int):=by
  rw [show (k:Int).tdiv 256=((k / 256:Nat):Int) from rfl,show k / 256=0 by omega];rfl
 have w2:(k:Int).tmod 256=(k:Int):=by rw [show (k:Int).tmod 256=((k%256:Nat):Int) from rfl,Nat.mod_eq_of_lt hk]
 have w3:IntKind.i64.wrap ((k:Int).tdiv 64)=((k / 64:Nat):Int):=by
  rw [show (k:Int).tdiv 64=((k / 64:Nat):Int) from rfl,wrap_i64 (by omega) (by omega)]
 have w4:(k:Int).tmod 64=((k%64:Nat):Int):=rfl
 have w5:bin2 P .shl 185 (.int .u64 1) (.int .i64 ((k%64:Nat):Int))=some (w64 (2^(k%64))):=by
  rw [b_shl (show k%64<=IntKind.u64.bits by have:IntKind.u64.bits=64:=rfl;omega)]
  have:=pow_le63 (show k%64<64 by omega)
  rw [Int.one_mul,show (2:Int)^(k%64)=((2^(k%64):Nat):Int) from (Int.natCast_pow 2 (k%64)).symm]
  generalize 2^(k%64)=p at this
  rw [wrap_u64 (by omega) (by omega)]
 have x1:=x_ia_178 (k:=.i64) (b:=wb) (o:=0) (n:=1) (c:=1) (g:=g) (i:=0) (by decide)
 have x2:=fun o=>x_ia_187 (k:=.i64) (b:=wb) (o:=o) (i:=k / 64) (by omega)
 simp only [F117,SS,Nat.reduceBEq,Nat.reduceEqDiff,Nat.reduceAdd,reduceIte,Nat.reduceMul,e1,x_fa_180_2,l2,b_quo (show (256:Int)≠0 by decide),b_quo (show (64:Int)≠0 by decide),b_rem (show (256:Int)≠0 by decide),b_rem (show (64:Int)≠0 by decide),w1,w2,w3,w4,x1,x2,w5]
 refine hQ _ _ _ _ (.inr rfl) (by simp only [SS,Nat.reduceBEq]) (by simp only [SS,Nat.reduceBEq,Nat.reduceEqDiff,Nat.reduceAdd,reduceIte,Nat.reduceMul];rfl) ?_
 exact ⟨s1,rfl⟩
theorem w64_max {w:Nat} (h:w<2^64):w<=maxK .u64:=by
 have:maxK .u64=2^64 - 1:=by rfl
 rw [this];exact Nat.le_sub_one_of_lt h
theorem pw_max {k:Nat}:2^(k%64)<=maxK .u64:=w64_max (Nat.pow_lt_pow_right (by decide) (Nat.mod_lt _ (by decide)))
theorem SpAt.and (hs:SpAt h sp wb U) {k:Nat} (hk:k<256):∃ w:Nat,h.ld1 wb (k / 64)=some (w64 w)/\w<=maxK .u64/\bin2 P .and 185 (w64 w) (w64 (2^(k%64)))=some (w64 (if U k then 2^(k%64) else 0)):=by
 obtain ⟨z,W,r,bb⟩:=hs.w
 obtain ⟨q1,q2⟩:=bb.word hk
 refine ⟨W.getD (k / 64) 0,?_,w64_max q2,?_⟩
 ·rw [r.ld1,List.getElem?_map,q1];rfl
 ·rw [b_and (w64_max q2) pw_max,bb.ask hk]
  have:=pow_le63 (show k%64<64 by omega)
  rw [wrap_u64 (by omega) (by split <;> omega)]
theorem pw_pos (k:Nat):((2^(k%64):Nat):Int)≠0:=by have:=Nat.two_pow_pos (k%64);omega
theorem spfree_ok {n:Nat} (hn:3<=n) (hs:SpAt h sp wb U) {k:Nat} (hk1:128<=k) (hk:k<256):WC (C n (.fn 154) [.ptr (some (sp,0)),.int .i64 (k:Int)] h) fun r h'=>Sm NoB h h'/\r=.bool (!U k):=by
 obtain ⟨m,rfl⟩:∃ m,n=m+1:=⟨n - 1,by omega⟩
 refine call_fn _ f154A rfl (by simp [fn154]) fun QQ hQ=>?_
 simp only [fn154] at hQ
 simp only [fn154,fill_cons,fill_nil,Nat.zero_add,Nat.reduceAdd]
 obtain ⟨_,h0,e1,e0,rfl⟩:=sprules_ok (n:=m) (by omega) hs (k:Int)
 subst e0
 rw [if_pos (by omega)] at e1
 obtain ⟨_,h2,e2,s2,rfl⟩:=spbit_ok (n:=m) (by omega) hs hk
 obtain ⟨w,l1,_,e3⟩:=(hs.sm s2 (fun h=>h) (fun h=>h)).and hk
 simp only [F154,SS,Nat.reduceBEq,Nat.reduceEqDiff,Nat.reduceAdd,reduceIte,Nat.reduceMul,e1,e2,l1,e3]
 refine hQ _ _ _ _ (.inr rfl) (by simp only [SS,Nat.reduceBEq]) (by simp only [SS,Nat.reduceBEq,Nat.reduceEqDiff,Nat.reduceAdd,reduceIte,Nat.reduceMul];rfl) ?_
 refine ⟨s2,?_⟩
 cases U k with
 | true=>simp only [if_true,pw_pos,decide_false,Bool.not_true];rfl
 | false=>rfl
theorem spuse_ok {n:Nat} (hn:3<=n) (hs:SpAt h sp wb U) (k:Int):WC (C n (.fn 59) [.ptr (some (sp,0)),.int .i64 k] h) fun r h' =>
  ((k<128∨256<=k)/\r=.int .i64 2/\h'=h)∨∃ j:Nat,k=(j:Int)/\128<=j/\j<256/\(U j=true/\r=.int .i64 6/\Sm NoB h h'∨U j=false/\r=.int .i64 0/\SpAt h' sp wb (fun i=>U i||decide (i=j))/\Sm (·= wb) h h'):=by
 obtain ⟨m,rfl⟩:∃ m,n=m+1:=⟨n - 1,by omega⟩
 refine call_fn _ f59A rfl (by simp [fn59]) fun QQ hQ=>?_
 simp only [fn59] at hQ
 simp only [fn59,fill_cons,fill_nil,Nat.zero_add,Nat.reduceAdd]
 obtain ⟨_,h0,e1,e0,rfl⟩:=sprules_ok (n:=m) (by omega) hs k
 subst e0
 by_cases hin:128<=k/\k<256
 ·rw [if_pos hin] at e1
  obtain ⟨j,rfl⟩:∃ j:Nat,k=(j:Int):=⟨k.toNat,by omega⟩
  have hj:j<256:=by omega
  obtain ⟨_,h2,e2,s2,rfl⟩:=spbit_ok (n:=m) (by omega) hs hj
  have hs2:=hs.sm s2 (fun h=>h) (fun h=>h)
  obtain ⟨w,l1,hw,e3⟩:=hs2.and hj
  cases hu:U j with
  | true =>
   rw [hu,if_pos rfl] at e3
   have np:=pw_pos j
   simp only [F59,SS,Nat.reduceBEq,Nat.reduceEqDiff,Nat.reduceAdd,reduceIte,Nat.reduceMul,e1,e2,l1,e3,np]
   refine hQ _ _ _ _ (.inr rfl) (by simp only [SS,Nat.reduceBEq]) (by simp only [SS,Nat.reduceBEq,Nat.reduceEqDiff,Nat.reduceAdd,reduceIte,Nat.reduceMul];rfl) ?_
   exact .inr ⟨j,rfl,by omega,hj,.inl ⟨hu,rfl,s2⟩⟩
  | false =>
   rw [hu,if_neg (by decide)] at e3
   obtain ⟨z,W,r,bb⟩:=hs2.w
   have hwl:=bb.len
   obtain ⟨q1,q2⟩:=bb.word hj
   have hwe:w=W.getD (j / 64) 0:=by
    rw [r.ld1,List.getElem?_map,q1,Option.map_some] at l1
    have:=Option.some.inj l1
    injection this with _ h;omega
   have eo:bin2 P .or 185 (w64 w) (w64 (2^(j%64)))=some (w64 (w|||2^(j%64))):=by
    rw [b_or hw pw_max]
    have:w|||2^(j%64)<2^64:=Nat.or_lt_two_pow (by rw [hwe];exact q2) (Nat.pow_lt_pow_right (by decide) (Nat.mod_lt _ (by decide)))
    rw [wrap_u64 (by omega) (by omega)]
   obtain ⟨a1,a2,a3,a4⟩:=r.st1 (o:=j / 64) (v:=w64 (w|||2^(j%64))) (by rw [List.length_map];omega) rfl
   have e00:((0:Nat):Int)=0:=rfl
   simp only [F59,SS,Nat.reduceBEq,Nat.reduceEqDiff,Nat.reduceAdd,reduceIte,Nat.reduceMul,e1,e2,l1,e3,e00,eo,a1]
   refine hQ _ _ _ _ (.inr rfl) (by simp only [SS,Nat.reduceBEq]) (by simp only [SS,Nat.reduceBEq,Nat.reduceEqDiff,Nat.reduceAdd,reduceIte,Nat.reduceMul];rfl) ?_
   have n2:=s2.1
   have lt:=hs2.lt
   have s3:Sm (·= wb) h2 (h2.wr wb (j / 64) [w64 (w|||2^(j%64))]):=⟨by omega,fun c _ hc=>a4 c hc⟩
   refine .inr ⟨j,rfl,by omega,hj,.inr ⟨hu,rfl,?_,s2.trans s3 (fun _ _ h=>h.elim) (fun _ _ h=>h)⟩⟩
   obtain ⟨zr,g,rr⟩:=hs2.r
   refine ⟨⟨zr,g,rr.same (a4 sp hs.ne)⟩,⟨z,W.set (j / 64) (W.getD (j / 64) 0|||2^(j%64)),?_,bb.use hj⟩,⟨by omega,by omega⟩,hs.ne⟩
   rw [List.map_set,← hwe];exact a2
 ·rw [if_neg hin] at e1
  simp only [F59,SS,Nat.reduceBEq,Nat.reduceEqDiff,Nat.reduceAdd,reduceIte,Nat.reduceMul,e1]
  refine hQ _ _ _ _ (.inr rfl) (by simp only [SS,Nat.reduceBEq]) (by simp only [SS,Nat.reduceBEq,Nat.reduceEqDiff,Nat.reduceAdd,reduceIte,Nat.reduceMul];rfl) ?_
  exact .inl ⟨by omega,rfl,rfl⟩
theorem spall_ok {n:Nat} (hn:1<=n):WC (C n (.fn 118) [.ptr (some (sp,0))] h) fun r h'=>∃ bx,r=.func (.func 153) [] [.ptr (some (bx,0))]/\Rw h' bx [.ptr (some (sp,0))] [] false/\bx<h'.next/\Sm NoB h h'/\h.next<=bx:=by
 obtain ⟨m,rfl⟩:∃ m,n=m+1:=⟨n - 1,by omega⟩
 refine call_fn _ f118A rfl (by simp [fn118]) fun QQ hQ=>?_
 simp only [fn118] at hQ
 simp only [fn118,fill_cons,fill_nil,Nat.zero_add,Nat.reduceAdd]
 obtain ⟨h1,e1,rx,n1,g1⟩:=Rw.alloc h (id:=h.next) (n:=1) (vs:=[.ptr (some (sp,0))]) (z:=[]) (ro:=false) (Nat.le_refl _) rfl
 simp only [F118,SS,Nat.reduceBEq,Nat.reduceEqDiff,Nat.reduceAdd,reduceIte,Nat.reduceMul,bx_ptr,e1,mkf1]
 refine hQ _ _ _ _ (.inr rfl) (by simp only [SS,Nat.reduceBEq]) (by simp only [SS,Nat.reduceBEq,Nat.reduceEqDiff,Nat.reduceAdd,reduceIte,Nat.reduceMul];rfl) ?_
 exact ⟨h.next,rfl,rx,by omega,⟨by omega,fun c hc _=>g1 c (by omega)⟩,Nat.le_refl _⟩
theorem spIt_ok {n:Nat} (hn:5<=n) {bx l:Nat} (J:Nat->Heap->Prop) (D:Heap->Prop) (hJ0:J 128 h)
  (hk:∀ k h',J k h'->SpAt h' sp wb U/\Rw h' bx [.ptr (some (sp,0))] [] false/\bx<h'.next) (hno:∀ k h1 h',J k h1->Sm NoB h1 h'->J k h') (hskip:∀ k h',128<=k->k<256->U k=true->J k h'->J (k+1) h')
  (hround:∀ k h',128<=k->k<256->U k=false->J k h'->WC (C (n - 1) (.loop l) [.int .i64 (k:Int)] h') fun v h2=>v=.bool true/\J (k+1) h2∨v=.bool false/\D h2) :
  WC (C n (.fn 153) [.func (.yield l) [] [],.ptr (some (bx,0))] h) fun _ h'=>J 256 h'∨D h':=by
 obtain ⟨m,rfl⟩:∃ m,n=m+1:=⟨n - 1,by omega⟩
 refine call_fn _ f153A rfl (by simp [fn153]) fun QQ hQ=>?_
 simp only [fn153] at hQ
 simp only [fn153,fill_cons,fill_nil,Nat.zero_add,Nat.reduceAdd]
 rw [Nat.add_sub_cancel] at hround
 obtain ⟨hs,rx,_⟩:=hk _ _ hJ0
 have lx:=rx.ld1 0
 rw [List.getElem?_cons_zero] at lx
 obtain ⟨z,g,r⟩:=hs.r
 have l0:=r.ld1 0
 rw [List.getElem?_cons_zero] at l0
 obtain ⟨_,h0,e1,e0,rfl⟩:=spis_ok (n:=m) (by omega) hs
 subst e0
 simp only [F153,SS,Nat.reduceBEq,Nat.reduceEqDiff,Nat.reduceAdd,reduceIte,Nat.reduceMul,lx,e1,x_fa_180_0,l0]
 refine run_loop (c:=c153_10) (I:=fun m' tm' h'=>∃ k,128<=k/\k<=256/\m'=256 - k/\J k h'/\tm'.gt 0=some (.func (.yield l) [] [])/\tm'.gt 1=some (.ptr (some (bx,0)))/\tm'.gt 3=some (I k)/\tm'.gt 28=none) (n:=128)
  ⟨128,by omega,by omega,rfl,hJ0,by simp only [SS,Nat.reduceBEq],by simp only [SS,Nat.reduceBEq],by simp only [SS,Nat.reduceBEq,Nat.reduceEqDiff,Nat.reduceAdd,reduceIte,Nat.reduceMul];rfl,by simp only [SS,Nat.reduceBEq]⟩ (by omega) ?_
 clear hJ0 hs rx lx r l0 e1
 rintro _ tm h1 ⟨k,hk1,hk2,rfl,hJ,t0,t1,t3,t28⟩ Q1 hN1 hE
 obtain ⟨hs,rx,_⟩:=hk _ _ hJ
 have lx:=rx.ld1 0
 rw [List.getElem?_cons_zero] at lx
 obtain ⟨z,g,r⟩:=hs.r
 have l1:=r.ld1 1
 simp only [List.getElem?_cons_zero,List.getElem?_cons_succ] at l1
 by_cases hlt:k<256
 ·have hlt':(k:Int)<256:=by omega
  obtain ⟨_,h2,e2,s2,rfl⟩:=spfree_ok (n:=m) (by omega) hs hk1 hlt
  have hJ2:=hno _ _ _ hJ s2
  cases hu:U k with
  | true =>
   rw [hu] at e2
   simp only [F153,SS,Nat.reduceBEq,Nat.reduceEqDiff,Nat.reduceAdd,reduceIte,Nat.reduceMul,t0,t1,t3,lx,x_fa_180_1,l1,hlt',e2,w_undef,wAdd1 (show k<=1000000 by omega)]
   refine hN1 _ _ (256 - (k+1)) (by omega) ⟨k+1,by omega,by omega,rfl,hskip _ _ hk1 hlt hu hJ2,by simp only [SS,Nat.reduceBEq,t0],by simp only [SS,Nat.reduceBEq,t1],by simp only [SS,Nat.reduceBEq],by simp only [SS,Nat.reduceBEq,t28]⟩
  | false =>
   rw [hu] at e2
   obtain ⟨v,h4,ey,hv⟩:=hround k h2 hk1 hlt hu hJ2
   rcases hv with ⟨rfl,hJ4⟩|⟨rfl,hD⟩
   ·simp only [F153,SS,Nat.reduceBEq,Nat.reduceEqDiff,Nat.reduceAdd,reduceIte,Nat.reduceMul,t0,t1,t3,lx,x_fa_180_1,l1,hlt',e2,ey,w_undef,wAdd1 (show k<=1000000 by omega)]
    refine hN1 _ _ (256 - (k+1)) (by omega) ⟨k+1,by omega,by omega,rfl,hJ4,by simp only [SS,Nat.reduceBEq,t0],by simp only [SS,Nat.reduceBEq,t1],by simp only [SS,Nat.reduceBEq],by simp only [SS,Nat.reduceBEq,t28]⟩
   ·simp only [F153,SS,Nat.reduceBEq,Nat.reduceEqDiff,Nat.reduceAdd,reduceIte,Nat.reduceMul,t0,t1,t3,lx,x_fa_180_1,l1,hlt',e2,ey,w_undef]
    refine hE _ _ _ (by simp) ?_
    simp only [SS,Nat.reduceBEq,Nat.reduceEqDiff,Nat.reduceAdd,reduceIte,Nat.reduceMul]
    refine hQ _ _ _ _ (.inr rfl) (by simp only [SS,Nat.reduceBEq,t28]) (by simp only [SS,Nat.reduceBEq,Nat.reduceEqDiff,Nat.reduceAdd,reduceIte,Nat.reduceMul];rfl) (.inr hD)
 ·obtain rfl:k=256:=by omega
  have hlt':¬((256:Nat):Int)<256:=by decide
  simp only [F153,SS,Nat.reduceBEq,Nat.reduceEqDiff,Nat.reduceAdd,reduceIte,Nat.reduceMul,t0,t1,t3,lx,x_fa_180_1,l1,hlt']
  refine hE _ _ _ (by simp) ?_
  simp only [SS,Nat.reduceBEq,Nat.reduceEqDiff,Nat.reduceAdd,reduceIte,Nat.reduceMul]
  refine hQ _ _ _ _ (.inl rfl) (by simp only [SS,Nat.reduceBEq,t28]) (by simp only [SS,Nat.reduceBEq,Nat.reduceEqDiff,Nat.reduceAdd,reduceIte,Nat.reduceMul];rfl) (.inl hJ)
end
end Go.Proofs.YtboobbebilegnaaGreat
namespace Go.Proofs.YtboobbebilegnaaGreat
open Go.Am
set_option maxRecDepth 10000
theorem put_sm {h:Heap} {b:Nat} {x:Blk}:∃ h',h.put b x=h'/\h'.bs.gt b=some x/\h'.next=h.next/\Sm (·= b) h h' :=
 ⟨_,rfl,by rw [put_get,if_pos rfl],rfl,⟨Nat.le_refl _,fun c _ hc=>by rw [put_get,if_neg hc]⟩⟩
def LRe (l f nt:Nat) (ps:List Nat) (A B:Code) (T:Tr AV->Prop) (h:Heap):Prop :=
 ∃ b:LRec,h.bs.gt l=some (.loop b)/\b.st=.ready/\b.pending=none/\b.fn=f/\b.params=ps/\b.assign=A/\b.body=B/\b.tm.gt nt=none/\T b.tm
theorem LRe.sm {l f nt:Nat} {ps:List Nat} {A B:Code} {T:Tr AV->Prop} {h h':Heap} {F:Nat->Prop} (hr:LRe l f nt ps A B T h) (s:Sm F h h') (hl:l<h.next) (hF:¬F l):LRe l f nt ps A B T h':=by
 obtain ⟨b,h1,r⟩:=hr
 exact ⟨b,(s.2 l hl hF).trans h1,r⟩
def cntF (U:Nat->Bool) (k:Nat):Nat:=((List.range k).filter fun j=>decide (128<=j)&&!U j).length
theorem cntF_succ (U:Nat->Bool) (k:Nat):cntF U (k+1)=cntF U k+if 128<=k/\U k=false then 1 else 0:=by
 unfold cntF
 rw [List.range_succ,List.filter_append,List.length_append]
 congr 1
 by_cases h1:128<=k <;> cases hu:U k <;> simp [h1,hu]
theorem cntF_le (U:Nat->Bool) (k:Nat):cntF U k<=k:=by
 unfold cntF
 have:=List.length_filter_le (fun j=>decide (128<=j)&&!U j) (List.range k)
 rwa [List.length_range] at this
theorem cntF_128 (U:Nat->Bool):∀ k,k<=128->cntF U k=0
 | 0,_=>rfl
 | k+1,h=>by rw [cntF_succ,cntF_128 U k (by omega),if_neg (by omega)]
theorem keep61:keepF P 61 10=false:=by kernel_rfl
theorem nt61:ntOf P 61=10:=by kernel_rfl
structure JC (h0:Heap) (l cb bx sp wb:Nat) (U:Nat->Bool) (k:Nat) (h:Heap):Prop where
 rc:LRe l 61 10 [6] c61_8A c61_8B (fun tm=>tm.gt 3=some (.ptr (some (cb,0)))) h
 ct:∃ z,Rw h cb [I (cntF U k)] z false
 rx:Rw h bx [.ptr (some (sp,0))] [] false
 s:SpAt h sp wb U
 sm:Sm NoB h0 h
 lt:cb<h.next/\l<h.next/\bx<h.next
 ge:h0.next<=cb/\h0.next<=l/\h0.next<=bx
 ne:l≠cb/\l≠bx/\cb≠bx
 old:sp<h0.next/\wb<h0.next
section
variable {h0 h:Heap} {l cb bx sp wb:Nat} {U:Nat->Bool} {k:Nat}
theorem JC.no {h':Heap} (hj:JC h0 l cb bx sp wb U k h) (hs:Sm NoB h h'):JC h0 l cb bx sp wb U k h':=by
 obtain ⟨rc,⟨z,ct⟩,rx,s,sm,⟨l1,l2,l3⟩,ge,ne,old⟩:=hj
 have:=hs.1
 exact ⟨rc.sm hs l2 (fun h=>h),⟨z,ct.sm hs l1 (fun h=>h)⟩,rx.sm hs l3 (fun h=>h),s.sm hs (fun h=>h) (fun h=>h),sm.trans hs (fun _ _ h=>h) (fun _ _ h=>h),⟨by omega,by omega,by omega⟩,ge,ne,old⟩
theorem cround_ok {m:Nat} (hm:1<=m) (hj:JC h0 l cb bx sp wb U k h) (hk:128<=k) (hk2:k<256) (hu:U k=false) :
  WC (C m (.loop l) [.int .i64 (k:Int)] h) fun v h2=>v=.bool true/\JC h0 l cb bx sp wb U (k+1) h2:=by
 obtain ⟨m,rfl⟩:∃ m',m=m'+1:=⟨m - 1,by omega⟩
 obtain ⟨⟨b,hat,hst,hpd,hfn,hps,has,hbo,t10,t3⟩,⟨z,ct⟩,rx,s,sm,⟨l1,l2,l3⟩,ge,ne,old⟩:=hj
 refine call_loop _ hat (nt:=10) (CA:=c61_9) (CB:=c61_10) (tm':=b.tm.up (some (.int .i64 (k:Int))) 6) (by rw [hfn];exact nt61) (by rw [hps];rfl) (by rw [hfn];exact keep61) t10 (by rw [hfn,has];exact q61_8a) (by rw [hfn,hbo];exact q61_8b) fun QA hA=>?_
 rw [hfn] at hA ⊢
 simp only [F61,SS,Nat.reduceBEq,Nat.reduceEqDiff,Nat.reduceAdd,reduceIte,Nat.reduceMul]
 refine hA _ _ b hat hst fun QB hB=>?_
 obtain ⟨h3,e3,m3,n3,s3⟩:=put_sm (h:=h) (b:=l) (x:=.loop { b with st:=.busy })
 rw [e3]
 have c3:=ct.sm s3 l1 (fun e=>ne.1 e.symm)
 have k3:=c3.ld1 0
 rw [List.getElem?_cons_zero] at k3
 have hle:=cntF_le U k
 obtain ⟨w1,w2,w3,w4⟩:=c3.st1 (o:=0) (v:=I (cntF U k+1)) (by simp) rfl
 rw [show ([I (cntF U k)]:List AV).set 0 (I (cntF U k+1))=[I (cntF U k+1)] from rfl] at w2
 simp only [F61,SS,Nat.reduceBEq,Nat.reduceEqDiff,Nat.reduceAdd,reduceIte,Nat.reduceMul,t3,k3,wAdd1 (show cntF U k<=1000000 by omega),w1]
 refine hB _ _ _ _ ((w4 l ne.1).trans m3) rfl ?_
 obtain ⟨h6,e6,m6,n6,s6⟩:=put_sm (h:=h3.wr cb 0 [I (cntF U k+1)]) (b:=l) (x:=.loop (endL .normal { b with st:=.busy }).2)
 rw [e6]
 have s36:Sm (fun c=>c=cb∨c=l) h3 h6:=(show Sm (·= cb) h3 (h3.wr cb 0 [I (cntF U k+1)]) from ⟨by omega,fun c _ hc=>w4 c hc⟩).trans s6 (fun _ _ h=>.inl h) (fun _ _ h=>.inr h)
 have s06:Sm (fun c=>c=cb∨c=l) h h6:=s3.trans s36 (fun _ _ h=>.inr h) (fun _ _ h=>h)
 have hn:=s06.1
 have hn0:=sm.1
 refine ⟨rfl,⟨⟨_,m6,rfl,rfl,hfn,hps,has,hbo,t10,t3⟩,⟨z,?_⟩,rx.sm s06 l3 (by omega),s.sm s06 (by omega) (by omega),sm.trans s06 (fun _ _ h=>h) (fun c hc e=>by omega),⟨by omega,by omega,by omega⟩,ge,ne,old⟩⟩
 rw [cntF_succ,if_pos ⟨hk,hu⟩]
 exact w2.sm s6 (by omega) (fun e=>ne.1 e.symm)
theorem spcount_ok {n:Nat} (hn:7<=n) (hs:SpAt h sp wb U):WC (C n (.fn 61) [.ptr (some (sp,0))] h) fun r h'=>Sm NoB h h'/\r=I (cntF U 256):=by
 have old:=hs.lt
 obtain ⟨m,rfl⟩:∃ m,n=m+1:=⟨n - 1,by omega⟩
 refine call_fn _ f61A rfl (by simp [fn61]) fun QQ hQ=>?_
 simp only [fn61] at hQ
 simp only [fn61,fill_cons,fill_nil,Nat.zero_add,Nat.reduceAdd]
 obtain ⟨h1,e1,r1,n1,g1⟩:=Rw.alloc h (id:=h.next) (n:=1) (vs:=[.int .i64 0]) (z:=tyMark 3 true) (ro:=false) (Nat.le_refl _) rfl
 obtain ⟨w1,w2,w3,w4⟩:=r1.st1 (o:=0) (v:=I 0) (by simp) rfl
 rw [show ([AV.int .i64 0]:List AV).set 0 (I 0)=[I 0] from rfl] at w2
 obtain ⟨h2,eh⟩:∃ h2,h1.wr h.next 0 [I 0]=h2:=⟨_,rfl⟩
 rw [eh] at w1 w2 w3 w4
 have w1:h1.st1 h.next 0 (.int .i64 0)=some h2:=w1
 have s2:Sm NoB h h2:=⟨by omega,fun c hc _=>by rw [w4 c (by omega),g1 c (by omega)]⟩
 obtain ⟨_,h3,e3,bx,rfl,rx,lx,s3,gx⟩:=spall_ok (n:=m) (by omega) (h:=h2) (sp:=sp)
 simp only [F61,SS,Nat.reduceBEq,Nat.reduceEqDiff,Nat.reduceAdd,reduceIte,Nat.reduceMul,x_al_3,e1,w1,e3]
 refine run_rangeF (i:=153) (cap:=[.ptr (some (bx,0))]) (by simp only [SS,Nat.reduceBEq]) ?_
 have hid:h3.next<=h3.next:=Nat.le_refl _
 obtain ⟨tm0,htm⟩:∃ tm:Tr AV,tm=((((((Tr.leaf:Tr AV).up (some (.ptr (some (sp,0)))) 0).up (some (.int .i64 0)) 2).up (some (.ptr (some (h.next,0)))) 3).up (some (.func (.func 153) [] [.ptr (some (bx,0))])) 5)):=⟨_,rfl⟩
 rw [← htm]
 obtain ⟨h4,eh4⟩:∃ h4,h3.new h3.next (.loop ⟨.ready,none,61,tm0.up none 10,[6],c61_8A,c61_8B⟩)=h4:=⟨_,rfl⟩
 have g4:h4.bs.gt h3.next=some (.loop ⟨.ready,none,61,tm0.up none 10,[6],c61_8A,c61_8B⟩):=by rw [← eh4,new_get' hid,if_pos rfl]
 have n4:h4.next=h3.next+1:=by rw [← eh4,new_next' hid]
 have s4:Sm NoB h3 h4:=⟨by omega,fun c hc _=>by rw [← eh4,new_get' hid,if_neg (by omega)]⟩
 rw [eh4]
 have n2:=s2.1
 have n3:=s3.1
 have s04:Sm NoB h h4:=(s2.trans s3 (fun _ _ h=>h) (fun _ _ h=>h)).trans s4 (fun _ _ h=>h) (fun _ _ h=>h)
 have s24:Sm NoB h2 h4:=s3.trans s4 (fun _ _ h=>h) (fun _ _ h=>h)
 have hJ0:JC h h3.next h.next bx sp wb U 128 h4:=⟨⟨_,g4,rfl,rfl,rfl,rfl,rfl,rfl,by simp only [SS,Nat.reduceBEq],by subst htm;simp only [SS,Nat.reduceBEq,Nat.reduceEqDiff,Nat.reduceAdd,reduceIte,Nat.reduceMul]⟩,⟨_,by rw [cntF_128 U 128 (Nat.le_refl _)];exact w2.sm s24 (by omega) (fun h=>h)⟩,rx.sm s4 lx (fun h=>h),hs.sm s04 (fun h=>h) (fun h=>h),s04,⟨by omega,by omega,by omega⟩,⟨by omega,by omega,by omega⟩,⟨by omega,by omega,by omega⟩,old⟩
 obtain ⟨v,h5,e5,hv⟩:=spIt_ok (n:=m) (by omega) (U:=U) (wb:=wb) (sp:=sp) (bx:=bx) (l:=h3.next) (h:=h4) (JC h h3.next h.next bx sp wb U) (fun _=>False) hJ0
  (fun k h' hj=>⟨hj.s,hj.rx,hj.lt.2.2⟩) (fun k h1 h' hj s=>hj.no s)
  (fun k h' hk1 hk2 hu hj=>⟨hj.rc,by obtain ⟨z,c⟩:=hj.ct;exact ⟨z,by rw [cntF_succ,if_neg (by rw [hu];simp)];exact c⟩,hj.rx,hj.s,hj.sm,hj.lt,hj.ge,hj.ne,hj.old⟩)
  (fun k h' hk1 hk2 hu hj=>by obtain ⟨v,h2,e,hv,hj'⟩:=cround_ok (m:=m - 1) (by omega) hj hk1 hk2 hu;exact ⟨v,h2,e,.inl ⟨hv,hj'⟩⟩)
 refine ⟨v,h5,e5,?_⟩
 rcases hv with hj | hf
 ·obtain ⟨⟨b,hat,hst,hpd,_⟩,⟨z,ct⟩,_,_,sm,⟨l1,l2,_⟩,_,ne,_⟩:=hj
  refine ⟨b,hat,by rw [hst];decide,?_⟩
  rw [hpd]
  obtain ⟨h6,e6,m6,n6,s6⟩:=put_sm (h:=h5) (b:=h3.next) (x:=.loop ⟨.exhausted,none,b.fn,b.tm,b.params,b.assign,b.body⟩)
  show ret _ _ _ _ _ .normal _ _ (h5.put h3.next (.loop ⟨.exhausted,none,b.fn,b.tm,b.params,b.assign,b.body⟩)) _
  rw [e6]
  have k6:=(ct.sm s6 l1 (fun e=>ne.1 e.symm)).ld1 0
  rw [List.getElem?_cons_zero] at k6
  subst htm
  simp only [F61,SS,Nat.reduceBEq,Nat.reduceEqDiff,Nat.reduceAdd,reduceIte,Nat.reduceMul,k6]
  refine hQ _ _ _ _ (.inr rfl) (by simp only [SS,Nat.reduceBEq]) (by simp only [SS,Nat.reduceBEq,Nat.reduceEqDiff,Nat.reduceAdd,reduceIte,Nat.reduceMul];rfl) ?_
  exact ⟨sm.trans s6 (fun _ _ h=>h) (fun c hc e=>by omega),rfl⟩
 ·exact hf.elim
end
end Go.Proofs.YtboobbebilegnaaGreat
namespace Go.Proofs.YtboobbebilegnaaGreat
open Go.Am
set_option maxRecDepth 10000
abbrev Fe:=Nat×List Nat
def Fe.c (e:Fe):List AV:=[.int .i64 (e.1:Int),.str e.2]
abbrev csE (E:List Fe):List AV:=E.flatMap Fe.c
def posE (k:Nat):List Fe->Nat
 | []=>0
 | e::E=>if e.1<k then posE k E+1 else 0
def insE (k:Nat) (s:List Nat):List Fe->List Fe
 | []=>[(k,s)]
 | e::E=>if e.1<k then e::insE k s E else if e.1=k then (k,s)::E else (k,s)::e::E
def fdE (E:List Fe) (k:Nat):Option (List Nat):=(E.find? fun e=>e.1==k).map (·.2)
def UpE (E:List Fe):Prop:=E.Pairwise fun a b=>a.1<b.1
theorem posE_le (k:Nat):∀ E,posE k E<=E.length
 | []=>Nat.le_refl _
 | e::E=>by have:=posE_le k E;unfold posE;split <;> simp;omega
theorem posE_lt {k:Nat}:∀ {E:List Fe} {j:Nat},j<posE k E->∃ e,E[j]?=some e/\e.1<k
 | [],_,h=>by cases h
 | e::E,j,h=>by
  unfold posE at h
  split at h
  ·cases j with
   | zero=>exact ⟨e,rfl,by assumption⟩
   | succ j=>exact posE_lt (E:=E) (by omega)
  ·omega
theorem posE_at {k:Nat}:∀ {E:List Fe} {e:Fe},E[posE k E]?=some e->¬e.1<k
 | [],_,h=>by cases h
 | e::E,e',h=>by
  unfold posE at h
  split at h
  ·exact posE_at (E:=E) h
  ·have:=Option.some.inj h;subst this;assumption
theorem insE_eq (k:Nat) (s:List Nat):∀ E:List Fe,E.take (posE k E)++(k,s)::E.drop (if (E[posE k E]?.map (·.1))=some k then posE k E+1 else posE k E)=insE k s E
 | []=>rfl
 | e::E=>by
  have ih:=insE_eq k s E
  unfold posE insE
  by_cases h:e.1<k
  ·simp only [if_pos h,List.take_succ_cons,List.getElem?_cons_succ,List.cons_append]
   rw [← ih]
   congr 2
   split <;> rfl
  ·simp only [if_neg h,List.take_zero,List.nil_append,List.getElem?_cons_zero,Option.map_some]
   by_cases h2:e.1=k
   ·rw [if_pos h2,if_pos (by rw [h2])];rfl
   ·rw [if_neg h2,if_neg (fun e=>h2 (Option.some.inj e))];rfl
theorem insE_fd (k:Nat) (s:List Nat) (j:Nat):∀ E:List Fe,fdE (insE k s E) j=if j=k then some s else fdE E j
 | []=>by
  unfold insE fdE
  by_cases h:j=k
  ·subst h;simp
  ·have:(k==j)=false:=by simpa using fun e=>h e.symm
   rw [List.find?_cons,this,if_neg h]
 | e::E=>by
  have ih:=insE_fd k s j E
  unfold fdE at ih ⊢
  unfold insE
  split
  ·rename_i hlt
   rw [List.find?_cons,List.find?_cons]
   by_cases h2:e.1=j
   ·have:(e.1==j)=true:=by simpa using h2
    rw [this,if_neg (by omega)]
   ·have:(e.1==j)=false:=by simpa using h2
    rw [this];exact ih
  ·split
   ·rename_i h2
    rw [List.find?_cons,List.find?_cons]
    by_cases h3:j=k
    ·subst h3;simp
    ·have e1:(k==j)=false:=by simpa using fun e=>h3 e.symm
     have e2:(e.1==j)=false:=by simpa using fun e=>h3 (by omega)
     rw [if_neg h3,e2];simp only [e1]
   ·rw [List.find?_cons]
    by_cases h3:j=k
    ·subst h3;simp
    ·have e1:(k==j)=false:=by simpa using fun e=>h3 e.symm
     rw [if_neg h3];simp only [e1]
theorem insE_mem {k:Nat} {s:List Nat}:∀ {E:List Fe} {x:Fe},x∈insE k s E->x=(k,s)∨x∈E
 | [],x,h=>by unfold insE at h;exact .inl (List.mem_singleton.1 h)
 | e::E,x,h=>by
  unfold insE at h
  split at h
  ·rcases List.mem_cons.1 h with rfl | h
   ·exact .inr (List.mem_cons_self ..)
   ·exact (insE_mem h).imp_right (List.mem_cons_of_mem _)
  ·split at h
   ·exact (List.mem_cons.1 h).imp_right (List.mem_cons_of_mem _)
   ·exact List.mem_cons.1 h
theorem insE_up {k:Nat} {s:List Nat}:∀ {E:List Fe},UpE E->UpE (insE k s E)
 | [],_=>by unfold insE;exact List.pairwise_singleton _ _
 | e::E,h=>by
  have h1:=List.pairwise_cons.1 h
  unfold insE
  split
  ·rename_i hlt
   refine List.pairwise_cons.2 ⟨fun x hx=>?_,insE_up h1.2⟩
   rcases insE_mem hx with rfl | hx
   ·exact hlt
   ·exact h1.1 x hx
  ·split
   ·rename_i h2
    exact List.pairwise_cons.2 ⟨fun x hx=>by have:=h1.1 x hx;show k<x.1;omega,h1.2⟩
   ·refine List.pairwise_cons.2 ⟨fun x hx=>?_,h⟩
    show k<x.1
    rcases List.mem_cons.1 hx with rfl | hx
    ·omega
    ·have:=h1.1 x hx;omega
theorem fdE_none {k:Nat} {E:List Fe} (h:∀ e,e∈E->e.1≠k):fdE E k=none:=by
 unfold fdE
 rw [List.find?_eq_none.2 fun e he=>by simpa using h e he];rfl
theorem fdE_pos {k:Nat}:∀ {E:List Fe},UpE E->fdE E k=match E[posE k E]? with
  | some e=>if e.1=k then some e.2 else none
  | none=>none
 | [],_=>rfl
 | e::E,h=>by
  have h1:=List.pairwise_cons.1 h
  have ih:=fdE_pos (k:=k) h1.2
  unfold posE
  by_cases hlt:e.1<k
  ·rw [if_pos hlt,List.getElem?_cons_succ,← ih]
   unfold fdE
   rw [List.find?_cons,show (e.1==k)=false by simpa using (show e.1≠k by omega)]
  ·rw [if_neg hlt,List.getElem?_cons_zero]
   show _=if e.1=k then some e.2 else none
   by_cases h2:e.1=k
   ·rw [if_pos h2]
    unfold fdE
    rw [List.find?_cons,show (e.1==k)=true by simpa using h2];rfl
   ·rw [if_neg h2]
    refine fdE_none fun x hx=>?_
    rcases List.mem_cons.1 hx with rfl | hx
    ·exact h2
    ·have:=h1.1 x hx;omega
theorem csE_len (E:List Fe):(csE E).length=E.length*2:=fl_len fun _ _=>rfl
theorem csE_get {E:List Fe} {i:Nat} (hi:i<E.length):(csE E)[i*2]?=some (.int .i64 (E[i].1:Int))/\(csE E)[i*2+1]?=some (.str E[i].2) :=
 ⟨fl_get (f:=Fe.c) (k:=2) (o:=0) (fun _ _=>rfl) hi (by decide),fl_get (f:=Fe.c) (k:=2) (o:=1) (fun _ _=>rfl) hi (by decide)⟩
theorem csE_one (E:List Fe):(csE E).all AV.one=true:=by
 rw [List.all_eq_true];intro x hx
 obtain ⟨y,_,hy⟩:=List.mem_flatMap.1 hx
 simp only [Fe.c,List.mem_cons,List.not_mem_nil,or_false] at hy
 rcases hy with rfl | rfl <;> rfl
theorem csE_take (E:List Fe) (p:Nat) (h:p<=E.length):(csE E).take (p*2)=csE (E.take p):=by
 have:=fl_tlen (f:=Fe.c) (k:=2) (D:=E) (fun _ _=>rfl) h
 conv=>lhs;rw [← List.take_append_drop p E,show csE (E.take p++E.drop p)=csE (E.take p)++csE (E.drop p) from List.flatMap_append,← this,List.take_left]
theorem csE_drop (E:List Fe) (p:Nat) (h:p<=E.length):(csE E).drop (p*2)=csE (E.drop p):=by
 have:=fl_tlen (f:=Fe.c) (k:=2) (D:=E) (fun _ _=>rfl) h
 conv=>lhs;rw [← List.take_append_drop p E,show csE (E.take p++E.drop p)=csE (E.take p)++csE (E.drop p) from List.flatMap_append,← this,List.drop_left]
structure RDev (h:Heap) (rd:Nat) (Fi:List (List Nat)) (E:List Fe) (b1 b2:List Nat):Prop where
 ex:∃ v1 v2 z,Rw h rd [v1,v2] z false/\SlO 9 1 h v1 Fi.length (Fi.map .str) b1/\SlO 213 2 h v2 E.length (csE E) b2
 lt:rd<h.next
 n1:rd∉b1
 n2:rd∉b2
 dj:∀ b,b∈b1->b∉b2
def RDF (rd:Nat) (b1 b2:List Nat):Nat->Prop:=fun b=>b=rd∨b∈b1∨b∈b2
section
variable {h h':Heap} {rd:Nat} {Fi:List (List Nat)} {E:List Fe} {b1 b2:List Nat}
theorem RDev.sm {F:Nat->Prop} (hr:RDev h rd Fi E b1 b2) (s:Sm F h h') (hF:∀ b,RDF rd b1 b2 b->¬F b):RDev h' rd Fi E b1 b2:=by
 obtain ⟨⟨v1,v2,z,r,o1,o2⟩,lt,n1,n2,dj⟩:=hr
 have:=s.1
 exact ⟨⟨v1,v2,z,r.sm s lt (hF _ (.inl rfl)),o1.sm s fun b hb=>hF _ (.inr (.inl hb)),o2.sm s fun b hb=>hF _ (.inr (.inr hb))⟩,by omega,n1,n2,dj⟩
theorem RDev.no (hr:RDev h rd Fi E b1 b2) (s:Sm NoB h h'):RDev h' rd Fi E b1 b2:=hr.sm s fun _ _ h=>h
theorem RDev.flt (hr:RDev h rd Fi E b1 b2):∀ b,RDF rd b1 b2 b->b<h.next:=by
 obtain ⟨⟨v1,v2,z,r,o1,o2⟩,lt,_⟩:=hr
 rintro b (rfl | hb | hb)
 ·exact lt
 ·exact o1.lt b hb
 ·exact o2.lt b hb
theorem slo_sl {e s n:Nat} {h:Heap} {v:AV} {cs:List AV} {bs:List Nat} (ho:SlO e s h v n cs bs):∃ a c g,v=.slice a n c g/\gOk g s=true/\n<=c:=by
 rcases ho with ⟨rfl,rfl,_,_⟩|⟨b,c,rest,z,rfl,_,_,h3,_⟩
 ·exact ⟨none,0,none,rfl,rfl,Nat.le_refl _⟩
 ·exact ⟨_,c,some s,rfl,Nat.beq_refl s,h3⟩
theorem rplace_ok {n:Nat} (hn:1<=n) (hr:RDev h rd Fi E b1 b2) (hE:E.length<=1000) (k:Nat):WC (C n (.fn 127) [.ptr (some (rd,0)),.int .i64 (k:Int)] h) fun r h'=>Sm NoB h h' /\
  r=.tuple [I (posE k E),.bool (decide ((E[posE k E]?.map (·.1))=some k))]:=by
 obtain ⟨v1,v2,z,r,o1,o2⟩:=hr.ex
 obtain ⟨a,c,g,rfl,hg,hc⟩:=slo_sl o2
 have l1:=r.ld1 1
 simp only [List.getElem?_cons_zero,List.getElem?_cons_succ] at l1
 have hple:=posE_le k E
 obtain ⟨m,rfl⟩:∃ m,n=m+1:=⟨n - 1,by omega⟩
 refine call_fn _ f127A rfl (by simp [fn127]) fun QQ hQ=>?_
 simp only [fn127] at hQ
 simp only [fn127,fill_cons,fill_nil,Nat.zero_add,Nat.reduceAdd]
 simp only [F127,SS,Nat.reduceBEq,Nat.reduceEqDiff,Nat.reduceAdd,reduceIte,Nat.reduceMul]
 refine run_loop (c:=c127_7) (I:=fun m' tm' h'=>∃ i,i<=posE k E/\m'=posE k E - i/\h'=h/\tm'.gt 0=some (.ptr (some (rd,0)))/\tm'.gt 1=some (I k)/\tm'.gt 6=some (I i)/\tm'.gt 48=none) (n:=posE k E)
  ⟨0,by omega,rfl,rfl,by simp only [SS,Nat.reduceBEq],by simp only [SS,Nat.reduceBEq],by simp only [SS,Nat.reduceBEq,Nat.reduceEqDiff,Nat.reduceAdd,reduceIte,Nat.reduceMul];rfl,by simp only [SS,Nat.reduceBEq]⟩ (by omega) ?_
 rintro _ tm h1 ⟨i,hi,rfl,rfl,t0,t1,t6,t48⟩ Q1 hN1 hE1
 have cell:∀ j:Nat,j<E.length->∃ b o,a=some (b,o)/\h1.ld1 b (o+j*2)=some (.int .i64 (E[j]!.1:Int)):=by
  intro j hj
  obtain ⟨b,o,rfl,hce⟩:=o2.els.cell (by omega)
  refine ⟨b,o,rfl,?_⟩
  rw [hce _ (by omega),(csE_get hj).1,getElem!_pos E j hj]
 by_cases hlt:i<posE k E
 ·obtain ⟨e,he,hek⟩:=posE_lt hlt
  have hiE:i<E.length:=by omega
  obtain ⟨b,o,rfl,hce⟩:=cell i hiE
  rw [getElem!_pos E i hiE,show E[i]=e by rw [List.getElem?_eq_getElem hiE] at he;exact Option.some.inj he] at hce
  have h1':(i:Int)<(E.length:Int):=by omega
  have h2':(e.1:Int)<(k:Int):=by omega
  have x2:=x_ia_134 (k:=.i64) (b:=b) (o:=o) (c:=c) (g:=g) hiE
  simp only [F127,SS,Nat.reduceBEq,Nat.reduceEqDiff,Nat.reduceAdd,reduceIte,Nat.reduceMul,t0,t1,t6,x_fa_136_1,l1,x_len_134,h1',x2,x_fa_213_0,hce,h2',wAdd1 (show i<=1000000 by omega)]
  exact hN1 _ _ (posE k E - (i+1)) (by omega) ⟨i+1,by omega,rfl,rfl,by simp only [SS,Nat.reduceBEq,t0],by simp only [SS,Nat.reduceBEq,t1],by simp only [SS,Nat.reduceBEq],by simp only [SS,Nat.reduceBEq,t48]⟩
 ·obtain rfl:i=posE k E:=by omega
  obtain ⟨hb,eb,sb,bb,nb⟩:=Sm.bump h1 22
  by_cases hiE:posE k E<E.length
  ·obtain ⟨b,o,rfl,hce⟩:=cell _ hiE
   rw [getElem!_pos E _ hiE] at hce
   have hat:=posE_at (List.getElem?_eq_getElem hiE)
   have h1':(posE k E:Int)<(E.length:Int):=by omega
   have h2':¬((E[posE k E].1:Nat):Int)<(k:Int):=by omega
   have x2:=x_ia_134 (k:=.i64) (b:=b) (o:=o) (c:=c) (g:=g) hiE
   have lb1:=(r.same (h':=hb) (by rw [bb])).ld1 1
   simp only [List.getElem?_cons_zero,List.getElem?_cons_succ] at lb1
   have hcb:hb.ld1 b (o+posE k E*2)=some (.int .i64 (E[posE k E].1:Int)):=by
    rw [← hce];unfold Heap.ld1 Heap.cells;rw [bb]
   simp only [F127,SS,Nat.reduceBEq,Nat.reduceEqDiff,Nat.reduceAdd,reduceIte,Nat.reduceMul,t0,t1,t6,x_fa_136_1,l1,x_len_134,h1',x2,x_fa_213_0,hce,h2']
   refine hE1 _ _ _ (by simp) ?_
   simp only [F127,SS,Nat.reduceBEq,Nat.reduceEqDiff,Nat.reduceAdd,reduceIte,Nat.reduceMul,t0,t1,t6,eb,x_fa_136_1,lb1,x_len_134,h1',x2,x_fa_213_0,hcb]
   refine hQ _ _ _ _ (.inr rfl) (by simp only [SS,Nat.reduceBEq,t48]) (by simp only [SS,Nat.reduceBEq,Nat.reduceEqDiff,Nat.reduceAdd,reduceIte,Nat.reduceMul,t48];rfl) ?_
   refine ⟨sb,?_⟩
   rw [List.getElem?_eq_getElem hiE,Option.map_some,tupled_more]
   congr 3
   rw [decide_eq_decide.2 (show ((E[posE k E].1:Int)=(k:Int))↔some E[posE k E].1=some k by rw [Option.some_inj];omega)]
  ·have h1':¬(posE k E:Int)<(E.length:Int):=by omega
   have lb1:=(r.same (h':=hb) (by rw [bb])).ld1 1
   simp only [List.getElem?_cons_zero,List.getElem?_cons_succ] at lb1
   simp only [F127,SS,Nat.reduceBEq,Nat.reduceEqDiff,Nat.reduceAdd,reduceIte,Nat.reduceMul,t0,t1,t6,x_fa_136_1,l1,x_len_134,h1',w_undef]
   refine hE1 _ _ _ (by simp) ?_
   simp only [F127,SS,Nat.reduceBEq,Nat.reduceEqDiff,Nat.reduceAdd,reduceIte,Nat.reduceMul,t0,t1,t6,eb,x_fa_136_1,lb1,x_len_134,h1',w_undef]
   refine hQ _ _ _ _ (.inr rfl) (by simp only [SS,Nat.reduceBEq,t48]) (by simp only [SS,Nat.reduceBEq,Nat.reduceEqDiff,Nat.reduceAdd,reduceIte,Nat.reduceMul,t48];rfl) ?_
   refine ⟨sb,?_⟩
   rw [List.getElem?_eq_none (by omega),Option.map_none];rfl
end
end Go.Proofs.YtboobbebilegnaaGreat
namespace Go.Proofs.YtboobbebilegnaaGreat
open Go.Am
set_option maxRecDepth 10000
def rdE (Fi:List (List Nat)) (E:List Fe) (k:Nat):List Nat:=(fdE E k).getD (Fi.getD k [])
theorem x_bd_213 (k:Int) (s:List Nat):buildN P 213 [0,1] [.int .i64 k,.str s]=some (.agg [.int .i64 k,.str s]):=x_bd_213_0_1 k s
theorem x_bs_134 (k:Int) (s:List Nat):buildSliceN P 134 1 [0] [.agg [.int .i64 k,.str s]]=some (.cells (fillC [.int .i64 k,.str s] .leaf 0) [] 2 false,sliceTo 1):=x_bs_134_1 k s
theorem ms42 {n:Nat} (hn:n<=64):makeSlice2 P 42 (.int .i64 (n:Int)) (.int .i64 (n:Int))=some (.cells .leaf [byteV 0] n false,fun b=>.slice (some (b,0)) n n none):=by
 have:=ms_make (P:=P) (t:=42) (k:=.i64) (l:=.i64) (z:=.int .u8 0) (by':=1) u_42 s_5 z_5 b_5 rfl rfl (n:=n) (by omega) (by omega)
 rw [Nat.mul_one] at this;exact this
theorem zeros_bytes (n:Nat):(List.replicate n [byteV 0]).flatten=(List.replicate n 0).map byteV:=by
 rw [List.flatten_replicate_singleton,List.map_replicate]
section
variable {h h':Heap} {rd:Nat} {Fi:List (List Nat)} {E:List Fe} {b1 b2:List Nat}
theorem rdread_ok {n:Nat} (hn:2<=n) (hr:RDev h rd Fi E b1 b2) (hFi:Fi.length=256) (hE:E.length<=1000) (hup:UpE E) (k:Int):WC (C n (.fn 131) [.ptr (some (rd,0)),.int .i64 k] h) fun r h'=>Sm NoB h h' /\
  ((k<0∨256<=k)/\r=.tuple [.str [],.int .i64 2]∨∃ j:Nat,j<256/\k=(j:Int)/\r=.tuple [.str (rdE Fi E j),.int .i64 0]):=by
 obtain ⟨v1,v2,z,r,o1,o2⟩:=hr.ex
 obtain ⟨a1,c1,g1,rfl,_,_⟩:=slo_sl o1
 have l0:=r.ld1 0
 rw [List.getElem?_cons_zero] at l0
 rw [hFi] at l0 o1
 obtain ⟨m,rfl⟩:∃ m,n=m+1:=⟨n - 1,by omega⟩
 refine call_fn _ f131A rfl (by simp [fn131]) fun QQ hQ=>?_
 simp only [fn131] at hQ
 simp only [fn131,fill_cons,fill_nil,Nat.zero_add,Nat.reduceAdd]
 by_cases h1:k<0
 ·simp only [F131,SS,Nat.reduceBEq,Nat.reduceEqDiff,Nat.reduceAdd,reduceIte,Nat.reduceMul,h1,w_undef]
  refine hQ _ _ _ _ (.inr rfl) (by simp only [SS,Nat.reduceBEq]) (by simp only [SS,Nat.reduceBEq,Nat.reduceEqDiff,Nat.reduceAdd,reduceIte,Nat.reduceMul];rfl) ?_
  exact ⟨Sm.refl _ _,.inl ⟨.inl h1,rfl⟩⟩
 ·by_cases h2:256<=k
  ·simp only [F131,SS,Nat.reduceBEq,Nat.reduceEqDiff,Nat.reduceAdd,reduceIte,Nat.reduceMul,h1,x_fa_136_0,l0,x_len_41,c256,h2]
   refine hQ _ _ _ _ (.inr rfl) (by simp only [SS,Nat.reduceBEq]) (by simp only [SS,Nat.reduceBEq,Nat.reduceEqDiff,Nat.reduceAdd,reduceIte,Nat.reduceMul];rfl) ?_
   exact ⟨Sm.refl _ _,.inl ⟨.inr h2,rfl⟩⟩
  ·obtain ⟨j,rfl⟩:∃ j:Nat,k=(j:Int):=⟨k.toNat,by omega⟩
   have hj:j<256:=by omega
   obtain ⟨_,h3,e3,s3,rfl⟩:=rplace_ok (n:=m) (by omega) hr hE j
   obtain ⟨w1,w2,z,r,o1,o2⟩:=(hr.no s3).ex
   obtain ⟨a1,c1,g1,rfl,_,_⟩:=slo_sl o1
   obtain ⟨a2,c2,g2,rfl,_,_⟩:=slo_sl o2
   rw [hFi] at r o1
   have q0:=r.ld1 0
   have q1:=r.ld1 1
   simp only [List.getElem?_cons_zero,List.getElem?_cons_succ] at q0 q1
   have hpos:=fdE_pos (k:=j) hup
   cases hp:E[posE j E]? with
   | none =>
    rw [hp] at e3 hpos
    simp only at hpos
    rw [Option.map_none,decide_eq_false (by intro e;cases e)] at e3
    obtain ⟨b,o,rfl,hce⟩:=o1.els.cell (by omega)
    have hcj:=hce j (by omega)
    rw [List.getElem?_map,List.getElem?_eq_getElem (by omega),Option.map_some] at hcj
    have x2:=x_ia_41 (k:=.i64) (b:=b) (o:=o) (c:=c1) (g:=g1) hj
    simp only [F131,SS,Nat.reduceBEq,Nat.reduceEqDiff,Nat.reduceAdd,reduceIte,Nat.reduceMul,h1,x_fa_136_0,l0,x_len_41,c256,h2,e3,q0,x2,hcj]
    refine hQ _ _ _ _ (.inr rfl) (by simp only [SS,Nat.reduceBEq]) (by simp only [SS,Nat.reduceBEq,Nat.reduceEqDiff,Nat.reduceAdd,reduceIte,Nat.reduceMul];rfl) ?_
    refine ⟨s3,.inr ⟨j,hj,rfl,?_⟩⟩
    unfold rdE
    rw [hpos,Option.getD_none,List.getD_eq_getElem?_getD,List.getElem?_eq_getElem (by omega)];rfl
   | some e =>
    rw [hp] at e3 hpos
    simp only at hpos
    have hpl:posE j E<E.length:=(List.getElem?_eq_some_iff.1 hp).1
    have hpe:E[posE j E]=e:=(List.getElem?_eq_some_iff.1 hp).2
    by_cases hk:e.1=j
    ·rw [Option.map_some,decide_eq_true (by rw [hk])] at e3
     rw [if_pos hk] at hpos
     obtain ⟨b,o,rfl,hce⟩:=o2.els.cell (by omega)
     have hcj:=hce (posE j E*2+1) (by omega)
     rw [(csE_get hpl).2,hpe,← Nat.add_assoc] at hcj
     have x2:=x_ia_134 (k:=.i64) (b:=b) (o:=o) (c:=c2) (g:=g2) hpl
     simp only [F131,SS,Nat.reduceBEq,Nat.reduceEqDiff,Nat.reduceAdd,reduceIte,Nat.reduceMul,h1,x_fa_136_0,x_fa_136_1,l0,x_len_41,c256,h2,e3,q1,x2,x_fa_213_1,hcj]
     refine hQ _ _ _ _ (.inr rfl) (by simp only [SS,Nat.reduceBEq]) (by simp only [SS,Nat.reduceBEq,Nat.reduceEqDiff,Nat.reduceAdd,reduceIte,Nat.reduceMul];rfl) ?_
     refine ⟨s3,.inr ⟨j,hj,rfl,?_⟩⟩
     unfold rdE
     rw [hpos];rfl
    ·rw [Option.map_some,decide_eq_false (fun h=>hk (Option.some.inj h))] at e3
     rw [if_neg hk] at hpos
     obtain ⟨b,o,rfl,hce⟩:=o1.els.cell (by omega)
     have hcj:=hce j (by omega)
     rw [List.getElem?_map,List.getElem?_eq_getElem (by omega),Option.map_some] at hcj
     have x2:=x_ia_41 (k:=.i64) (b:=b) (o:=o) (c:=c1) (g:=g1) hj
     simp only [F131,SS,Nat.reduceBEq,Nat.reduceEqDiff,Nat.reduceAdd,reduceIte,Nat.reduceMul,h1,x_fa_136_0,l0,x_len_41,c256,h2,e3,q0,x2,hcj]
     refine hQ _ _ _ _ (.inr rfl) (by simp only [SS,Nat.reduceBEq]) (by simp only [SS,Nat.reduceBEq,Nat.reduceEqDiff,Nat.reduceAdd,reduceIte,Nat.reduceMul];rfl) ?_
     refine ⟨s3,.inr ⟨j,hj,rfl,?_⟩⟩
     unfold rdE
     rw [hpos,Option.getD_none,List.getD_eq_getElem?_getD,List.getElem?_eq_getElem (by omega)];rfl
theorem app_slo {e s by' m id n:Nat} {t:TypeId} {h:Heap} {v zv x:AV} {ys cs:List AV} {bs:List Nat} (hu:P.underlying t=some (.slice e)) (hs:tSize P e=some (s+1)) (hb:tBytes P e=some by') (hz:tZero P e=some zv) (hzl:zv.cells.length=s+1)
  (ho:SlO e (s+1) h v n cs bs) (hsrc:srcOf (s+1) (fun n=>n) x h=some (ys,m)) (hyl:ys.length=m*(s+1)) (hy1:ys.all AV.one=true) (hr:room by' (n+m)=true) (hid:h.next<=id) :
  ∃ v' h' bs',appendS P t v x id h=some (v',h')/\SlO e (s+1) h' v' (n+m) (cs++ys) bs'/\Sm (fun b=>b∈bs) h h'/\(∀ b,b∈bs'->b∈bs∨h.next<=b):=by
 by_cases hm:0<m
 ·obtain ⟨v',h',bs',q1,q2,q3,q4,q5,_⟩:=app_own hu hs hb hz hzl ho hsrc hm hyl hy1 hr hid
  exact ⟨v',h',bs',q1,q2,⟨q3,fun c hc hF=>q4 c hF (by omega)⟩,fun b hb=>(q5 b hb).imp_right (by omega)⟩
 ·obtain rfl:m=0:=by omega
  rw [Nat.zero_mul] at hyl
  obtain rfl:=List.eq_nil_of_length_eq_zero hyl
  obtain ⟨a,c,g,rfl,_,_⟩:=slo_sl ho
  exact ⟨_,h,bs,by rw [appendS_eq hu hs hb hz hzl hsrc (by simp) hr,if_pos rfl],by rw [List.append_nil];exact ho,Sm.refl _ _,fun b hb=>.inl hb⟩
theorem rdwrite_ok {n:Nat} (hn:2<=n) (hr:RDev h rd Fi E b1 b2) (hFi:Fi.length=256) (hE:E.length<=900) (k:Int) (s:List Nat):WC (C n (.fn 70) [.ptr (some (rd,0)),.int .i64 k,.str s] h) fun r h' =>
  (h'=h/\((k<0∨256<=k)/\r=.int .i64 2∨(0<=k/\k<256)/\64<s.length/\r=.int .i64 3))∨∃ j:Nat,j<256/\k=(j:Int)/\s.length<=64/\r=.int .i64 0/\∃ b2',RDev h' rd Fi (insE j (pad s) E) b1 b2'/\Sm (·= rd) h h'/\∀ b,b∈b2'->h.next<=b:=by
 obtain ⟨v1,v2,z,r,o1,o2⟩:=hr.ex
 obtain ⟨a1,c1,g1,rfl,_,_⟩:=slo_sl o1
 have l0:=r.ld1 0
 rw [List.getElem?_cons_zero] at l0
 rw [hFi] at l0
 obtain ⟨m,rfl⟩:∃ m,n=m+1:=⟨n - 1,by omega⟩
 refine call_fn _ f70A rfl (by simp [fn70]) fun QQ hQ=>?_
 simp only [fn70] at hQ
 simp only [fn70,fill_cons,fill_nil,Nat.zero_add,Nat.reduceAdd]
 by_cases h1:k<0
 ·simp only [F70,SS,Nat.reduceBEq,Nat.reduceEqDiff,Nat.reduceAdd,reduceIte,Nat.reduceMul,h1,w_undef]
  refine hQ _ _ _ _ (.inr rfl) (by simp only [SS,Nat.reduceBEq]) (by simp only [SS,Nat.reduceBEq,Nat.reduceEqDiff,Nat.reduceAdd,reduceIte,Nat.reduceMul];rfl) ?_
  exact .inl ⟨rfl,.inl ⟨.inl h1,rfl⟩⟩
 ·by_cases h2:256<=k
  ·simp only [F70,SS,Nat.reduceBEq,Nat.reduceEqDiff,Nat.reduceAdd,reduceIte,Nat.reduceMul,h1,x_fa_136_0,l0,x_len_41,c256,h2]
   refine hQ _ _ _ _ (.inr rfl) (by simp only [SS,Nat.reduceBEq]) (by simp only [SS,Nat.reduceBEq,Nat.reduceEqDiff,Nat.reduceAdd,reduceIte,Nat.reduceMul];rfl) ?_
   exact .inl ⟨rfl,.inl ⟨.inr h2,rfl⟩⟩
  ·obtain ⟨j,rfl⟩:∃ j:Nat,k=(j:Int):=⟨k.toNat,by omega⟩
   have hj:j<256:=by omega
   by_cases hl:64<s.length
   ·have hl':(64:Int)<(s.length:Int):=by omega
    simp only [F70,SS,Nat.reduceBEq,Nat.reduceEqDiff,Nat.reduceAdd,reduceIte,Nat.reduceMul,h1,x_fa_136_0,l0,x_len_41,c256,h2,x_len_9,hl']
    refine hQ _ _ _ _ (.inr rfl) (by simp only [SS,Nat.reduceBEq]) (by simp only [SS,Nat.reduceBEq,Nat.reduceEqDiff,Nat.reduceAdd,reduceIte,Nat.reduceMul];rfl) ?_
    exact .inl ⟨rfl,.inr ⟨by omega,hl,rfl⟩⟩
   ·have hl':¬(64:Int)<(s.length:Int):=by omega
    obtain ⟨_,h3,e3,s3,rfl⟩:=rplace_ok (n:=m) (by omega) hr (by omega) j
    have hr3:=hr.no s3
    obtain ⟨w1,w2,z,r,o1,o2⟩:=hr3.ex
    obtain ⟨a1,c1,g1,rfl,_,_⟩:=slo_sl o1
    obtain ⟨a2,c2,g2,rfl,hg2,hc2⟩:=slo_sl o2
    have q1:=r.ld1 1
    simp only [List.getElem?_cons_zero,List.getElem?_cons_succ] at q1
    have hple:=posE_le j E
    have n3:=s3.1
    
    have y1:=x_sl_134_010 (a:=a2) (n:=E.length) (c:=c2) (g:=g2) (k:=.i64) hg2 (show posE j E<=c2 by omega)
    have el1:=els_pre o2.els (k:=posE j E) (c':=c2 - 0) (g':=g2) hple
    rw [csE_take E _ hple] at el1
    have ha2:(a2.map fun p=>(p.1,p.2+0*2))=a2:=by cases a2 <;> simp
    rw [ha2,Nat.sub_zero,Nat.sub_zero] at el1 y1
    obtain ⟨v4,h4,bs4,e4,o4,s4,f4⟩:=app_slo (t:=134) (id:=h3.next) u_134 s_213 b_213 z_213 rfl SlO.nil el1 (by rw [csE_len,List.length_take,Nat.min_eq_left hple]) (csE_one _) (room_le (by omega) (by omega)) (Nat.le_refl _)
    rw [Nat.zero_add,List.nil_append] at o4
    have s4:Sm NoB h3 h4:=s4.mono fun _ _ h=>by cases h
    have n4:=s4.1
    
    obtain ⟨h5,e5,r5,n5,f5⟩:=Rw.zeros h4 (id:=h4.next) (n:=64 - s.length) (s:=1) (z:=[byteV 0]) (ro:=false) (Nat.le_refl _) rfl (by decide)
    rw [zeros_bytes] at r5
    rw [Nat.mul_one] at e5
    have wsub:IntKind.i64.wrap ((64:Int) - (s.length:Int))=((64 - s.length:Nat):Int):=by rw [wrap_i64 (by omega) (by omega)];omega
    have eob:=of_bytes (e:=5) u_5 (h:=h5) (b:=h4.next) (o:=0) (n:=64 - s.length) (c:=64 - s.length) (g:=none) (m:=List.replicate (64 - s.length) 0) (fun c hc=>by rw [(List.mem_replicate.1 hc).2];decide) (by rw [r5.ld (by simp),List.drop_zero,List.take_of_length_le (by simp)])
    have eadd:bin2 P .add 9 (.str s) (.str (List.replicate (64 - s.length) 0))=some (.str (pad s)):=b_addS (by simp;omega)
    obtain ⟨h6,e6,r6,n6,f6⟩:=Rw.alloc h5 (id:=h5.next) (n:=2) (vs:=[.int .i64 (j:Int),.str (pad s)]) (z:=[]) (ro:=false) (Nat.le_refl _) rfl
    have s46:Sm NoB h4 h6:=⟨by omega,fun c hc _=>by rw [f6 c (by omega),f5 c (by omega)]⟩
    have o6:=o4.sm s46 fun _ _ h=>h
    have hs6:srcOf 2 (fun n=>n) (.slice (some (h5.next,0)) 1 1 none) h6=some ([.int .i64 (j:Int),.str (pad s)],1):=srcOf_row r6 (Nat.le_refl _)
    obtain ⟨v7,h7,bs7,e7,o7,s7,f7⟩:=app_slo (t:=134) (id:=h6.next) u_134 s_213 b_213 z_213 rfl o6 hs6 rfl rfl (room_le (by omega) (by omega)) (Nat.le_refl _)
    have n7:=s7.1
    
    have hs37:Sm NoB h3 h7:=(s4.trans s46 (fun _ _ h=>h) (fun _ _ h=>h)).trans s7 (fun _ _ h=>h) (fun c hc hb=>by rcases f4 c hb with h | h;cases h;omega)
    have hr7:=hr3.no hs37
    obtain ⟨q,hq⟩:∃ q,(if (E[posE j E]?.map (·.1))=some j then posE j E+1 else posE j E)=q:=⟨_,rfl⟩
    have hqle:q<=E.length:=by
     rw [← hq]
     split
     ·rename_i he
      cases hh:E[posE j E]? with
      | none=>rw [hh] at he;cases he
      | some e=>have:=(List.getElem?_eq_some_iff.1 hh).1;omega
     ·exact hple
    have o27:=o2.sm hs37 fun _ _ h=>h
    have y2:=x_sl_134_100 (a:=a2) (n:=E.length) (c:=c2) (g:=g2) (k:=.i64) hg2 hqle
    have el2:=els_post o27.els (k:=q) (c':=c2 - q) (g':=g2) hqle
    rw [csE_drop E _ hqle] at el2
    have b7:∀ b,b∈bs7->h3.next<=b:=fun b hb=>by
     rcases f7 b hb with h | h
     ·rcases f4 b h with h | h;cases h;exact h
     ·omega
    obtain ⟨v8,h8,bs8,e8,o8,s8,f8⟩:=app_slo (t:=134) (id:=h7.next) u_134 s_213 b_213 z_213 rfl o7 el2 (by rw [csE_len,List.length_drop]) (csE_one _) (room_le (by omega) (by omega)) (Nat.le_refl _)
    have n8:=s8.1
    have s38:Sm NoB h3 h8:=hs37.trans s8 (fun _ _ h=>h) (fun c hc hb=>by have:=b7 c hb;omega)
    have lt3:=hr3.lt
    have r7:=r.sm hs37 lt3 (fun h=>h)
    have r8:=r.sm s38 lt3 (fun h=>h)
    have q17:=r7.ld1 1
    simp only [List.getElem?_cons_zero,List.getElem?_cons_succ] at q17
    obtain ⟨a8,c8,g8,rfl,_,_⟩:=slo_sl o8
    obtain ⟨w1,w2,w3,w4⟩:=r8.st1 (o:=1) (v:=.slice a8 (posE j E+1+(E.length - q)) c8 g8) (by simp) rfl
    have hq1:(IntKind.i64.wrap ((posE j E:Int)+1))=((posE j E+1:Nat):Int):=by rw [wrap_i64 (by omega) (by omega)];omega
    have fin:∀ h',(h8.wr rd 1 [.slice a8 (posE j E+1+(E.length - q)) c8 g8])=h'->∃ b2',RDev h' rd Fi (insE j (pad s) E) b1 b2'/\Sm (·= rd) h h'/\∀ b,b∈b2'->h.next<=b:=by
     intro h9 e9
     rw [e9] at w2 w3 w4
     have hb8:∀ b,b∈bs8->h3.next<=b:=fun b hb=>by
      rcases f8 b hb with h | h
      ·exact b7 b h
      ·omega
     have s89:Sm (·= rd) h8 h9:=⟨by omega,fun c _ hc=>w4 c hc⟩
     have hl1:∀ b,b∈b1->b<h3.next:=o1.lt
     have s39:Sm (·= rd) h3 h9:=s38.trans s89 (fun _ _ h=>h.elim) (fun _ _ h=>h)
     have n9:=s39.1
     refine ⟨bs8,⟨⟨_,_,z,w2,o1.sm s39 (fun b hb e=>hr.n1 (e▸hb)),?_⟩,by omega,hr.n1,fun hb=>by have:=hb8 _ hb;omega,fun b hb hb2=>by have:=hl1 b hb;have:=hb8 b hb2;omega⟩,s3.trans s39 (fun _ _ h=>h.elim) (fun _ _ h=>h),fun b hb=>by have:=hb8 b hb;omega⟩
     have:=o8.same (h':=h9) (fun b hb=>w4 b (fun e=>by have:=hb8 b hb;omega)) (by omega)
     have hcs:csE (E.take (posE j E))++[.int .i64 (j:Int),.str (pad s)]++csE (E.drop q)=csE (insE j (pad s) E):=by
      rw [← insE_eq,hq,show csE (E.take (posE j E)++(j,pad s)::E.drop q)=csE (E.take (posE j E))++csE ((j,pad s)::E.drop q) from List.flatMap_append,List.append_assoc];rfl
     have hln:posE j E+1+(E.length - q)=(insE j (pad s) E).length:=by
      rw [← insE_eq,hq,List.length_append,List.length_cons,List.length_take,List.length_drop];omega
     rw [hcs,hln] at this
     rw [← hln] at this ⊢
     exact this
    by_cases he:(E[posE j E]?.map (·.1))=some j
    ·rw [if_pos he] at hq
     subst hq
     rw [decide_eq_true he] at e3
     simp only [F70,SS,Nat.reduceBEq,Nat.reduceEqDiff,Nat.reduceAdd,reduceIte,Nat.reduceMul,h1,x_fa_136_0,l0,x_len_41,c256,h2,x_len_9,hl',e3,x_fa_136_1,q1,y1,e4,wsub,ms42 (show 64 - s.length<=64 by omega),e5,eob,eadd,x_bd_213,x_bs_134,e6,e7,hq1,q17,y2,e8,w1]
     refine hQ _ _ _ _ (.inr rfl) (by simp only [SS,Nat.reduceBEq]) (by simp only [SS,Nat.reduceBEq,Nat.reduceEqDiff,Nat.reduceAdd,reduceIte,Nat.reduceMul];rfl) ?_
     exact .inr ⟨j,hj,rfl,by omega,rfl,fin _ rfl⟩
    ·rw [if_neg he] at hq
     subst hq
     rw [decide_eq_false he] at e3
     simp only [F70,SS,Nat.reduceBEq,Nat.reduceEqDiff,Nat.reduceAdd,reduceIte,Nat.reduceMul,h1,x_fa_136_0,l0,x_len_41,c256,h2,x_len_9,hl',e3,x_fa_136_1,q1,y1,e4,wsub,ms42 (show 64 - s.length<=64 by omega),e5,eob,eadd,x_bd_213,x_bs_134,e6,e7,q17,y2,e8,w1]
     refine hQ _ _ _ _ (.inr rfl) (by simp only [SS,Nat.reduceBEq]) (by simp only [SS,Nat.reduceBEq,Nat.reduceEqDiff,Nat.reduceAdd,reduceIte,Nat.reduceMul];rfl) ?_
     exact .inr ⟨j,hj,rfl,by omega,rfl,fin _ rfl⟩
end
end Go.Proofs.YtboobbebilegnaaGreat
namespace Go.Proofs.YtboobbebilegnaaGreat
open Go.Am
set_option maxRecDepth 10000
abbrev Z64:List Nat:=List.replicate 64 0
theorem x_bd_136:buildN P 136 [] []=some (.agg [.slice none 0 0 none,.slice none 0 0 none]):=by kernel_rfl
theorem x_bs_41 (s:List Nat):buildSliceN P 41 1 [0] [.str s]=some (.cells (fillC [.str s] .leaf 0) [] 1 false,sliceTo 1):=x_bs_41_1 s
theorem ms42':makeSlice2 P 42 (.int .i64 64) (.int .i64 64)=some (.cells .leaf [byteV 0] 64 false,fun b=>.slice (some (b,0)) 64 64 none):=ms42 (n:=64) (Nat.le_refl _)
theorem rdnew_ok {n:Nat} (hn:1<=n) {h:Heap}:WC (C n (.fn 20) [.int .i64 256] h) fun r h'=>∃ rd b1,r=.ptr (some (rd,0))/\RDev h' rd (List.replicate 256 Z64) [] b1 []/\Sm NoB h h'/\∀ b,RDF rd b1 [] b->h.next<=b:=by
 obtain ⟨m,rfl⟩:∃ m,n=m+1:=⟨n - 1,by omega⟩
 refine call_fn _ f20A rfl (by simp [fn20]) fun QQ hQ=>?_
 simp only [fn20] at hQ
 simp only [fn20,fill_cons,fill_nil,Nat.zero_add,Nat.reduceAdd]
 obtain ⟨h1,e1,r1,n1,g1⟩:=Rw.alloc h (id:=h.next) (n:=2) (vs:=[.slice none 0 0 none,.slice none 0 0 none]) (z:=[]) (ro:=false) (Nat.le_refl _) rfl
 simp only [F20,SS,Nat.reduceBEq,Nat.reduceEqDiff,Nat.reduceAdd,reduceIte,Nat.reduceMul,x_bd_136,e1]
 refine run_loop (c:=c20_9) (I:=fun m' tm' h'=>∃ i b1,i<=256/\m'=256 - i/\RDev h' h.next (List.replicate i Z64) [] b1 []/\(∀ b,b∈b1->h.next<=b)/\Sm NoB h h'/\tm'.gt 0=some (.int .i64 256)/\tm'.gt 3=some (.ptr (some (h.next,0)))/\tm'.gt 4=some (I i)/\tm'.gt 24=none) (n:=256)
  ⟨0,[],by omega,rfl,⟨⟨_,_,_,r1,SlO.nil,SlO.nil⟩,by omega,(fun h=>by cases h),(fun h=>by cases h),fun b hb=>by cases hb⟩,(fun _ h=>by cases h),⟨by omega,fun c hc _=>g1 c (by omega)⟩,by simp only [SS,Nat.reduceBEq],by simp only [SS,Nat.reduceBEq],by simp only [SS,Nat.reduceBEq,Nat.reduceEqDiff,Nat.reduceAdd,reduceIte,Nat.reduceMul];rfl,by simp only [SS,Nat.reduceBEq]⟩ (by omega) ?_
 clear r1 e1 g1 n1
 rintro _ tm h2 ⟨i,b1,hi,rfl,hr,hb1,s2,t0,t3,t4,t24⟩ Q1 hN1 hE1
 by_cases hlt:i<256
 ·have hlt':(i:Int)<256:=by omega
  obtain ⟨g,eg,sg,bg,ng⟩:=Sm.bump h2 12
  obtain ⟨g5,e5,r5,n5,f5⟩:=Rw.zmat g (id:=Nat.add h2.next 5) (n:=64) (s:=1) (z:=[byteV 0]) (ro:=false) rfl (by decide)
  rw [zeros_bytes] at r5
  rw [show (64:Nat)*1=64 from rfl] at e5
  have eob:=of_bytes (e:=5) u_5 (h:=g5) (b:=Nat.add h2.next 5) (o:=0) (n:=64) (c:=64) (g:=none) (m:=Z64) (fun c hc=>by rw [(List.mem_replicate.1 hc).2];decide) (by rw [r5.ld (by simp),List.drop_zero,List.take_of_length_le (by simp)])
  obtain ⟨g7,e7,r7,n7,f7⟩:=Rw.mat g5 (id:=Nat.add h2.next 7) (n:=1) (vs:=[.str Z64]) (z:=[]) (ro:=false) rfl
  have e5r:Heap.mk (h2.bs.up (some (.cells .leaf [byteV 0] 64 false)) (Nat.add h2.next 5)) (h2.next+12)=g5:=by rw [← bg,← ng];exact e5
  have e7r:Heap.mk ((h2.bs.up (some (.cells .leaf [byteV 0] 64 false)) (Nat.add h2.next 5)).up (some (.cells (fillC [.str Z64] .leaf 0) [] 1 false)) (Nat.add h2.next 7)) (h2.next+12)=g7:=by rw [← e7,← e5r]
  have a5:Nat.add h2.next 5=h2.next+5:=rfl
  have a7:Nat.add h2.next 7=h2.next+7:=rfl
  have s7:Sm NoB h2 g7:=⟨by omega,fun c hc _=>by rw [f7 c (by omega),f5 c (by omega),bg]⟩
  have hr7:=hr.no s7
  have hlt2:=hr.lt
  obtain ⟨v1,v2,z,r,o1,o2⟩:=hr7.ex
  have l0:=((hr.no sg).ex)
  obtain ⟨v1',v2',z',r',_⟩:=l0
  have hv:g.ld1 h.next 0=some v1:=by
   have q:=r.ld1 0
   rw [List.getElem?_cons_zero] at q
   rw [← q];unfold Heap.ld1 Heap.cells;rw [f7 _ (by omega),f5 _ (by omega)]
  rw [List.length_replicate] at o1
  have hs7:srcOf 1 (fun n=>n) (.slice (some (Nat.add h2.next 7,0)) 1 1 none) g7=some ([.str Z64],1):=srcOf_row r7 (Nat.le_refl _)
  obtain ⟨v8,h8,bs8,e8,o8,s8,f8⟩:=app_slo (t:=41) (id:=h2.next+12) u_41 s_9 b_9 z_9 rfl o1 hs7 rfl rfl (room_le (by omega) (by omega)) (by omega)
  obtain ⟨a8,c8,q8,rfl,_,_⟩:=slo_sl o8
  have lt7:=hr7.lt
  have n8:=s8.1
  have r8:=r.sm s8 lt7 hr7.n1
  obtain ⟨w1,w2,w3,w4⟩:=r8.st1 (o:=0) (v:=.slice a8 (i+1) c8 q8) (by simp) rfl
  have o28:=o2.sm s8 (fun b hb=>by cases o2 with | inl h=>cases h.2.2.2;cases hb | inr h=>obtain ⟨_,_,_,_,_,_,_,_,_,_,h,_⟩:=h;cases h)
  simp only [F20,SS,Nat.reduceBEq,Nat.reduceEqDiff,Nat.reduceAdd,reduceIte,Nat.reduceMul,t0,t3,t4,hlt',eg,x_fa_136_0,hv,ms42',e5r,eob,x_bs_41,e7r,e8,w1,wAdd1 (show i<=1000000 by omega)]
  have s9:Sm (fun b=>b∈b1∨b=h.next) h2 (h8.wr h.next 0 [.slice a8 (i+1) c8 q8]):=(s7.trans s8 (H:=fun b=>b∈b1) (fun _ _ h=>h.elim) (fun _ _ h=>h)).trans (show Sm (·= h.next) h8 (h8.wr h.next 0 [.slice a8 (i+1) c8 q8]) from ⟨by omega,fun c _ hc=>w4 c hc⟩) (fun _ _ h=>.inl h) (fun _ _ h=>.inr h)
  have hb8:∀ b,b∈bs8->h.next<=b/\b≠h.next:=fun b hb=>by
   rcases f8 b hb with h | h
   ·exact ⟨hb1 b h,fun e=>hr.n1 (e▸h)⟩
   ·have:=s2.1;omega
  refine hN1 _ _ (256 - (i+1)) (by omega) ⟨i+1,bs8,by omega,rfl,⟨⟨_,_,z,w2,?_,?_⟩,by omega,fun hb=>(hb8 _ hb).2 rfl,(fun h=>by cases h),fun b _ hb=>by cases hb⟩,fun b hb=>(hb8 b hb).1,s2.trans s9 (fun _ _ h=>h) (fun c hc hh=>by rcases hh with hh | hh;have:=hb1 c hh;omega;omega),by simp only [SS,Nat.reduceBEq,t0],by simp only [SS,Nat.reduceBEq,t3],by simp only [SS,Nat.reduceBEq],by simp only [SS,Nat.reduceBEq,t24]⟩
  ·have:=o8.same (h':=h8.wr h.next 0 [.slice a8 (i+1) c8 q8]) (fun b hb=>w4 b (hb8 b hb).2) (by omega)
   rw [List.length_replicate,List.replicate_succ',List.map_append];exact this
  ·exact o28.same (fun b hb=>by cases hb) (by omega)
 ·obtain rfl:i=256:=by omega
  have hlt':¬((256:Nat):Int)<256:=by decide
  simp only [F20,SS,Nat.reduceBEq,Nat.reduceEqDiff,Nat.reduceAdd,reduceIte,Nat.reduceMul,t0,t4,hlt']
  refine hE1 _ _ _ (by simp) ?_
  simp only [F20,SS,Nat.reduceBEq,Nat.reduceEqDiff,Nat.reduceAdd,reduceIte,Nat.reduceMul,t3]
  refine hQ _ _ _ _ (.inr rfl) (by simp only [SS,Nat.reduceBEq,t24]) (by simp only [SS,Nat.reduceBEq,Nat.reduceEqDiff,Nat.reduceAdd,reduceIte,Nat.reduceMul,t24];rfl) ?_
  exact ⟨h.next,b1,rfl,hr,s2,fun b hb=>by rcases hb with rfl | h | h;exact Nat.le_refl _;exact hb1 b h;cases h⟩
structure RLn (h:Heap) (rl rd:Nat) (num:Int) (chv:AV) (acts:Nat) (cut:Bool):Prop where
 r:∃ z,Rw h rl [.ptr (some (rd,0)),.int .i64 num,chv,.int .i64 (acts:Int),.bool cut] z false
 lt:rl<h.next
section
variable {h h':Heap} {rl rd:Nat} {Fi:List (List Nat)} {E:List Fe} {b1 b2:List Nat} {num:Int} {chv:AV} {acts:Nat} {cut:Bool}
theorem RLn.sm {F:Nat->Prop} (hl:RLn h rl rd num chv acts cut) (hs:Sm F h h') (h1:¬F rl):RLn h' rl rd num chv acts cut:=by
 obtain ⟨⟨z,r⟩,lt⟩:=hl
 have:=hs.1
 exact ⟨⟨z,r.sm hs lt h1⟩,by omega⟩
theorem counted_ok {n:Nat} (hn:1<=n) (hl:RLn h rl rd num chv acts cut) (ha:acts<1000000):WC (C n (.fn 69) [.ptr (some (rl,0))] h) fun r h'=>r=.bool (decide ((acts:Int)=num))/\RLn h' rl rd num chv (acts+1) cut/\Sm (·= rl) h h':=by
 obtain ⟨z,r⟩:=hl.r
 have l3:=r.ld1 3
 simp only [List.getElem?_cons_zero,List.getElem?_cons_succ] at l3
 obtain ⟨w1,w2,w3,w4⟩:=r.st1 (o:=3) (v:=I (acts+1)) (by simp) rfl
 simp only [List.set_cons_succ,List.set_cons_zero] at w2
 have l1:=w2.ld1 1
 simp only [List.getElem?_cons_zero,List.getElem?_cons_succ] at l1
 obtain ⟨m,rfl⟩:∃ m,n=m+1:=⟨n - 1,by omega⟩
 refine call_fn _ f69A rfl (by simp [fn69]) fun QQ hQ=>?_
 simp only [fn69] at hQ
 simp only [fn69,fill_cons,fill_nil,Nat.zero_add,Nat.reduceAdd]
 simp only [F69,SS,Nat.reduceBEq,Nat.reduceEqDiff,Nat.reduceAdd,reduceIte,Nat.reduceMul,x_fa_63_3,l3,wAdd1 (show acts<=1000000 by omega),w1,x_fa_63_1,l1]
 refine hQ _ _ _ _ (.inr rfl) (by simp only [SS,Nat.reduceBEq]) (by simp only [SS,Nat.reduceBEq,Nat.reduceEqDiff,Nat.reduceAdd,reduceIte,Nat.reduceMul];rfl) ?_
 exact ⟨rfl,⟨⟨z,w2⟩,by have:=hl.lt;omega⟩,⟨by omega,fun c _ hc=>w4 c hc⟩⟩
theorem rlread_ok {n:Nat} (hn:3<=n) (hl:RLn h rl rd num chv acts false) (hr:RDev h rd Fi E b1 b2) (hFi:Fi.length=256) (hE:E.length<=1000) (hup:UpE E) (k:Int):WC (C n (.fn 76) [.ptr (some (rl,0)),.int .i64 k] h) fun r h'=>Sm NoB h h' /\
  ((k<0∨256<=k)/\r=.tuple [.str [],.int .i64 2]∨∃ j:Nat,j<256/\k=(j:Int)/\r=.tuple [.str (rdE Fi E j),.int .i64 0]):=by
 obtain ⟨z,r⟩:=hl.r
 have l0:=r.ld1 0
 have l4:=r.ld1 4
 simp only [List.getElem?_cons_zero,List.getElem?_cons_succ] at l0 l4
 obtain ⟨m,rfl⟩:∃ m,n=m+1:=⟨n - 1,by omega⟩
 refine call_fn _ f76A rfl (by simp [fn76]) fun QQ hQ=>?_
 simp only [fn76] at hQ
 simp only [fn76,fill_cons,fill_nil,Nat.zero_add,Nat.reduceAdd]
 obtain ⟨_,h1,e1,s1,hr⟩:=rdread_ok (n:=m) (by omega) hr hFi hE hup k
 rcases hr with ⟨hk,rfl⟩|⟨j,hj,rfl,rfl⟩
 ·simp only [F76,SS,Nat.reduceBEq,Nat.reduceEqDiff,Nat.reduceAdd,reduceIte,Nat.reduceMul,x_fa_63_4,x_fa_63_0,l0,l4,e1]
  refine hQ _ _ _ _ (.inr rfl) (by simp only [SS,Nat.reduceBEq]) (by simp only [SS,Nat.reduceBEq,Nat.reduceEqDiff,Nat.reduceAdd,reduceIte,Nat.reduceMul];rfl) ?_
  exact ⟨s1,.inl ⟨hk,rfl⟩⟩
 ·simp only [F76,SS,Nat.reduceBEq,Nat.reduceEqDiff,Nat.reduceAdd,reduceIte,Nat.reduceMul,x_fa_63_4,x_fa_63_0,l0,l4,e1]
  refine hQ _ _ _ _ (.inr rfl) (by simp only [SS,Nat.reduceBEq]) (by simp only [SS,Nat.reduceBEq,Nat.reduceEqDiff,Nat.reduceAdd,reduceIte,Nat.reduceMul];rfl) ?_
  exact ⟨s1,.inr ⟨j,hj,rfl,rfl⟩⟩
theorem rlwrite_ok {n:Nat} (hn:3<=n) (hl:RLn h rl rd num chv acts false) (hr:RDev h rd Fi E b1 b2) (hrl:¬RDF rd b1 b2 rl) (ha:acts<1000000) (hc:(acts:Int)≠num) (hFi:Fi.length=256) (hE:E.length<=900) (k:Int) (s:List Nat) :
  WC (C n (.fn 22) [.ptr (some (rl,0)),.int .i64 k,.str s] h) fun r h'=>RLn h' rl rd num chv (acts+1) false/\Sm (fun b=>b=rl∨b=rd) h h' /\
  ((RDev h' rd Fi E b1 b2/\((k<0∨256<=k)/\r=.int .i64 2∨(0<=k/\k<256)/\64<s.length/\r=.int .i64 3))∨∃ j:Nat,j<256/\k=(j:Int)/\s.length<=64/\r=.int .i64 0/\∃ b2',RDev h' rd Fi (insE j (pad s) E) b1 b2'/\∀ b,b∈b2'->h.next<=b):=by
 obtain ⟨z,r⟩:=hl.r
 have l4:=r.ld1 4
 simp only [List.getElem?_cons_zero,List.getElem?_cons_succ] at l4
 obtain ⟨m,rfl⟩:∃ m,n=m+1:=⟨n - 1,by omega⟩
 refine call_fn _ f22A rfl (by simp [fn22]) fun QQ hQ=>?_
 simp only [fn22] at hQ
 simp only [fn22,fill_cons,fill_nil,Nat.zero_add,Nat.reduceAdd]
 obtain ⟨_,h1,e1,rfl,hl1,s1⟩:=counted_ok (n:=m) (by omega) hl ha
 rw [decide_eq_false hc] at e1
 have hr1:=hr.sm s1 (fun b hb e=>hrl (e▸hb))
 obtain ⟨z1,r1⟩:=hl1.r
 have l0:=r1.ld1 0
 rw [List.getElem?_cons_zero] at l0
 obtain ⟨v,h2,e2,hv⟩:=rdwrite_ok (n:=m) (by omega) hr1 hFi hE k s
 simp only [F22,SS,Nat.reduceBEq,Nat.reduceEqDiff,Nat.reduceAdd,reduceIte,Nat.reduceMul,x_fa_63_4,x_fa_63_0,l4,e1,l0,e2]
 refine hQ _ _ _ _ (.inr rfl) (by simp only [SS,Nat.reduceBEq]) (by simp only [SS,Nat.reduceBEq,Nat.reduceEqDiff,Nat.reduceAdd,reduceIte,Nat.reduceMul];rfl) ?_
 have hne:rl≠rd:=fun e=>hrl (.inl e)
 have n1:=s1.1
 rcases hv with ⟨rfl,hv⟩|⟨j,hj,hk,hsl,hr,b2',hd,s2,hb⟩
 ·exact ⟨hl1,s1.mono (fun _ _ h=>.inl h),.inl ⟨hr1,hv⟩⟩
 ·exact ⟨hl1.sm s2 hne,s1.trans s2 (fun _ _ h=>.inl h) (fun _ _ h=>.inr h),.inr ⟨j,hj,hk,hsl,hr,b2',hd,fun b hb'=>by have:=hb b hb';omega⟩⟩
end
structure DRel (D:List Sl) (Fi:List (List Nat)) (E:List Fe):Prop where
 fi:Fi.length=256
 firm:∀ j,j<256->Fi[j]?=some (Si D j).firm
 fr:∀ j,j<256->match fdE E j with
  | some s=>(Si D j).read=s/\(Si D j).fresh=true
  | none=>(Si D j).read=(Si D j).firm/\(Si D j).fresh=false
 up:UpE E
 lt:∀ e,e∈E->e.1<256
theorem DRel.zero:DRel (List.replicate 256 Sz) (List.replicate 256 Z64) []:=by
 have hs:∀ j,j<256->Si (List.replicate 256 Sz) j=Sz:=fun j hj=>by rw [Si_at (by rw [List.length_replicate];exact hj),List.getElem_replicate]
 refine ⟨by simp,fun j hj=>?_,fun j hj=>?_,List.Pairwise.nil,fun _ h=>by cases h⟩
 ·rw [hs j hj,List.getElem?_replicate,if_pos hj];rfl
 ·rw [hs j hj];exact ⟨rfl,rfl⟩
theorem DRel.rd {D:List Sl} {Fi:List (List Nat)} {E:List Fe} (h:DRel D Fi E) {j:Nat} (hj:j<256):rdE Fi E j=(Si D j).read:=by
 have h1:=h.fr j hj
 unfold rdE
 cases he:fdE E j with
 | some s=>rw [he] at h1;exact h1.1.symm
 | none =>
  rw [he] at h1
  rw [Option.getD_none,List.getD_eq_getElem?_getD,h.firm j hj];exact h1.1.symm
theorem Si_set {D:List Sl} {i j:Nat} {x:Sl} (hi:i<D.length):Si (D.set i x) j=if j=i then x else Si D j:=by
 unfold Si
 rw [List.getD_eq_getElem?_getD,List.getElem?_set]
 by_cases e:i=j
 ·subst e;simp [hi]
 ·rw [if_neg e,if_neg (fun h=>e h.symm),List.getD_eq_getElem?_getD]
theorem DRel.write {D:List Sl} {Fi:List (List Nat)} {E:List Fe} (h:DRel D Fi E) (hD:D.length=256) {j:Nat} (hj:j<256) (s:List Nat):DRel (D.set j ⟨(Si D j).firm,s,true⟩) Fi (insE j s E):=by
 refine ⟨h.fi,fun k hk=>?_,fun k hk=>?_,insE_up h.up,fun e he=>?_⟩
 ·rw [Si_set (by omega)]
  split
  ·rename_i e;subst e;exact h.firm k hk
  ·exact h.firm k hk
 ·rw [Si_set (by omega),insE_fd]
  by_cases e:k=j
  ·rw [if_pos e,if_pos e];exact ⟨rfl,rfl⟩
  ·rw [if_neg e,if_neg e];exact h.fr k hk
 ·rcases insE_mem he with rfl | he
  ·exact hj
  ·exact h.lt e he
theorem upE_len:∀ (n:Nat) {E:List Fe},UpE E->(∀ e,e∈E->e.1<n)->E.length<=n:=by
 intro n
 induction n with
 | zero=>intro E _ h;cases E with | nil=>exact Nat.le_refl _ | cons e E=>have:=h e (List.mem_cons_self ..);omega
 | succ n ih =>
  intro E hu h
  rcases List.eq_nil_or_concat E with rfl|⟨E',e,rfl⟩
  ·simp
  ·rw [List.concat_eq_append] at hu h ⊢
   have hu':=List.pairwise_append.1 hu
   have:=ih hu'.1 fun x hx=>by
    have h1:=hu'.2.2 x hx e (List.mem_singleton.2 rfl)
    have h2:=h e (List.mem_append_right _ (List.mem_singleton.2 rfl))
    omega
   simp;omega
theorem DRel.len {D:List Sl} {Fi:List (List Nat)} {E:List Fe} (h:DRel D Fi E):E.length<=256:=upE_len 256 h.up h.lt
end Go.Proofs.YtboobbebilegnaaGreat
namespace Go.Proofs.YtboobbebilegnaaGreat
open Go.Am
set_option maxRecDepth 10000
structure Pc where
 id:Int
 block:Int
 refs:Int
 size:Int
def Pc.c (x:Pc):List AV:=[.int .u32 x.id,.int .i64 x.block,.int .i64 x.refs,.int .i64 x.size]
abbrev csC (L:List Pc):List AV:=L.flatMap Pc.c
theorem csC_len (L:List Pc):(csC L).length=L.length*4:=by
 induction L with
 | nil=>rfl
 | cons x L ih=>show (Pc.c x++csC L).length=_;rw [List.length_append,ih,List.length_cons];simp [Pc.c];omega
theorem csC_get:∀ (L:List Pc) (i:Nat) (h:i<L.length) (f:Nat),f<4->(csC L)[i*4+f]?=(L[i].c)[f]?
 | x::L,0,h,f,hf=>by show (Pc.c x++csC L)[0*4+f]?=_;rw [List.getElem?_append_left (by simp [Pc.c];omega),Nat.zero_mul,Nat.zero_add];rfl
 | x::L,i+1,h,f,hf=>by
  show (Pc.c x++csC L)[(i+1)*4+f]?=_
  rw [List.getElem?_append_right (by simp [Pc.c];omega),show (i+1)*4+f - (Pc.c x).length=i*4+f by simp [Pc.c];omega]
  exact csC_get L i (by simpa using h) f hf
def Cz:Pc:=⟨0,0,0,0⟩
def Ci (L:List Pc) (i:Nat):Pc:=L.getD i Cz
theorem Ci_at {L:List Pc} {i:Nat} (h:i<L.length):Ci L i=L[i]:=by simp [Ci,List.getD_eq_getElem?_getD,List.getElem?_eq_getElem h]
def Pcs (h:Heap) (v:AV) (L:List Pc):Prop:=ElsR h v L.length 4 (csC L)
section
variable {h h':Heap} {v:AV} {L:List Pc}
theorem Pcs.sl (hi:Pcs h v L):∃ a c g,v=.slice a L.length c g:=by
 obtain ⟨_,a,c,g,e,_⟩:=hi
 exact ⟨a,c,g,e⟩
theorem Pcs.sm {F:Nat->Prop} (hi:Pcs h v L) (hs:Sm F h h') (hF:∀ b,blkOf v b->¬F b):Pcs h' v L:=elsR_sm hi hs hF
theorem Pcs.lt (hi:Pcs h v L) {b:Nat} (hb:blkOf v b):b<h.next:=elsR_lt hi hb
theorem Pcs.at {a:Option (Nat×Nat)} {c:Nat} {g:Option Nat} (hi:Pcs h (.slice a L.length c g) L) {i:Nat} (hl:i<L.length) :
  ∃ b o,a=some (b,o)/\h.ld1 b (o+i*4)=some (.int .u32 (Ci L i).id)/\h.ld1 b (o+i*4+1)=some (.int .i64 (Ci L i).block)/\h.ld1 b (o+i*4+2)=some (.int .i64 (Ci L i).refs)/\h.ld1 b (o+i*4+3)=some (.int .i64 (Ci L i).size)/\h.ld b (o+i*4) 4=some (Ci L i).c:=by
 obtain ⟨h0,a',c',g',e,h1,h2⟩:=hi
 cases e
 cases a with
 | none=>have:=h1 rfl;omega
 | some p =>
  have hld:=(h2 p.1 p.2 rfl).2 (by omega)
  have hc:=(ld_ld1 hld).2
  have hp:=ld_part hld (i:=i*4) (k:=4) (by omega)
  refine ⟨p.1,p.2,rfl,?_,?_,?_,?_,?_⟩
  ·rw [hc _ (by omega)];rw [Ci_at hl];exact (csC_get L i hl 0 (by omega))
  ·rw [Nat.add_assoc];rw [hc _ (by omega)];rw [Ci_at hl];exact (csC_get L i hl 1 (by omega))
  ·rw [Nat.add_assoc];rw [hc _ (by omega)];rw [Ci_at hl];exact (csC_get L i hl 2 (by omega))
  ·rw [Nat.add_assoc];rw [hc _ (by omega)];rw [Ci_at hl];exact (csC_get L i hl 3 (by omega))
  ·rw [hp];congr 1
   apply List.ext_getElem?
   intro f
   rw [Ci_at hl]
   by_cases hf:f<4
   ·rw [List.getElem?_take_of_lt hf,List.getElem?_drop];exact csC_get L i hl f hf
   ·rw [List.getElem?_eq_none (by simp;omega),List.getElem?_eq_none (by simp [Pc.c];omega)]
end
structure PoAt (h:Heap) (pb lb tb sp:Nat):Prop where
 r:∃ z,Rw h pb [.ptr (some (lb,0)),.ptr (some (tb,0)),.ptr (some (sp,0))] z false
 lt:pb<h.next
structure RPo (h:Heap) (rp rl rt:Nat):Prop where
 r:∃ z,Rw h rp [.ptr (some (rl,0)),.ptr (some (rt,0))] z false
 lt:rp<h.next
def usedR (R:List Ch) (k:Nat):Bool:=R.any fun c=>c.block==(k:Int)
def frL (U:Nat->Bool) (k:Nat):List Nat:=(List.range k).filter fun j=>decide (128<=j)&&!U j
theorem frL_len (U:Nat->Bool) (k:Nat):(frL U k).length=cntF U k:=rfl
theorem frL_succ (U:Nat->Bool) (k:Nat):frL U (k+1)=frL U k++if 128<=k/\U k=false then [k] else []:=by
 unfold frL
 rw [List.range_succ,List.filter_append]
 congr 1
 by_cases h1:128<=k <;> cases hu:U k <;> simp [h1,hu]
theorem frL_128 (U:Nat->Bool):frL U 128=[]:=List.eq_nil_of_length_eq_zero (cntF_128 U 128 (Nat.le_refl _))
section
variable {h h':Heap} {lb db sb pb tb sp wb rp rl rt rd:Nat} {D:List Sl} {cut num:Int} {chv chr:AV} {acts:Nat} {L R:List Ch} {next:Int} {F:Nat->Prop} {bs b1 b2:List Nat} {Fi:List (List Nat)} {E:List Fe} {cut':Bool}
theorem PoAt.sm {G:Nat->Prop} (hp:PoAt h pb lb tb sp) (hs:Sm G h h') (h1:¬G pb):PoAt h' pb lb tb sp:=by
 obtain ⟨⟨z,r⟩,lt⟩:=hp
 have:=hs.1
 exact ⟨⟨z,r.sm hs lt h1⟩,by omega⟩
theorem RPo.sm {G:Nat->Prop} (hp:RPo h rp rl rt) (hs:Sm G h h') (h1:¬G rp):RPo h' rp rl rt:=by
 obtain ⟨⟨z,r⟩,lt⟩:=hp
 have:=hs.1
 exact ⟨⟨z,r.sm hs lt h1⟩,by omega⟩
theorem pmake_ok {n:Nat} (hn:3<=n) (hl:LnAt h lb db cut chv acts false) (hd:DevAt h db sb D):WC (C n (.fn 9) [.ptr (some (lb,0))] h) fun r h'=>∃ pb tb sp wb F,r=.ptr (some (pb,0))/\PoAt h' pb lb tb sp/\TabAt h' tb [] 1 F/\SpAt h' sp wb (fun _=>false)/\Sm NoB h h' /\
  (∀ b,F b->h.next<=b/\b≠sp/\b≠wb/\b≠pb)/\h.next<=pb/\h.next<=sp/\h.next<=wb/\pb≠sp/\pb≠wb:=by
 obtain ⟨m,rfl⟩:∃ m,n=m+1:=⟨n - 1,by omega⟩
 refine call_fn _ f9A rfl (by simp [fn9]) fun QQ hQ=>?_
 simp only [fn9] at hQ
 simp only [fn9,fill_cons,fill_nil,Nat.zero_add,Nat.reduceAdd]
 obtain ⟨_,h0,e1,e0,rfl⟩:=ldevice_ok (n:=m) (by omega) hl
 subst e0
 obtain ⟨_,h1,e2,e0,rfl⟩:=dblocks_ok (n:=m) (by omega) hd
 subst e0
 obtain ⟨_,h2,e3,tb,F,rfl,ht,s2,hF⟩:=tnew_ok (n:=m) (by omega) (h:=h1)
 obtain ⟨_,h3,e4,sp,wb,rfl,hs,s3,g1,g2⟩:=spnew_ok (n:=m) (by omega) (h:=h2)
 obtain ⟨h4,e5,r5,n5,f5⟩:=Rw.alloc h3 (id:=h3.next) (n:=3) (vs:=[.ptr (some (lb,0)),.ptr (some (tb,0)),.ptr (some (sp,0))]) (z:=[]) (ro:=false) (Nat.le_refl _) rfl
 have s4:Sm NoB h3 h4:=⟨by omega,fun c hc _=>f5 c (by omega)⟩
 have e1:C m (.fn 48) [.ptr (some (lb,0))] h1=some (.ptr (some (db,0)),h1):=e1
 have w2:IntKind.i64.wrap ((256:Int).tdiv 2)=128:=by decide
 simp only [F9,SS,Nat.reduceBEq,Nat.reduceEqDiff,Nat.reduceAdd,reduceIte,Nat.reduceMul,x_eq_31,Option.isNone_some,e1,x_eq_33,e2,e3,b_quo (show (2:Int)≠0 by decide),w2,e4,x_bd_97_0_1_2,e5]
 refine hQ _ _ _ _ (.inr rfl) (by simp only [SS,Nat.reduceBEq]) (by simp only [SS,Nat.reduceBEq,Nat.reduceEqDiff,Nat.reduceAdd,reduceIte,Nat.reduceMul];rfl) ?_
 have q2:=s2.1
 have q3:=s3.1
 have hlt:=ht.flt
 have slt:=hs.lt
 refine ⟨h3.next,tb,sp,wb,F,rfl,⟨⟨_,r5⟩,by omega⟩,(ht.sm s3 (fun _ _ h=>h)).sm s4 (fun _ _ h=>h),hs.sm s4 (fun h=>h) (fun h=>h),(s2.trans s3 (fun _ _ h=>h) (fun _ _ h=>h)).trans s4 (fun _ _ h=>h) (fun _ _ h=>h),fun b hb=>?_,by omega,by omega,by omega,by omega,by omega⟩
 have:=hF b hb
 have:=hlt b hb
 omega
theorem pis_ok {n:Nat} (hn:1<=n) (hp:PoAt h pb lb tb sp):WC (C n (.fn 53) [.ptr (some (pb,0))] h) fun r h'=>h'=h/\r=.bool true:=by
 obtain ⟨z,r⟩:=hp.r
 have l1:=r.ld1 1
 simp only [List.getElem?_cons_zero,List.getElem?_cons_succ] at l1
 obtain ⟨m,rfl⟩:∃ m,n=m+1:=⟨n - 1,by omega⟩
 refine call_fn _ f53A rfl (by simp [fn53]) fun QQ hQ=>?_
 simp only [fn53] at hQ
 simp only [fn53,fill_cons,fill_nil,Nat.zero_add,Nat.reduceAdd]
 simp only [F53,SS,Nat.reduceBEq,Nat.reduceEqDiff,Nat.reduceAdd,reduceIte,Nat.reduceMul,x_ne_29,Option.isSome_some,x_fa_97_1,l1,x_ne_94]
 refine hQ _ _ _ _ (.inr rfl) (by simp only [SS,Nat.reduceBEq]) (by simp only [SS,Nat.reduceBEq,Nat.reduceEqDiff,Nat.reduceAdd,reduceIte,Nat.reduceMul];rfl) ?_
 exact ⟨rfl,rfl⟩
theorem pnext_ok {n:Nat} (hn:3<=n) (hp:PoAt h pb lb tb sp) (ht:TabAt h tb L next F):WC (C n (.fn 31) [.ptr (some (pb,0))] h) fun r h'=>h'=h/\r=u next:=by
 obtain ⟨z,r⟩:=hp.r
 have l1:=r.ld1 1
 simp only [List.getElem?_cons_zero,List.getElem?_cons_succ] at l1
 obtain ⟨m,rfl⟩:∃ m,n=m+1:=⟨n - 1,by omega⟩
 refine call_fn _ f31A rfl (by simp [fn31]) fun QQ hQ=>?_
 simp only [fn31] at hQ
 simp only [fn31,fill_cons,fill_nil,Nat.zero_add,Nat.reduceAdd]
 obtain ⟨_,h0,e1,e0,rfl⟩:=pis_ok (n:=m) (by omega) hp
 subst e0
 obtain ⟨_,h1,e2,e0,rfl⟩:=tnext_ok (n:=m) (by omega) ht
 subst e0
 have e1:C m (.fn 53) [.ptr (some (pb,0))] h1=some (.bool true,h1):=e1
 simp only [F31,SS,Nat.reduceBEq,Nat.reduceEqDiff,Nat.reduceAdd,reduceIte,Nat.reduceMul,e1,x_fa_97_1,l1,e2]
 refine hQ _ _ _ _ (.inr rfl) (by simp only [SS,Nat.reduceBEq]) (by simp only [SS,Nat.reduceBEq,Nat.reduceEqDiff,Nat.reduceAdd,reduceIte,Nat.reduceMul];rfl) ?_
 exact ⟨rfl,rfl⟩
theorem pfree_ok {n:Nat} (hn:8<=n) {U:Nat->Bool} (hp:PoAt h pb lb tb sp) (hs:SpAt h sp wb U):WC (C n (.fn 17) [.ptr (some (pb,0))] h) fun r h'=>Sm NoB h h'/\r=I (cntF U 256):=by
 obtain ⟨z,r⟩:=hp.r
 have l2:=r.ld1 2
 simp only [List.getElem?_cons_zero,List.getElem?_cons_succ] at l2
 obtain ⟨m,rfl⟩:∃ m,n=m+1:=⟨n - 1,by omega⟩
 refine call_fn _ f17A rfl (by simp [fn17]) fun QQ hQ=>?_
 simp only [fn17] at hQ
 simp only [fn17,fill_cons,fill_nil,Nat.zero_add,Nat.reduceAdd]
 obtain ⟨_,h0,e1,e0,rfl⟩:=pis_ok (n:=m) (by omega) hp
 subst e0
 obtain ⟨_,h1,e2,s1,rfl⟩:=spcount_ok (n:=m) (by omega) hs
 simp only [F17,SS,Nat.reduceBEq,Nat.reduceEqDiff,Nat.reduceAdd,reduceIte,Nat.reduceMul,e1,x_fa_97_2,l2,e2]
 refine hQ _ _ _ _ (.inr rfl) (by simp only [SS,Nat.reduceBEq]) (by simp only [SS,Nat.reduceBEq,Nat.reduceEqDiff,Nat.reduceAdd,reduceIte,Nat.reduceMul];rfl) ?_
 exact ⟨s1,rfl⟩
theorem rmake_ok {n:Nat} (hn:2<=n) (rl:Nat):WC (C n (.fn 42) [.ptr (some (rl,0))] h) fun r h'=>∃ rp rt,r=.ptr (some (rp,0))/\RPo h' rp rl rt/\RefAt h' rt [] 1 []/\Sm NoB h h'/\h.next<=rp/\h.next<=rt/\rp≠rt:=by
 obtain ⟨m,rfl⟩:∃ m,n=m+1:=⟨n - 1,by omega⟩
 refine call_fn _ f42A rfl (by simp [fn42]) fun QQ hQ=>?_
 simp only [fn42] at hQ
 simp only [fn42,fill_cons,fill_nil,Nat.zero_add,Nat.reduceAdd]
 obtain ⟨_,h1,e1,rt,rfl,hr,s1,g1⟩:=rnew_ok (n:=m) (by omega) (h:=h)
 obtain ⟨h4,e5,r5,n5,f5⟩:=Rw.alloc h1 (id:=h1.next) (n:=2) (vs:=[.ptr (some (rl,0)),.ptr (some (rt,0))]) (z:=[]) (ro:=false) (Nat.le_refl _) rfl
 have s4:Sm NoB h1 h4:=⟨by omega,fun c hc _=>f5 c (by omega)⟩
 simp only [F42,SS,Nat.reduceBEq,Nat.reduceEqDiff,Nat.reduceAdd,reduceIte,Nat.reduceMul,e1,x_bd_85_0_1,e5]
 refine hQ _ _ _ _ (.inr rfl) (by simp only [SS,Nat.reduceBEq]) (by simp only [SS,Nat.reduceBEq,Nat.reduceEqDiff,Nat.reduceAdd,reduceIte,Nat.reduceMul];rfl) ?_
 have lt:=hr.lt
 have q1:=s1.1
 exact ⟨h1.next,rt,rfl,⟨⟨_,r5⟩,by omega⟩,hr.no s4,s1.trans s4 (fun _ _ h=>h) (fun _ _ h=>h),by omega,by omega,by omega⟩
theorem rfree_ok {n:Nat} (hn:1<=n) (hp:RPo h rp rl rt) (hl:RLn h rl rd num chr acts cut') (hd:RDev h rd Fi E b1 b2) (hFi:Fi.length=256) (hr:RefAt h rt R next bs) (hlen:R.length<=1000) :
  WC (C n (.fn 75) [.ptr (some (rp,0))] h) fun r h'=>∃ bs',SlO 3 1 h' r (frL (usedR R) 256).length ((frL (usedR R) 256).map I) bs'/\Sm NoB h h'/\∀ b,b∈bs'->h.next<=b:=by
 obtain ⟨zp,rpw⟩:=hp.r
 obtain ⟨zl,rlw⟩:=hl.r
 obtain ⟨v1,v2,zd,rdw,o1,_⟩:=hd.ex
 obtain ⟨a1,c1,g1,rfl,_,_⟩:=slo_sl o1
 have p0:=rpw.ld1 0
 have p1:=rpw.ld1 1
 have l0:=rlw.ld1 0
 have d0:=rdw.ld1 0
 simp only [List.getElem?_cons_zero,List.getElem?_cons_succ] at p0 p1 l0 d0
 rw [hFi] at d0
 obtain ⟨m,rfl⟩:∃ m,n=m+1:=⟨n - 1,by omega⟩
 refine call_fn _ f75A rfl (by simp [fn75]) fun QQ hQ=>?_
 simp only [fn75] at hQ
 simp only [fn75,fill_cons,fill_nil,Nat.zero_add,Nat.reduceAdd]
 have w2:IntKind.i64.wrap ((256:Int).tdiv 2)=((128:Nat):Int):=by decide
 simp only [F75,SS,Nat.reduceBEq,Nat.reduceEqDiff,Nat.reduceAdd,reduceIte,Nat.reduceMul,x_fa_85_0,p0,x_fa_63_0,l0,x_fa_136_0,d0,x_len_41,c256,b_quo (show (2:Int)≠0 by decide),w2]
 refine run_loop (c:=c75_11) (I:=fun m' tm' h'=>∃ k v bs',128<=k/\k<=256/\m'=256 - k/\SlO 3 1 h' v (frL (usedR R) k).length ((frL (usedR R) k).map I) bs'/\(∀ b,b∈bs'->h.next<=b)/\Sm NoB h h'/\tm'.gt 0=some (.ptr (some (rp,0)))/\tm'.gt 3=some v/\tm'.gt 4=some (.int .i64 256)/\tm'.gt 5=some (I k)/\tm'.gt 61=none) (n:=128)
  ⟨128,_,[],by omega,by omega,rfl,by rw [frL_128];exact SlO.nil,(fun _ h=>by cases h),Sm.refl _ _,by simp only [SS,Nat.reduceBEq],by simp only [SS,Nat.reduceBEq],by simp only [SS,Nat.reduceBEq],by first | (simp only [SS,Nat.reduceBEq,Nat.reduceEqDiff,Nat.reduceAdd,reduceIte,Nat.reduceMul];done) | (simp only [SS,Nat.reduceBEq,Nat.reduceEqDiff,Nat.reduceAdd,reduceIte,Nat.reduceMul];rfl),by simp only [SS,Nat.reduceBEq]⟩ (by omega) ?_
 rintro _ tm h2 ⟨k,v,bs',hk1,hk2,rfl,o,hb,s2,t0,t3,t4,t5,t61⟩ Q1 hN1 hE1
 by_cases hlt:k<256
 ·have hlt':(k:Int)<256:=by omega
  simp only [F75,SS,Nat.reduceBEq,Nat.reduceEqDiff,Nat.reduceAdd,reduceIte,Nat.reduceMul,t4,t5,hlt']
  obtain ⟨vr,rr,ro⟩:=(hr.no s2).ex
  obtain ⟨a,c,g,rfl⟩:=Chs.sl (els_R ro.els)
  have hch:Chs h2 (.slice a R.length c g) R:=els_R ro.els
  have p1:=(rpw.sm s2 hp.lt (fun h=>h)).ld1 1
  have q0:=rr.ld1 0
  simp only [List.getElem?_cons_zero,List.getElem?_cons_succ] at p1 q0
  refine run_loop (c:=c75_26) (I:=fun m' tm' h'=>∃ i,i<=R.length/\m'=R.length - i/\h'=h2/\tm'.gt 0=some (.ptr (some (rp,0)))/\tm'.gt 3=some v/\tm'.gt 4=some (.int .i64 256)/\tm'.gt 5=some (I k)/\tm'.gt 6=some (.bool (usedR (R.take i) k))/\tm'.gt 7=some (I i)/\tm'.gt 61=none) (n:=R.length)
   ⟨0,by omega,rfl,rfl,by simp only [SS,Nat.reduceBEq,t0],by simp only [SS,Nat.reduceBEq,t3],by simp only [SS,Nat.reduceBEq,t4],by simp only [SS,Nat.reduceBEq,t5],by first | (simp only [SS,Nat.reduceBEq,Nat.reduceEqDiff,Nat.reduceAdd,reduceIte,Nat.reduceMul];done) | (simp only [SS,Nat.reduceBEq,Nat.reduceEqDiff,Nat.reduceAdd,reduceIte,Nat.reduceMul];rfl),by first | (simp only [SS,Nat.reduceBEq,Nat.reduceEqDiff,Nat.reduceAdd,reduceIte,Nat.reduceMul];done) | (simp only [SS,Nat.reduceBEq,Nat.reduceEqDiff,Nat.reduceAdd,reduceIte,Nat.reduceMul];rfl),by simp only [SS,Nat.reduceBEq,t61]⟩ (by omega) ?_
  clear t0 t3 t4 t5 t61
  rintro _ tm h3 ⟨i,hi,rfl,rfl,t0,t3,t4,t5,t6,t7,t61⟩ Q2 hN2 hE2
  by_cases hiR:i<R.length
  ·have hiR':(i:Int)<(R.length:Int):=by omega
   obtain ⟨b,oo,rfl,_,_,i2,_,_⟩:=hch.at hiR
   have x2:=x_ia_80 (k:=.i64) (b:=b) (o:=oo) (c:=c) (g:=g) hiR
   have hst:usedR (R.take (i+1)) k=(usedR (R.take i) k||(Ri R i).block==(k:Int)):=by
    unfold usedR
    rw [List.take_succ_eq_append_getElem hiR,List.any_append,← Ri_at hiR];simp
   have hdec:decide ((Ri R i).block=(k:Int))=((Ri R i).block==(k:Int)):=by
    by_cases e:(Ri R i).block=(k:Int) <;> simp [e]
   cases hu:usedR (R.take i) k with
   | true =>
    rw [hu] at t6 hst
    simp only [F75,SS,Nat.reduceBEq,Nat.reduceEqDiff,Nat.reduceAdd,reduceIte,Nat.reduceMul,t0,t5,t6,t7,x_fa_85_1,p1,x_fa_82_0,q0,x_len_80,hiR',w_undef,wAdd1 (show i<=1000000 by omega)]
    exact hN2 _ _ (R.length - (i+1)) (by omega) ⟨i+1,by omega,rfl,rfl,by simp only [SS,Nat.reduceBEq,t0],by simp only [SS,Nat.reduceBEq,t3],by simp only [SS,Nat.reduceBEq,t4],by simp only [SS,Nat.reduceBEq,t5],by rw [hst];simp only [SS,Nat.reduceBEq,Nat.reduceEqDiff,Nat.reduceAdd,reduceIte,Nat.reduceMul];rfl,by simp only [SS,Nat.reduceBEq],by simp only [SS,Nat.reduceBEq,t61]⟩
   | false =>
    rw [hu,Bool.false_or] at hst
    rw [hu] at t6
    simp only [F75,SS,Nat.reduceBEq,Nat.reduceEqDiff,Nat.reduceAdd,reduceIte,Nat.reduceMul,t0,t5,t6,t7,x_fa_85_1,p1,x_fa_82_0,q0,x_len_80,hiR',x2,x_fa_143_2,i2,hdec,wAdd1 (show i<=1000000 by omega)]
    exact hN2 _ _ (R.length - (i+1)) (by omega) ⟨i+1,by omega,rfl,rfl,by simp only [SS,Nat.reduceBEq,t0],by simp only [SS,Nat.reduceBEq,t3],by simp only [SS,Nat.reduceBEq,t4],by simp only [SS,Nat.reduceBEq,t5],by rw [hst];simp only [SS,Nat.reduceBEq,Nat.reduceEqDiff,Nat.reduceAdd,reduceIte,Nat.reduceMul],by simp only [SS,Nat.reduceBEq],by simp only [SS,Nat.reduceBEq,t61]⟩
  ·obtain rfl:i=R.length:=by omega
   have hiR':¬(R.length:Int)<(R.length:Int):=by omega
   rw [List.take_length] at t6
   simp only [F75,SS,Nat.reduceBEq,Nat.reduceEqDiff,Nat.reduceAdd,reduceIte,Nat.reduceMul,t0,t7,x_fa_85_1,p1,x_fa_82_0,q0,x_len_80,hiR']
   refine hE2 _ _ _ (by simp) ?_
   cases hu:usedR R k with
   | true =>
    rw [hu] at t6
    simp only [F75,SS,Nat.reduceBEq,Nat.reduceEqDiff,Nat.reduceAdd,reduceIte,Nat.reduceMul,t6,t5,wAdd1 (show k<=1000000 by omega)]
    refine hN1 _ _ (256 - (k+1)) (by omega) ⟨k+1,v,bs',by omega,by omega,rfl,?_,hb,s2,by simp only [SS,Nat.reduceBEq,t0],by simp only [SS,Nat.reduceBEq,t3],by simp only [SS,Nat.reduceBEq,t4],by simp only [SS,Nat.reduceBEq],by simp only [SS,Nat.reduceBEq,t61]⟩
    rw [frL_succ,if_neg (by rw [hu];simp),List.append_nil];exact o
   | false =>
    rw [hu] at t6
    obtain ⟨h4,e4,r4,n4,f4⟩:=Rw.alloc h3 (id:=h3.next) (n:=1) (vs:=[I k]) (z:=[]) (ro:=false) (Nat.le_refl _) rfl
    have s4:Sm NoB h3 h4:=⟨by omega,fun c hc _=>f4 c (by omega)⟩
    have hs4:srcOf 1 (fun n=>n) (.slice (some (h3.next,0)) 1 1 none) h4=some ([I k],1):=srcOf_row r4 (Nat.le_refl _)
    have hfl:=cntF_le (usedR R) k
    rw [← frL_len] at hfl
    obtain ⟨v5,h5,bs5,e5,o5,s5,f5⟩:=app_slo (t:=24) (id:=h4.next) u_24 s_3 b_3 z_3 rfl (o.sm s4 fun _ _ h=>h) hs4 rfl rfl (room_le (by omega) (by omega)) (Nat.le_refl _)
    have n5:=s5.1
    simp only [F75,SS,Nat.reduceBEq,Nat.reduceEqDiff,Nat.reduceAdd,reduceIte,Nat.reduceMul,t6,t5,x_bs_24_1,e4,t3,e5,wAdd1 (show k<=1000000 by omega)]
    have n2:=s2.1
    refine hN1 _ _ (256 - (k+1)) (by omega) ⟨k+1,v5,bs5,by omega,by omega,rfl,?_,fun b hb'=>?_,(s2.trans s4 (fun _ _ h=>h) (fun _ _ h=>h)).trans s5 (fun _ _ h=>h) (fun c hc h=>by have:=hb c h;omega),by simp only [SS,Nat.reduceBEq,t0],by simp only [SS,Nat.reduceBEq],by simp only [SS,Nat.reduceBEq,t4],by simp only [SS,Nat.reduceBEq],by simp only [SS,Nat.reduceBEq,t61]⟩
    ·rw [frL_succ,if_pos ⟨hk1,hu⟩,List.length_append,List.map_append];exact o5
    ·rcases f5 b hb' with h | h
     ·exact hb b h
     ·omega
 ·obtain rfl:k=256:=by omega
  have hlt':¬((256:Nat):Int)<256:=by decide
  simp only [F75,SS,Nat.reduceBEq,Nat.reduceEqDiff,Nat.reduceAdd,reduceIte,Nat.reduceMul,t4,t5,hlt']
  refine hE1 _ _ _ (by simp) ?_
  simp only [F75,SS,Nat.reduceBEq,Nat.reduceEqDiff,Nat.reduceAdd,reduceIte,Nat.reduceMul,t3]
  refine hQ _ _ _ _ (.inr rfl) (by simp only [SS,Nat.reduceBEq,t61]) (by simp only [SS,Nat.reduceBEq,Nat.reduceEqDiff,Nat.reduceAdd,reduceIte,Nat.reduceMul,t61];rfl) ?_
  exact ⟨bs',o,s2,hb⟩
end
end Go.Proofs.YtboobbebilegnaaGreat
namespace Go.Proofs.YtboobbebilegnaaGreat
open Go.Am
set_option maxRecDepth 10000
def ldOne (D:List Sl) (s:List Ch×Int) (c:Pc):Option (List Ch×Int) :=
 if (1<=c.size/\c.size<=64)/\(128<=c.block/\c.block<256)/\usedR s.1 c.block.toNat=false then
  if ¬(c.id=0∨c.id=4294967295)/\(1<=c.refs/\c.refs<=65535)/\gtL s.1 c.id=none/\fdL s.1 ((Si D c.block.toNat).read.take c.size.toNat)=none then
   some (s.1++[⟨c.id,(Si D c.block.toNat).read.take c.size.toNat,c.block,c.refs⟩],max s.2 (c.id+1))
  else none
 else none
def ldAll (D:List Sl):List Pc->List Ch×Int->Option (List Ch×Int)
 | [],s=>some s
 | c::cs,s=>(ldOne D s c).bind (ldAll D cs)
theorem ldAll_app (D:List Sl):∀ (A B:List Pc) (s:List Ch×Int),ldAll D (A++B) s=(ldAll D A s).bind (ldAll D B)
 | [],_,_=>rfl
 | c::A,B,s=>by
  show (ldOne D s c).bind (ldAll D (A++B))=((ldOne D s c).bind (ldAll D A)).bind (ldAll D B)
  cases ldOne D s c with
  | none=>rfl
  | some s'=>exact ldAll_app D A B s'
theorem ldAll_snoc (D:List Sl) {Cs:List Pc} {i:Nat} (hi:i<Cs.length) (s:List Ch×Int):ldAll D (Cs.take (i+1)) s=(ldAll D (Cs.take i) s).bind fun s=>ldOne D s (Ci Cs i):=by
 rw [List.take_succ_eq_append_getElem hi,ldAll_app,← Ci_at hi]
 congr 1;funext s
 show (ldOne D s (Ci Cs i)).bind (fun s=>some s)=_
 cases ldOne D s (Ci Cs i) <;> rfl
theorem ldAll_none (D:List Sl) {Cs:List Pc} {i:Nat} {s:List Ch×Int} (h:ldAll D (Cs.take i) s=none):ldAll D Cs s=none:=by
 rw [← List.take_append_drop i Cs,ldAll_app,h];rfl
theorem ldOne_len {D:List Sl} {s s':List Ch×Int} {c:Pc} (h:ldOne D s c=some s'):s'.1.length=s.1.length+1/\∃ x:Ch,s'.1=s.1++[x]/\x.block=c.block/\128<=c.block/\c.block<256:=by
 unfold ldOne at h
 split at h
 ·rename_i h1
  split at h
  ·cases h;exact ⟨by simp,_,rfl,rfl,h1.2.1⟩
  ·cases h
 ·cases h
theorem usedR_snoc {L:List Ch} {x:Ch} {j:Nat} (hj:x.block=(j:Int)):usedR (L++[x])=fun i=>usedR L i||decide (i=j):=by
 funext i
 unfold usedR
 rw [List.any_append,List.any_cons,List.any_nil,Bool.or_false,hj]
 congr 1
 by_cases e:i=j
 ·subst e;simp
 ·rw [decide_eq_false e];simpa using fun h=>e (by omega)
structure Pw (h:Heap) (pb lb db sb tb sp wb:Nat) (D:List Sl) (cut:Int) (chv:AV) (acts:Nat) (L:List Ch) (next:Int) (F:Nat->Prop):Prop where
 p:PoAt h pb lb tb sp
 l:LnAt h lb db cut chv acts false
 d:DevAt h db sb D
 t:TabAt h tb L next F
 s:SpAt h sp wb (usedR L)
 dF:∀ b,F b->b≠pb/\b≠lb/\b≠db/\b≠sb/\b≠sp/\b≠wb
 dw:wb≠pb/\wb≠lb/\wb≠db/\wb≠sb
 bl:∀ c,c∈L->128<=c.block/\c.block<256
section
variable {h h':Heap} {pb lb db sb tb sp wb:Nat} {D:List Sl} {cut:Int} {chv:AV} {acts:Nat} {L:List Ch} {next:Int} {F:Nat->Prop}
theorem Pw.sm {G:Nat->Prop} (hp:Pw h pb lb db sb tb sp wb D cut chv acts L next F) (s:Sm G h h') (h1:¬G pb/\¬G lb/\¬G db/\¬G sb/\¬G sp/\¬G wb) (h2:∀ b,F b->¬G b):Pw h' pb lb db sb tb sp wb D cut chv acts L next F :=
 ⟨hp.p.sm s h1.1,hp.l.sm s h1.2.1,hp.d.sm s h1.2.2.1 h1.2.2.2.1,hp.t.sm s h2,hp.s.sm s h1.2.2.2.2.1 h1.2.2.2.2.2,hp.dF,hp.dw,hp.bl⟩
theorem Pw.no (hp:Pw h pb lb db sb tb sp wb D cut chv acts L next F) (s:Sm NoB h h'):Pw h' pb lb db sb tb sp wb D cut chv acts L next F:=hp.sm s ⟨fun h=>h,fun h=>h,fun h=>h,fun h=>h,fun h=>h,fun h=>h⟩ (fun _ _ h=>h)
theorem take_byts {s:List Nat} (h:∀ c,c∈s->c<256) (k:Nat):Byts (s.take k):=fun i c hc=>h c (List.mem_of_mem_take (List.mem_of_getElem? hc))
theorem ldOne_eq (D:List Sl) (L:List Ch) (next ci cb cr cs:Int):ldOne D (L,next) ⟨ci,cb,cr,cs⟩=if (1<=cs/\cs<=64)/\(128<=cb/\cb<256)/\usedR L cb.toNat=false then
  if ¬(ci=0∨ci=4294967295)/\(1<=cr/\cr<=65535)/\gtL L ci=none/\fdL L ((Si D cb.toNat).read.take cs.toNat)=none then
   some (L++[⟨ci,(Si D cb.toNat).read.take cs.toNat,cb,cr⟩],max next (ci+1))
  else none
 else none:=rfl
theorem pload1_ok {n:Nat} (hn:7<=n) (hp:Pw h pb lb db sb tb sp wb D cut chv acts L next F) (hlen:L.length<=900) (ci cb cr cs:Int) (hid:0<=ci/\ci<=4294967295) :
  WC (C n (.fn 73) [.ptr (some (pb,0)),.agg [.int .u32 ci,.int .i64 cb,.int .i64 cr,.int .i64 cs]] h) fun r h'=>Sm (fun b=>b=wb∨F b) h h'/\match ldOne D (L,next) ⟨ci,cb,cr,cs⟩ with
   | none=>r=.int .i64 4
   | some s=>r=.int .i64 0/\∃ F',Pw h' pb lb db sb tb sp wb D cut chv acts s.1 s.2 F'/\∀ b,F' b->F b∨h.next<=b:=by
 obtain ⟨m,rfl⟩:∃ m,n=m+1:=⟨n - 1,by omega⟩
 refine call_fn _ f73A rfl (by simp [fn73]) fun QQ hQ=>?_
 simp only [fn73] at hQ
 simp only [fn73,fill_cons,fill_nil,Nat.zero_add,Nat.reduceAdd]
 obtain ⟨h1,e1,r1,n1,f1⟩:=Rw.alloc h (id:=h.next) (n:=4) (vs:=[.int .u32 ci,.int .i64 cb,.int .i64 cr,.int .i64 cs]) (z:=[]) (ro:=false) (Nat.le_refl _) rfl
 have s1:Sm NoB h h1:=⟨by omega,fun c hc _=>f1 c (by omega)⟩
 obtain ⟨g1,eg1,sg1,bg1,ng1⟩:=Sm.bump h1 18
 have hp1:=(hp.no s1).no sg1
 have rb:=r1.same (h':=g1) (by rw [bg1])
 have j1:=rb.ld1 1
 have j3:=rb.ld1 3
 simp only [List.getElem?_cons_zero,List.getElem?_cons_succ] at j1 j3
 have s01:Sm NoB h g1:=s1.trans sg1 (fun _ _ h=>h) (fun _ _ h=>h)
 by_cases z1:cs<1
 ·simp only [F73,SS,Nat.reduceBEq,Nat.reduceEqDiff,Nat.reduceAdd,reduceIte,Nat.reduceMul,e1,eg1,x_fa_50_3,j3,z1,w_undef]
  refine hQ _ _ _ _ (.inr rfl) (by simp only [SS,Nat.reduceBEq]) (by simp only [SS,Nat.reduceBEq,Nat.reduceEqDiff,Nat.reduceAdd,reduceIte,Nat.reduceMul];rfl) ?_
  rw [ldOne_eq,if_neg (by omega)]
  exact ⟨s01.no,rfl⟩
 by_cases z2:64<cs
 ·simp only [F73,SS,Nat.reduceBEq,Nat.reduceEqDiff,Nat.reduceAdd,reduceIte,Nat.reduceMul,e1,eg1,x_fa_50_3,j3,z1,z2,w_undef]
  refine hQ _ _ _ _ (.inr rfl) (by simp only [SS,Nat.reduceBEq]) (by simp only [SS,Nat.reduceBEq,Nat.reduceEqDiff,Nat.reduceAdd,reduceIte,Nat.reduceMul];rfl) ?_
  rw [ldOne_eq,if_neg (by omega)]
  exact ⟨s01.no,rfl⟩
 obtain ⟨sz,rfl⟩:∃ sz:Nat,cs=(sz:Int):=⟨cs.toNat,by omega⟩
 obtain ⟨zp,rp⟩:=hp1.p.r
 have p2:=rp.ld1 2
 simp only [List.getElem?_cons_zero,List.getElem?_cons_succ] at p2
 obtain ⟨r3,h3,e3,hu⟩:=spuse_ok (n:=m) (by omega) hp1.s cb
 rcases hu with ⟨u1,rfl,rfl⟩|⟨j,rfl,hj1,hj2,hu⟩
 ·simp only [F73,SS,Nat.reduceBEq,Nat.reduceEqDiff,Nat.reduceAdd,reduceIte,Nat.reduceMul,e1,eg1,x_fa_50_3,x_fa_50_1,j3,j1,z1,z2,x_fa_97_2,p2,e3,w_undef]
  refine hQ _ _ _ _ (.inr rfl) (by simp only [SS,Nat.reduceBEq]) (by simp only [SS,Nat.reduceBEq,Nat.reduceEqDiff,Nat.reduceAdd,reduceIte,Nat.reduceMul];rfl) ?_
  rw [ldOne_eq,if_neg (by omega)]
  exact ⟨s01.no,rfl⟩
 rcases hu with ⟨u1,rfl,s3⟩|⟨u1,rfl,hs3,s3⟩
 ·simp only [F73,SS,Nat.reduceBEq,Nat.reduceEqDiff,Nat.reduceAdd,reduceIte,Nat.reduceMul,e1,eg1,x_fa_50_3,x_fa_50_1,j3,j1,z1,z2,x_fa_97_2,p2,e3,w_undef]
  refine hQ _ _ _ _ (.inr rfl) (by simp only [SS,Nat.reduceBEq]) (by simp only [SS,Nat.reduceBEq,Nat.reduceEqDiff,Nat.reduceAdd,reduceIte,Nat.reduceMul];rfl) ?_
  rw [ldOne_eq,Int.toNat_natCast,if_neg (by rw [u1];rintro ⟨_,_,h⟩;cases h)]
  exact ⟨(s01.trans s3 (fun _ _ h=>h) (fun _ _ h=>h)).no,rfl⟩
 have hld:ldOne D (L,next) ⟨ci,(j:Int),cr,(sz:Int)⟩=if ¬(ci=0∨ci=4294967295)/\(1<=cr/\cr<=65535)/\gtL L ci=none/\fdL L ((Si D j).read.take sz)=none then
   some (L++[⟨ci,(Si D j).read.take sz,(j:Int),cr⟩],max next (ci+1)) else none:=by
  rw [ldOne_eq,Int.toNat_natCast,Int.toNat_natCast,if_pos ⟨⟨by omega,by omega⟩,⟨by omega,by omega⟩,u1⟩]
 have hdw:=hp1.dw
 have h3p:=hp1.p.sm s3 hdw.1.symm
 have h3l:=hp1.l.sm s3 hdw.2.1.symm
 have h3d:=hp1.d.sm s3 hdw.2.2.1.symm hdw.2.2.2.symm
 have h3t:=hp1.t.sm s3 (fun b hb=>(hp1.dF b hb).2.2.2.2.2)
 have hlt1:h.next<g1.next:=by omega
 have rb3:=rb.sm s3 (by omega) (by have:=hp.s.lt.2;omega)
 obtain ⟨g4,eg4,sg4,bg4,ng4⟩:=Sm.bump h3 12
 have h4l:=h3l.sm sg4 (fun h=>h)
 have h4d:=h3d.sm sg4 (fun h=>h) (fun h=>h)
 have h4p:=h3p.sm sg4 (fun h=>h)
 have h4t:=h3t.sm sg4 (fun _ _ h=>h)
 have h4s:=hs3.sm sg4 (fun h=>h) (fun h=>h)
 have n3:=s3.1
 have rb4:=rb3.sm sg4 (by omega) (fun h=>h)
 obtain ⟨zq,rq⟩:=h4p.r
 have q0:=rq.ld1 0
 have k1:=rb4.ld1 1
 simp only [List.getElem?_cons_zero,List.getElem?_cons_succ] at q0 k1
 obtain ⟨_,h5,e5,e0,hr5⟩:=lread_ok (n:=m) (by omega) h4l h4d (j:Int)
 subst e0
 rcases hr5 with ⟨hbad,_⟩|⟨j',hj',hjj,rfl⟩
 ·omega
 obtain rfl:j'=j:=by omega
 have ok:=h4d.si hj'
 obtain ⟨g6,eg6,sg6,bg6,ng6⟩:=Sm.bump h5 16
 have h6p:=h4p.sm sg6 (fun h=>h)
 have h6t:=h4t.sm sg6 (fun _ _ h=>h)
 have h6s:=h4s.sm sg6 (fun h=>h) (fun h=>h)
 have h6l:=h4l.sm sg6 (fun h=>h)
 have h6d:=h4d.sm sg6 (fun h=>h) (fun h=>h)
 have rb6:=rb4.sm sg6 (by omega) (fun h=>h)
 obtain ⟨zv,rv⟩:=h6p.r
 have v1:=rv.ld1 1
 have b0:=rb6.ld1 0
 have b1:=rb6.ld1 1
 have b2:=rb6.ld1 2
 have b3:=rb6.ld1 3
 simp only [List.getElem?_cons_zero,List.getElem?_cons_succ] at v1 b0 b1 b2 b3
 have hrl:(Si D j').read.length=64:=ok.2.1
 have xs:=x_sl_9_010 (k:=.i64) (l:=(Si D j').read) (hi:=sz) (by omega)
 have hdl:((Si D j').read.take sz).length=sz:=by rw [List.length_take];omega
 obtain ⟨r7,h7,e7,c7⟩:=tload_ok (n:=m) (by omega) h6t ci hid (s:=(Si D j').read.take sz) (j':Int) cr (by omega) (take_byts ok.2.2 _) (by omega)
 have s16:Sm (fun b=>b=wb∨F b) h g6:=((s01.trans s3 (H:=fun b=>b=wb∨F b) (fun _ _ h=>h.elim) (fun _ _ h=>.inl h)).trans sg4 (fun _ _ h=>h) (fun _ _ h=>h.elim)).trans sg6 (fun _ _ h=>h) (fun _ _ h=>h.elim)
 rcases c7 with ⟨t1,rfl,s7⟩|⟨t1,⟨t2,rfl,s7⟩|⟨t2,⟨t3,rfl,s7⟩|⟨t3,t4,rfl,F',ht7,s7,hF'⟩⟩⟩
 ·simp only [F73,SS,Nat.reduceBEq,Nat.reduceEqDiff,Nat.reduceAdd,reduceIte,Nat.reduceMul,e1,eg1,x_fa_50_3,x_fa_50_1,j3,j1,z1,z2,x_fa_97_2,p2,e3,eg4,x_fa_97_0,q0,k1,e5,eg6,x_fa_97_1,v1,x_fa_50_0,b0,b3,xs,b1,x_fa_50_2,b2,e7,w_undef]
  refine hQ _ _ _ _ (.inr rfl) (by simp only [SS,Nat.reduceBEq]) (by simp only [SS,Nat.reduceBEq,Nat.reduceEqDiff,Nat.reduceAdd,reduceIte,Nat.reduceMul];rfl) ?_
  rw [hld,if_neg (fun h=>h.1 t1)]
  exact ⟨s16.trans s7 (fun _ _ h=>h) (fun _ _ h=>h.elim),rfl⟩
 ·simp only [F73,SS,Nat.reduceBEq,Nat.reduceEqDiff,Nat.reduceAdd,reduceIte,Nat.reduceMul,e1,eg1,x_fa_50_3,x_fa_50_1,j3,j1,z1,z2,x_fa_97_2,p2,e3,eg4,x_fa_97_0,q0,k1,e5,eg6,x_fa_97_1,v1,x_fa_50_0,b0,b3,xs,b1,x_fa_50_2,b2,e7,w_undef]
  refine hQ _ _ _ _ (.inr rfl) (by simp only [SS,Nat.reduceBEq]) (by simp only [SS,Nat.reduceBEq,Nat.reduceEqDiff,Nat.reduceAdd,reduceIte,Nat.reduceMul];rfl) ?_
  rw [hld,if_neg (fun h=>by have:=h.2.1;omega)]
  exact ⟨s16.trans s7 (fun _ _ h=>h) (fun _ _ h=>h.elim),rfl⟩
 ·simp only [F73,SS,Nat.reduceBEq,Nat.reduceEqDiff,Nat.reduceAdd,reduceIte,Nat.reduceMul,e1,eg1,x_fa_50_3,x_fa_50_1,j3,j1,z1,z2,x_fa_97_2,p2,e3,eg4,x_fa_97_0,q0,k1,e5,eg6,x_fa_97_1,v1,x_fa_50_0,b0,b3,xs,b1,x_fa_50_2,b2,e7,w_undef]
  refine hQ _ _ _ _ (.inr rfl) (by simp only [SS,Nat.reduceBEq]) (by simp only [SS,Nat.reduceBEq,Nat.reduceEqDiff,Nat.reduceAdd,reduceIte,Nat.reduceMul];rfl) ?_
  rw [hld,if_neg (fun h=>by
   rcases t3 with ⟨c,t3⟩|⟨c,t3⟩
   ·rw [h.2.2.1] at t3;cases t3
   ·rw [h.2.2.2] at t3;cases t3)]
  exact ⟨s16.trans s7 (fun _ _ h=>h) (fun _ _ h=>h.elim),rfl⟩
 ·simp only [F73,SS,Nat.reduceBEq,Nat.reduceEqDiff,Nat.reduceAdd,reduceIte,Nat.reduceMul,e1,eg1,x_fa_50_3,x_fa_50_1,j3,j1,z1,z2,x_fa_97_2,p2,e3,eg4,x_fa_97_0,q0,k1,e5,eg6,x_fa_97_1,v1,x_fa_50_0,b0,b3,xs,b1,x_fa_50_2,b2,e7,w_undef]
  refine hQ _ _ _ _ (.inr rfl) (by simp only [SS,Nat.reduceBEq]) (by simp only [SS,Nat.reduceBEq,Nat.reduceEqDiff,Nat.reduceAdd,reduceIte,Nat.reduceMul];rfl) ?_
  rw [hld,if_pos ⟨t1,by omega,t3,t4⟩]
  have hdF:=hp1.dF
  have nF:∀ b,b<g6.next->(∀ _:F b,False)->¬F' b:=fun b hb hf h=>by
   rcases hF' b h with h | h
   ·exact hf h
   ·omega
  have fl:=h6t.flt
  refine ⟨s16.trans s7 (fun _ _ h=>h) (fun _ _ h=>.inr h),rfl,F',⟨h6p.sm s7 (fun h=>(hdF _ h).1 rfl),h6l.sm s7 (fun h=>(hdF _ h).2.1 rfl),h6d.sm s7 (fun h=>(hdF _ h).2.2.1 rfl) (fun h=>(hdF _ h).2.2.2.1 rfl),ht7,?_,fun b hb=>?_,hdw,fun c hc=>?_⟩,fun b hb=>?_⟩
  ·rw [usedR_snoc (x:=⟨ci,(Si D j').read.take sz,(j':Int),cr⟩) rfl]
   exact h6s.sm s7 (fun h=>(hdF _ h).2.2.2.2.1 rfl) (fun h=>(hdF _ h).2.2.2.2.2 rfl)
  ·rcases hF' b hb with h | h
   ·exact hdF b h
   ·have l1:=h6p.lt;have l2:=h6l.lt;have l3:=h6d.lt;have l4:=h6s.lt
    omega
  ·rcases List.mem_append.1 hc with h | h
   ·exact hp.bl c h
   ·rw [List.mem_singleton.1 h];exact ⟨by show (128:Int)<=(j':Int);omega,by show (j':Int)<256;omega⟩
  ·have:=s16.1
   exact (hF' b hb).imp_right (by omega)
end
end Go.Proofs.YtboobbebilegnaaGreat
namespace Go.Proofs.YtboobbebilegnaaGreat
open Go.Am
set_option maxRecDepth 10000
theorem ldAll_len {D:List Sl}:∀ {Cs:List Pc} {s s':List Ch×Int},ldAll D Cs s=some s'->s'.1.length=s.1.length+Cs.length
 | [],s,s',h=>by cases h;simp
 | c::Cs,s,s',h=>by
  have h:(ldOne D s c).bind (ldAll D Cs)=some s':=h
  cases h1:ldOne D s c with
  | none=>rw [h1] at h;cases h
  | some s1 =>
   rw [h1] at h
   have h:ldAll D Cs s1=some s':=h
   have:=ldAll_len h
   have:=(ldOne_len h1).1
   simp;omega
theorem Pc_eta (c:Pc):c.c=[.int .u32 c.id,.int .i64 c.block,.int .i64 c.refs,.int .i64 c.size]:=rfl
section
variable {h h':Heap} {lb db sb:Nat} {D:List Sl} {cut:Int} {chv:AV} {acts:Nat}
theorem pLoad_ok {n:Nat} (hn:8<=n) (hl:LnAt h lb db cut chv acts false) (hd:DevAt h db sb D) (next:Int) (hnx:0<=next/\next<=4294967295) {v:AV} {Cs:List Pc} (hC:Pcs h v Cs) (hlen:Cs.length<=800) (hids:∀ i,i<Cs.length->0<=(Ci Cs i).id/\(Ci Cs i).id<=4294967295) :
  WC (C n (.fn 23) [.ptr (some (lb,0)),u next,v] h) fun r h'=>Sm NoB h h'/\match ldAll D Cs ([],1) with
   | none=>r=.tuple [.ptr none,.int .i64 4]
   | some s=>∃ pb tb sp wb F,r=.tuple [.ptr (some (pb,0)),.int .i64 0]/\Pw h' pb lb db sb tb sp wb D cut chv acts s.1 (max s.2 next) F/\(∀ b,F b->h.next<=b)/\h.next<=pb/\h.next<=sp/\h.next<=wb:=by
 obtain ⟨a,c,g,rfl⟩:=hC.sl
 obtain ⟨m,rfl⟩:∃ m,n=m+1:=⟨n - 1,by omega⟩
 refine call_fn _ f23A rfl (by simp [fn23]) fun QQ hQ=>?_
 simp only [fn23] at hQ
 simp only [fn23,fill_cons,fill_nil,Nat.zero_add,Nat.reduceAdd]
 obtain ⟨_,h1,e1,pb,tb,sp,wb,F,rfl,hp,ht,hs,s1,dF,g1,g2,g3,ne1,ne2⟩:=pmake_ok (n:=m) (by omega) hl hd
 have q1:=s1.1
 have ll:=hl.lt
 have ld:=hd.lt
 have hw0:Pw h1 pb lb db sb tb sp wb D cut chv acts [] 1 F:=⟨hp,hl.sm s1 (fun h=>h),hd.sm s1 (fun h=>h) (fun h=>h),ht,hs,fun b hb=>by have:=dF b hb;omega,⟨ne2.symm,by omega,by omega,by omega⟩,fun c hc=>by cases hc⟩
 have dF0:∀ b,F b->h.next<=b:=fun b hb=>(dF b hb).1
 simp only [F23,SS,Nat.reduceBEq,Nat.reduceEqDiff,Nat.reduceAdd,reduceIte,Nat.reduceMul,e1,x_eq_29,Option.isNone_some,x_len_46]
 refine run_loop (c:=c23_17) (I:=fun m' tm' h'=>∃ i s F,i<=Cs.length/\m'=Cs.length - i/\ldAll D (Cs.take i) ([],1)=some s/\Pw h' pb lb db sb tb sp wb D cut chv acts s.1 s.2 F/\(∀ b,F b->h.next<=b)/\Sm NoB h h'/\tm'.gt 1=some (u next)/\tm'.gt 8=some (.ptr (some (pb,0)))/\tm'.gt 16=some (.slice a Cs.length c g)/\tm'.gt 17=some (I Cs.length)/\tm'.gt 18=some (I i)/\tm'.gt 36=none) (n:=Cs.length)
  ⟨0,([],1),F,by omega,rfl,rfl,hw0,dF0,s1,by simp only [SS,Nat.reduceBEq],by simp only [SS,Nat.reduceBEq],by simp only [SS,Nat.reduceBEq],by simp only [SS,Nat.reduceBEq],by first | (simp only [SS,Nat.reduceBEq,Nat.reduceEqDiff,Nat.reduceAdd,reduceIte,Nat.reduceMul];done) | (simp only [SS,Nat.reduceBEq,Nat.reduceEqDiff,Nat.reduceAdd,reduceIte,Nat.reduceMul];rfl),by simp only [SS,Nat.reduceBEq]⟩ (by omega) ?_
 clear hw0 dF0 ht hs hp dF
 rintro _ tm h2 ⟨i,s,F,hi,rfl,hld,hw,dF,s2,t1,t8,t16,t17,t18,t36⟩ Q1 hN1 hE1
 have hsl:=ldAll_len hld
 by_cases hlt:i<Cs.length
 ·have hlt':(i:Int)<(Cs.length:Int):=by omega
  obtain ⟨b,o,rfl,_,_,_,_,ldn⟩:=(hC.sm s2 (fun _ _ h=>h)).at hlt
  rw [Pc_eta] at ldn
  have x2:=x_ia_46 (k:=.i64) (b:=b) (o:=o) (c:=c) (g:=g) hlt
  have hbn:=hC.lt (b:=b) rfl
  obtain ⟨h3,e3,r3,n3,f3⟩:=Rw.alloc h2 (id:=h2.next) (n:=4) (vs:=[.int .u32 0,.int .i64 0,.int .i64 0,.int .i64 0]) (z:=tyMark 50 true) (ro:=false) (Nat.le_refl _) rfl
  obtain ⟨w1,w2,w3,w4⟩:=r3.sto (o:=0) (us:=[.int .u32 (Ci Cs i).id,.int .i64 (Ci Cs i).block,.int .i64 (Ci Cs i).refs,.int .i64 (Ci Cs i).size]) (by simp) rfl
  obtain ⟨h4,eh⟩:∃ h4,h3.wr h2.next 0 [.int .u32 (Ci Cs i).id,.int .i64 (Ci Cs i).block,.int .i64 (Ci Cs i).refs,.int .i64 (Ci Cs i).size]=h4:=⟨_,rfl⟩
  rw [eh] at w1 w2 w3 w4
  have w2:Rw h4 h2.next [.int .u32 (Ci Cs i).id,.int .i64 (Ci Cs i).block,.int .i64 (Ci Cs i).refs,.int .i64 (Ci Cs i).size] (tyMark 50 true) false:=w2
  have s4:Sm NoB h2 h4:=⟨by omega,fun c hc _=>by rw [w4 c (by omega),f3 c (by omega)]⟩
  have ldb:h4.ld h2.next 0 4=some [.int .u32 (Ci Cs i).id,.int .i64 (Ci Cs i).block,.int .i64 (Ci Cs i).refs,.int .i64 (Ci Cs i).size]:=w2.ld (i:=0) (n:=4) (Nat.le_refl _)
  have q2:=s2.1
  obtain ⟨r5,h5,e5,s5,hv⟩:=pload1_ok (n:=m) (by omega) (hw.no s4) (by rw [hsl];simp;omega) (Ci Cs i).id (Ci Cs i).block (Ci Cs i).refs (Ci Cs i).size (hids i hlt)
  have hst:=st_agg (n:=4) (h:=h3) (b:=h2.next) (o:=0) (cs:=[.int .u32 (Ci Cs i).id,.int .i64 (Ci Cs i).block,.int .i64 (Ci Cs i).refs,.int .i64 (Ci Cs i).size]) rfl
  have s25:Sm NoB h h5:=(s2.trans s4 (fun _ _ h=>h) (fun _ _ h=>h)).trans s5 (fun _ _ h=>h) (fun c hc hh=>by rcases hh with rfl | hh;omega;have:=dF c hh;omega)
  have hsn:ldAll D (Cs.take (i+1)) ([],1)=ldOne D (s.1,s.2) ⟨(Ci Cs i).id,(Ci Cs i).block,(Ci Cs i).refs,(Ci Cs i).size⟩:=by rw [ldAll_snoc D hlt,hld];rfl
  cases ho:ldOne D (s.1,s.2) ⟨(Ci Cs i).id,(Ci Cs i).block,(Ci Cs i).refs,(Ci Cs i).size⟩ with
  | none =>
   rw [ho] at hv hsn
   obtain rfl:=hv
   simp only [F23,SS,Nat.reduceBEq,Nat.reduceEqDiff,Nat.reduceAdd,reduceIte,Nat.reduceMul,t8,t16,t17,t18,hlt',x2,ldn,x_al_50,e3,hst,w1,ldb,e5]
   refine hE1 _ _ _ (by simp) ?_
   simp only [SS,Nat.reduceBEq,Nat.reduceEqDiff,Nat.reduceAdd,reduceIte,Nat.reduceMul]
   refine hQ _ _ _ _ (.inr rfl) (by simp only [SS,Nat.reduceBEq,t36]) (by simp only [SS,Nat.reduceBEq,Nat.reduceEqDiff,Nat.reduceAdd,reduceIte,Nat.reduceMul];rfl) ⟨s25,?_⟩
   rw [ldAll_none D hsn];rfl
  | some s' =>
   rw [ho] at hv hsn
   obtain ⟨rfl,F',hw',hF'⟩:=hv
   simp only [F23,SS,Nat.reduceBEq,Nat.reduceEqDiff,Nat.reduceAdd,reduceIte,Nat.reduceMul,t8,t16,t17,t18,hlt',x2,ldn,x_al_50,e3,hst,w1,ldb,e5,wAdd1 (show i<=1000000 by omega)]
   refine hN1 _ _ (Cs.length - (i+1)) (by omega) ⟨i+1,s',F',by omega,rfl,hsn,hw',fun b hb=>?_,s25,by simp only [SS,Nat.reduceBEq,t1],by simp only [SS,Nat.reduceBEq,t8],by simp only [SS,Nat.reduceBEq,t16],by simp only [SS,Nat.reduceBEq,t17],by simp only [SS,Nat.reduceBEq],by simp only [SS,Nat.reduceBEq,t36]⟩
   rcases hF' b hb with h | h
   ·exact dF b h
   ·have:=s4.1;omega
 ·obtain rfl:i=Cs.length:=by omega
  have hlt':¬(Cs.length:Int)<(Cs.length:Int):=by omega
  rw [List.take_length] at hld
  simp only [F23,SS,Nat.reduceBEq,Nat.reduceEqDiff,Nat.reduceAdd,reduceIte,Nat.reduceMul,t17,t18,hlt']
  refine hE1 _ _ _ (by simp) ?_
  obtain ⟨zr,rr⟩:=hw.p.r
  have l1:=rr.ld1 1
  simp only [List.getElem?_cons_zero,List.getElem?_cons_succ] at l1
  obtain ⟨rs,h3,e3,ht3,s3⟩:=tskip_ok (n:=m) (by omega) hw.t next hnx
  simp only [F23,SS,Nat.reduceBEq,Nat.reduceEqDiff,Nat.reduceAdd,reduceIte,Nat.reduceMul,t8,t1,x_fa_97_1,l1,e3]
  refine hQ _ _ _ _ (.inr rfl) (by simp only [SS,Nat.reduceBEq,t36]) (by simp only [SS,Nat.reduceBEq,Nat.reduceEqDiff,Nat.reduceAdd,reduceIte,Nat.reduceMul,t36];rfl) ?_
  have hdF:=hw.dF
  have hw3:Pw h3 pb lb db sb tb sp wb D cut chv acts s.1 (max s.2 next) F:=⟨hw.p.sm s3 (fun h=>(hdF _ h).1 rfl),hw.l.sm s3 (fun h=>(hdF _ h).2.1 rfl),hw.d.sm s3 (fun h=>(hdF _ h).2.2.1 rfl) (fun h=>(hdF _ h).2.2.2.1 rfl),ht3,hw.s.sm s3 (fun h=>(hdF _ h).2.2.2.2.1 rfl) (fun h=>(hdF _ h).2.2.2.2.2 rfl),hdF,hw.dw,hw.bl⟩
  refine ⟨s2.trans s3 (fun _ _ h=>h) (fun c hc h=>by have:=dF c h;omega),?_⟩
  rw [hld]
  exact ⟨pb,tb,sp,wb,F,rfl,hw3,dF,g1,g2,g3⟩
end
end Go.Proofs.YtboobbebilegnaaGreat
namespace Go.Proofs.YtboobbebilegnaaGreat
open Go.Am
set_option maxRecDepth 10000
theorem usedR_rel {L R:List Ch} (h:Rel L R):usedR R=usedR L:=by
 funext k
 unfold usedR
 by_cases e:L.any (fun c=>c.block==(k:Int))=true
 ·rw [e]
  obtain ⟨c,hc,hb⟩:=List.any_eq_true.1 e
  exact List.any_eq_true.2 ⟨c,(h.mem c).2 hc,hb⟩
 ·rw [Bool.not_eq_true] at e
  rw [e,List.any_eq_false]
  intro c hc
  exact List.any_eq_false.1 e c ((h.mem c).1 hc)
def anyF (l:List Nat) (b:Int):Bool:=l.any fun k=>(k:Int)==b
theorem anyF_fr (U:Nat->Bool) (b:Int):anyF (frL U 256) b=decide ((128<=b/\b<256)/\U b.toNat=false):=by
 unfold anyF frL
 by_cases h:(128<=b/\b<256)/\U b.toNat=false
 ·rw [decide_eq_true h,List.any_eq_true]
  refine ⟨b.toNat,List.mem_filter.2 ⟨List.mem_range.2 (by omega),?_⟩,by simp;omega⟩
  rw [h.2,decide_eq_true (show 128<=b.toNat by omega)];rfl
 ·rw [decide_eq_false h,List.any_eq_false]
  intro k hk he
  obtain ⟨h1,h2⟩:=List.mem_filter.1 hk
  rw [List.mem_range] at h1
  rw [Bool.and_eq_true,decide_eq_true_eq,Bool.not_eq_true'] at h2
  have he:(k:Int)=b:=by simpa using he
  exact h ⟨⟨by omega,by omega⟩,by rw [← he,Int.toNat_natCast];exact h2.2⟩
theorem frL_le (U:Nat->Bool):(frL U 256).length<=256:=cntF_le U 256
section
variable {h h':Heap} {rl rd:Nat} {D:List Sl} {num:Int} {chr:AV} {acts:Nat} {Fi:List (List Nat)} {E:List Fe} {b1 b2:List Nat}
theorem rLoad_ok {n:Nat} (hn:4<=n) (hl:RLn h rl rd num chr acts false) (hd:RDev h rd Fi E b1 b2) (hdr:DRel D Fi E) (hok:∀ x,x∈D->x.Ok) (hD:D.length=256) (next:Int) (hnx:0<=next/\next<=4294967295) {v:AV} {Cs:List Pc} (hC:Pcs h v Cs) (hlen:Cs.length<=800) (hids:∀ i,i<Cs.length->0<=(Ci Cs i).id/\(Ci Cs i).id<=4294967295) :
  WC (C n (.fn 24) [.ptr (some (rl,0)),u next,v] h) fun r h'=>Sm NoB h h'/\match ldAll D Cs ([],1) with
   | none=>r=.tuple [.ptr none,.int .i64 4]
   | some s=>∃ rp rt R bs,r=.tuple [.ptr (some (rp,0)),.int .i64 0]/\RPo h' rp rl rt/\RefAt h' rt R (max s.2 next) bs/\Rel s.1 R/\(∀ b,b∈bs->h.next<=b)/\h.next<=rp/\h.next<=rt/\rp≠rt/\rp∉bs:=by
 obtain ⟨a,c,g,rfl⟩:=hC.sl
 have hEl:=hdr.len
 obtain ⟨m,rfl⟩:∃ m,n=m+1:=⟨n - 1,by omega⟩
 refine call_fn _ f24A rfl (by simp [fn24]) fun QQ hQ=>?_
 simp only [fn24] at hQ
 simp only [fn24,fill_cons,fill_nil,Nat.zero_add,Nat.reduceAdd]
 obtain ⟨_,h1,e1,rp,rt,rfl,hp,hr,s1,g1,g2,ne⟩:=rmake_ok (n:=m) (by omega) (h:=h) rl
 simp only [F24,SS,Nat.reduceBEq,Nat.reduceEqDiff,Nat.reduceAdd,reduceIte,Nat.reduceMul,e1]
 refine run_loop (c:=c24_9) (I:=fun m' tm' h'=>∃ i s R bs,i<=Cs.length/\m'=Cs.length - i/\ldAll D (Cs.take i) ([],1)=some s/\RPo h' rp rl rt/\RefAt h' rt R s.2 bs/\Rel s.1 R/\(∀ b,b∈bs->h.next<=b/\b≠rp)/\Sm NoB h h'/\tm'.gt 0=some (.ptr (some (rl,0)))/\tm'.gt 1=some (u next)/\tm'.gt 2=some (.slice a Cs.length c g)/\tm'.gt 8=some (.ptr (some (rp,0)))/\tm'.gt 9=some (I i)/\tm'.gt 92=none) (n:=Cs.length)
  ⟨0,([],1),[],[],by omega,rfl,rfl,hp,hr,Rel.nil,(fun _ h=>by cases h),s1,by simp only [SS,Nat.reduceBEq],by simp only [SS,Nat.reduceBEq],by simp only [SS,Nat.reduceBEq],by simp only [SS,Nat.reduceBEq],by first | (simp only [SS,Nat.reduceBEq,Nat.reduceEqDiff,Nat.reduceAdd,reduceIte,Nat.reduceMul];done) | (simp only [SS,Nat.reduceBEq,Nat.reduceEqDiff,Nat.reduceAdd,reduceIte,Nat.reduceMul];rfl),by simp only [SS,Nat.reduceBEq]⟩ (by omega) ?_
 clear hp hr s1 e1
 rintro _ tm h2 ⟨i,s,R,bs,hi,rfl,hld,hp,hr,hrel,hbs,s2,t0,t1,t2,t8,t9,t92⟩ Q1 hN1 hE1
 have hsl:=ldAll_len hld
 have hrl:=hrel.len
 have hRl:R.length<=900:=by rw [hrl,hsl];simp;omega
 by_cases hlt:i<Cs.length
 ·have hlt':(i:Int)<(Cs.length:Int):=by omega
  obtain ⟨b,o,rfl,_,_,_,_,ldn⟩:=(hC.sm s2 (fun _ _ h=>h)).at hlt
  have hid:=hids i hlt
  have hsn:ldAll D (Cs.take (i+1)) ([],1)=ldOne D (s.1,s.2) (Ci Cs i):=by rw [ldAll_snoc D hlt,hld];rfl
  obtain ⟨ci,cb,cr,cs,hci⟩:∃ ci cb cr cs,Ci Cs i=⟨ci,cb,cr,cs⟩:=⟨_,_,_,_,rfl⟩
  rw [hci] at ldn hid hsn
  have hid:0<=ci/\ci<=4294967295:=hid
  have ldn:h2.ld b (o+i*4) 4=some [.int .u32 ci,.int .i64 cb,.int .i64 cr,.int .i64 cs]:=ldn
  have x2:=x_ia_71 (k:=.i64) (b:=b) (o:=o) (c:=c) (g:=g) hlt
  obtain ⟨h3,e3,r3,n3,f3⟩:=Rw.alloc h2 (id:=h2.next) (n:=4) (vs:=[.int .u32 0,.int .i64 0,.int .i64 0,.int .i64 0]) (z:=tyMark 93 true) (ro:=false) (Nat.le_refl _) rfl
  obtain ⟨w1,w2,w3,w4⟩:=r3.sto (o:=0) (us:=[.int .u32 ci,.int .i64 cb,.int .i64 cr,.int .i64 cs]) (by simp) rfl
  obtain ⟨h4,eh⟩:∃ h4,h3.wr h2.next 0 [.int .u32 ci,.int .i64 cb,.int .i64 cr,.int .i64 cs]=h4:=⟨_,rfl⟩
  rw [eh] at w1 w2 w3 w4
  have w2:Rw h4 h2.next [.int .u32 ci,.int .i64 cb,.int .i64 cr,.int .i64 cs] (tyMark 93 true) false:=w2
  have s4:Sm NoB h2 h4:=⟨by omega,fun c hc _=>by rw [w4 c (by omega),f3 c (by omega)]⟩
  have hst:=st_agg (n:=4) (h:=h3) (b:=h2.next) (o:=0) (cs:=[.int .u32 ci,.int .i64 cb,.int .i64 cr,.int .i64 cs]) rfl
  have h4p:=hp.sm s4 (fun h=>h)
  have h4l:=(hl.sm s2 (fun h=>h)).sm s4 (fun h=>h)
  have h4d:=(hd.no s2).no s4
  have h4r:=hr.no s4
  obtain ⟨vf,h5,e5,bf,of,s5,hbf⟩:=rfree_ok (n:=m) (by omega) h4p h4l h4d hdr.fi h4r (by omega)
  obtain ⟨fa,fc,fg,rfl,_,_⟩:=slo_sl of
  have hw5:=w2.sm s5 (by omega) (fun h=>h)
  have hfl:=frL_le (usedR R)
  simp only [F24,SS,Nat.reduceBEq,Nat.reduceEqDiff,Nat.reduceAdd,reduceIte,Nat.reduceMul,t2,t8,t9,x_len_71,hlt',x2,ldn,x_al_93,e3,hst,w1,e5]
  
  refine run_loop (c:=c24_28) (I:=fun m' tm' h'=>∃ k,k<=(frL (usedR R) 256).length/\m'=(frL (usedR R) 256).length - k/\Sm NoB h5 h'/\tm'.gt 0=some (.ptr (some (rl,0)))/\tm'.gt 1=some (u next)/\tm'.gt 2=some (.slice (some (b,o)) Cs.length c g)/\tm'.gt 8=some (.ptr (some (rp,0)))/\tm'.gt 9=some (I i)/\tm'.gt 10=some (.ptr (some (h2.next,0)))/\tm'.gt 11=some (.slice fa (frL (usedR R) 256).length fc fg)/\tm'.gt 12=some (.bool (anyF ((frL (usedR R) 256).take k) cb))/\tm'.gt 13=some (I k)/\tm'.gt 92=none) (n:=(frL (usedR R) 256).length)
   ⟨0,by omega,rfl,Sm.refl _ _,by simp only [SS,Nat.reduceBEq,t0],by simp only [SS,Nat.reduceBEq,t1],by simp only [SS,Nat.reduceBEq,t2],by simp only [SS,Nat.reduceBEq,t8],by simp only [SS,Nat.reduceBEq,t9],by simp only [SS,Nat.reduceBEq],by simp only [SS,Nat.reduceBEq],by first | (simp only [SS,Nat.reduceBEq,Nat.reduceEqDiff,Nat.reduceAdd,reduceIte,Nat.reduceMul];done) | (simp only [SS,Nat.reduceBEq,Nat.reduceEqDiff,Nat.reduceAdd,reduceIte,Nat.reduceMul];rfl),by first | (simp only [SS,Nat.reduceBEq,Nat.reduceEqDiff,Nat.reduceAdd,reduceIte,Nat.reduceMul];done) | (simp only [SS,Nat.reduceBEq,Nat.reduceEqDiff,Nat.reduceAdd,reduceIte,Nat.reduceMul];rfl),by simp only [SS,Nat.reduceBEq,t92]⟩ (by omega) ?_
  clear t0 t1 t2 t8 t9 t92
  rintro _ tm h6 ⟨k,hk,rfl,s6,t0,t1,t2,t8,t9,t10,t11,t12,t13,t92⟩ Q2 hN2 hE2
  have hw6:=hw5.sm s6 (by have:=s5.1;omega) (fun h=>h)
  by_cases hkl:k<(frL (usedR R) 256).length
  ·have hkl':(k:Int)<((frL (usedR R) 256).length:Int):=by omega
   obtain ⟨g7,eg7,sg7,bg7,ng7⟩:=Sm.bump h6 11
   have hw7:=hw6.same (h':=g7) (by rw [bg7])
   have b1':=hw7.ld1 1
   simp only [List.getElem?_cons_zero,List.getElem?_cons_succ] at b1'
   have s57:Sm NoB h5 g7:=s6.trans sg7 (fun _ _ h=>h) (fun _ _ h=>h)
   have of7:=of.sm s57 (fun _ _ h=>h)
   obtain ⟨fb,fo,rfl,hce⟩:=of7.els.cell (by omega)
   have hck:=hce k (by omega)
   rw [List.getElem?_map,List.getElem?_eq_getElem hkl,Option.map_some] at hck
   have x3:=x_ia_24 (k:=.i64) (b:=fb) (o:=fo) (c:=fc) (g:=fg) hkl
   have hstp:anyF ((frL (usedR R) 256).take (k+1)) cb=(anyF ((frL (usedR R) 256).take k) cb||((frL (usedR R) 256)[k]:Int)==cb):=by
    unfold anyF
    rw [List.take_succ_eq_append_getElem hkl,List.any_append];simp
   have hdec:decide (((frL (usedR R) 256)[k]:Int)=cb)=(((frL (usedR R) 256)[k]:Int)==cb):=by
    by_cases e:((frL (usedR R) 256)[k]:Int)=cb <;> simp [e]
   cases hu:anyF ((frL (usedR R) 256).take k) cb with
   | true =>
    rw [hu] at t12 hstp
    simp only [F24,SS,Nat.reduceBEq,Nat.reduceEqDiff,Nat.reduceAdd,reduceIte,Nat.reduceMul,t10,t11,t12,t13,x_len_24,hkl',eg7,w_undef,wAdd1 (show k<=1000000 by omega)]
    exact hN2 _ _ ((frL (usedR R) 256).length - (k+1)) (by omega) ⟨k+1,by omega,rfl,s57,by simp only [SS,Nat.reduceBEq,t0],by simp only [SS,Nat.reduceBEq,t1],by simp only [SS,Nat.reduceBEq,t2],by simp only [SS,Nat.reduceBEq,t8],by simp only [SS,Nat.reduceBEq,t9],by simp only [SS,Nat.reduceBEq,t10],by simp only [SS,Nat.reduceBEq,t11],by rw [hstp];simp only [SS,Nat.reduceBEq,Nat.reduceEqDiff,Nat.reduceAdd,reduceIte,Nat.reduceMul];rfl,by simp only [SS,Nat.reduceBEq],by simp only [SS,Nat.reduceBEq,t92]⟩
   | false =>
    rw [hu,Bool.false_or] at hstp
    rw [hu] at t12
    simp only [F24,SS,Nat.reduceBEq,Nat.reduceEqDiff,Nat.reduceAdd,reduceIte,Nat.reduceMul,t10,t11,t12,t13,x_len_24,hkl',eg7,x3,hck,x_fa_93_1,b1',hdec,wAdd1 (show k<=1000000 by omega)]
    exact hN2 _ _ ((frL (usedR R) 256).length - (k+1)) (by omega) ⟨k+1,by omega,rfl,s57,by simp only [SS,Nat.reduceBEq,t0],by simp only [SS,Nat.reduceBEq,t1],by simp only [SS,Nat.reduceBEq,t2],by simp only [SS,Nat.reduceBEq,t8],by simp only [SS,Nat.reduceBEq,t9],by simp only [SS,Nat.reduceBEq,t10],by simp only [SS,Nat.reduceBEq,t11],by rw [hstp];simp only [SS,Nat.reduceBEq,Nat.reduceEqDiff,Nat.reduceAdd,reduceIte,Nat.reduceMul],by simp only [SS,Nat.reduceBEq],by simp only [SS,Nat.reduceBEq,t92]⟩
  ·obtain rfl:k=(frL (usedR R) 256).length:=by omega
   have hkl':¬((frL (usedR R) 256).length:Int)<((frL (usedR R) 256).length:Int):=by omega
   rw [List.take_length,anyF_fr,usedR_rel hrel] at t12
   simp only [F24,SS,Nat.reduceBEq,Nat.reduceEqDiff,Nat.reduceAdd,reduceIte,Nat.reduceMul,t11,t13,x_len_24,hkl']
   refine hE2 _ _ _ (by simp) ?_
   have b0:=hw6.ld1 0
   have b1':=hw6.ld1 1
   have b2':=hw6.ld1 2
   have b3:=hw6.ld1 3
   simp only [List.getElem?_cons_zero,List.getElem?_cons_succ] at b0 b1' b2' b3
   have s26:Sm NoB h h6:=((s2.trans s4 (fun _ _ h=>h) (fun _ _ h=>h)).trans s5 (fun _ _ h=>h) (fun _ _ h=>h)).trans s6 (fun _ _ h=>h) (fun _ _ h=>h)
   have s46:Sm NoB h4 h6:=s5.trans s6 (fun _ _ h=>h) (fun _ _ h=>h)
   have bad:ldOne D (s.1,s.2) ⟨ci,cb,cr,cs⟩=none->ldAll D Cs ([],1)=none:=fun hno=>by
    rw [hno] at hsn
    exact ldAll_none D hsn
   by_cases z1:cs<1
   ·simp only [F24,SS,Nat.reduceBEq,Nat.reduceEqDiff,Nat.reduceAdd,reduceIte,Nat.reduceMul,t10,x_fa_93_3,b3,z1,w_undef]
    refine hE1 _ _ _ (by simp) ?_
    simp only [SS,Nat.reduceBEq,Nat.reduceEqDiff,Nat.reduceAdd,reduceIte,Nat.reduceMul]
    refine hQ _ _ _ _ (.inr rfl) (by simp only [SS,Nat.reduceBEq,t92]) (by simp only [SS,Nat.reduceBEq,Nat.reduceEqDiff,Nat.reduceAdd,reduceIte,Nat.reduceMul];rfl) ⟨s26,?_⟩
    rw [bad (by rw [ldOne_eq,if_neg (by omega)])];rfl
   by_cases z2:64<cs
   ·simp only [F24,SS,Nat.reduceBEq,Nat.reduceEqDiff,Nat.reduceAdd,reduceIte,Nat.reduceMul,t10,x_fa_93_3,b3,z1,z2,w_undef]
    refine hE1 _ _ _ (by simp) ?_
    simp only [SS,Nat.reduceBEq,Nat.reduceEqDiff,Nat.reduceAdd,reduceIte,Nat.reduceMul]
    refine hQ _ _ _ _ (.inr rfl) (by simp only [SS,Nat.reduceBEq,t92]) (by simp only [SS,Nat.reduceBEq,Nat.reduceEqDiff,Nat.reduceAdd,reduceIte,Nat.reduceMul];rfl) ⟨s26,?_⟩
    rw [bad (by rw [ldOne_eq,if_neg (by omega)])];rfl
   by_cases z3:(128<=cb/\cb<256)/\usedR s.1 cb.toNat=false
   ·rw [decide_eq_true z3] at t12
    obtain ⟨sz,rfl⟩:∃ sz:Nat,cs=(sz:Int):=⟨cs.toNat,by omega⟩
    obtain ⟨j,rfl⟩:∃ j:Nat,cb=(j:Int):=⟨cb.toNat,by omega⟩
    have z4:=z3.2
    rw [Int.toNat_natCast] at z4
    have hj:j<256:=by omega
    have h6l:=h4l.sm s46 (fun h=>h)
    have h6d:=h4d.no s46
    obtain ⟨_,h7,e7,s7,hrd⟩:=rlread_ok (n:=m) (by omega) h6l h6d hdr.fi (by omega) hdr.up (j:Int)
    rcases hrd with ⟨hbad,_⟩|⟨j',_,hjj,rfl⟩
    ·omega
    obtain rfl:j'=j:=by omega
    rw [hdr.rd hj] at e7
    obtain ⟨g8,eg8,sg8,bg8,ng8⟩:=Sm.bump h7 17
    have s68:Sm NoB h6 g8:=s7.trans sg8 (fun _ _ h=>h) (fun _ _ h=>h)
    have s48:Sm NoB h4 g8:=s46.trans s68 (fun _ _ h=>h) (fun _ _ h=>h)
    have h8p:=h4p.sm s48 (fun h=>h)
    have h8r:=h4r.no s48
    have hw8:=hw6.sm s68 (by have:=s5.1;have:=s6.1;omega) (fun h=>h)
    obtain ⟨zv,rv⟩:=h8p.r
    have v1:=rv.ld1 1
    have d0:=hw8.ld1 0
    have d1:=hw8.ld1 1
    have d2:=hw8.ld1 2
    have d3:=hw8.ld1 3
    simp only [List.getElem?_cons_zero,List.getElem?_cons_succ] at v1 d0 d1 d2 d3
    have ok:=hok _ (show Si D j'∈D by rw [Si_at (by omega)];exact List.getElem_mem _)
    have hrl2:(Si D j').read.length=64:=ok.2.1
    have xs:=x_sl_9_010 (k:=.i64) (l:=(Si D j').read) (hi:=sz) (by omega)
    have hdl:((Si D j').read.take sz).length=sz:=by rw [List.length_take];omega
    obtain ⟨r9,h9,e9,c9⟩:=rload_ok (n:=m) (by omega) h8r hrel (by omega) ci hid ((Si D j').read.take sz) (j':Int) cr
    have hld1:ldOne D (s.1,s.2) ⟨ci,(j':Int),cr,(sz:Int)⟩=if ¬(ci=0∨ci=4294967295)/\(1<=cr/\cr<=65535)/\gtL s.1 ci=none/\fdL s.1 ((Si D j').read.take sz)=none then
      some (s.1++[⟨ci,(Si D j').read.take sz,(j':Int),cr⟩],max s.2 (ci+1)) else none:=by
     rw [ldOne_eq,Int.toNat_natCast,Int.toNat_natCast,if_pos ⟨⟨by omega,by omega⟩,⟨by omega,by omega⟩,z4⟩]
    have s28:Sm NoB h g8:=s26.trans s68 (fun _ _ h=>h) (fun _ _ h=>h)
    have bad2:ldOne D (s.1,s.2) ⟨ci,(j':Int),cr,(sz:Int)⟩=none->ldAll D Cs ([],1)=none:=fun hno=>by
     rw [hno] at hsn
     exact ldAll_none D hsn
    rcases c9 with ⟨u1,rfl,s9⟩|⟨u1,⟨u2,rfl,s9⟩|⟨u2,⟨u3,rfl,s9⟩|⟨u3,u4,rfl,bs9,hr9,s9,hb9⟩⟩⟩
    ·simp only [F24,SS,Nat.reduceBEq,Nat.reduceEqDiff,Nat.reduceAdd,reduceIte,Nat.reduceMul,t0,t8,t10,t12,x_fa_93_3,b3,z1,z2,x_fa_93_1,b1',e7,eg8,x_fa_85_1,v1,x_fa_93_0,d0,d3,xs,d1,x_fa_93_2,d2,x_bd_143_0_1_2_3,e9]
     refine hE1 _ _ _ (by simp) ?_
     simp only [SS,Nat.reduceBEq,Nat.reduceEqDiff,Nat.reduceAdd,reduceIte,Nat.reduceMul]
     refine hQ _ _ _ _ (.inr rfl) (by simp only [SS,Nat.reduceBEq,t92]) (by simp only [SS,Nat.reduceBEq,Nat.reduceEqDiff,Nat.reduceAdd,reduceIte,Nat.reduceMul];rfl) ⟨s28.trans s9 (fun _ _ h=>h) (fun _ _ h=>h),?_⟩
     rw [bad2 (by rw [hld1,if_neg (fun h=>h.1 u1)])];rfl
    ·simp only [F24,SS,Nat.reduceBEq,Nat.reduceEqDiff,Nat.reduceAdd,reduceIte,Nat.reduceMul,t0,t8,t10,t12,x_fa_93_3,b3,z1,z2,x_fa_93_1,b1',e7,eg8,x_fa_85_1,v1,x_fa_93_0,d0,d3,xs,d1,x_fa_93_2,d2,x_bd_143_0_1_2_3,e9]
     refine hE1 _ _ _ (by simp) ?_
     simp only [SS,Nat.reduceBEq,Nat.reduceEqDiff,Nat.reduceAdd,reduceIte,Nat.reduceMul]
     refine hQ _ _ _ _ (.inr rfl) (by simp only [SS,Nat.reduceBEq,t92]) (by simp only [SS,Nat.reduceBEq,Nat.reduceEqDiff,Nat.reduceAdd,reduceIte,Nat.reduceMul];rfl) ⟨s28.trans s9 (fun _ _ h=>h) (fun _ _ h=>h),?_⟩
     rw [bad2 (by rw [hld1,if_neg (fun h=>by have:=h.2.1;omega)])];rfl
    ·simp only [F24,SS,Nat.reduceBEq,Nat.reduceEqDiff,Nat.reduceAdd,reduceIte,Nat.reduceMul,t0,t8,t10,t12,x_fa_93_3,b3,z1,z2,x_fa_93_1,b1',e7,eg8,x_fa_85_1,v1,x_fa_93_0,d0,d3,xs,d1,x_fa_93_2,d2,x_bd_143_0_1_2_3,e9]
     refine hE1 _ _ _ (by simp) ?_
     simp only [SS,Nat.reduceBEq,Nat.reduceEqDiff,Nat.reduceAdd,reduceIte,Nat.reduceMul]
     refine hQ _ _ _ _ (.inr rfl) (by simp only [SS,Nat.reduceBEq,t92]) (by simp only [SS,Nat.reduceBEq,Nat.reduceEqDiff,Nat.reduceAdd,reduceIte,Nat.reduceMul];rfl) ⟨s28.trans s9 (fun _ _ h=>h) (fun _ _ h=>h),?_⟩
     rw [bad2 (by
      rw [hld1,if_neg (fun h=>by
       rcases u3 with ⟨c,u3⟩|⟨c,u3⟩
       ·rw [h.2.2.1] at u3;cases u3
       ·rw [h.2.2.2] at u3;cases u3)])]
     rfl
    ·simp only [F24,SS,Nat.reduceBEq,Nat.reduceEqDiff,Nat.reduceAdd,reduceIte,Nat.reduceMul,t0,t8,t9,t10,t12,x_fa_93_3,b3,z1,z2,x_fa_93_1,b1',e7,eg8,x_fa_85_1,v1,x_fa_93_0,d0,d3,xs,d1,x_fa_93_2,d2,x_bd_143_0_1_2_3,e9,wAdd1 (show i<=1000000 by omega)]
     rw [hld1,if_pos ⟨u1,by omega,u3,u4⟩] at hsn
     have nrt:rp≠rt:=ne
     have g82:=s28.1
     have lpp:=h8p.lt
     refine hN1 _ _ (Cs.length - (i+1)) (by omega) ⟨i+1,_,_,bs9,by omega,rfl,hsn,h8p.sm s9 nrt,hr9,hrel.add (x:=⟨ci,(Si D j').read.take sz,(j':Int),cr⟩) u3 u4,fun b hb=>by have:=hb9 b hb;omega,s28.trans s9 (fun _ _ h=>h) (fun c hc e=>by omega),by simp only [SS,Nat.reduceBEq,t0],by simp only [SS,Nat.reduceBEq,t1],by simp only [SS,Nat.reduceBEq,t2],by simp only [SS,Nat.reduceBEq,t8],by simp only [SS,Nat.reduceBEq],by simp only [SS,Nat.reduceBEq,t92]⟩
   ·rw [decide_eq_false z3] at t12
    simp only [F24,SS,Nat.reduceBEq,Nat.reduceEqDiff,Nat.reduceAdd,reduceIte,Nat.reduceMul,t10,t12,x_fa_93_3,b3,z1,z2,w_undef]
    refine hE1 _ _ _ (by simp) ?_
    simp only [SS,Nat.reduceBEq,Nat.reduceEqDiff,Nat.reduceAdd,reduceIte,Nat.reduceMul]
    refine hQ _ _ _ _ (.inr rfl) (by simp only [SS,Nat.reduceBEq,t92]) (by simp only [SS,Nat.reduceBEq,Nat.reduceEqDiff,Nat.reduceAdd,reduceIte,Nat.reduceMul];rfl) ⟨s26,?_⟩
    rw [bad (by rw [ldOne_eq,if_neg (fun h=>z3 ⟨h.2.1,h.2.2⟩)])];rfl
 ·obtain rfl:i=Cs.length:=by omega
  have hlt':¬(Cs.length:Int)<(Cs.length:Int):=by omega
  rw [List.take_length] at hld
  simp only [F24,SS,Nat.reduceBEq,Nat.reduceEqDiff,Nat.reduceAdd,reduceIte,Nat.reduceMul,t2,t9,x_len_71,hlt']
  refine hE1 _ _ _ (by simp) ?_
  obtain ⟨zr,rr⟩:=hp.r
  have l1:=rr.ld1 1
  simp only [List.getElem?_cons_zero,List.getElem?_cons_succ] at l1
  obtain ⟨rs,h3,e3,hr3,s3⟩:=rskip_ok (n:=m) (by omega) hr next
  simp only [F24,SS,Nat.reduceBEq,Nat.reduceEqDiff,Nat.reduceAdd,reduceIte,Nat.reduceMul,t8,t1,x_fa_85_1,l1,e3]
  refine hQ _ _ _ _ (.inr rfl) (by simp only [SS,Nat.reduceBEq,t92]) (by simp only [SS,Nat.reduceBEq,Nat.reduceEqDiff,Nat.reduceAdd,reduceIte,Nat.reduceMul,t92];rfl) ?_
  refine ⟨s2.trans s3 (fun _ _ h=>h) (fun c hc e=>by omega),?_⟩
  rw [hld]
  exact ⟨rp,rt,R,bs,rfl,hp.sm s3 ne,hr3,hrel,fun b hb=>(hbs b hb).1,g1,g2,ne,fun hb=>(hbs _ hb).2 rfl⟩
end
end Go.Proofs.YtboobbebilegnaaGreat
namespace Go.Proofs.YtboobbebilegnaaGreat
open Go.Am
set_option maxRecDepth 10000
structure BuAt (h:Heap) (bb:Nat) (s:List Nat) (bs:List Nat):Prop where
 ex:∃ a v,Rw h bb [.ptr a,v] (tyMark 146 true) false/\(a=none∨a=some (bb,0))/\SlO 5 1 h v s.length (s.map byteV) bs/\(s=[]->v=.slice none 0 0 none)
 lt:bb<h.next
 nb:bb∉bs
theorem BuAt.sm {h h':Heap} {bb:Nat} {s bs:List Nat} {G:Nat->Prop} (hb:BuAt h bb s bs) (hs:Sm G h h') (h1:¬G bb) (h2:∀ b,b∈bs->¬G b):BuAt h' bb s bs:=by
 obtain ⟨⟨a,v,r,ha,o,hv⟩,lt,nb⟩:=hb
 have:=hs.1
 exact ⟨⟨a,v,r.sm hs lt h1,ha,o.sm hs h2,hv⟩,by omega,nb⟩
theorem toU (h:Heap) {b:Nat} {vs z:List AV} {ro:Bool} (hr:Rw h b vs z ro) (hl:0<vs.length):toUnsafe P 146 h (.ptr (some (b,0)))=some (.ptr (some (b,0))):=by
 obtain ⟨t,h1,_⟩:=hr
 unfold toUnsafe
 rw [show tSize P 146=some 2 by kernel_rfl]
 show h.cells b (fun _ _ m _=>iff' (Nat.ble (Nat.succ 0) m) (some (AV.ptr (some (b,0)))))=_
 unfold Heap.cells
 rw [h1]
 show iff' (Nat.ble 1 vs.length) _=_
 rw [show Nat.ble 1 vs.length=true from Nat.ble_eq_true_of_le hl];rfl
theorem lies146:((P.info? 146).isSome&&liesAt P P.depth 146 (2 / P.cellsOf 146) 0 146 1)=true:=by kernel_rfl
theorem fromU (h:Heap) {b:Nat} {x y:AV} (hr:Rw h b [x,y] (tyMark 146 true) false):fromUnsafe P 146 h (.ptr (some (b,0)))=some (.ptr (some (b,0))):=by
 obtain ⟨t,h1,_⟩:=hr
 show h.cells b (fun _ z m _=>match markOf z with
  | some (e,true)=>if (P.info? 146).isSome&&liesAt P P.depth e (m / P.cellsOf e) 0 146 1 then some (AV.ptr (some (b,0))) else none
  | _=>none)=_
 unfold Heap.cells
 rw [h1]
 show (if (P.info? 146).isSome&&liesAt P P.depth 146 (2 / P.cellsOf 146) 0 146 1 then some (AV.ptr (some (b,0))) else none)=_
 rw [lies146];rfl
theorem x_ne_144s (b:Nat):bin2 P .neq 144 (.ptr (some (b,0))) (.ptr (some (b,0)))=some (.bool false):=by
 show Option.rec (motive:=fun _=>Option AV) none (fun b=>yesB (notB b)) (eqPlain P 50 144 (.ptr (some (b,0))) (.ptr (some (b,0))))=_
 unfold eqPlain
 rw [u_144]
 show Option.rec (motive:=fun _=>Option AV) none (fun b=>yesB (notB b)) (if (b,0)=(b,0)/\(tSize P 146).isSome=true then some true else none)=_
 rw [if_pos ⟨rfl,by rw [show tSize P 146=some 2 by kernel_rfl];rfl⟩];rfl
theorem slo_one {e s n:Nat} {h:Heap} {v:AV} {cs:List AV} {bs:List Nat} (ho:SlO e s h v n cs bs):v.one=true:=by
 obtain ⟨a,c,g,rfl,_⟩:=slo_sl ho;rfl
section
variable {h h':Heap} {bb:Nat} {s bs:List Nat}
theorem bcheck_ok {n:Nat} (hn:1<=n) (hb:BuAt h bb s bs):WC (C n (.fn 134) [.ptr (some (bb,0))] h) fun r h'=>BuAt h' bb s bs/\Sm (·= bb) h h':=by
 obtain ⟨⟨a,v,r,ha,o,hv⟩,lt,nb⟩:=id hb
 have l0:=r.ld1 0
 rw [List.getElem?_cons_zero] at l0
 obtain ⟨m,rfl⟩:∃ m,n=m+1:=⟨n - 1,by omega⟩
 refine call_fn _ f134A rfl (by simp [fn134]) fun QQ hQ=>?_
 simp only [fn134] at hQ
 simp only [fn134,fill_cons,fill_nil,Nat.zero_add,Nat.reduceAdd]
 rcases ha with rfl | rfl
 ·obtain ⟨w1,w2,w3,w4⟩:=r.st1 (o:=0) (v:=.ptr (some (bb,0))) (by simp) rfl
  simp only [List.set_cons_zero] at w2
  have s1:Sm (·= bb) h (h.wr bb 0 [.ptr (some (bb,0))]):=⟨by omega,fun c _ hc=>w4 c hc⟩
  simp only [F134,SS,Nat.reduceBEq,Nat.reduceEqDiff,Nat.reduceAdd,reduceIte,Nat.reduceMul,x_fa_146_0,l0,x_eq_144,Option.isNone_none,toU h r (Nat.zero_lt_succ _),fromU h r,w1]
  refine hQ _ _ _ _ (.inl rfl) (by simp only [SS,Nat.reduceBEq]) (by simp only [SS,Nat.reduceBEq,Nat.reduceEqDiff,Nat.reduceAdd,reduceIte,Nat.reduceMul];rfl) ?_
  exact ⟨⟨⟨_,v,w2,.inr rfl,o.sm s1 (fun b hb e=>nb (e▸hb)),hv⟩,by omega,nb⟩,s1⟩
 ·simp only [F134,SS,Nat.reduceBEq,Nat.reduceEqDiff,Nat.reduceAdd,reduceIte,Nat.reduceMul,x_fa_146_0,l0,x_eq_144,Option.isNone_some,x_ne_144s]
  refine hQ _ _ _ _ (.inl rfl) (by simp only [SS,Nat.reduceBEq]) (by simp only [SS,Nat.reduceBEq,Nat.reduceEqDiff,Nat.reduceAdd,reduceIte,Nat.reduceMul];rfl) ?_
  exact ⟨hb,Sm.refl _ _⟩
theorem bwrite_ok {n:Nat} (hn:2<=n) (hb:BuAt h bb s bs) (d:List Nat) (hl:s.length+d.length<=1000000):WC (C n (.fn 79) [.ptr (some (bb,0)),.str d] h) fun r h'=>∃ bs',BuAt h' bb (s++d) bs'/\Sm (fun b=>b=bb∨b∈bs) h h'/\∀ b,b∈bs'->b∈bs∨h.next<=b:=by
 obtain ⟨m,rfl⟩:∃ m,n=m+1:=⟨n - 1,by omega⟩
 refine call_fn _ f79A rfl (by simp [fn79]) fun QQ hQ=>?_
 simp only [fn79] at hQ
 simp only [fn79,fill_cons,fill_nil,Nat.zero_add,Nat.reduceAdd]
 obtain ⟨r0,h1,e1,hb1,s1⟩:=bcheck_ok (n:=m) (by omega) hb
 obtain ⟨⟨a,v,r,ha,o,hv⟩,lt,nb⟩:=id hb1
 have l1:=r.ld1 1
 simp only [List.getElem?_cons_zero,List.getElem?_cons_succ] at l1
 obtain ⟨v2,h2,bs2,e2,o2,s2,f2⟩:=app_slo (t:=42) (id:=h1.next) u_42 s_5 b_5 z_5 rfl o (srcOf_str d) (by rw [List.length_map,Nat.mul_one]) (bytes_one d) (room_le (by omega) (by omega)) (Nat.le_refl _)
 have n1:=s1.1
 have n2:=s2.1
 have r2:=r.sm s2 lt nb
 obtain ⟨w1,w2,w3,w4⟩:=r2.st1 (o:=1) (v:=v2) (by simp) (slo_one o2)
 simp only [List.set_cons_zero,List.set_cons_succ] at w2
 simp only [F79,SS,Nat.reduceBEq,Nat.reduceEqDiff,Nat.reduceAdd,reduceIte,Nat.reduceMul,e1,x_fa_146_1,l1,e2,w1,x_len_9]
 refine hQ _ _ _ _ (.inr rfl) (by simp only [SS,Nat.reduceBEq]) (by simp only [SS,Nat.reduceBEq,Nat.reduceEqDiff,Nat.reduceAdd,reduceIte,Nat.reduceMul];rfl) ?_
 have hnb2:bb∉bs2:=fun h=>by rcases f2 bb h with h | h;exact nb h;omega
 have s3:Sm (·= bb) h2 (h2.wr bb 1 [v2]):=⟨by omega,fun c _ hc=>w4 c hc⟩
 refine ⟨bs2,⟨⟨a,v2,w2,ha,?_,fun he=>?_⟩,by omega,hnb2⟩,(s1.trans s2 (H:=fun b=>b=bb∨b∈bs) (fun _ _ h=>.inl h) (fun _ _ h=>.inr h)).trans s3 (fun _ _ h=>h) (fun _ _ h=>.inl h),fun b hb=>(f2 b hb).imp_right (by omega)⟩
 ·have:=o2.sm s3 (fun b hb e=>hnb2 (e▸hb))
  rw [List.length_append,List.map_append];exact this
 ·obtain ⟨rfl,rfl⟩:=List.append_eq_nil_iff.1 he
  obtain rfl:=hv rfl
  have e2:appendS P 42 (.slice none 0 0 none) (.str []) h1.next h1=some (v2,h2):=e2
  rw [appendS_eq (k:=0) u_42 s_5 b_5 z_5 rfl (srcOf_str []) rfl (room_le (by decide) (by decide))] at e2
  cases e2;rfl
theorem blen_ok {n:Nat} (hn:1<=n) (hb:BuAt h bb s bs):WC (C n (.fn 80) [.ptr (some (bb,0))] h) fun r h'=>h'=h/\r=I s.length:=by
 obtain ⟨⟨a,v,r,ha,o,hv⟩,lt,nb⟩:=id hb
 obtain ⟨a',c',g',rfl,_⟩:=slo_sl o
 have l1:=r.ld1 1
 simp only [List.getElem?_cons_zero,List.getElem?_cons_succ] at l1
 obtain ⟨m,rfl⟩:∃ m,n=m+1:=⟨n - 1,by omega⟩
 refine call_fn _ f80A rfl (by simp [fn80]) fun QQ hQ=>?_
 simp only [fn80] at hQ
 simp only [fn80,fill_cons,fill_nil,Nat.zero_add,Nat.reduceAdd]
 simp only [F80,SS,Nat.reduceBEq,Nat.reduceEqDiff,Nat.reduceAdd,reduceIte,Nat.reduceMul,x_fa_146_1,l1,x_len_42]
 refine hQ _ _ _ _ (.inr rfl) (by simp only [SS,Nat.reduceBEq]) (by simp only [SS,Nat.reduceBEq,Nat.reduceEqDiff,Nat.reduceAdd,reduceIte,Nat.reduceMul];rfl) ?_
 exact ⟨rfl,rfl⟩
theorem bstring_ok {n:Nat} (hn:1<=n) (hb:BuAt h bb s bs) (hs:∀ c,c∈s->c<256) (hl:s.length<=1000000):WC (C n (.fn 81) [.ptr (some (bb,0))] h) fun r h'=>r=.str s/\Sm (fun b=>b∈bs) h h':=by
 obtain ⟨m,rfl⟩:∃ m,n=m+1:=⟨n - 1,by omega⟩
 refine call_fn _ f81A rfl (by simp [fn81]) fun QQ hQ=>?_
 simp only [fn81] at hQ
 simp only [fn81,fill_cons,fill_nil,Nat.zero_add,Nat.reduceAdd]
 obtain ⟨g,eg,sg,bg,ng⟩:=Sm.bump h 12
 obtain ⟨⟨a,v,r,ha,o,hv⟩,lt,nb⟩:=hb.sm sg (fun h=>h) (fun _ _ h=>h)
 have l1:=r.ld1 1
 simp only [List.getElem?_cons_zero,List.getElem?_cons_succ] at l1
 by_cases hs0:s=[]
 ·subst hs0
  obtain rfl:=hv rfl
  have sd:sliceData (.slice none 0 0 none)=some (.ptr none):=rfl
  have z0:((0:Nat):Int)=0:=rfl
  simp only [F81,SS,Nat.reduceBEq,Nat.reduceEqDiff,Nat.reduceAdd,reduceIte,Nat.reduceMul,eg,x_fa_146_1,l1,sd,x_len_42,z0,str_at0]
  refine hQ _ _ _ _ (.inr rfl) (by simp only [SS,Nat.reduceBEq]) (by simp only [SS,Nat.reduceBEq,Nat.reduceEqDiff,Nat.reduceAdd,reduceIte,Nat.reduceMul];rfl) ?_
  exact ⟨rfl,sg.mono fun _ _ h=>h.elim⟩
 ·have hs1:0<s.length:=List.length_pos_iff.2 hs0
  rcases o with ⟨_,h0,_⟩|⟨b,c,rest,z,rfl,k1,k2,k3,k4,k5,rfl,rfl,k8⟩
  ·omega
  ·have sd:sliceData (.slice (some (b,0)) s.length c (some 1))=some (.ptr (some (b,0))):=by
    show (if s.length=0/\c=0 then none else some (AV.ptr (some (b,0))))=_
    rw [if_neg (by omega)]
   obtain ⟨h2,e2,n2,f2⟩:=str_at (e:=5) (k:=.i64) k4 hs1 (by omega) hs
   simp only [F81,SS,Nat.reduceBEq,Nat.reduceEqDiff,Nat.reduceAdd,reduceIte,Nat.reduceMul,eg,x_fa_146_1,l1,sd,x_len_42,e2]
   refine hQ _ _ _ _ (.inr rfl) (by simp only [SS,Nat.reduceBEq]) (by simp only [SS,Nat.reduceBEq,Nat.reduceEqDiff,Nat.reduceAdd,reduceIte,Nat.reduceMul];rfl) ?_
   exact ⟨rfl,sg.trans (show Sm (·∈ [b]) g h2 from ⟨by omega,fun c _ hc=>f2 c (fun e=>hc (by rw [e];exact List.mem_singleton.2 rfl))⟩) (fun _ _ h=>h.elim) (fun _ _ h=>h)⟩
end
def getA (L:List Ch):List Int->List Nat->Option (List Nat)
 | [],s=>some s
 | i::is,s=>match gtL L i with
  | none=>none
  | some c=>getA L is (s++c.data)
section
variable {h h':Heap} {pb lb tb sp rp rl rt:Nat} {L R:List Ch} {next:Int} {F:Nat->Prop} {bs:List Nat}
theorem pget_ok {n:Nat} (hn:4<=n) (hp:PoAt h pb lb tb sp) (ht:TabAt h tb L next F) {v:AV} {ids:List Int} (hv:Els h v ids.length 1 (ids.map u)) (hl:ids.length<=1000) (size:Int) :
  WC (C n (.fn 26) [.ptr (some (pb,0)),v,.int .i64 size] h) fun r h'=>Sm NoB h h'/\match getA L ids [] with
   | none=>r=.tuple [.str [],.int .i64 5]
   | some s=>if (s.length:Int)=size then r=.tuple [.str s,.int .i64 0] else r=.tuple [.str [],.int .i64 4]:=by
 obtain ⟨_,a,c,g,rfl,hnone,_⟩:=id hv
 obtain ⟨TB,t5⟩:=ht.ok
 obtain ⟨m,rfl⟩:∃ m,n=m+1:=⟨n - 1,by omega⟩
 refine call_fn _ f26A rfl (by simp [fn26]) fun QQ hQ=>?_
 simp only [fn26] at hQ
 simp only [fn26,fill_cons,fill_nil,Nat.zero_add,Nat.reduceAdd]
 obtain ⟨_,h0,e1,e0,rfl⟩:=pis_ok (n:=m) (by omega) hp
 subst e0
 obtain ⟨h1,e2,r1,n1,f1⟩:=Rw.alloc h0 (id:=h0.next) (n:=2) (vs:=[.ptr none,.slice none 0 0 none]) (z:=tyMark 146 true) (ro:=false) (Nat.le_refl _) rfl
 have s1:Sm NoB h0 h1:=⟨by omega,fun c hc _=>f1 c (by omega)⟩
 simp only [F26,SS,Nat.reduceBEq,Nat.reduceEqDiff,Nat.reduceAdd,reduceIte,Nat.reduceMul,e1,x_al_146,e2,x_len_51]
 refine run_loop (c:=c26_17) (I:=fun m' tm' h'=>∃ k s bs,k<=ids.length/\m'=ids.length - k/\getA L ids []=getA L (ids.drop k) s/\s.length<=64*k/\(∀ c,c∈s->c<256)/\BuAt h' h0.next s bs/\(∀ b,b∈bs->h0.next<=b)/\Sm NoB h0 h'/\tm'.gt 0=some (.ptr (some (pb,0)))/\tm'.gt 2=some (.int .i64 size)/\tm'.gt 8=some (.ptr (some (h0.next,0)))/\tm'.gt 18=some (.slice a ids.length c g)/\tm'.gt 19=some (I ids.length)/\tm'.gt 20=some (I k)/\tm'.gt 44=none) (n:=ids.length)
  ⟨0,[],[],by omega,rfl,rfl,by simp,(fun _ h=>by cases h),⟨⟨_,_,r1,.inl rfl,SlO.nil,fun _=>rfl⟩,by omega,(fun h=>by cases h)⟩,(fun _ h=>by cases h),s1,by simp only [SS,Nat.reduceBEq],by simp only [SS,Nat.reduceBEq],by simp only [SS,Nat.reduceBEq],by simp only [SS,Nat.reduceBEq],by simp only [SS,Nat.reduceBEq],by first | (simp only [SS,Nat.reduceBEq,Nat.reduceEqDiff,Nat.reduceAdd,reduceIte,Nat.reduceMul];done) | (simp only [SS,Nat.reduceBEq,Nat.reduceEqDiff,Nat.reduceAdd,reduceIte,Nat.reduceMul];rfl),by simp only [SS,Nat.reduceBEq]⟩ (by omega) ?_
 clear r1 e2 s1 f1 n1
 rintro _ tm h2 ⟨k,s,bs,hk,rfl,hg,hsl,hsb,hb,hbs,s2,t0,t2,t8,t18,t19,t20,t44⟩ Q1 hN1 hE1
 by_cases hlt:k<ids.length
 ·have hlt':(k:Int)<(ids.length:Int):=by omega
  obtain ⟨sb,so,rfl,hce⟩:=(els_sm hv s2 (fun _ _ h=>h)).cell (by omega)
  have hck:=hce k (by omega)
  rw [List.getElem?_map,List.getElem?_eq_getElem hlt,Option.map_some] at hck
  have x2:=x_ia_51 (k:=.i64) (b:=sb) (o:=so) (c:=c) (g:=g) hlt
  obtain ⟨zp,rp⟩:=(hp.sm s2 (fun h=>h)).r
  have l1:=rp.ld1 1
  simp only [List.getElem?_cons_zero,List.getElem?_cons_succ] at l1
  obtain ⟨_,h3,e3,s3,rfl⟩:=tget_ok (n:=m) (by omega) (ht.sm s2 (fun _ _ h=>h)) ids[k]
  have hd:getA L (ids.drop k) s=match gtL L ids[k] with
   | none=>none
   | some c=>getA L (ids.drop (k+1)) (s++c.data):=by rw [List.drop_eq_getElem_cons hlt];rfl
  rw [hd] at hg
  cases hgt:gtL L ids[k] with
  | none =>
   rw [hgt] at e3 hg
   simp only at e3 hg
   simp only [F26,SS,Nat.reduceBEq,Nat.reduceEqDiff,Nat.reduceAdd,reduceIte,Nat.reduceMul,t0,t18,t19,t20,hlt',x2,hck,x_fa_97_1,l1,e3]
   refine hE1 _ _ _ (by simp) ?_
   simp only [SS,Nat.reduceBEq,Nat.reduceEqDiff,Nat.reduceAdd,reduceIte,Nat.reduceMul]
   refine hQ _ _ _ _ (.inr rfl) (by simp only [SS,Nat.reduceBEq,t44]) (by simp only [SS,Nat.reduceBEq,Nat.reduceEqDiff,Nat.reduceAdd,reduceIte,Nat.reduceMul];rfl) ⟨s2.trans s3 (fun _ _ h=>h) (fun _ _ h=>h),?_⟩
   rw [hg];rfl
  | some c0 =>
   rw [hgt] at e3 hg
   simp only at e3 hg
   have hch:=t5.ch c0 (gt_some hgt).1
   obtain ⟨r4,h4,e4,bs4,hb4,s4,f4⟩:=bwrite_ok (n:=m) (by omega) (hb.sm s3 (fun h=>h) (fun _ _ h=>h)) c0.data (by omega)
   simp only [F26,SS,Nat.reduceBEq,Nat.reduceEqDiff,Nat.reduceAdd,reduceIte,Nat.reduceMul,t0,t8,t18,t19,t20,hlt',x2,hck,x_fa_97_1,l1,e3,e4,wAdd1 (show k<=1000000 by omega)]
   have n3:=s3.1
   have n2:=s2.1
   refine hN1 _ _ (ids.length - (k+1)) (by omega) ⟨k+1,s++c0.data,bs4,by omega,rfl,hg,by rw [List.length_append];omega,fun c hc=>?_,hb4,fun b hb'=>?_,(s2.trans s3 (fun _ _ h=>h) (fun _ _ h=>h)).trans s4 (fun _ _ h=>h) (fun c hc h=>by rcases h with rfl | h;omega;have:=hbs c h;omega),by simp only [SS,Nat.reduceBEq,t0],by simp only [SS,Nat.reduceBEq,t2],by simp only [SS,Nat.reduceBEq,t8],by simp only [SS,Nat.reduceBEq,t18],by simp only [SS,Nat.reduceBEq,t19],by simp only [SS,Nat.reduceBEq],by simp only [SS,Nat.reduceBEq,t44]⟩
   ·rcases List.mem_append.1 hc with h | h
    ·exact hsb c h
    ·obtain ⟨i,hi⟩:=List.getElem?_of_mem h
     exact hch.2.2.2.2.1 i c hi
   ·rcases f4 b hb' with h | h
    ·exact hbs b h
    ·omega
 ·obtain rfl:k=ids.length:=by omega
  have hlt':¬(ids.length:Int)<(ids.length:Int):=by omega
  rw [List.drop_of_length_le (Nat.le_refl _)] at hg
  have hg:getA L ids []=some s:=hg
  simp only [F26,SS,Nat.reduceBEq,Nat.reduceEqDiff,Nat.reduceAdd,reduceIte,Nat.reduceMul,t19,t20,hlt']
  refine hE1 _ _ _ (by simp) ?_
  obtain ⟨_,h3,e3,e0,rfl⟩:=blen_ok (n:=m) (by omega) hb
  subst e0
  by_cases he:(s.length:Int)=size
  ·obtain ⟨_,h4,e4,rfl,s4⟩:=bstring_ok (n:=m) (by omega) hb hsb (by omega)
   simp only [F26,SS,Nat.reduceBEq,Nat.reduceEqDiff,Nat.reduceAdd,reduceIte,Nat.reduceMul,t2,t8,e3,he,e4]
   refine hQ _ _ _ _ (.inr rfl) (by simp only [SS,Nat.reduceBEq,t44]) (by simp only [SS,Nat.reduceBEq,Nat.reduceEqDiff,Nat.reduceAdd,reduceIte,Nat.reduceMul,t44];rfl) ?_
   refine ⟨s2.trans s4 (fun _ _ h=>h) (fun c hc h=>by have:=hbs c h;omega),?_⟩
   rw [hg]
   show (if (s.length:Int)=size then _ else _)
   rw [if_pos he];rfl
  ·simp only [F26,SS,Nat.reduceBEq,Nat.reduceEqDiff,Nat.reduceAdd,reduceIte,Nat.reduceMul,t2,t8,e3,he]
   refine hQ _ _ _ _ (.inr rfl) (by simp only [SS,Nat.reduceBEq,t44]) (by simp only [SS,Nat.reduceBEq,Nat.reduceEqDiff,Nat.reduceAdd,reduceIte,Nat.reduceMul,t44];rfl) ?_
   refine ⟨s2,?_⟩
   rw [hg]
   show (if (s.length:Int)=size then _ else _)
   rw [if_neg he];rfl
theorem rget_ok {n:Nat} (hn:2<=n) (hp:RPo h rp rl rt) (hr:RefAt h rt R next bs) (hrel:Rel L R) (hRl:R.length<=1000) (hch:∀ c,c∈L->c.data.length<=64) {v:AV} {ids:List Int} (hv:Els h v ids.length 1 (ids.map u)) (hl:ids.length<=1000) (size:Int) :
  WC (C n (.fn 27) [.ptr (some (rp,0)),v,.int .i64 size] h) fun r h'=>Sm NoB h h'/\match getA L ids [] with
   | none=>r=.tuple [.str [],.int .i64 5]
   | some s=>if (s.length:Int)=size then r=.tuple [.str s,.int .i64 0] else r=.tuple [.str [],.int .i64 4]:=by
 obtain ⟨_,a,c,g,rfl,hnone,_⟩:=id hv
 obtain ⟨m,rfl⟩:∃ m,n=m+1:=⟨n - 1,by omega⟩
 refine call_fn _ f27A rfl (by simp [fn27]) fun QQ hQ=>?_
 simp only [fn27] at hQ
 simp only [fn27,fill_cons,fill_nil,Nat.zero_add,Nat.reduceAdd]
 simp only [F27,SS,Nat.reduceBEq,Nat.reduceEqDiff,Nat.reduceAdd,reduceIte,Nat.reduceMul]
 refine run_loop (c:=c27_9) (I:=fun m' tm' h'=>∃ k s,k<=ids.length/\m'=ids.length - k/\getA L ids []=getA L (ids.drop k) s/\s.length<=64*k/\Sm NoB h h'/\tm'.gt 0=some (.ptr (some (rp,0)))/\tm'.gt 1=some (.slice a ids.length c g)/\tm'.gt 2=some (.int .i64 size)/\tm'.gt 8=some (.str s)/\tm'.gt 9=some (I k)/\tm'.gt 46=none) (n:=ids.length)
  ⟨0,[],by omega,rfl,rfl,by simp,Sm.refl _ _,by simp only [SS,Nat.reduceBEq],by simp only [SS,Nat.reduceBEq],by simp only [SS,Nat.reduceBEq],by simp only [SS,Nat.reduceBEq],by first | (simp only [SS,Nat.reduceBEq,Nat.reduceEqDiff,Nat.reduceAdd,reduceIte,Nat.reduceMul];done) | (simp only [SS,Nat.reduceBEq,Nat.reduceEqDiff,Nat.reduceAdd,reduceIte,Nat.reduceMul];rfl),by simp only [SS,Nat.reduceBEq]⟩ (by omega) ?_
 rintro _ tm h2 ⟨k,s,hk,rfl,hg,hsl,s2,t0,t1,t2,t8,t9,t46⟩ Q1 hN1 hE1
 by_cases hlt:k<ids.length
 ·have hlt':(k:Int)<(ids.length:Int):=by omega
  obtain ⟨g3,eg,sg,bg,ng⟩:=Sm.bump h2 10
  have s3:Sm NoB h g3:=s2.trans sg (fun _ _ h=>h) (fun _ _ h=>h)
  obtain ⟨sb,so,rfl,hce⟩:=(els_sm hv s3 (fun _ _ h=>h)).cell (by omega)
  have hck:=hce k (by omega)
  rw [List.getElem?_map,List.getElem?_eq_getElem hlt,Option.map_some] at hck
  have x2:=x_ia_51 (k:=.i64) (b:=sb) (o:=so) (c:=c) (g:=g) hlt
  obtain ⟨zp,rpw⟩:=(hp.sm s3 (fun h=>h)).r
  have l1:=rpw.ld1 1
  simp only [List.getElem?_cons_zero,List.getElem?_cons_succ] at l1
  have hr3:=hr.no s3
  obtain ⟨rv,h4,e4,e0,hF⟩:=rat_ok (n:=m) (by omega) hr3 hRl ids[k]
  subst e0
  have hf:=firstI hrel hF
  have hd:getA L (ids.drop k) s=match gtL L ids[k] with
   | none=>none
   | some c=>getA L (ids.drop (k+1)) (s++c.data):=by rw [List.drop_eq_getElem_cons hlt];rfl
  rw [hd] at hg
  cases hgt:gtL L ids[k] with
  | none =>
   rw [hgt] at hf hg
   simp only at hf hg
   subst hf
   have neg:(-1:Int)<0:=by decide
   simp only [F27,SS,Nat.reduceBEq,Nat.reduceEqDiff,Nat.reduceAdd,reduceIte,Nat.reduceMul,t0,t1,t9,x_len_51,hlt',eg,x_fa_85_1,l1,x2,hck,e4,neg]
   refine hE1 _ _ _ (by simp) ?_
   simp only [SS,Nat.reduceBEq,Nat.reduceEqDiff,Nat.reduceAdd,reduceIte,Nat.reduceMul]
   refine hQ _ _ _ _ (.inr rfl) (by simp only [SS,Nat.reduceBEq,t46]) (by simp only [SS,Nat.reduceBEq,Nat.reduceEqDiff,Nat.reduceAdd,reduceIte,Nat.reduceMul];rfl) ⟨s3,?_⟩
   rw [hg];rfl
  | some c0 =>
   rw [hgt] at hf hg
   simp only at hf hg
   obtain ⟨i,hi,rfl⟩:=hf
   have hiR:i<R.length:=(List.getElem?_eq_some_iff.1 hi).1
   have hdl:=hch c0 (gt_some hgt).1
   obtain ⟨v4,rr,ro⟩:=hr3.ex
   obtain ⟨a4,c4,g4,rfl⟩:=Chs.sl (els_R ro.els)
   have hch4:Chs h4 (.slice a4 R.length c4 g4) R:=els_R ro.els
   obtain ⟨b4,o4,rfl,_,i1,_⟩:=hch4.at hiR
   rw [show (Ri R i)=c0 by rw [Ri_at hiR];exact (List.getElem?_eq_some_iff.1 hi).2] at i1
   have q0:=rr.ld1 0
   rw [List.getElem?_cons_zero] at q0
   have x4:=x_ia_80 (k:=.i64) (b:=b4) (o:=o4) (c:=c4) (g:=g4) hiR
   have neg:¬((i:Int)<0):=by omega
   have eadd:bin2 P .add 9 (.str s) (.str c0.data)=some (.str (s++c0.data)):=b_addS (by omega)
   simp only [F27,SS,Nat.reduceBEq,Nat.reduceEqDiff,Nat.reduceAdd,reduceIte,Nat.reduceMul,t0,t1,t8,t9,x_len_51,hlt',eg,x_fa_85_1,l1,x2,hck,e4,neg,x_fa_82_0,q0,x4,x_fa_143_1,i1,eadd,wAdd1 (show k<=1000000 by omega)]
   exact hN1 _ _ (ids.length - (k+1)) (by omega) ⟨k+1,s++c0.data,by omega,rfl,hg,by rw [List.length_append];omega,s3,by simp only [SS,Nat.reduceBEq,t0],by simp only [SS,Nat.reduceBEq,t1],by simp only [SS,Nat.reduceBEq,t2],by simp only [SS,Nat.reduceBEq],by simp only [SS,Nat.reduceBEq],by simp only [SS,Nat.reduceBEq,t46]⟩
 ·obtain rfl:k=ids.length:=by omega
  have hlt':¬(ids.length:Int)<(ids.length:Int):=by omega
  rw [List.drop_of_length_le (Nat.le_refl _)] at hg
  have hg:getA L ids []=some s:=hg
  simp only [F27,SS,Nat.reduceBEq,Nat.reduceEqDiff,Nat.reduceAdd,reduceIte,Nat.reduceMul,t1,t9,x_len_51,hlt']
  refine hE1 _ _ _ (by simp) ?_
  by_cases he:(s.length:Int)=size
  ·simp only [F27,SS,Nat.reduceBEq,Nat.reduceEqDiff,Nat.reduceAdd,reduceIte,Nat.reduceMul,t2,t8,x_len_9,he]
   refine hQ _ _ _ _ (.inr rfl) (by simp only [SS,Nat.reduceBEq,t46,t8]) (by simp only [SS,Nat.reduceBEq,Nat.reduceEqDiff,Nat.reduceAdd,reduceIte,Nat.reduceMul,t46,t8];rfl) ?_
   refine ⟨s2,?_⟩
   rw [hg]
   show (if (s.length:Int)=size then _ else _)
   rw [if_pos he];rfl
  ·simp only [F27,SS,Nat.reduceBEq,Nat.reduceEqDiff,Nat.reduceAdd,reduceIte,Nat.reduceMul,t2,t8,x_len_9,he]
   refine hQ _ _ _ _ (.inr rfl) (by simp only [SS,Nat.reduceBEq,t46]) (by simp only [SS,Nat.reduceBEq,Nat.reduceEqDiff,Nat.reduceAdd,reduceIte,Nat.reduceMul,t46];rfl) ?_
   refine ⟨s2,?_⟩
   rw [hg]
   show (if (s.length:Int)=size then _ else _)
   rw [if_neg he];rfl
end
end Go.Proofs.YtboobbebilegnaaGreat
namespace Go.Proofs.YtboobbebilegnaaGreat
open Go.Am
set_option maxRecDepth 10000
def pk (c:Ch):Pc:=⟨c.id,c.block,c.refs,(c.data.length:Int)⟩
theorem csC_app (A B:List Pc):csC (A++B)=csC A++csC B:=List.flatMap_append
theorem resC50:resC P 50=loadN 4:=by kernel_rfl
theorem resC93:resC P 93=loadN 4:=by kernel_rfl
theorem resC46:resC P 46=load1:=by kernel_rfl
theorem box4 (h:Heap) (t:Nat) (x:Pc):∃ h1 h2,h.new h.next (.cells (fillC [.int .u32 0,.int .i64 0,.int .i64 0,.int .i64 0] .leaf 0) (tyMark t true) 4 false)=h1/\h1.sto h.next 0 x.c=some h2/\h2.ld h.next 0 4=some x.c/\Sm NoB h h2/\h.next<h2.next:=by
 obtain ⟨h3,e3,r3,n3,f3⟩:=Rw.alloc h (id:=h.next) (n:=4) (vs:=[.int .u32 0,.int .i64 0,.int .i64 0,.int .i64 0]) (z:=tyMark t true) (ro:=false) (Nat.le_refl _) rfl
 obtain ⟨w1,w2,w3,w4⟩:=r3.sto (o:=0) (us:=x.c) (by simp [Pc.c]) rfl
 refine ⟨h3,_,e3,w1,?_,⟨by omega,fun c hc _=>by rw [w4 c (by omega),f3 c (by omega)]⟩,by omega⟩
 exact w2.ld (i:=0) (n:=4) (Nat.le_refl _)
section
variable {h h':Heap} {tb:Nat} {L R:List Ch} {next:Int} {F:Nat->Prop}
theorem chunk_ok {n:Nat} (hn:4<=n) (ht:TabAt h tb L next F) (id:Int):WC (C n (.fn 60) [.ptr (some (tb,0)),u id] h) fun r h'=>Sm NoB h h'/\r=match gtL L id with
  | some c=>.tuple [.agg (Pc.c ⟨id,c.block,c.refs,(c.data.length:Int)⟩),.bool true]
  | none=>.tuple [.agg (Pc.c ⟨id,0,0,0⟩),.bool false]:=by
 obtain ⟨m,rfl⟩:∃ m,n=m+1:=⟨n - 1,by omega⟩
 refine call_fn _ f60A rfl (by simp [fn60]) fun QQ hQ=>?_
 simp only [fn60] at hQ
 simp only [fn60,fill_cons,fill_nil,Nat.zero_add,Nat.reduceAdd]
 obtain ⟨h1,e1,r1,n1,f1⟩:=Rw.alloc h (id:=h.next) (n:=4) (vs:=[.int .u32 0,.int .i64 0,.int .i64 0,.int .i64 0]) (z:=tyMark 50 true) (ro:=false) (Nat.le_refl _) rfl
 have s1:Sm NoB h h1:=⟨by omega,fun c hc _=>f1 c (by omega)⟩
 obtain ⟨_,h2,e2,s2,rfl⟩:=tget_ok (n:=m) (by omega) (ht.sm s1 (fun _ _ h=>h)) id
 have r2:=r1.sm s2 (by omega) (fun h=>h)
 have key:∀ x:Pc,∃ h3,h2.sto h.next 0 x.c=some h3/\loadN 4 h3 (.ptr (some (h.next,0)))=some (.agg x.c)/\Sm NoB h h3:=by
  intro x
  obtain ⟨w1,w2,w3,w4⟩:=r2.sto (o:=0) (us:=x.c) (by simp [Pc.c]) rfl
  have q2:=s2.1
  refine ⟨_,w1,?_,⟨by omega,fun c hc _=>by rw [w4 c (by omega),s2.2 c (by omega) (fun h=>h),f1 c (by omega)]⟩⟩
  rw [m_loadN,w2.ld (i:=0) (n:=4) (Nat.le_refl _)];rfl
 cases hg:gtL L id with
 | none =>
  rw [hg] at e2
  simp only at e2
  obtain ⟨h3,e3,l3,s3⟩:=key ⟨id,0,0,0⟩
  have e3:h2.sto h.next 0 [.int .u32 id,.int .i64 0,.int .i64 0,.int .i64 0]=some h3:=e3
  have z0:((([]:List Nat).length:Nat):Int)=0:=rfl
  have hst:=st_agg (n:=4) (h:=h2) (b:=h.next) (o:=0) (cs:=[.int .u32 id,.int .i64 0,.int .i64 0,.int .i64 0]) rfl
  have ln0:len1 P 9 (.str [])=some (.int .i64 0):=x_len_9 []
  simp only [F60,SS,Nat.reduceBEq,Nat.reduceEqDiff,Nat.reduceAdd,reduceIte,Nat.reduceMul,x_al_50,e1,e2,ln0,x_bd_50_0_1_2_3,hst,e3]
  refine hQ _ _ _ _ (.inr rfl) (by simp only [SS,Nat.reduceBEq]) (by simp only [SS,Nat.reduceBEq,Nat.reduceEqDiff,Nat.reduceAdd,reduceIte,Nat.reduceMul,resC50,l3];rfl) ?_
  exact ⟨s3,by rw [hg];rfl⟩
 | some c =>
  rw [hg] at e2
  simp only at e2
  obtain ⟨h3,e3,l3,s3⟩:=key ⟨id,c.block,c.refs,(c.data.length:Int)⟩
  have e3:h2.sto h.next 0 [.int .u32 id,.int .i64 c.block,.int .i64 c.refs,.int .i64 (c.data.length:Int)]=some h3:=e3
  have hst:=st_agg (n:=4) (h:=h2) (b:=h.next) (o:=0) (cs:=[.int .u32 id,.int .i64 c.block,.int .i64 c.refs,.int .i64 (c.data.length:Int)]) rfl
  simp only [F60,SS,Nat.reduceBEq,Nat.reduceEqDiff,Nat.reduceAdd,reduceIte,Nat.reduceMul,x_al_50,e1,e2,x_len_9,x_bd_50_0_1_2_3,hst,e3]
  refine hQ _ _ _ _ (.inr rfl) (by simp only [SS,Nat.reduceBEq]) (by simp only [SS,Nat.reduceBEq,Nat.reduceEqDiff,Nat.reduceAdd,reduceIte,Nat.reduceMul,resC50,l3];rfl) ?_
  exact ⟨s3,by rw [hg];rfl⟩
end
theorem keep15:keepF P 15 29=false:=by kernel_rfl
theorem nt15:ntOf P 15=29:=by kernel_rfl
structure JK (h0:Heap) (l b1 b2 pb lb tb sp:Nat) (L R:List Ch) (next:Int) (F:Nat->Prop) (hi i:Nat) (h:Heap):Prop where
 rc:LRe l 15 29 [14] c15_14A c15_14B (fun tm=>tm.gt 1=some (.ptr (some (b1,0)))/\tm.gt 2=some (.ptr (some (b2,0)))) h
 r1:∃ z,Rw h b1 [.ptr (some (pb,0))] z false
 r2:∃ z v bs,Rw h b2 [v] z false/\SlO 50 4 h v i (csC ((R.take i).map pk)) bs/\∀ b,b∈bs->hi<=b
 p:PoAt h pb lb tb sp
 t:TabAt h tb L next F
 lt:b1<hi/\b2<hi/\l<hi
 hin:hi<=h.next
 ge:h0.next<=b1/\h0.next<=b2/\h0.next<=l
 ne:l≠b1/\l≠b2/\b1≠b2
 sm:Sm NoB h0 h
 old:pb<h0.next/\∀ b,F b->b<h0.next
section
variable {h0 h:Heap} {l b1 b2 pb lb tb sp:Nat} {L R:List Ch} {next:Int} {F:Nat->Prop} {hi i:Nat}
theorem kround_ok {m:Nat} (hm:5<=m) (hj:JK h0 l b1 b2 pb lb tb sp L R next F hi i h) (hrel:Rel L R) (hR:R.length<=1000) (hiR:i<R.length) :
  WC (C m (.loop l) [u (Ri R i).id] h) fun v h2=>v=.bool true/\JK h0 l b1 b2 pb lb tb sp L R next F hi (i+1) h2/\Sm (fun b=>b=b2∨b=l∨hi<=b) h h2:=by
 obtain ⟨m,rfl⟩:∃ m',m=m'+1:=⟨m - 1,by omega⟩
 obtain ⟨⟨b,hat,hst,hpd,hfn,hps,has,hbo,t29,t1,t2⟩,⟨z1,r1⟩,⟨z2,v,bs,r2,o,hbs⟩,hp,ht,⟨l1,l2,ll⟩,hin,ge,ne,sm,old⟩:=hj
 refine call_loop _ hat (nt:=29) (CA:=c15_15) (CB:=c15_16) (tm':=b.tm.up (some (u (Ri R i).id)) 14) (by rw [hfn];exact nt15) (by rw [hps];rfl) (by rw [hfn];exact keep15) t29 (by rw [hfn,has];exact q15_14a) (by rw [hfn,hbo];exact q15_14b) fun QA hA=>?_
 rw [hfn] at hA ⊢
 simp only [F15,SS,Nat.reduceBEq,Nat.reduceEqDiff,Nat.reduceAdd,reduceIte,Nat.reduceMul]
 refine hA _ _ b hat hst fun QB hB=>?_
 obtain ⟨h3,e3,m3,n3,s3⟩:=put_sm (h:=h) (b:=l) (x:=.loop { b with st:=.busy })
 rw [e3]
 have c1:=r1.sm s3 (by omega) (fun e=>ne.1 e.symm)
 have c2:=r2.sm s3 (by omega) (fun e=>ne.2.1 e.symm)
 have o3:=o.sm s3 (fun b hb e=>by have:=hbs b hb;omega)
 have p3:=hp.sm s3 (by omega)
 have t3:=ht.sm s3 (fun b hb e=>by have:=old.2 b hb;omega)
 have k1:=c1.ld1 0
 have k2:=c2.ld1 0
 rw [List.getElem?_cons_zero] at k1 k2
 obtain ⟨zp,rp⟩:=p3.r
 have kp:=rp.ld1 1
 simp only [List.getElem?_cons_zero,List.getElem?_cons_succ] at kp
 have hgm:gtL L (Ri R i).id=some (Ri R i):=gt_mem hrel.nd ((hrel.mem _).1 (by rw [Ri_at hiR];exact List.getElem_mem _))
 obtain ⟨_,h4,e4,s4,rfl⟩:=chunk_ok (n:=m) (by omega) t3 (Ri R i).id
 rw [hgm] at e4
 simp only at e4
 obtain ⟨h5,h6,e5,e6,ld6,s6,q6⟩:=box4 h4 50 (pk (Ri R i))
 have hst4:=st_agg (n:=4) (h:=h5) (b:=h4.next) (o:=0) (cs:=(pk (Ri R i)).c) rfl
 have epk:Pc.c ⟨(Ri R i).id,(Ri R i).block,(Ri R i).refs,((Ri R i).data.length:Int)⟩=(pk (Ri R i)).c:=rfl
 rw [epk] at e4
 have s36:Sm NoB h3 h6:=s4.trans s6 (fun _ _ h=>h) (fun _ _ h=>h)
 have n36:=s36.1
 have k26:=(c2.sm s36 (by omega) (fun h=>h)).ld1 0
 rw [List.getElem?_cons_zero] at k26
 have ebs:buildSliceN P 46 1 [0] [.agg (pk (Ri R i)).c]=some (.cells (fillC (pk (Ri R i)).c .leaf 0) [] 4 false,sliceTo 1):=x_bs_46_1 _ _ _ _
 obtain ⟨h7,e7,r7,n7,f7⟩:=Rw.alloc h6 (id:=h6.next) (n:=4) (vs:=(pk (Ri R i)).c) (z:=[]) (ro:=false) (Nat.le_refl _) rfl
 have s7:Sm NoB h6 h7:=⟨by omega,fun c hc _=>f7 c (by omega)⟩
 have s37:Sm NoB h3 h7:=s36.trans s7 (fun _ _ h=>h) (fun _ _ h=>h)
 have hs7:srcOf 4 (fun n=>n) (.slice (some (h6.next,0)) 1 1 none) h7=some ((pk (Ri R i)).c,1):=srcOf_row r7 (Nat.le_refl _)
 obtain ⟨v8,h8,bs8,e8,o8,s8,f8⟩:=app_slo (t:=46) (id:=h7.next) u_46 s_50 b_50 z_50 rfl (o3.sm s37 (fun _ _ h=>h)) hs7 rfl rfl (room_le (by omega) (by omega)) (Nat.le_refl _)
 have c28:=(c2.sm s37 (by omega) (fun h=>h)).sm s8 (by omega) (fun h=>by have:=hbs _ h;omega)
 obtain ⟨w1,w2,w3,w4⟩:=c28.st1 (o:=0) (v:=v8) (by simp) (slo_one o8)
 rw [show ([v]:List AV).set 0 v8=[v8] from rfl] at w2
 obtain ⟨h9,eh9⟩:∃ h9,h8.wr b2 0 [v8]=h9:=⟨_,rfl⟩
 rw [eh9] at w1 w2 w3 w4
 have n8:=s8.1
 have s39:Sm (fun b=>b=b2∨hi<=b) h3 h9:=(s37.trans s8 (H:=fun b=>b=b2∨hi<=b) (fun _ _ h=>h.elim) (fun c _ h=>.inr (hbs c h))).trans (show Sm (·= b2) h8 h9 from ⟨by omega,fun c _ hc=>w4 c hc⟩) (fun _ _ h=>h) (fun _ _ h=>.inl h)
 simp only [F15,SS,Nat.reduceBEq,Nat.reduceEqDiff,Nat.reduceAdd,reduceIte,Nat.reduceMul,t1,t2,k1,x_fa_97_1,kp,e4,x_al_50,e5,hst4,e6,k26,ld6,ebs,e7,e8,w1]
 refine hB _ _ _ _ ((s39.2 l (by omega) (by omega)).trans m3) rfl ?_
 obtain ⟨h10,e10,m10,n10,s10⟩:=put_sm (h:=h9) (b:=l) (x:=.loop (endL .normal { b with st:=.busy }).2)
 rw [e10]
 have s310:Sm (fun b=>b=b2∨b=l∨hi<=b) h h10:=(s3.trans s39 (H:=fun b=>b=b2∨b=l∨hi<=b) (fun _ _ h=>.inr (.inl h)) (fun _ _ h=>h.imp_right .inr)).trans s10 (fun _ _ h=>h) (fun _ _ h=>.inr (.inl h))
 have hn:=s310.1
 have hn0:=sm.1
 have hb8:∀ b,b∈bs8->hi<=b:=fun b hb=>by
  rcases f8 b hb with h | h
  ·exact hbs b h
  ·omega
 refine ⟨rfl,⟨⟨_,m10,rfl,rfl,hfn,hps,has,hbo,t29,t1,t2⟩,⟨z1,r1.sm s310 (by omega) (by omega)⟩,⟨z2,v8,bs8,w2.sm s10 (by omega) (fun e=>ne.2.1 e.symm),?_,hb8⟩,hp.sm s310 (by omega),ht.sm s310 (fun b hb e=>by have:=old.2 b hb;omega),⟨l1,l2,ll⟩,by omega,ge,ne,sm.trans s310 (fun _ _ h=>h) (fun c hc e=>by omega),old⟩,s310⟩
 have hcs:csC ((R.take i).map pk)++(pk (Ri R i)).c=csC ((R.take (i+1)).map pk):=by
  rw [List.take_succ_eq_append_getElem hiR,List.map_append,csC_app,← Ri_at hiR]
  congr 1
 rw [← hcs]
 exact (o8.same (h':=h9) (fun b hb=>w4 b (fun e=>by have:=hb8 b hb;omega)) (by omega)).sm s10 (fun b hb e=>by have:=hb8 b hb;omega)
theorem pchunks_ok {n:Nat} (hn:7<=n) (hp:PoAt h pb lb tb sp) (ht:TabAt h tb L next F) (hrel:Rel L R) (hlen:L.length<=1000) :
  WC (C n (.fn 15) [.ptr (some (pb,0))] h) fun r h'=>∃ bs,SlO 50 4 h' r R.length (csC (R.map pk)) bs/\(∀ b,b∈bs->h.next<=b)/\Sm NoB h h':=by
 have hrl:=hrel.len
 have ltp:=hp.lt
 have ltF:=ht.flt
 obtain ⟨m,rfl⟩:∃ m,n=m+1:=⟨n - 1,by omega⟩
 refine call_fn _ f15A rfl (by simp [fn15]) fun QQ hQ=>?_
 simp only [fn15] at hQ
 simp only [fn15,fill_cons,fill_nil,Nat.zero_add,Nat.reduceAdd]
 obtain ⟨h1,e1,r1,n1,f1⟩:=Rw.alloc h (id:=h.next) (n:=1) (vs:=[.ptr (some (pb,0))]) (z:=[]) (ro:=false) (Nat.le_refl _) rfl
 obtain ⟨h2,e2,r2,n2,f2⟩:=Rw.alloc h1 (id:=h1.next) (n:=1) (vs:=[.slice none 0 0 none]) (z:=tyMark 46 true) (ro:=false) (Nat.le_refl _) rfl
 have s2:Sm NoB h h2:=⟨by omega,fun c hc _=>by rw [f2 c (by omega),f1 c (by omega)]⟩
 have r1:=r1.same (f2 h.next (by omega))
 have k1:=r1.ld1 0
 rw [List.getElem?_cons_zero] at k1
 obtain ⟨_,h3,e3,e0,rfl⟩:=pis_ok (n:=m) (by omega) (hp.sm s2 (fun h=>h))
 subst e0
 obtain ⟨zp,rp⟩:=(hp.sm s2 (fun h=>h)).r
 have kp:=rp.ld1 1
 simp only [List.getElem?_cons_zero,List.getElem?_cons_succ] at kp
 obtain ⟨_,h4,e4,bx,rfl,rx,lx,s4,gx⟩:=all_ok (n:=m) (by omega) (h:=h3) (tb:=tb)
 simp only [F15,SS,Nat.reduceBEq,Nat.reduceEqDiff,Nat.reduceAdd,reduceIte,Nat.reduceMul,bx_ptr,e1,x_al_46,e2,k1,e3,x_fa_97_1,kp,e4]
 refine run_rangeF (i:=112) (cap:=[.ptr (some (bx,0))]) (by simp only [SS,Nat.reduceBEq]) ?_
 have hid:h4.next<=h4.next:=Nat.le_refl _
 obtain ⟨tm0,htm,q1,q2,q29⟩:∃ tm:Tr AV,tm=(((((Tr.leaf:Tr AV).up (some (.ptr (some (pb,0)))) 0).up (some (.ptr (some (h1.next,0)))) 2).up (some (.ptr (some (h.next,0)))) 1).up (some (.bool false)) 8).up (some (.func (.func 112) [] [.ptr (some (bx,0))])) 13/\tm.gt 1=some (.ptr (some (h.next,0)))/\tm.gt 2=some (.ptr (some (h1.next,0)))/\tm.gt 29=none:=⟨_,rfl,by simp only [SS,Nat.reduceBEq],by simp only [SS,Nat.reduceBEq],by simp only [SS,Nat.reduceBEq]⟩
 rw [← htm]
 obtain ⟨h5,eh5⟩:∃ h5,h4.new h4.next (.loop ⟨.ready,none,15,tm0.up none 29,[14],c15_14A,c15_14B⟩)=h5:=⟨_,rfl⟩
 have g5:h5.bs.gt h4.next=some (.loop ⟨.ready,none,15,tm0.up none 29,[14],c15_14A,c15_14B⟩):=by rw [← eh5,new_get' hid,if_pos rfl]
 have n5:h5.next=h4.next+1:=by rw [← eh5,new_next' hid]
 have s5:Sm NoB h4 h5:=⟨by omega,fun c hc _=>by rw [← eh5,new_get' hid,if_neg (by omega)]⟩
 rw [eh5]
 have n4:=s4.1
 have q3:=s2.1
 have s35:Sm NoB h3 h5:=s4.trans s5 (fun _ _ h=>h) (fun _ _ h=>h)
 have s05:Sm NoB h h5:=s2.trans s35 (fun _ _ h=>h) (fun _ _ h=>h)
 have rec0:∀ h6,Sm NoB h5 h6->JK h h4.next h.next h1.next pb lb tb sp L R next F h6.next 0 h6:=fun h6 s6=>by
  have n6:=s6.1
  refine ⟨⟨_,(s6.2 _ (by omega) (fun h=>h)).trans g5,rfl,rfl,rfl,rfl,rfl,rfl,by simp only [SS,Nat.reduceBEq],by simp only [SS,Nat.reduceBEq,Nat.reduceEqDiff,Nat.reduceAdd,reduceIte,Nat.reduceMul,q1],by simp only [SS,Nat.reduceBEq,Nat.reduceEqDiff,Nat.reduceAdd,reduceIte,Nat.reduceMul,q2]⟩,⟨_,(r1.sm s35 (by omega) (fun h=>h)).sm s6 (by omega) (fun h=>h)⟩,⟨_,_,[],(r2.sm s35 (by omega) (fun h=>h)).sm s6 (by omega) (fun h=>h),SlO.nil,(fun _ h=>by cases h)⟩,(hp.sm s05 (fun h=>h)).sm s6 (fun h=>h),(ht.sm s05 (fun _ _ h=>h)).sm s6 (fun _ _ h=>h),by omega,Nat.le_refl _,by omega,by omega,s05.trans s6 (fun _ _ h=>h) (fun _ _ h=>h),⟨ltp,ltF⟩⟩
 obtain ⟨v,h6,e6,hv⟩:=allIt_ok (n:=m) (by omega) (ht.sm s05 (fun _ _ h=>h)) hrel hlen (bx:=bx) (l:=h4.next) (rx.sm s5 lx (fun h=>h)) (fun hi i h'=>JK h h4.next h.next h1.next pb lb tb sp L R next F hi i h') (fun _=>False) rec0
  (fun hi i h' hlt hj _=>by
   obtain ⟨v,h2,e,hv,hj',s⟩:=kround_ok (m:=m - 1) (by omega) hj hrel (by omega) hlt
   refine ⟨v,h2,e,.inl ⟨hv,hj'⟩,fun b hb1 hb2=>s.2 b (by have:=hj.hin;omega) (by omega)⟩)
 refine ⟨v,h6,e6,?_⟩
 rcases hv with ⟨hi,hj⟩ | hf
 ·obtain ⟨⟨b,hat,hst,hpd,_⟩,_,⟨z2,w,bs,rw2,o,hbs⟩,_,_,⟨_,l2,ll⟩,hin,_,ne,sm,_⟩:=hj
  refine ⟨b,hat,by rw [hst];decide,?_⟩
  rw [hpd]
  obtain ⟨h7,e7,m7,n7,s7⟩:=put_sm (h:=h6) (b:=h4.next) (x:=.loop ⟨.exhausted,none,b.fn,b.tm,b.params,b.assign,b.body⟩)
  show ret _ _ _ _ _ .normal _ _ (h6.put h4.next (.loop ⟨.exhausted,none,b.fn,b.tm,b.params,b.assign,b.body⟩)) _
  rw [e7]
  have rw7:=rw2.sm s7 (by omega) (fun e=>ne.2.1 e.symm)
  have k7:=rw7.ld1 0
  rw [List.getElem?_cons_zero] at k7
  have o7:=o.sm s7 (fun b hb e=>by have:=hbs b hb;omega)
  obtain ⟨w1,w2,w3,w4⟩:=rw7.st1 (o:=0) (v:=w) (by simp) (slo_one o7)
  rw [show ([w]:List AV).set 0 w=[w] from rfl] at w2
  have k8:=w2.ld1 0
  rw [List.getElem?_cons_zero] at k8
  subst htm
  simp only [F15,SS,Nat.reduceBEq,Nat.reduceEqDiff,Nat.reduceAdd,reduceIte,Nat.reduceMul,k7,w1]
  refine hQ _ _ _ _ (.inr rfl) (by simp only [SS,Nat.reduceBEq]) (by simp only [SS,Nat.reduceBEq,Nat.reduceEqDiff,Nat.reduceAdd,reduceIte,Nat.reduceMul,resC46,k8];rfl) ?_
  rw [List.take_length] at o7
  have s08:Sm NoB h h7:=sm.trans s7 (fun _ _ h=>h) (fun c hc e=>by omega)
  exact ⟨bs,o7.same (fun b hb=>w4 b (fun e=>by have:=hbs b hb;omega)) (by omega),fun b hb=>by have:=hbs b hb;omega,⟨by have:=s08.1;omega,fun c hc hF=>(w4 c (by omega)).trans (s08.2 c hc hF)⟩⟩
 ·exact hf.elim
end
end Go.Proofs.YtboobbebilegnaaGreat
namespace Go.Proofs.YtboobbebilegnaaGreat
open Go.Am
set_option maxRecDepth 10000
theorem ep_int {d t:Nat} {k:IntKind} {a:Int} (hu:P.underlying t=some (.int k)):eqPlain P (d+1) t (.int k a) (.int k a)=some true:=by
 unfold eqPlain
 rw [hu]
 show (if k=k then some (eqI a a) else none)=_
 rw [if_pos rfl,eqI_eq];simp
noncomputable def fs93:Array Field:=match P.underlying 93 with
 | some (.struct fs)=>fs
 | _=>#[]
theorem un93:P.underlying 93=some (.struct fs93):=by kernel_rfl
theorem ef93 (eq:TypeId->AV->AV->Option Bool) (a b c d a' b' c' d':AV) (h1:eq 48 a a'=some true) (h2:eq 3 b b'=some true) (h3:eq 3 c c'=some true) (h4:eq 3 d d'=some true):eqFields P eq fs93.toList [a,b,c,d] [a',b',c',d']=some true:=by
 have h0:eqFields P eq fs93.toList [a,b,c,d] [a',b',c',d']=(match eq 48 a a' with | some true=>(match eq 3 b b' with | some true=>(match eq 3 c c' with | some true=>(match eq 3 d d' with | some true=>some true | r=>r) | r=>r) | r=>r) | r=>r):=by kernel_rfl
 rw [h0,h1]
 simp only [h2,h3,h4]
theorem x_ne_93 (x:Pc):bin2 P .neq 93 (.agg x.c) (.agg x.c)=some (.bool false):=by
 have h:eqPlain P 50 93 (.agg x.c) (.agg x.c)=some true:=by
  unfold eqPlain
  rw [un93]
  show (if P.stoodInHeld 93=true then none else eqFields P (eqPlain P 49) fs93.toList _ _)=_
  rw [if_neg (by rw [show P.stoodInHeld 93=false by kernel_rfl];decide)]
  exact ef93 _ _ _ _ _ _ _ _ _ (ep_int (by kernel_rfl)) (ep_int (by kernel_rfl)) (ep_int (by kernel_rfl)) (ep_int (by kernel_rfl))
 show Option.rec (motive:=fun _=>Option AV) none (fun b=>yesB (notB b)) (iff' (notB (P.eqGuardType P.depth 93)) (eqPlain P 50 93 _ _))=_
 rw [show P.eqGuardType P.depth 93=false by kernel_rfl,h]
 rfl
theorem pcs_els {e:Nat} {h:Heap} {v:AV} {Cs:List Pc} {bs:List Nat} (ho:SlO e 4 h v Cs.length (csC Cs) bs):Pcs h v Cs:=els_R ho.els
section
variable {h h':Heap} {rp rl rt rd:Nat} {R:List Ch} {next num:Int} {bs b1 b2:List Nat} {chr:AV} {acts:Nat} {cut:Bool} {Fi:List (List Nat)} {E:List Fe}
theorem rchunk_ok {n:Nat} (hn:1<=n) (x:Ch):WC (C n (.fn 83) [.agg x.rc] h) fun r h'=>Sm NoB h h'/\r=.agg (pk x).c:=by
 obtain ⟨m,rfl⟩:∃ m,n=m+1:=⟨n - 1,by omega⟩
 refine call_fn _ f83A rfl (by simp [fn83]) fun QQ hQ=>?_
 simp only [fn83] at hQ
 simp only [fn83,fill_cons,fill_nil,Nat.zero_add,Nat.reduceAdd]
 obtain ⟨h1,e1,r1,n1,f1⟩:=Rw.alloc h (id:=h.next) (n:=4) (vs:=[.int .u32 x.id,.str x.data,.int .i64 x.block,.int .i64 x.refs]) (z:=[]) (ro:=false) (Nat.le_refl _) rfl
 obtain ⟨h2,e2,r2,n2,f2⟩:=Rw.alloc h1 (id:=h1.next) (n:=4) (vs:=[.int .u32 0,.int .i64 0,.int .i64 0,.int .i64 0]) (z:=tyMark 93 true) (ro:=false) (Nat.le_refl _) rfl
 have r1:=r1.same (f2 h.next (by omega))
 have k0:=r1.ld1 0
 have k1:=r1.ld1 1
 have k2:=r1.ld1 2
 have k3:=r1.ld1 3
 simp only [List.getElem?_cons_zero,List.getElem?_cons_succ] at k0 k1 k2 k3
 obtain ⟨w1,w2,w3,w4⟩:=r2.sto (o:=0) (us:=[.int .u32 x.id,.int .i64 x.block,.int .i64 x.refs,.int .i64 (x.data.length:Int)]) (by simp) rfl
 have hst:=st_agg (n:=4) (h:=h2) (b:=h1.next) (o:=0) (cs:=[.int .u32 x.id,.int .i64 x.block,.int .i64 x.refs,.int .i64 (x.data.length:Int)]) rfl
 obtain ⟨h3,e3⟩:∃ h3,h2.wr h1.next 0 [.int .u32 x.id,.int .i64 x.block,.int .i64 x.refs,.int .i64 (x.data.length:Int)]=h3:=⟨_,rfl⟩
 rw [e3] at w1 w2 w3 w4
 have l3:loadN 4 h3 (.ptr (some (h1.next,0)))=some (.agg (pk x).c):=by
  rw [m_loadN,w2.ld (i:=0) (n:=4) (Nat.le_refl _)];rfl
 have hx:x.rc=[.int .u32 x.id,.str x.data,.int .i64 x.block,.int .i64 x.refs]:=rfl
 rw [hx]
 simp only [F83,SS,Nat.reduceBEq,Nat.reduceEqDiff,Nat.reduceAdd,reduceIte,Nat.reduceMul,e1,x_al_93,e2,x_fa_143_0,x_fa_143_1,x_fa_143_2,x_fa_143_3,k0,k1,k2,k3,x_len_9,x_bd_93_0_1_2_3,hst,w1]
 refine hQ _ _ _ _ (.inr rfl) (by simp only [SS,Nat.reduceBEq]) (by simp only [SS,Nat.reduceBEq,Nat.reduceEqDiff,Nat.reduceAdd,reduceIte,Nat.reduceMul,resC93,l3];rfl) ?_
 exact ⟨⟨by omega,fun c hc _=>by rw [w4 c (by omega),f2 c (by omega),f1 c (by omega)]⟩,rfl⟩
theorem rchunks_ok {n:Nat} (hn:2<=n) (hp:RPo h rp rl rt) (hr:RefAt h rt R next bs) (hR:R.length<=1000) :
  WC (C n (.fn 29) [.ptr (some (rp,0))] h) fun r h'=>∃ bs',SlO 93 4 h' r R.length (csC (R.map pk)) bs'/\(∀ b,b∈bs'->h.next<=b)/\Sm NoB h h':=by
 obtain ⟨m,rfl⟩:∃ m,n=m+1:=⟨n - 1,by omega⟩
 refine call_fn _ f29A rfl (by simp [fn29]) fun QQ hQ=>?_
 simp only [fn29] at hQ
 simp only [fn29,fill_cons,fill_nil,Nat.zero_add,Nat.reduceAdd]
 simp only [F29,SS,Nat.reduceBEq,Nat.reduceEqDiff,Nat.reduceAdd,reduceIte,Nat.reduceMul]
 refine run_loop (c:=c29_9) (I:=fun m' tm' h'=>∃ i v bs',i<=R.length/\m'=R.length - i/\SlO 93 4 h' v i (csC ((R.take i).map pk)) bs'/\(∀ b,b∈bs'->h.next<=b)/\Sm NoB h h'/\tm'.gt 0=some (.ptr (some (rp,0)))/\tm'.gt 3=some v/\tm'.gt 4=some (I i)/\tm'.gt 34=none) (n:=R.length)
  ⟨0,_,[],by omega,rfl,SlO.nil,(fun _ h=>by cases h),Sm.refl _ _,by simp only [SS,Nat.reduceBEq],by simp only [SS,Nat.reduceBEq],by first | (simp only [SS,Nat.reduceBEq,Nat.reduceEqDiff,Nat.reduceAdd,reduceIte,Nat.reduceMul];done) | (simp only [SS,Nat.reduceBEq,Nat.reduceEqDiff,Nat.reduceAdd,reduceIte,Nat.reduceMul];rfl),by simp only [SS,Nat.reduceBEq]⟩ (by omega) ?_
 rintro _ tm h2 ⟨i,v,bs',hi,rfl,o,hb,s2,t0,t3,t4,t34⟩ Q1 hN1 hE1
 obtain ⟨zp,rpw⟩:=(hp.sm s2 (fun h=>h)).r
 have l1:=rpw.ld1 1
 simp only [List.getElem?_cons_zero,List.getElem?_cons_succ] at l1
 obtain ⟨vr,rr,ro⟩:=(hr.no s2).ex
 obtain ⟨a,c,g,rfl⟩:=Chs.sl (els_R ro.els)
 have q0:=rr.ld1 0
 rw [List.getElem?_cons_zero] at q0
 by_cases hlt:i<R.length
 ·have hlt':(i:Int)<(R.length:Int):=by omega
  have hch:Chs h2 (.slice a R.length c g) R:=els_R ro.els
  obtain ⟨b,oo,rfl,_,_,_,_,ldn⟩:=hch.at hlt
  have x2:=x_ia_80 (k:=.i64) (b:=b) (o:=oo) (c:=c) (g:=g) hlt
  obtain ⟨_,h4,e4,s4,rfl⟩:=rchunk_ok (n:=m) (by omega) (h:=h2) (Ri R i)
  obtain ⟨h5,h6,e5,e6,ld6,s6,q6⟩:=box4 h4 93 (pk (Ri R i))
  have hst4:=st_agg (n:=4) (h:=h5) (b:=h4.next) (o:=0) (cs:=(pk (Ri R i)).c) rfl
  have ebs:buildSliceN P 71 1 [0] [.agg (pk (Ri R i)).c]=some (.cells (fillC (pk (Ri R i)).c .leaf 0) [] 4 false,sliceTo 1):=x_bs_71_1 _ _ _ _
  obtain ⟨h7,e7,r7,n7,f7⟩:=Rw.alloc h6 (id:=h6.next) (n:=4) (vs:=(pk (Ri R i)).c) (z:=[]) (ro:=false) (Nat.le_refl _) rfl
  have s7:Sm NoB h6 h7:=⟨by omega,fun c hc _=>f7 c (by omega)⟩
  have s27:Sm NoB h2 h7:=(s4.trans s6 (fun _ _ h=>h) (fun _ _ h=>h)).trans s7 (fun _ _ h=>h) (fun _ _ h=>h)
  have hs7:srcOf 4 (fun n=>n) (.slice (some (h6.next,0)) 1 1 none) h7=some ((pk (Ri R i)).c,1):=srcOf_row r7 (Nat.le_refl _)
  obtain ⟨v8,h8,bs8,e8,o8,s8,f8⟩:=app_slo (t:=71) (id:=h7.next) u_71 s_93 b_93 z_93 rfl (o.sm s27 (fun _ _ h=>h)) hs7 rfl rfl (room_le (by omega) (by omega)) (Nat.le_refl _)
  have n2:=s2.1
  have n27:=s27.1
  simp only [F29,SS,Nat.reduceBEq,Nat.reduceEqDiff,Nat.reduceAdd,reduceIte,Nat.reduceMul,t0,t3,t4,x_fa_85_1,l1,x_fa_82_0,q0,x_len_80,hlt',x2,ldn,e4,x_al_93,e5,hst4,e6,ld6,ebs,e7,e8,wAdd1 (show i<=1000000 by omega)]
  refine hN1 _ _ (R.length - (i+1)) (by omega) ⟨i+1,v8,bs8,by omega,rfl,?_,fun b hb'=>?_,(s2.trans s27 (fun _ _ h=>h) (fun _ _ h=>h)).trans s8 (fun _ _ h=>h) (fun c hc h=>by have:=hb c h;omega),by simp only [SS,Nat.reduceBEq,t0],by simp only [SS,Nat.reduceBEq],by simp only [SS,Nat.reduceBEq],by simp only [SS,Nat.reduceBEq,t34]⟩
  ·have hcs:csC ((R.take i).map pk)++(pk (Ri R i)).c=csC ((R.take (i+1)).map pk):=by
    rw [List.take_succ_eq_append_getElem hlt,List.map_append,csC_app,← Ri_at hlt]
    congr 1
   rw [← hcs];exact o8
  ·rcases f8 b hb' with h | h
   ·exact hb b h
   ·omega
 ·obtain rfl:i=R.length:=by omega
  have hlt':¬(R.length:Int)<(R.length:Int):=by omega
  rw [List.take_length] at o
  simp only [F29,SS,Nat.reduceBEq,Nat.reduceEqDiff,Nat.reduceAdd,reduceIte,Nat.reduceMul,t0,t4,x_fa_85_1,l1,x_fa_82_0,q0,x_len_80,hlt']
  refine hE1 _ _ _ (by simp) ?_
  simp only [F29,SS,Nat.reduceBEq,Nat.reduceEqDiff,Nat.reduceAdd,reduceIte,Nat.reduceMul,t3]
  refine hQ _ _ _ _ (.inr rfl) (by simp only [SS,Nat.reduceBEq,t34]) (by simp only [SS,Nat.reduceBEq,Nat.reduceEqDiff,Nat.reduceAdd,reduceIte,Nat.reduceMul,t34];rfl) ?_
  exact ⟨bs',o,hb,s2⟩
theorem theirs_ok {n:Nat} (hn:1<=n) {v:AV} {Cs:List Pc} (hC:Pcs h v Cs) (hl:Cs.length<=1000) :
  WC (C n (.fn 25) [v] h) fun r h'=>∃ bs',SlO 93 4 h' r Cs.length (csC Cs) bs'/\(∀ b,b∈bs'->h.next<=b)/\Sm NoB h h':=by
 obtain ⟨a,c,g,rfl⟩:=hC.sl
 obtain ⟨m,rfl⟩:∃ m,n=m+1:=⟨n - 1,by omega⟩
 refine call_fn _ f25A rfl (by simp [fn25]) fun QQ hQ=>?_
 simp only [fn25] at hQ
 simp only [fn25,fill_cons,fill_nil,Nat.zero_add,Nat.reduceAdd]
 simp only [F25,SS,Nat.reduceBEq,Nat.reduceEqDiff,Nat.reduceAdd,reduceIte,Nat.reduceMul]
 refine run_loop (c:=c25_9) (I:=fun m' tm' h'=>∃ i v bs',i<=Cs.length/\m'=Cs.length - i/\SlO 93 4 h' v i (csC (Cs.take i)) bs'/\(∀ b,b∈bs'->h.next<=b)/\Sm NoB h h'/\tm'.gt 0=some (.slice a Cs.length c g)/\tm'.gt 3=some v/\tm'.gt 4=some (I i)/\tm'.gt 19=none) (n:=Cs.length)
  ⟨0,_,[],by omega,rfl,SlO.nil,(fun _ h=>by cases h),Sm.refl _ _,by simp only [SS,Nat.reduceBEq],by simp only [SS,Nat.reduceBEq],by first | (simp only [SS,Nat.reduceBEq,Nat.reduceEqDiff,Nat.reduceAdd,reduceIte,Nat.reduceMul];done) | (simp only [SS,Nat.reduceBEq,Nat.reduceEqDiff,Nat.reduceAdd,reduceIte,Nat.reduceMul];rfl),by simp only [SS,Nat.reduceBEq]⟩ (by omega) ?_
 rintro _ tm h2 ⟨i,v,bs',hi,rfl,o,hb,s2,t0,t3,t4,t19⟩ Q1 hN1 hE1
 by_cases hlt:i<Cs.length
 ·have hlt':(i:Int)<(Cs.length:Int):=by omega
  obtain ⟨b,oo,rfl,_,_,_,_,ldn⟩:=(hC.sm s2 (fun _ _ h=>h)).at hlt
  have x2:=x_ia_46 (k:=.i64) (b:=b) (o:=oo) (c:=c) (g:=g) hlt
  have ebs:buildSliceN P 71 1 [0] [.agg (Ci Cs i).c]=some (.cells (fillC (Ci Cs i).c .leaf 0) [] 4 false,sliceTo 1):=x_bs_71_1 _ _ _ _
  obtain ⟨h7,e7,r7,n7,f7⟩:=Rw.alloc h2 (id:=h2.next) (n:=4) (vs:=(Ci Cs i).c) (z:=[]) (ro:=false) (Nat.le_refl _) rfl
  have s7:Sm NoB h2 h7:=⟨by omega,fun c hc _=>f7 c (by omega)⟩
  have hs7:srcOf 4 (fun n=>n) (.slice (some (h2.next,0)) 1 1 none) h7=some ((Ci Cs i).c,1):=srcOf_row r7 (Nat.le_refl _)
  obtain ⟨v8,h8,bs8,e8,o8,s8,f8⟩:=app_slo (t:=71) (id:=h7.next) u_71 s_93 b_93 z_93 rfl (o.sm s7 (fun _ _ h=>h)) hs7 rfl rfl (room_le (by omega) (by omega)) (Nat.le_refl _)
  have n2:=s2.1
  simp only [F25,SS,Nat.reduceBEq,Nat.reduceEqDiff,Nat.reduceAdd,reduceIte,Nat.reduceMul,t0,t3,t4,x_len_46,hlt',x2,ldn,ebs,e7,e8,wAdd1 (show i<=1000000 by omega)]
  refine hN1 _ _ (Cs.length - (i+1)) (by omega) ⟨i+1,v8,bs8,by omega,rfl,?_,fun b hb'=>?_,(s2.trans s7 (fun _ _ h=>h) (fun _ _ h=>h)).trans s8 (fun _ _ h=>h) (fun c hc h=>by have:=hb c h;omega),by simp only [SS,Nat.reduceBEq,t0],by simp only [SS,Nat.reduceBEq],by simp only [SS,Nat.reduceBEq],by simp only [SS,Nat.reduceBEq,t19]⟩
  ·have hcs:csC (Cs.take i)++(Ci Cs i).c=csC (Cs.take (i+1)):=by
    rw [List.take_succ_eq_append_getElem hlt,csC_app,← Ci_at hlt]
    congr 1
   rw [← hcs];exact o8
  ·rcases f8 b hb' with h | h
   ·exact hb b h
   ·omega
 ·obtain rfl:i=Cs.length:=by omega
  have hlt':¬(Cs.length:Int)<(Cs.length:Int):=by omega
  rw [List.take_length] at o
  simp only [F25,SS,Nat.reduceBEq,Nat.reduceEqDiff,Nat.reduceAdd,reduceIte,Nat.reduceMul,t0,t4,x_len_46,hlt']
  refine hE1 _ _ _ (by simp) ?_
  simp only [F25,SS,Nat.reduceBEq,Nat.reduceEqDiff,Nat.reduceAdd,reduceIte,Nat.reduceMul,t3]
  refine hQ _ _ _ _ (.inr rfl) (by simp only [SS,Nat.reduceBEq,t19]) (by simp only [SS,Nat.reduceBEq,Nat.reduceEqDiff,Nat.reduceAdd,reduceIte,Nat.reduceMul,t19];rfl) ?_
  exact ⟨bs',o,hb,s2⟩
theorem same_ok {n:Nat} (hn:1<=n) {v w:AV} {A:List Pc} (hA:Pcs h v A) (hB:Pcs h w A) (hl:A.length<=1000) :
  WC (C n (.fn 28) [v,w] h) fun r h'=>r=.bool true/\Sm NoB h h':=by
 obtain ⟨a,c,g,rfl⟩:=hA.sl
 obtain ⟨a',c',g',rfl⟩:=hB.sl
 obtain ⟨m,rfl⟩:∃ m,n=m+1:=⟨n - 1,by omega⟩
 refine call_fn _ f28A rfl (by simp [fn28]) fun QQ hQ=>?_
 simp only [fn28] at hQ
 simp only [fn28,fill_cons,fill_nil,Nat.zero_add,Nat.reduceAdd]
 simp only [F28,SS,Nat.reduceBEq,Nat.reduceEqDiff,Nat.reduceAdd,reduceIte,Nat.reduceMul,x_len_71]
 refine run_loop (c:=c28_15) (I:=fun m' tm' h'=>∃ i,i<=A.length/\m'=A.length - i/\Sm NoB h h'/\tm'.gt 0=some (.slice a A.length c g)/\tm'.gt 1=some (.slice a' A.length c' g')/\tm'.gt 5=some (I i)/\tm'.gt 26=none) (n:=A.length)
  ⟨0,by omega,rfl,Sm.refl _ _,by simp only [SS,Nat.reduceBEq],by simp only [SS,Nat.reduceBEq],by first | (simp only [SS,Nat.reduceBEq,Nat.reduceEqDiff,Nat.reduceAdd,reduceIte,Nat.reduceMul];done) | (simp only [SS,Nat.reduceBEq,Nat.reduceEqDiff,Nat.reduceAdd,reduceIte,Nat.reduceMul];rfl),by simp only [SS,Nat.reduceBEq]⟩ (by omega) ?_
 rintro _ tm h2 ⟨i,hi,rfl,s2,t0,t1,t5,t26⟩ Q1 hN1 hE1
 by_cases hlt:i<A.length
 ·have hlt':(i:Int)<(A.length:Int):=by omega
  obtain ⟨g3,eg,sg,bg,ng⟩:=Sm.bump h2 9
  have s3:Sm NoB h g3:=s2.trans sg (fun _ _ h=>h) (fun _ _ h=>h)
  obtain ⟨b,oo,rfl,_,_,_,_,ld1⟩:=(hA.sm s3 (fun _ _ h=>h)).at hlt
  obtain ⟨b',oo',rfl,_,_,_,_,ld2⟩:=(hB.sm s3 (fun _ _ h=>h)).at hlt
  have x1:=x_ia_71 (k:=.i64) (b:=b) (o:=oo) (c:=c) (g:=g) hlt
  have x2:=x_ia_71 (k:=.i64) (b:=b') (o:=oo') (c:=c') (g:=g') hlt
  simp only [F28,SS,Nat.reduceBEq,Nat.reduceEqDiff,Nat.reduceAdd,reduceIte,Nat.reduceMul,t0,t1,t5,x_len_71,hlt',eg,x1,x2,ld1,ld2,x_ne_93,wAdd1 (show i<=1000000 by omega)]
  exact hN1 _ _ (A.length - (i+1)) (by omega) ⟨i+1,by omega,rfl,s3,by simp only [SS,Nat.reduceBEq,t0],by simp only [SS,Nat.reduceBEq,t1],by simp only [SS,Nat.reduceBEq],by simp only [SS,Nat.reduceBEq,t26]⟩
 ·obtain rfl:i=A.length:=by omega
  have hlt':¬(A.length:Int)<(A.length:Int):=by omega
  simp only [F28,SS,Nat.reduceBEq,Nat.reduceEqDiff,Nat.reduceAdd,reduceIte,Nat.reduceMul,t0,t5,x_len_71,hlt']
  refine hE1 _ _ _ (by simp) ?_
  simp only [F28,SS,Nat.reduceBEq,Nat.reduceEqDiff,Nat.reduceAdd,reduceIte,Nat.reduceMul]
  refine hQ _ _ _ _ (.inr rfl) (by simp only [SS,Nat.reduceBEq,t26]) (by simp only [SS,Nat.reduceBEq,Nat.reduceEqDiff,Nat.reduceAdd,reduceIte,Nat.reduceMul,t26];rfl) ?_
  exact ⟨rfl,s2⟩
theorem rFree_ok {n:Nat} (hn:2<=n) (hp:RPo h rp rl rt) (hl:RLn h rl rd num chr acts cut) (hd:RDev h rd Fi E b1 b2) (hFi:Fi.length=256) (hr:RefAt h rt R next bs) (hlen:R.length<=1000) :
  WC (C n (.fn 30) [.ptr (some (rp,0))] h) fun r h'=>Sm NoB h h'/\r=I (cntF (usedR R) 256):=by
 obtain ⟨m,rfl⟩:∃ m,n=m+1:=⟨n - 1,by omega⟩
 refine call_fn _ f30A rfl (by simp [fn30]) fun QQ hQ=>?_
 simp only [fn30] at hQ
 simp only [fn30,fill_cons,fill_nil,Nat.zero_add,Nat.reduceAdd]
 obtain ⟨v,h1,e1,bs',o,s1,_⟩:=rfree_ok (n:=m) (by omega) hp hl hd hFi hr hlen
 obtain ⟨a,c,g,rfl,_,_⟩:=slo_sl o
 simp only [F30,SS,Nat.reduceBEq,Nat.reduceEqDiff,Nat.reduceAdd,reduceIte,Nat.reduceMul,e1,x_len_24]
 refine hQ _ _ _ _ (.inr rfl) (by simp only [SS,Nat.reduceBEq]) (by simp only [SS,Nat.reduceBEq,Nat.reduceEqDiff,Nat.reduceAdd,reduceIte,Nat.reduceMul];rfl) ?_
 exact ⟨s1,rfl⟩
end
end Go.Proofs.YtboobbebilegnaaGreat

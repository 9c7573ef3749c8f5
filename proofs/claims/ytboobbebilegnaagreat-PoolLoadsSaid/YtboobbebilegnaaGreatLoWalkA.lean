/- A part of the proof of the law PoolLoads. -/
import Derived.Test.YtboobbebilegnaaGreatLoRulesA
import Derived.Sort.AssemblyPlain
set_option linter.unusedVariables false
set_option linter.unusedSimpArgs false
set_option linter.constructorNameAsVariable false
set_option linter.defProp false
set_option maxRecDepth 20000

namespace Go.Proofs.YtboobbebilegnaaGreat
open Go.Am
theorem v_0 {a:AV} {l:List AV}:(a::l)[0]?=some a:=List.getElem?_cons_zero
theorem v_s {a:AV} {l:List AV} {i:Nat}:(a::l)[i+1]?=l[i]?:=List.getElem?_cons_succ
theorem v_an {l:List AV}:l++[]=l:=List.append_nil l
theorem v_na {l:List AV}:[]++l=l:=List.nil_append l
theorem v_ac {a:AV} {l:List AV} {p:AV->Bool}:(a::l).all p=(p a&&l.all p):=List.all_cons
theorem v_a0 {p:AV->Bool}:([]:List AV).all p=true:=List.all_nil
theorem v_lc {a:AV} {l:List AV}:(a::l).length=l.length+1:=List.length_cons
theorem v_l0:([]:List AV).length=0:=List.length_nil
theorem v_nc {a:Nat} {l:List Nat}:(a::l).length=l.length+1:=List.length_cons
theorem v_n0:([]:List Nat).length=0:=List.length_nil
theorem v_om {a:Nat×Nat} {f:Nat×Nat->Nat×Nat}:(some a).map f=some (f a):=Option.map_some _ _
theorem v_o2 {a:Nat} {f:Nat->AV}:(some a).map f=some (f a):=Option.map_some _ _
theorem v_w0 {a:Nat} {l:List Nat}:(a::l)[0]?=some a:=List.getElem?_cons_zero
theorem v_ws {a:Nat} {l:List Nat} {i:Nat}:(a::l)[i+1]?=l[i]?:=List.getElem?_cons_succ
theorem v_pt {b:Nat}:ptrTo b=.ptr (some (b,0)):=by unfold ptrTo;rfl
theorem v_st {n b:Nat}:sliceTo n b=.slice (some (b,0)) n n none:=by unfold sliceTo;rfl
theorem v_mt {b:Nat}:mapTo b=.map (some b):=by unfold mapTo;rfl
def SS:=And.intro @k_seq<|And.intro @k_blk<|And.intro @k_cnd<|And.intro @k_cndC<|And.intro @rSkip<|And.intro @rExit<|And.intro @rRet<|And.intro @ri_nil<|And.intro @ri_gd<|And.intro @ri_mv<|And.intro @ri_p1<|And.intro @ri_p2<|And.intro @ri_pick<|And.intro @ri_pn<|And.intro @ri_ld1<|And.intro @ri_ldn<|And.intro @ri_rd<|And.intro @ri_al<|And.intro @ri_st1<|And.intro @ri_ef<|And.intro @ri_cl<|And.intro @ge_nil<|And.intro @ge_cons<|And.intro @po_nil<|And.intro @po_cons<|And.intro @g_cf<|And.intro @ap_fn<|And.intro @ap_yield<|And.intro @B_some<|And.intro @Ck_some<|And.intro @Wt_eq<|And.intro @ret_seq<|And.intro @ret_seq_ret<|And.intro @ret_seq_exit<|And.intro @ret_blk<|And.intro @ret_blk_ret<|And.intro @ret_blk_exit<|And.intro @ret_nil<|And.intro @gt_same<|And.intro @gt_other<|And.intro @gt_leaf<|And.intro @l1_one<|And.intro @l2_two<|And.intro @l3_three<|And.intro @g_loc0<|And.intro @g_locS<|And.intro @g_tmp<|And.intro @g_cst<|And.intro @b_lss<|And.intro @b_leq<|And.intro @b_gtr<|And.intro @b_geq<|And.intro @b_add<|And.intro @b_sub<|And.intro @b_mul<|And.intro @b_eql<|And.intro @b_neq<|And.intro @b_eqlS<|And.intro @b_neqS<|And.intro @u_not<|And.intro @w_true<|And.intro @w_false<|And.intro @eBool_bool<|And.intro @resA_nil<|And.intro @resA_tmp<|And.intro @resA_cell<|And.intro @okP_true<|And.intro @okP_false<|And.intro @tupled_nil<|And.intro @tupled_one<|And.intro @tupled_more<|And.intro @t_nth<|And.intro @m_load<|And.intro @m_loadN<|And.intro @m_store<|And.intro @n_ptr<|And.intro @Bool.not_true<|And.intro @Bool.not_false<|And.intro @decide_true<|And.intro @decide_false<|And.intro @mx_int<|And.intro @mn_int<|And.intro @Nat.add_zero<|And.intro @Nat.zero_add<|And.intro @app'_eq<|And.intro @o_bool<|And.intro @o_int<|And.intro @o_str<|And.intro @o_ptr<|And.intro @o_slice<|And.intro @o_map<|And.intro @Bool.and_self<|And.intro @box_agg<|And.intro @st_agg<|And.intro @Nat.mul_one<|And.intro @Nat.zero_mul<|And.intro @Nat.sub_zero<|And.intro @v_0<|And.intro @v_s<|And.intro @v_an<|And.intro @v_na<|And.intro @v_ac<|And.intro @v_a0<|And.intro @v_lc<|And.intro @v_l0<|And.intro @v_nc<|And.intro @v_n0<|And.intro @v_om<|And.intro @v_o2<|And.intro @v_w0<|And.intro @v_ws<|And.intro @v_pt<|And.intro @v_st<|@v_mt
end Go.Proofs.YtboobbebilegnaaGreat
namespace Go.Proofs.YtboobbebilegnaaGreat
open Go.Am
set_option maxRecDepth 10000
noncomputable abbrev SC (n:Nat):CallFn:=callN P (keepF P) noPrims 100000 n
abbrev I (n:Nat):AV:=.int .i64 (n:Int)
theorem wAdd {x y:Nat} (h:x+y<=1000000):IntKind.i64.wrap ((x:Int)+(y:Int))=((x+y:Nat):Int):=by rw [wrap_i64 (by omega) (by omega)];simp
theorem wAdd1 {x:Nat} (h:x<=1000000):IntKind.i64.wrap ((x:Int)+1)=((x+1:Nat):Int):=by rw [wrap_i64 (by omega) (by omega)];simp
theorem wSub {x y:Nat} (h:y<=x) (h':x<=1000000):IntKind.i64.wrap ((x:Int) - (y:Int))=((x - y:Nat):Int):=by rw [wrap_i64 (by omega) (by omega)];omega
theorem wSub1 {x:Nat} (h:1<=x) (h':x<=1000000):IntKind.i64.wrap ((x:Int) - 1)=((x - 1:Nat):Int):=by rw [wrap_i64 (by omega) (by omega)];omega
theorem s_int {k:IntKind} {n:Int}:AV.same (.int k n) (.int k n)=true:=by cases k <;> simp [AV.same]
theorem s_bool {b:Bool}:AV.same (.bool b) (.bool b)=true:=by simp [AV.same]
theorem s_ptr {p:Option (Nat×Nat)}:AV.same (.ptr p) (.ptr p)=true:=by simp [AV.same]
theorem s_slice {p:Option (Nat×Nat)} {n c:Nat} {g:Option Nat}:AV.same (.slice p n c g) (.slice p n c g)=true:=by simp [AV.same]
theorem w_undef {b:Bool}:wanted b undefA=false:=rfl
abbrev El:=Int
abbrev en (x:El):AV:=.int .u32 x
abbrev ltE:El->El->Bool:=Go.Sort.ltInt
theorem ltE_iff {x y:El}:ltE x y=decide (x<y):=rfl
structure Px where
 b:Nat
 N:Nat
 cap:Nat
 g:Option Nat
 rest:List AV
 z:List AV
abbrev Px.sv (X:Px):AV:=.slice (some (X.b,0)) X.N X.cap X.g
structure Px.At (X:Px) (h:Heap) (D:Array El):Prop where
 sz:D.size=X.N
 rw:Rw h X.b (D.toList.map en++X.rest) X.z false
 lt:X.b<h.next
abbrev PsB (X:Px) (h h':Heap):Prop:=Sm (·= X.b) h h'
theorem PsB.tr {X:Px} {h h' h'':Heap} (a:PsB X h h') (b:PsB X h' h''):PsB X h h'':=a.trans b (fun _ _ h=>h) (fun _ _ h=>h)
theorem PsB.no {X:Px} {h h':Heap} (a:Sm NoB h h'):PsB X h h':=a.no
section
variable {X:Px} {h h':Heap} {D:Array El}
theorem el_get {i:Nat} (h:i<D.size):(D.toList.map en)[i]?=some (en D[i]!):=by
 rw [List.getElem?_map,Array.getElem?_toList,getElem!_pos D i h,Array.getElem?_eq_getElem h];rfl
theorem Px.At.ld (hA:X.At h D) {i:Nat} (hi:i<X.N):h.ld1 X.b i=some (en D[i]!):=by
 have:=hA.sz
 rw [hA.rw.ld1,List.getElem?_append_left (by simp;omega),el_get (by omega)]
theorem Px.At.sm (hA:X.At h D) (hs:Sm NoB h h'):X.At h' D:=⟨hA.sz,hA.rw.sm hs hA.lt (fun h=>h),Nat.lt_of_lt_of_le hA.lt hs.1⟩
theorem Px.At.st1 (hA:X.At h D) {i:Nat} (x:El) (hi:i<X.N):∃ h1,h.st1 X.b i (en x)=some h1/\X.At h1 (D.setIfInBounds i x)/\PsB X h h1:=by
 have hsz:=hA.sz
 obtain ⟨a1,a2,a3,a4⟩:=hA.rw.st1 (o:=i) (v:=en x) (by simp;omega) rfl
 refine ⟨_,a1,⟨by simpa using hsz,?_,by rw [a3];exact hA.lt⟩,⟨by rw [a3];exact Nat.le_refl _,fun c _ hc=>a4 c hc⟩⟩
 rw [List.set_append_left _ _ (by simp;omega),← List.map_set,← Array.toList_setIfInBounds] at a2
 exact a2
theorem Px.At.swap (hA:X.At h D) {i j:Nat} (hi:i<X.N) (hj:j<X.N) :
  ∃ h1 h2,h.st1 X.b i (en D[j]!)=some h1/\h1.st1 X.b j (en D[i]!)=some h2/\X.At h2 (Go.Sort.swp D i j)/\PsB X h h2:=by
 obtain ⟨h1,a1,a2,a3⟩:=hA.st1 D[j]! hi
 obtain ⟨h2,b1,b2,b3⟩:=a2.st1 D[i]! hj
 exact ⟨h1,h2,a1,b1,b2,a3.tr b3⟩
end
theorem snan_ok' {n:Nat} (hn:1<=n) (x:El) (h:Heap):WC (SC n (.fn 187) [en x] h) fun r h'=>h'=h/\r=.bool false:=by
 obtain ⟨m,rfl⟩:∃ m,n=m+1:=⟨n - 1,by omega⟩
 refine call_fn _ f187A rfl (by simp [fn187]) fun QQ hQ=>?_
 simp only [fn187] at hQ
 simp only [fn187,fill_cons,fill_nil,Nat.zero_add,Nat.reduceAdd]
 simp only [F187,SS,Nat.reduceBEq,Nat.reduceEqDiff,Nat.reduceAdd,reduceIte,Nat.reduceMul]
 exact hQ _ _ _ _ (.inr rfl) (by simp only [SS,Nat.reduceBEq]) (by simp only [SS,Nat.reduceBEq,Nat.reduceEqDiff,Nat.reduceAdd,reduceIte,Nat.reduceMul];rfl) ⟨rfl,by simp [tupled_one]⟩
theorem snan_ok {n:Nat} (hn:1<=n) (x:El) (h:Heap):SC n (.fn 187) [en x] h=some (.bool false,h):=by
 obtain ⟨r,h',e,rfl,rfl⟩:=snan_ok' hn x h
 exact e
theorem less_ok' {n:Nat} (hn:2<=n) (x y:El) (h:Heap):WC (SC n (.fn 173) [en x,en y] h) fun r h'=>h'=h/\r=.bool (ltE x y):=by
 have nan:∀ n,1<=n->∀ x:El,SC n (.fn 187) [en x] h=some (.bool false,h):=fun n hn x=>snan_ok hn x h
 obtain ⟨m,rfl⟩:∃ m,n=m+1:=⟨n - 1,by omega⟩
 refine call_fn _ f173A rfl (by simp [fn173]) fun QQ hQ=>?_
 simp only [fn173] at hQ
 simp only [fn173,fill_cons,fill_nil,Nat.zero_add,Nat.reduceAdd]
 simp only [F173,SS,Nat.reduceBEq,Nat.reduceEqDiff,Nat.reduceAdd,reduceIte,Nat.reduceMul,nan m (by omega),w_undef]
 exact hQ _ _ _ _ (.inr rfl) (by simp only [SS,Nat.reduceBEq]) (by simp only [SS,Nat.reduceBEq,Nat.reduceEqDiff,Nat.reduceAdd,reduceIte,Nat.reduceMul];rfl) ⟨rfl,by simp [tupled_one,ltE_iff]⟩
theorem less_ok {n:Nat} (hn:2<=n) (x y:El) (h:Heap):SC n (.fn 173) [en x,en y] h=some (.bool (ltE x y),h):=by
 obtain ⟨r,h',e,rfl,rfl⟩:=less_ok' hn x y h
 exact e
end Go.Proofs.YtboobbebilegnaaGreat
namespace Go.Proofs.YtboobbebilegnaaGreat
open Go.Am Go.Sort
set_option maxRecDepth 10000
theorem insOuter_lt {a b i:Nat} {d:Array El} (h:i<b):insOuter ltE a b i d=insOuter ltE a b (i+1) (insInner ltE a i d):=by rw [insOuter,if_pos h]
theorem insOuter_ge {a b i:Nat} {d:Array El} (h:¬i<b):insOuter ltE a b i d=d:=by rw [insOuter,if_neg h]
theorem insI_ok {n:Nat} (hn:3<=n) {X:Px} (hN:X.N<=40000) {h:Heap} {D:Array El} (hA:X.At h D) {a e:Nat} (hae:a<=e) (he:e<=X.N) :
  WC (SC n (.fn 167) [X.sv,I a,I e] h) fun r h'=>X.At h' (insertionSort ltE D a e)/\PsB X h h':=by
 obtain ⟨m,rfl⟩:∃ m,n=m+1:=⟨n - 1,by omega⟩
 refine call_fn _ f167A rfl (by simp [fn167]) fun QQ hQ=>?_
 simp only [fn167] at hQ
 simp only [fn167,fill_cons,fill_nil,Nat.zero_add,Nat.reduceAdd]
 simp only [F167,SS,Nat.reduceBEq,Nat.reduceEqDiff,Nat.reduceAdd,reduceIte,Nat.reduceMul,wAdd1 (show a<=1000000 by omega)]
 refine run_loop (c:=c167_4) (I:=fun m' tm' h'=>∃ i cur,(i<=e∨i=a+1)/\m'=e - i/\X.At h' cur/\PsB X h h'/\insOuter ltE a e i cur=insertionSort ltE D a e/\tm'.gt 0=some X.sv/\tm'.gt 1=some (I a)/\tm'.gt 2=some (I e)/\tm'.gt 6=some (I i)/\tm'.gt 49=none) (n:=e - (a+1))
  ⟨a+1,D,.inr rfl,rfl,hA,Sm.refl _ _,rfl,by simp [gt_same,gt_other,gt_leaf]⟩ (by omega) ?_
 rintro _ tm h' ⟨i,cur,hie,rfl,hA',hS,hE0,t0,t1,t2,t6,t49⟩ Q1 hN1 hE
 by_cases hlt:i<e
 ·simp only [F167,t0,t1,t2,t6,t49,SS,Nat.reduceBEq,Nat.reduceEqDiff,Nat.reduceAdd,reduceIte,Nat.reduceMul,Int.ofNat_lt,hlt]
  rw [insOuter_lt hlt] at hE0
  refine run_loop (c:=c167_16) (I:=fun m' tm' h2=>∃ j cur2,j<=i/\m'=j/\X.At h2 cur2/\PsB X h h2/\insInner ltE a j cur2=insInner ltE a i cur/\tm'.gt 0=some X.sv/\tm'.gt 1=some (I a)/\tm'.gt 2=some (I e)/\tm'.gt 6=some (I i)/\tm'.gt 7=some (I j)/\tm'.gt 49=none) (n:=i)
   ⟨i,cur,by omega,rfl,hA',hS,rfl,by simp only [SS,Nat.reduceBEq,Nat.reduceEqDiff,Nat.reduceAdd,reduceIte,Nat.reduceMul,t0,t1,t2,t6,t49,and_self]⟩ (by omega) ?_
  rintro j tm h2 ⟨_,cur2,hji,rfl,hA2,hS2,hI,t0,t1,t2,t6,t7,t49⟩ Q2 hN2 hE2
  have e1:=wAdd1 (show i<=1000000 by omega)
  by_cases hja:a<j
  ·obtain ⟨j,rfl⟩:∃ j',j=j'+1:=⟨j - 1,by omega⟩
   obtain ⟨hb,eb,sb,_,_⟩:=Sm.bump h2 15
   have hAb:=hA2.sm sb
   have l1:=hAb.ld (i:=j+1) (by omega)
   have l2:=hAb.ld (i:=j) (by omega)
   have ej:IntKind.i64.wrap (((j+1:Nat):Int) - 1)=(j:Int):=by rw [wrap_i64 (by omega) (by omega)];omega
   have e3:=less_ok (n:=m) (by omega) cur2[j+1]! cur2[j]! hb
   have hS3:PsB X h hb:=hS2.tr (PsB.no sb)
   have x1:=x_ia_51 (k:=.i64) (b:=X.b) (o:=0) (n:=X.N) (c:=X.cap) (g:=X.g) (show j+1<X.N by omega)
   have x2:=x_ia_51 (k:=.i64) (b:=X.b) (o:=0) (n:=X.N) (c:=X.cap) (g:=X.g) (show j<X.N by omega)
   cases hr0:ltE cur2[j+1]! cur2[j]! with
   | true =>
    rw [hr0] at e3
    have hI':insInner ltE a (j+1) cur2=insInner ltE a j (swp cur2 (j+1) j):=by rw [insInner,if_pos];rw [hr0,decide_eq_true (show j+1 > a by omega)];rfl
    obtain ⟨hc,ec,sc,_,_⟩:=Sm.bump hb 18
    have hAc:=hAb.sm sc
    obtain ⟨h4,h5,e4,e5,a5,s5⟩:=hAc.swap (i:=j+1) (j:=j) (by omega) (by omega)
    have l3:=hAc.ld (i:=j+1) (by omega)
    have l4:=hAc.ld (i:=j) (by omega)
    simp only [F167,t0,t1,t2,t6,t7,t49,SS,Nat.reduceBEq,Nat.reduceEqDiff,Nat.reduceAdd,reduceIte,Nat.reduceMul,Int.ofNat_lt,hja,eb,ej,x1,x2,l1,l2,e3,ec,l3,l4,e4,e5,w_undef,s_int,s_ptr,s_slice,s_bool,and'_eq,iff'_true]
    refine hN2 _ _ j (by omega) ⟨j,_,by omega,rfl,a5,(hS3.tr (PsB.no sc)).tr s5,by rw [← hI,hI'],?_⟩
    simp only [SS,Nat.reduceBEq,Nat.reduceEqDiff,Nat.reduceAdd,reduceIte,Nat.reduceMul,t0,t1,t2,t6,t7,t49,and_self]
   | false =>
    rw [hr0] at e3
    have hI':insInner ltE a (j+1) cur2=cur2:=by rw [insInner,if_neg];rw [hr0,Bool.and_false];exact (fun h=>by cases h)
    simp only [F167,t0,t1,t2,t6,t7,t49,SS,Nat.reduceBEq,Nat.reduceEqDiff,Nat.reduceAdd,reduceIte,Nat.reduceMul,Int.ofNat_lt,hja,eb,ej,x1,x2,l1,l2,e3,w_undef,s_int,s_ptr,s_slice,s_bool,and'_eq,iff'_true]
    refine hE2 _ _ _ (by simp) ?_
    simp only [F167,t0,t1,t2,t6,t7,t49,SS,Nat.reduceBEq,Nat.reduceEqDiff,Nat.reduceAdd,reduceIte,Nat.reduceMul,e1]
    refine hN1 _ _ (e - (i+1)) (by omega) ⟨i+1,cur2,by omega,rfl,hAb,hS3,by rw [← hE0,← hI,hI'],?_⟩
    simp only [SS,Nat.reduceBEq,Nat.reduceEqDiff,Nat.reduceAdd,reduceIte,Nat.reduceMul,t0,t1,t2,t6,t7,t49,and_self]
  ·have hI':insInner ltE a j cur2=cur2:=by
    cases j with
    | zero=>rfl
    | succ j=>rw [insInner,if_neg];rw [decide_eq_false (show ¬j+1 > a by omega)];exact (fun h=>by cases h)
   obtain ⟨hb,eb,sb,_,_⟩:=Sm.bump h2 15
   simp only [F167,t0,t1,t2,t6,t7,t49,SS,Nat.reduceBEq,Nat.reduceEqDiff,Nat.reduceAdd,reduceIte,Nat.reduceMul,Int.ofNat_lt,hja,eb,w_undef,s_int,s_ptr,s_slice,s_bool,and'_eq,iff'_true]
   refine hE2 _ _ _ (by simp) ?_
   simp only [F167,t0,t1,t2,t6,t7,t49,SS,Nat.reduceBEq,Nat.reduceEqDiff,Nat.reduceAdd,reduceIte,Nat.reduceMul,e1]
   refine hN1 _ _ (e - (i+1)) (by omega) ⟨i+1,cur2,by omega,rfl,hA2.sm sb,hS2.tr (PsB.no sb),by rw [← hE0,← hI,hI'],?_⟩
   simp only [SS,Nat.reduceBEq,Nat.reduceEqDiff,Nat.reduceAdd,reduceIte,Nat.reduceMul,t0,t1,t2,t6,t7,t49,and_self]
 ·rw [insOuter_ge hlt] at hE0
  simp only [F167,t0,t1,t2,t6,t49,SS,Nat.reduceBEq,Nat.reduceEqDiff,Nat.reduceAdd,reduceIte,Nat.reduceMul,Int.ofNat_lt,hlt]
  refine hE _ _ _ (by simp) ?_
  simp only [SS,Nat.reduceBEq,Nat.reduceEqDiff,Nat.reduceAdd,reduceIte,Nat.reduceMul]
  exact hQ _ _ _ _ (.inl rfl) (by simp only [SS,Nat.reduceBEq,t49]) (by simp only [SS,Nat.reduceBEq,Nat.reduceEqDiff,Nat.reduceAdd,reduceIte,Nat.reduceMul];rfl) ⟨by rw [← hE0];exact hA',hS⟩
theorem rev_ok {n:Nat} (hn:1<=n) {X:Px} (hN:X.N<=40000) {h:Heap} {D:Array El} (hA:X.At h D) {a e:Nat} (hae:a<e) (he:e<=X.N) :
  WC (SC n (.fn 171) [X.sv,I a,I e] h) fun r h'=>∃ D',X.At h' D'/\PermIn a e D D'/\PsB X h h':=by
 obtain ⟨m,rfl⟩:∃ m,n=m+1:=⟨n - 1,by omega⟩
 refine call_fn _ f171A rfl (by simp [fn171]) fun QQ hQ=>?_
 simp only [fn171] at hQ
 simp only [fn171,fill_cons,fill_nil,Nat.zero_add,Nat.reduceAdd]
 simp only [F171,SS,Nat.reduceBEq,Nat.reduceEqDiff,Nat.reduceAdd,reduceIte,Nat.reduceMul,wSub1 (show 1<=e by omega) (show e<=1000000 by omega)]
 have hsz:=hA.sz
 refine run_loop (c:=c171_6) (I:=fun m' tm' h'=>∃ i j cur,a<=i/\j<e/\i<=e/\i<=j+1/\m'=j+1 - i/\X.At h' cur/\PsB X h h'/\PermIn a e D cur/\tm'.gt 0=some X.sv/\tm'.gt 6=some (I i)/\tm'.gt 7=some (I j)/\tm'.gt 32=none) (n:=e - 1+1 - a)
  ⟨a,e - 1,D,by omega,by omega,by omega,by omega,rfl,hA,Sm.refl _ _,permIn_refl _ _ _,by simp [gt_same,gt_other,gt_leaf]⟩ (by omega) ?_
 rintro _ tm h' ⟨i,j,cur,h1,h2,h3,h3',rfl,hA',hS,hP,t0,t6,t7,t32⟩ Q1 hN1 hE
 by_cases hlt:i<j
 ·obtain ⟨hc,ec,sc,_,_⟩:=Sm.bump h' 16
  have hAc:=hA'.sm sc
  obtain ⟨h4,h5,e4,e5,a5,s5⟩:=hAc.swap (i:=i) (j:=j) (by omega) (by omega)
  have l3:=hAc.ld (i:=i) (by omega)
  have l4:=hAc.ld (i:=j) (by omega)
  have x1:=x_ia_51 (k:=.i64) (b:=X.b) (o:=0) (n:=X.N) (c:=X.cap) (g:=X.g) (show i<X.N by omega)
  have x2:=x_ia_51 (k:=.i64) (b:=X.b) (o:=0) (n:=X.N) (c:=X.cap) (g:=X.g) (show j<X.N by omega)
  simp only [F171,t0,t6,t7,t32,SS,Nat.reduceBEq,Nat.reduceEqDiff,Nat.reduceAdd,reduceIte,Nat.reduceMul,Int.ofNat_lt,hlt,ec,x1,x2,l3,l4,e4,e5,wAdd1 (show i<=1000000 by omega),wSub1 (show 1<=j by omega) (show j<=1000000 by omega),s_int,s_ptr,s_slice,s_bool,and'_eq,iff'_true]
  refine hN1 _ _ (j - 1+1 - (i+1)) (by omega) ⟨i+1,j - 1,_,by omega,by omega,by omega,by omega,rfl,a5,(hS.tr (PsB.no sc)).tr s5,permIn_trans _ _ _ _ _ hP (swp_permIn _ _ _ _ _ h1 (by omega) (by omega) h2 (by rw [hA'.sz];omega)),?_⟩
  simp only [SS,Nat.reduceBEq,Nat.reduceEqDiff,Nat.reduceAdd,reduceIte,Nat.reduceMul,t0,t6,t7,t32,and_self]
 ·simp only [F171,t0,t6,t7,t32,SS,Nat.reduceBEq,Nat.reduceEqDiff,Nat.reduceAdd,reduceIte,Nat.reduceMul,Int.ofNat_lt,hlt]
  refine hE _ _ _ (by simp) ?_
  simp only [SS,Nat.reduceBEq,Nat.reduceEqDiff,Nat.reduceAdd,reduceIte,Nat.reduceMul]
  exact hQ _ _ _ _ (.inl rfl) (by simp only [SS,Nat.reduceBEq,t32]) (by simp only [SS,Nat.reduceBEq,Nat.reduceEqDiff,Nat.reduceAdd,reduceIte,Nat.reduceMul];rfl) ⟨cur,hA',hP,hS⟩
end Go.Proofs.YtboobbebilegnaaGreat
namespace Go.Proofs.YtboobbebilegnaaGreat
open Go.Am Go.Sort
set_option maxRecDepth 10000
theorem wMul2 {x:Nat} (h:x<=400000):IntKind.i64.wrap (2*(x:Int))=((2*x:Nat):Int):=by rw [wrap_i64 (by omega) (by omega)];simp
theorem sift_end {hi F r:Nat} {d:Array El} (h:hi<=2*r+1):siftDown ltE hi F r d=d:=by rw [siftDown,dif_pos h]
theorem sift_two {hi F r:Nat} {d:Array El} (h:2*r+2<hi) (hl:ltE d[F+(2*r+1)]! d[F+(2*r+1)+1]! = true) :
  siftDown ltE hi F r d=if (!ltE d[F+r]! d[F+(2*r+2)]!)=true then d else siftDown ltE hi F (2*r+2) (swp d (F+r) (F+(2*r+2))):=by
 rw [siftDown,dif_neg (by omega),if_pos (by rw [hl,decide_eq_true (show 2*r+1+1<hi by omega)];rfl)]
 split
 ·rfl
 ·first | rfl | rw [dif_pos h]
theorem sift_one {hi F r:Nat} {d:Array El} (h:2*r+1<hi) (hl:¬(2*r+2<hi)∨ltE d[F+(2*r+1)]! d[F+(2*r+1)+1]! = false) :
  siftDown ltE hi F r d=if (!ltE d[F+r]! d[F+(2*r+1)]!)=true then d else siftDown ltE hi F (2*r+1) (swp d (F+r) (F+(2*r+1))):=by
 rw [siftDown,dif_neg (by omega),if_neg]
 intro hc
 rw [Bool.and_eq_true,decide_eq_true_eq] at hc
 rcases hl with h1 | h1
 ·omega
 ·rw [h1] at hc;exact absurd hc.2 (by simp)
theorem sift_ok {n:Nat} (hn:3<=n) {X:Px} (hN:X.N<=40000) {h:Heap} {D:Array El} (hA:X.At h D) {lo hi F:Nat} (hlo:lo<=40000) (hF:F+hi<=X.N) :
  WC (SC n (.fn 182) [X.sv,I lo,I hi,I F] h) fun r h'=>X.At h' (siftDown ltE hi F lo D)/\PsB X h h':=by
 obtain ⟨m,rfl⟩:∃ m,n=m+1:=⟨n - 1,by omega⟩
 refine call_fn _ f182A rfl (by simp [fn182]) fun QQ hQ=>?_
 simp only [fn182] at hQ
 simp only [fn182,fill_cons,fill_nil,Nat.zero_add,Nat.reduceAdd]
 simp only [F182,r182_19,SS,Nat.reduceBEq,Nat.reduceEqDiff,Nat.reduceAdd,reduceIte,Nat.reduceMul]
 refine run_loop (c:=c182_4) (I:=fun m' tm' h'=>∃ r cur,r<=40000/\m'=hi - r/\X.At h' cur/\PsB X h h'/\siftDown ltE hi F r cur=siftDown ltE hi F lo D/\tm'.gt 0=some X.sv/\tm'.gt 2=some (I hi)/\tm'.gt 3=some (I F)/\tm'.gt 8=some (I r)/\tm'.gt 76=none) (n:=hi - lo)
  ⟨lo,D,hlo,rfl,hA,Sm.refl _ _,rfl,by simp [gt_same,gt_other,gt_leaf]⟩ (by omega) ?_
 rintro _ tm h' ⟨r,cur,hr,rfl,hA',hS,hE0,t0,t2,t3,t8,t76⟩ Q1 hN1 hE
 have fin:∀ tm h2,X.At h2 cur->PsB X h h2->siftDown ltE hi F r cur=cur->tm.gt 76=none->∀ e,(e=.normal∨e=.ret)->QQ e tm h2:=fun tm h2 a1 a2 a3 a4 e he =>
  hQ _ _ _ _ he a4 rfl ⟨by rw [← hE0,a3];exact a1,a2⟩
 have go:∀ ch tm h2,r<ch->ch<hi->siftDown ltE hi F r cur=(if (!ltE cur[F+r]! cur[F+ch]!)=true then cur else siftDown ltE hi F ch (swp cur (F+r) (F+ch)))->X.At h2 cur->PsB X h h2 ->
   tm.gt 0=some X.sv->tm.gt 2=some (I hi)->tm.gt 3=some (I F)->tm.gt 8=some (I r)->tm.gt 9=some (I ch)->tm.gt 76=none->run (SC m) 100000 76 182 none c182_19 [.blk 1] tm h2 Q1:=by
  intro ch tm h2 hrc hch heq hA2 hS2 t0 t2 t3 t8 t9 t76
  obtain ⟨hb,eb,sb,_,_⟩:=Sm.bump h2 14
  have hAb:=hA2.sm sb
  have hSb:=hS2.tr (PsB.no sb)
  have l1:=hAb.ld (i:=F+r) (by omega)
  have l2:=hAb.ld (i:=F+ch) (by omega)
  have x1:=x_ia_51 (k:=.i64) (b:=X.b) (o:=0) (n:=X.N) (c:=X.cap) (g:=X.g) (show F+r<X.N by omega)
  have x2:=x_ia_51 (k:=.i64) (b:=X.b) (o:=0) (n:=X.N) (c:=X.cap) (g:=X.g) (show F+ch<X.N by omega)
  have e3:=less_ok (n:=m) (by omega) cur[F+r]! cur[F+ch]! hb
  have w1:=wAdd (show F+r<=1000000 by omega)
  have w2:=wAdd (show F+ch<=1000000 by omega)
  cases hl:ltE cur[F+r]! cur[F+ch]! with
  | false =>
   rw [hl] at e3
   simp only [F182,r182_19,t0,t2,t3,t8,t9,t76,SS,Nat.reduceBEq,Nat.reduceEqDiff,Nat.reduceAdd,reduceIte,Nat.reduceMul,eb,w1,w2,x1,x2,l1,l2,e3]
   refine hE _ _ _ (by simp) ?_
   simp only [SS,Nat.reduceBEq,Nat.reduceEqDiff,Nat.reduceAdd,reduceIte,Nat.reduceMul]
   exact fin _ _ hAb hSb (by rw [heq,hl];rfl) (by simp only [SS,Nat.reduceBEq,t76]) _ (.inr rfl)
  | true =>
   rw [hl] at e3
   obtain ⟨hc,ec,sc,_,_⟩:=Sm.bump hb 24
   have hAc:=hAb.sm sc
   obtain ⟨h4,h5,e4,e5,a5,s5⟩:=hAc.swap (i:=F+r) (j:=F+ch) (by omega) (by omega)
   have l3:=hAc.ld (i:=F+r) (by omega)
   have l4:=hAc.ld (i:=F+ch) (by omega)
   simp only [F182,r182_19,t0,t2,t3,t8,t9,t76,SS,Nat.reduceBEq,Nat.reduceEqDiff,Nat.reduceAdd,reduceIte,Nat.reduceMul,eb,w1,w2,x1,x2,l1,l2,e3,ec,l3,l4,e4,e5]
   refine hN1 _ _ (hi - ch) (by omega) ⟨ch,_,by omega,rfl,a5,(hSb.tr (PsB.no sc)).tr s5,?_,?_⟩
   ·rw [← hE0,heq,hl];rfl
   ·simp only [SS,Nat.reduceBEq,Nat.reduceEqDiff,Nat.reduceAdd,reduceIte,Nat.reduceMul,t0,t2,t3,t8,t9,t76,and_self]
 have w0:=wMul2 (show r<=400000 by omega)
 have w1:=wAdd1 (show 2*r<=1000000 by omega)
 by_cases c1:hi<=2*r+1
 ·have d1:(hi:Int)<=((2*r+1:Nat):Int):=by omega
  simp only [F182,r182_19,t0,t2,t3,t8,t76,SS,Nat.reduceBEq,Nat.reduceEqDiff,Nat.reduceAdd,reduceIte,Nat.reduceMul,w0,w1,d1]
  refine hE _ _ _ (by simp) ?_
  simp only [SS,Nat.reduceBEq,Nat.reduceEqDiff,Nat.reduceAdd,reduceIte,Nat.reduceMul]
  exact fin _ _ hA' hS (sift_end c1) (by simp only [SS,Nat.reduceBEq,t76]) _ (.inl rfl)
 ·have d1:¬(hi:Int)<=((2*r+1:Nat):Int):=by omega
  have w2:=wAdd1 (show 2*r+1<=1000000 by omega)
  obtain ⟨hb,eb,sb,_,_⟩:=Sm.bump h' 20
  have hAb:=hA'.sm sb
  have hSb:=hS.tr (PsB.no sb)
  by_cases c2:2*r+1+1<hi
  ·have d2:((2*r+1+1:Nat):Int)<(hi:Int):=by omega
   have l1:=hAb.ld (i:=F+(2*r+1)) (by omega)
   have l2:=hAb.ld (i:=F+(2*r+1)+1) (by omega)
   have x1:=x_ia_51 (k:=.i64) (b:=X.b) (o:=0) (n:=X.N) (c:=X.cap) (g:=X.g) (show F+(2*r+1)<X.N by omega)
   have x2:=x_ia_51 (k:=.i64) (b:=X.b) (o:=0) (n:=X.N) (c:=X.cap) (g:=X.g) (show F+(2*r+1)+1<X.N by omega)
   have e3:=less_ok (n:=m) (by omega) cur[F+(2*r+1)]! cur[F+(2*r+1)+1]! hb
   have w3:=wAdd (show F+(2*r+1)<=1000000 by omega)
   have w4:=wAdd1 (show F+(2*r+1)<=1000000 by omega)
   cases hl:ltE cur[F+(2*r+1)]! cur[F+(2*r+1)+1]! with
   | true =>
    rw [hl] at e3
    simp only [F182,t0,t2,t3,t8,t76,SS,Nat.reduceBEq,Nat.reduceEqDiff,Nat.reduceAdd,reduceIte,Nat.reduceMul,w0,w1,w2,d1,d2,eb,w3,w4,x1,x2,l1,l2,e3,w_undef,s_int,s_ptr,s_slice,s_bool,and'_eq,iff'_true]
    exact go (2*r+1+1) _ _ (by omega) c2 (sift_two c2 hl) hAb hSb (by simp only [SS,Nat.reduceBEq,t0]) (by simp only [SS,Nat.reduceBEq,t2]) (by simp only [SS,Nat.reduceBEq,t3]) (by simp only [SS,Nat.reduceBEq,t8]) (by simp only [SS,Nat.reduceBEq]) (by simp only [SS,Nat.reduceBEq,t76])
   | false =>
    rw [hl] at e3
    simp only [F182,t0,t2,t3,t8,t76,SS,Nat.reduceBEq,Nat.reduceEqDiff,Nat.reduceAdd,reduceIte,Nat.reduceMul,w0,w1,w2,d1,d2,eb,w3,w4,x1,x2,l1,l2,e3,w_undef,s_int,s_ptr,s_slice,s_bool,and'_eq,iff'_true]
    exact go (2*r+1) _ _ (by omega) (by omega) (sift_one (by omega) (.inr hl)) hAb hSb (by simp only [SS,Nat.reduceBEq,t0]) (by simp only [SS,Nat.reduceBEq,t2]) (by simp only [SS,Nat.reduceBEq,t3]) (by simp only [SS,Nat.reduceBEq,t8]) (by simp only [SS,Nat.reduceBEq]) (by simp only [SS,Nat.reduceBEq,t76])
  ·have d2:¬((2*r+1+1:Nat):Int)<(hi:Int):=by omega
   simp only [F182,t0,t2,t3,t8,t76,SS,Nat.reduceBEq,Nat.reduceEqDiff,Nat.reduceAdd,reduceIte,Nat.reduceMul,w0,w1,w2,d1,d2,eb,w_undef,s_int,s_ptr,s_slice,s_bool,and'_eq,iff'_true]
   exact go (2*r+1) _ _ (by omega) (by omega) (sift_one (by omega) (.inl (by omega))) hAb hSb (by simp only [SS,Nat.reduceBEq,t0]) (by simp only [SS,Nat.reduceBEq,t2]) (by simp only [SS,Nat.reduceBEq,t3]) (by simp only [SS,Nat.reduceBEq,t8]) (by simp only [SS,Nat.reduceBEq]) (by simp only [SS,Nat.reduceBEq,t76])
theorem quoI_nat {x y:Nat} (h:x<=1000000):quoI .i64 (x:Int) ((y+1:Nat):Int)=some (I (x / (y+1))):=by
 have h1:x / (y+1)<=x:=Nat.div_le_self _ _
 show fit .i64 (x / (y+1))=_
 unfold fit
 rw [show Nat.ble (x / (y+1)) (maxK .i64)=true from Nat.ble_eq_true_of_le (show x / (y+1)<=9223372036854775807 by omega)]
 rfl
theorem q_nat {t x y:Nat} (h:x<=1000000):bin2 P .quo t (.int .i64 (x:Int)) (.int .i64 ((y+1:Nat):Int))=some (I (x / (y+1))):=by
 show kEq .i64 .i64 (quoI .i64 (x:Int) ((y+1:Nat):Int))=_
 rw [kEq_same,quoI_nat h]
theorem q2 {t x:Nat} (h:x<=1000000):bin2 P .quo t (.int .i64 (x:Int)) (.int .i64 2)=some (I (x / 2)):=q_nat (y:=1) h
theorem q4 {t x:Nat} (h:x<=1000000):bin2 P .quo t (.int .i64 (x:Int)) (.int .i64 4)=some (I (x / 4)):=q_nat (y:=3) h
theorem q8 {t x:Nat} (h:x<=1000000):bin2 P .quo t (.int .i64 (x:Int)) (.int .i64 8)=some (I (x / 8)):=q_nat (y:=7) h
theorem wDn {x:Nat} (h:x<=1000000):IntKind.i64.wrap ((x:Int) - 1)=(x:Int) - 1:=wrap_i64 (by omega) (by omega)
theorem dn_succ (k:Nat):((k+1:Nat):Int) - 1=(k:Int):=by omega
theorem heap_ok {n:Nat} (hn:4<=n) {X:Px} (hN:X.N<=40000) {h:Heap} {D:Array El} (hA:X.At h D) {a e:Nat} (hae:a<e) (he:e<=X.N) :
  WC (SC n (.fn 168) [X.sv,I a,I e] h) fun r h'=>X.At h' (heapSort ltE D a e)/\PsB X h h':=by
 obtain ⟨m,rfl⟩:∃ m,n=m+1:=⟨n - 1,by omega⟩
 refine call_fn _ f168A rfl (by simp [fn168]) fun QQ hQ=>?_
 simp only [fn168] at hQ
 simp only [fn168,fill_cons,fill_nil,Nat.zero_add,Nat.reduceAdd]
 have w0:=wSub (show a<=e by omega) (show e<=1000000 by omega)
 have w1:=wSub1 (show 1<=e - a by omega) (show e - a<=1000000 by omega)
 simp only [F168,SS,Nat.reduceBEq,Nat.reduceEqDiff,Nat.reduceAdd,reduceIte,Nat.reduceMul,w0,w1,q2 (show e - a - 1<=1000000 by omega)]
 refine run_loop (c:=c168_11) (I:=fun m' tm' h'=>∃ k cur,k<=40000/\m'=k/\X.At h' cur/\PsB X h h'/\heapBuild ltE (e - a) a k cur=heapBuild ltE (e - a) a ((e - a - 1) / 2+1) D/\tm'.gt 0=some X.sv/\tm'.gt 6=some (I a)/\tm'.gt 7=some (I 0)/\tm'.gt 8=some (I (e - a))/\tm'.gt 9=some (.int .i64 ((k:Int) - 1))/\tm'.gt 56=none) (n:=(e - a - 1) / 2+1)
  ⟨(e - a - 1) / 2+1,D,by omega,rfl,hA,Sm.refl _ _,rfl,by simp only [SS,Nat.reduceBEq],by simp only [SS,Nat.reduceBEq],by simp only [SS,Nat.reduceBEq,Nat.reduceEqDiff,Nat.reduceAdd,reduceIte,Nat.reduceMul];rfl,by simp only [SS,Nat.reduceBEq],by simp only [SS,Nat.reduceBEq,Nat.reduceEqDiff,Nat.reduceAdd,reduceIte,Nat.reduceMul,dn_succ],by simp only [SS,Nat.reduceBEq]⟩ (by omega) ?_
 rintro k tm h' ⟨_,cur,hk,rfl,hA',hS,hE0,t0,t6,t7,t8,t9,t56⟩ Q1 hN1 hE
 cases k with
 | succ k =>
  rw [dn_succ] at t9
  have d1:(0:Int)<=(k:Int):=by omega
  obtain ⟨r1,h1,e1,a1,s1⟩:=sift_ok (n:=m) (by omega) hN hA' (lo:=k) (hi:=e - a) (F:=a) (by omega) (by omega)
  simp only [F168,t0,t6,t7,t8,t9,t56,SS,Nat.reduceBEq,Nat.reduceEqDiff,Nat.reduceAdd,reduceIte,Nat.reduceMul,d1,e1,wDn (show k<=1000000 by omega)]
  refine hN1 _ _ k (by omega) ⟨k,_,by omega,rfl,a1,hS.tr s1,hE0,?_⟩
  simp only [SS,Nat.reduceBEq,Nat.reduceEqDiff,Nat.reduceAdd,reduceIte,Nat.reduceMul,t0,t6,t7,t8,t9,t56,and_self]
 | zero =>
  have d1:¬(0:Int)<=((0:Nat):Int) - 1:=by decide
  simp only [F168,t0,t6,t7,t8,t9,t56,SS,Nat.reduceBEq,Nat.reduceEqDiff,Nat.reduceAdd,reduceIte,Nat.reduceMul,d1]
  refine hE _ _ _ (by simp) ?_
  simp only [F168,t0,t6,t7,t8,t9,t56,SS,Nat.reduceBEq,Nat.reduceEqDiff,Nat.reduceAdd,reduceIte,Nat.reduceMul,wDn (show e - a<=1000000 by omega)]
  have hE1:cur=heapBuild ltE (e - a) a ((e - a - 1) / 2+1) D:=hE0
  refine run_loop (c:=c168_25) (I:=fun m' tm' h2=>∃ k cur2,k<=e - a/\m'=k/\X.At h2 cur2/\PsB X h h2/\heapPop ltE a k cur2=heapSort ltE D a e/\tm'.gt 0=some X.sv/\tm'.gt 6=some (I a)/\tm'.gt 7=some (I 0)/\tm'.gt 10=some (.int .i64 ((k:Int) - 1))/\tm'.gt 56=none) (n:=e - a)
   ⟨e - a,cur,by omega,rfl,hA',hS,by rw [hE1];rfl,by simp only [SS,Nat.reduceBEq,Nat.reduceEqDiff,Nat.reduceAdd,reduceIte,Nat.reduceMul,t0,t6,t7,t56,and_self]⟩ (by omega) ?_
  rintro k tm h2 ⟨_,cur2,hk,rfl,hA2,hS2,hE2,t0,t6,t7,t10,t56⟩ Q2 hN2 hEE
  cases k with
  | succ k =>
   rw [dn_succ] at t10
   have d1:(0:Int)<=(k:Int):=by omega
   obtain ⟨hc,ec,sc,_,_⟩:=Sm.bump h2 20
   have hAc:=hA2.sm sc
   obtain ⟨h4,h5,e4,e5,a5,s5⟩:=hAc.swap (i:=a) (j:=a+k) (by omega) (by omega)
   have l3:=hAc.ld (i:=a) (by omega)
   have l4:=hAc.ld (i:=a+k) (by omega)
   have x1:=x_ia_51 (k:=.i64) (b:=X.b) (o:=0) (n:=X.N) (c:=X.cap) (g:=X.g) (show a<X.N by omega)
   have x2:=x_ia_51 (k:=.i64) (b:=X.b) (o:=0) (n:=X.N) (c:=X.cap) (g:=X.g) (show a+k<X.N by omega)
   obtain ⟨r1,h6,e6,a6,s6⟩:=sift_ok (n:=m) (by omega) hN a5 (lo:=0) (hi:=k) (F:=a) (by omega) (by omega)
   simp only [F168,t0,t6,t7,t10,t56,SS,Nat.reduceBEq,Nat.reduceEqDiff,Nat.reduceAdd,reduceIte,Nat.reduceMul,d1,ec,wAdd (show a+k<=1000000 by omega),x1,x2,l3,l4,e4,e5,e6,s_int,s_ptr,s_slice,s_bool,and'_eq,iff'_true,wDn (show k<=1000000 by omega)]
   refine hN2 _ _ k (by omega) ⟨k,_,by omega,rfl,a6,((hS2.tr (PsB.no sc)).tr s5).tr s6,hE2,?_⟩
   simp only [SS,Nat.reduceBEq,Nat.reduceEqDiff,Nat.reduceAdd,reduceIte,Nat.reduceMul,t0,t6,t7,t10,t56,and_self]
  | zero =>
   have d1:¬(0:Int)<=((0:Nat):Int) - 1:=by decide
   simp only [F168,t0,t6,t7,t10,t56,SS,Nat.reduceBEq,Nat.reduceEqDiff,Nat.reduceAdd,reduceIte,Nat.reduceMul,d1]
   refine hEE _ _ _ (by simp) ?_
   simp only [SS,Nat.reduceBEq,Nat.reduceEqDiff,Nat.reduceAdd,reduceIte,Nat.reduceMul]
   exact hQ _ _ _ _ (.inl rfl) (by simp only [SS,Nat.reduceBEq,t56]) (by simp only [SS,Nat.reduceBEq,Nat.reduceEqDiff,Nat.reduceAdd,reduceIte,Nat.reduceMul];rfl) ⟨by rw [← hE2];exact hA2,hS2⟩
end Go.Proofs.YtboobbebilegnaaGreat
namespace Go.Proofs.YtboobbebilegnaaGreat
open Go.Am Go.Sort
set_option maxRecDepth 10000
structure SwAt (X:Px) (s:Nat) (h:Heap) (D:Array El):Prop where
 at':X.At h D
 ct:∃ c z,Rw h s [.int .i64 c] z false
 lt:s<h.next
 ne:s≠X.b
abbrev SmS (s:Nat) (h h':Heap):Prop:=Sm (·= s) h h'
theorem SmS.tr {s:Nat} {h h' h'':Heap} (a:SmS s h h') (b:SmS s h' h''):SmS s h h'':=a.trans b (fun _ _ h=>h) (fun _ _ h=>h)
theorem SwAt.no {X:Px} {s:Nat} {h h':Heap} {D:Array El} (hA:SwAt X s h D) (hs:Sm NoB h h'):SwAt X s h' D:=by
 obtain ⟨c,z,hc⟩:=hA.ct
 exact ⟨hA.at'.sm hs,⟨c,z,hc.sm hs hA.lt (fun h=>h)⟩,Nat.lt_of_lt_of_le hA.lt hs.1,hA.ne⟩
theorem ord_ok {n:Nat} (hn:3<=n) {X:Px} (hN:X.N<=40000) {h:Heap} {D:Array El} {s:Nat} (hA:SwAt X s h D) {a b:Nat} (ha:a<X.N) (hb:b<X.N) :
  WC (SC n (.fn 188) [X.sv,I a,I b,.ptr (some (s,0))] h) fun r h'=>∃ x y,r=.tuple [I x,I y]/\((x=a/\y=b)∨(x=b/\y=a))/\SwAt X s h' D/\SmS s h h':=by
 obtain ⟨m,rfl⟩:∃ m,n=m+1:=⟨n - 1,by omega⟩
 refine call_fn _ f188A rfl (by simp [fn188]) fun QQ hQ=>?_
 simp only [fn188] at hQ
 simp only [fn188,fill_cons,fill_nil,Nat.zero_add,Nat.reduceAdd]
 obtain ⟨h1,eb,sb,_,_⟩:=Sm.bump h 9
 have hA1:=hA.no sb
 have l1:=hA1.at'.ld (i:=a) (by omega)
 have l2:=hA1.at'.ld (i:=b) (by omega)
 have x1:=x_ia_51 (k:=.i64) (b:=X.b) (o:=0) (n:=X.N) (c:=X.cap) (g:=X.g) ha
 have x2:=x_ia_51 (k:=.i64) (b:=X.b) (o:=0) (n:=X.N) (c:=X.cap) (g:=X.g) hb
 have e3:=less_ok (n:=m) (by omega) D[b]! D[a]! h1
 cases hl:ltE D[b]! D[a]! with
 | true =>
  rw [hl] at e3
  obtain ⟨c,z,hc⟩:=hA1.ct
  have lc:=hc.ld1 0
  rw [List.getElem?_cons_zero] at lc
  obtain ⟨w1,w2,w3,w4⟩:=hc.st1 (o:=0) (v:=.int .i64 (IntKind.i64.wrap (c+1))) (by simp) rfl
  rw [show ([AV.int .i64 c]:List AV).set 0 (.int .i64 (IntKind.i64.wrap (c+1)))=[.int .i64 (IntKind.i64.wrap (c+1))] from rfl] at w2
  generalize h1.wr s 0 [.int .i64 (IntKind.i64.wrap (c+1))]=h2 at w1 w2 w3 w4
  simp only [F188,SS,Nat.reduceBEq,Nat.reduceEqDiff,Nat.reduceAdd,reduceIte,Nat.reduceMul,eb,x1,x2,l1,l2,e3,lc,w1,w_undef,s_int,s_ptr,s_slice,s_bool,and'_eq,iff'_true]
  refine hQ _ _ _ _ (.inr rfl) (by simp only [SS,Nat.reduceBEq]) (by simp only [SS,Nat.reduceBEq,Nat.reduceEqDiff,Nat.reduceAdd,reduceIte,Nat.reduceMul];rfl) ?_
  have s2:SmS s h1 h2:=⟨by omega,fun c _ hc=>w4 c hc⟩
  exact ⟨b,a,rfl,.inr ⟨rfl,rfl⟩,⟨⟨hA1.at'.sz,hA1.at'.rw.sm s2 hA1.at'.lt (fun e=>hA.ne e.symm),Nat.lt_of_lt_of_le hA1.at'.lt s2.1⟩,⟨_,_,w2⟩,Nat.lt_of_lt_of_le hA1.lt s2.1,hA.ne⟩,(sb.no (F:=(·= s))).trans s2 (fun _ _ h=>h) (fun _ _ h=>h)⟩
 | false =>
  rw [hl] at e3
  simp only [F188,SS,Nat.reduceBEq,Nat.reduceEqDiff,Nat.reduceAdd,reduceIte,Nat.reduceMul,eb,x1,x2,l1,l2,e3,w_undef,s_int,s_ptr,s_slice,s_bool,and'_eq,iff'_true]
  refine hQ _ _ _ _ (.inr rfl) (by simp only [SS,Nat.reduceBEq]) (by simp only [SS,Nat.reduceBEq,Nat.reduceEqDiff,Nat.reduceAdd,reduceIte,Nat.reduceMul];rfl) ?_
  exact ⟨a,b,rfl,.inl ⟨rfl,rfl⟩,hA1,sb.no (F:=(·= s))⟩
theorem med_ok {n:Nat} (hn:4<=n) {X:Px} (hN:X.N<=40000) {h:Heap} {D:Array El} {s:Nat} (hA:SwAt X s h D) {a b c:Nat} (ha:a<X.N) (hb:b<X.N) (hc:c<X.N) :
  WC (SC n (.fn 186) [X.sv,I a,I b,I c,.ptr (some (s,0))] h) fun r h'=>∃ x,r=I x/\(∀ lo hi,lo<=a->lo<=b->lo<=c->a<hi->b<hi->c<hi->lo<=x/\x<hi)/\SwAt X s h' D/\SmS s h h':=by
 obtain ⟨m,rfl⟩:∃ m,n=m+1:=⟨n - 1,by omega⟩
 refine call_fn _ f186A rfl (by simp [fn186]) fun QQ hQ=>?_
 simp only [fn186] at hQ
 simp only [fn186,fill_cons,fill_nil,Nat.zero_add,Nat.reduceAdd]
 obtain ⟨_,h1,e1,a1,b1,rfl,c1,A1,s1⟩:=ord_ok (n:=m) (by omega) hN hA ha hb
 have ha1:a1<X.N:=by omega
 have hb1:b1<X.N:=by omega
 obtain ⟨_,h2,e2,b2,c2',rfl,c2,A2,s2⟩:=ord_ok (n:=m) (by omega) hN A1 hb1 hc
 have hb2:b2<X.N:=by omega
 obtain ⟨_,h3,e3,a3,b3,rfl,c3,A3,s3⟩:=ord_ok (n:=m) (by omega) hN A2 ha1 hb2
 simp only [F186,SS,Nat.reduceBEq,Nat.reduceEqDiff,Nat.reduceAdd,reduceIte,Nat.reduceMul,e1,e2,e3]
 refine hQ _ _ _ _ (.inr rfl) (by simp only [SS,Nat.reduceBEq]) (by simp only [SS,Nat.reduceBEq,Nat.reduceEqDiff,Nat.reduceAdd,reduceIte,Nat.reduceMul];rfl) ?_
 exact ⟨b3,rfl,fun lo hi g1 g2 g3 g4 g5 g6=>by omega,A3,(s1.tr s2).tr s3⟩
theorem adj_ok {n:Nat} (hn:5<=n) {X:Px} (hN:X.N<=40000) {h:Heap} {D:Array El} {s:Nat} (hA:SwAt X s h D) {a:Nat} (ha:1<=a) (ha':a+1<X.N) :
  WC (SC n (.fn 185) [X.sv,I a,.ptr (some (s,0))] h) fun r h'=>∃ x,r=I x/\(a - 1<=x/\x<a+2)/\SwAt X s h' D/\SmS s h h':=by
 obtain ⟨m,rfl⟩:∃ m,n=m+1:=⟨n - 1,by omega⟩
 refine call_fn _ f185A rfl (by simp [fn185]) fun QQ hQ=>?_
 simp only [fn185] at hQ
 simp only [fn185,fill_cons,fill_nil,Nat.zero_add,Nat.reduceAdd]
 obtain ⟨_,h1,e1,x,rfl,c1,A1,s1⟩:=med_ok (n:=m) (by omega) hN hA (a:=a - 1) (b:=a) (c:=a+1) (by omega) (by omega) (by omega)
 simp only [F185,SS,Nat.reduceBEq,Nat.reduceEqDiff,Nat.reduceAdd,reduceIte,Nat.reduceMul,wSub1 ha (show a<=1000000 by omega),wAdd1 (show a<=1000000 by omega),e1]
 refine hQ _ _ _ _ (.inr rfl) (by simp only [SS,Nat.reduceBEq]) (by simp only [SS,Nat.reduceBEq,Nat.reduceEqDiff,Nat.reduceAdd,reduceIte,Nat.reduceMul];rfl) ?_
 exact ⟨x,rfl,c1 (a - 1) (a+2) (by omega) (by omega) (by omega) (by omega) (by omega) (by omega),A1,s1⟩
theorem wMul1 {x:Nat} (h:x<=400000):IntKind.i64.wrap ((x:Int)*1)=(x:Int):=by rw [wrap_i64 (by omega) (by omega)];omega
theorem wMulR2 {x:Nat} (h:x<=400000):IntKind.i64.wrap ((x:Int)*2)=((x*2:Nat):Int):=by rw [wrap_i64 (by omega) (by omega)];simp
theorem wMulR3 {x:Nat} (h:x<=300000):IntKind.i64.wrap ((x:Int)*3)=((x*3:Nat):Int):=by rw [wrap_i64 (by omega) (by omega)];simp
theorem pivot_ok {n:Nat} (hn:6<=n) {X:Px} (hN:X.N<=40000) {h:Heap} {D:Array El} (hA:X.At h D) {a e:Nat} (hae:a+12<e) (he:e<=X.N) :
  WC (SC n (.fn 170) [X.sv,I a,I e] h) fun r h'=>∃ p hint,r=.tuple [I p,.int .i64 hint]/\a<=p/\p<e/\X.At h' D/\Sm NoB h h':=by
 obtain ⟨m,rfl⟩:∃ m,n=m+1:=⟨n - 1,by omega⟩
 refine call_fn _ f170A rfl (by simp [fn170]) fun QQ hQ=>?_
 simp only [fn170] at hQ
 simp only [fn170,fill_cons,fill_nil,Nat.zero_add,Nat.reduceAdd]
 have w0:=wSub (show a<=e by omega) (show e<=1000000 by omega)
 obtain ⟨h1,e1,r1,n1,g1⟩:=Rw.alloc h (id:=h.next) (n:=1) (vs:=[.int .i64 0]) (z:=tyMark 3 true) (ro:=false) (Nat.le_refl _) rfl
 have s1:Sm NoB h h1:=⟨by omega,fun c hc _=>g1 c (by omega)⟩
 have hne:h.next≠X.b:=by have:=hA.lt;omega
 have A1:SwAt X h.next h1 D:=⟨hA.sm s1,⟨_,_,r1⟩,by omega,hne⟩
 obtain ⟨qd,hqd⟩:∃ qd,(e - a) / 4=qd:=⟨_,rfl⟩
 have d4:qd*4<=e - a/\e - a<qd*4+4:=by omega
 have q4':bin2 P .quo 3 (I (e - a)) (.int .i64 4)=some (I qd):=by rw [← hqd];exact q4 (show e - a<=1000000 by omega)
 clear hqd
 have d8:(8:Int)<=((e - a:Nat):Int):=by omega
 have w1:=wAdd (show a+qd<=1000000 by omega)
 have w2:=wAdd (show a+qd*2<=1000000 by omega)
 have w3:=wAdd (show a+qd*3<=1000000 by omega)
 have out:∀ {h':Heap},SmS h.next h1 h'->Sm NoB h h':=fun {h'} s=>⟨Nat.le_trans s1.1 s.1,fun c hc _=>by rw [s.2 c (by omega) (by omega),s1.2 c hc (fun h=>h)]⟩
 
 have fin:∀ tm p h2,SwAt X h.next h2 D->SmS h.next h1 h2->a<=p->p<e->tm.gt 9=some (.ptr (some (h.next,0)))->tm.gt 11=some (I p)->tm.gt 57=none->run (SC m) 100000 57 170 none c170_28 [] tm h2 QQ:=by
  intro tm p h2 A2 s2 hp1 hp2 t9 t11 t57
  obtain ⟨c,z,hc⟩:=A2.ct
  have lc:=hc.ld1 0
  rw [List.getElem?_cons_zero] at lc
  by_cases c0:c=0
  ·simp only [F170,r170_28,SS,Nat.reduceBEq,Nat.reduceEqDiff,Nat.reduceAdd,reduceIte,Nat.reduceMul,t9,t11,t57,lc,c0]
   refine hQ _ _ _ _ (.inr rfl) (by simp only [SS,Nat.reduceBEq,t57]) (by simp only [SS,Nat.reduceBEq,Nat.reduceEqDiff,Nat.reduceAdd,reduceIte,Nat.reduceMul];rfl) ?_
   exact ⟨p,1,rfl,hp1,hp2,A2.at',out s2⟩
  ·by_cases c12:c=12
   ·simp only [F170,r170_28,SS,Nat.reduceBEq,Nat.reduceEqDiff,Nat.reduceAdd,reduceIte,Nat.reduceMul,t9,t11,t57,lc,c0,c12]
    refine hQ _ _ _ _ (.inr rfl) (by simp only [SS,Nat.reduceBEq,t57]) (by simp only [SS,Nat.reduceBEq,Nat.reduceEqDiff,Nat.reduceAdd,reduceIte,Nat.reduceMul];rfl) ?_
    exact ⟨p,2,rfl,hp1,hp2,A2.at',out s2⟩
   ·simp only [F170,r170_28,SS,Nat.reduceBEq,Nat.reduceEqDiff,Nat.reduceAdd,reduceIte,Nat.reduceMul,t9,t11,t57,lc,c0,c12]
    refine hQ _ _ _ _ (.inr rfl) (by simp only [SS,Nat.reduceBEq,t57]) (by simp only [SS,Nat.reduceBEq,Nat.reduceEqDiff,Nat.reduceAdd,reduceIte,Nat.reduceMul];rfl) ?_
    exact ⟨p,0,rfl,hp1,hp2,A2.at',out s2⟩
 by_cases c50:50<=e - a
 ·have d50:(50:Int)<=((e - a:Nat):Int):=by omega
  obtain ⟨_,h2,e2,i2,rfl,k2,A2,s2⟩:=adj_ok (n:=m) (by omega) hN A1 (a:=a+qd) (by omega) (by omega)
  obtain ⟨_,h3,e3,i3,rfl,k3,A3,s3⟩:=adj_ok (n:=m) (by omega) hN A2 (a:=a+qd*2) (by omega) (by omega)
  obtain ⟨_,h4,e4,i4,rfl,k4,A4,s4⟩:=adj_ok (n:=m) (by omega) hN A3 (a:=a+qd*3) (by omega) (by omega)
  obtain ⟨_,h5,e5,p,rfl,k5,A5,s5⟩:=med_ok (n:=m) (by omega) hN A4 (a:=i2) (b:=i3) (c:=i4) (by omega) (by omega) (by omega)
  simp only [F170,SS,Nat.reduceBEq,Nat.reduceEqDiff,Nat.reduceAdd,reduceIte,Nat.reduceMul,w0,x_al_3,e1,q4',wMul1 (show qd<=400000 by omega),wMulR2 (show qd<=400000 by omega),wMulR3 (show qd<=300000 by omega),w1,w2,w3,d8,d50,e2,e3,e4,e5]
  obtain ⟨p1,p2⟩:=k5 a e (by omega) (by omega) (by omega) (by omega) (by omega) (by omega)
  exact fin _ p h5 A5 (((s2.tr s3).tr s4).tr s5) p1 p2 (by simp only [SS,Nat.reduceBEq]) (by simp only [SS,Nat.reduceBEq]) (by simp only [SS,Nat.reduceBEq])
 ·have d50:¬(50:Int)<=((e - a:Nat):Int):=by omega
  obtain ⟨_,h5,e5,p,rfl,k5,A5,s5⟩:=med_ok (n:=m) (by omega) hN A1 (a:=a+qd) (b:=a+qd*2) (c:=a+qd*3) (by omega) (by omega) (by omega)
  simp only [F170,SS,Nat.reduceBEq,Nat.reduceEqDiff,Nat.reduceAdd,reduceIte,Nat.reduceMul,w0,x_al_3,e1,q4',wMul1 (show qd<=400000 by omega),wMulR2 (show qd<=400000 by omega),wMulR3 (show qd<=300000 by omega),w1,w2,w3,d8,d50,e5]
  obtain ⟨p1,p2⟩:=k5 a e (by omega) (by omega) (by omega) (by omega) (by omega) (by omega)
  exact fin _ p h5 A5 s5 p1 p2 (by simp only [SS,Nat.reduceBEq]) (by simp only [SS,Nat.reduceBEq]) (by simp only [SS,Nat.reduceBEq])
end Go.Proofs.YtboobbebilegnaaGreat
namespace Go.Proofs.YtboobbebilegnaaGreat
open Go.Am Go.Sort
set_option maxRecDepth 10000
def U64 (v:Int):Prop:=0<=v/\v<=18446744073709551615
theorem u64_wrap (n:Int):U64 (IntKind.u64.wrap n):=by
 have h:IntKind.u64.wrap n=n%18446744073709551616:=by
  show (n%(2^64:Nat):Int)=_
  rfl
 rw [h]
 unfold U64;omega
theorem fit_u (n:Nat):∃ v,fit .u64 n=some (.int .u64 v)/\U64 v:=by
 unfold fit
 cases h:Nat.ble n (maxK .u64) with
 | true=>exact ⟨(n:Int),rfl,by have:n<=18446744073709551615:=Nat.le_of_ble_eq_true h;unfold U64;omega⟩
 | false=>exact ⟨_,rfl,u64_wrap _⟩
theorem bit_u (g:Nat->Nat->Nat) (slow:IntKind->Int->Int->Option AV) {a b:Int} (ha:U64 a) (hb:U64 b):∃ v,bitI g slow .u64 a b=some (.int .u64 v)/\U64 v:=by
 obtain ⟨x,rfl⟩:=Int.eq_ofNat_of_zero_le ha.1
 obtain ⟨y,rfl⟩:=Int.eq_ofNat_of_zero_le hb.1
 have h1:Nat.ble x (maxK .u64)=true:=Nat.ble_eq_true_of_le (show x<=18446744073709551615 by have:=ha.2;omega)
 have h2:Nat.ble y (maxK .u64)=true:=Nat.ble_eq_true_of_le (show y<=18446744073709551615 by have:=hb.2;omega)
 obtain ⟨v,e,hv⟩:=fit_u (g x y)
 refine ⟨v,?_,hv⟩
 rw [← e]
 show (Bool.rec (motive:=fun _=>Option AV) (slow .u64 x y) (Bool.rec (motive:=fun _=>Option AV) (slow .u64 x y) (fit .u64 (g x y)) (Nat.ble y (maxK .u64))) (Nat.ble x (maxK .u64)):Option AV)=_
 rw [h1,h2]
theorem xor_u {t:Nat} {a b:Int} (ha:U64 a) (hb:U64 b):∃ v,bin2 P .xor t (.int .u64 a) (.int .u64 b)=some (.int .u64 v)/\U64 v:=by
 obtain ⟨v,e,hv⟩:=bit_u Nat.xor xorS ha hb
 exact ⟨v,by show kEq .u64 .u64 (bitI Nat.xor xorS .u64 a b)=_;rw [kEq_same,e],hv⟩
theorem and_u {t:Nat} {a:Int} {y:Nat} (ha:U64 a) (hy:y<=1000000):∃ v:Nat,bin2 P .and t (.int .u64 a) (.int .u64 (y:Int))=some (.int .u64 (v:Int))/\v<=y:=by
 obtain ⟨x,rfl⟩:=Int.eq_ofNat_of_zero_le ha.1
 have h1:Nat.ble x (maxK .u64)=true:=Nat.ble_eq_true_of_le (show x<=18446744073709551615 by have:=ha.2;omega)
 have h2:Nat.ble y (maxK .u64)=true:=Nat.ble_eq_true_of_le (show y<=18446744073709551615 by omega)
 have h3:Nat.land x y<=y:=Nat.and_le_right
 refine ⟨Nat.land x y,?_,h3⟩
 show kEq .u64 .u64 (bitI Nat.land andS .u64 (x:Int) (y:Int))=_
 rw [kEq_same]
 show (Bool.rec (motive:=fun _=>Option AV) (andS .u64 x y) (Bool.rec (motive:=fun _=>Option AV) (andS .u64 x y) (fit .u64 (Nat.land x y)) (Nat.ble y (maxK .u64))) (Nat.ble x (maxK .u64)):Option AV)=_
 rw [h1,h2]
 show fit .u64 (Nat.land x y)=_
 unfold fit
 rw [show Nat.ble (Nat.land x y) (maxK .u64)=true from Nat.ble_eq_true_of_le (show Nat.land x y<=18446744073709551615 by omega)]
 rfl
theorem shl_u {t:Nat} {a:Int} {k:IntKind} {b:Int} (hb:0<=b):∃ v,bin2 P .shl t (.int .u64 a) (.int k b)=some (.int .u64 v)/\U64 v:=by
 refine ⟨_,?_,u64_wrap (a*2^min b.toNat IntKind.u64.bits)⟩
 show shlS .u64 a b=_
 unfold shlS
 rw [if_neg (by omega)];rfl
theorem shl_n {t:Nat} {a:Int} {L:Nat} (hL:L<=17):bin2 P .shl t (.int .u64 a) (.int .i64 (L:Int))=some (.int .u64 (IntKind.u64.wrap (a*2^L))):=by
 show shlS .u64 a (L:Int)=_
 unfold shlS
 rw [if_neg (by omega)]
 show wrapV .u64 _=_
 rw [show min ((L:Int)).toNat IntKind.u64.bits=L from by show min ((L:Int)).toNat 64=L;omega];rfl
theorem shr_u {t:Nat} {a:Int} {b:Nat} (ha:U64 a):∃ v,bin2 P .shr t (.int .u64 a) (.int .u64 (b:Int))=some (.int .u64 v)/\U64 v:=by
 obtain ⟨x,rfl⟩:=Int.eq_ofNat_of_zero_le ha.1
 have h2:((x:Int)).fdiv (2^min ((b:Int)).toNat IntKind.u64.bits)=((x / 2^min b 64:Nat):Int):=by
  rw [Int.fdiv_eq_ediv_of_nonneg]
  ·show (x:Int) / (2^min ((b:Int)).toNat 64)=_
   rw [Int.toNat_natCast];norm_cast
  ·exact Int.pow_nonneg (by decide)
 refine ⟨((x / 2^min b 64:Nat):Int),?_,?_⟩
 ·show shrS .u64 (x:Int) (b:Int)=_
  unfold shrS
  rw [if_neg (by omega),h2]
 ·have h3:=Nat.div_le_self x (2^min b 64)
  have h4:=ha.2
  generalize x / 2^min b 64=y at h3 ⊢
  unfold U64;omega
theorem shr8 {t:Nat} {x:Nat}:bin2 P .shr t (.int .u64 (x:Int)) (.int .u64 8)=some (.int .u64 ((x / 256:Nat):Int)):=by
 show shrS .u64 (x:Int) 8=_
 unfold shrS
 rw [if_neg (by decide)]
 have:((x:Int)).fdiv (2^min ((8:Int)).toNat IntKind.u64.bits)=((x / 256:Nat):Int):=by
  rw [Int.fdiv_eq_ediv_of_nonneg]
  ·show (x:Int) / (2^8)=_
   norm_cast
  ·exact Int.pow_nonneg (by decide)
 rw [this]
def tab8:List Nat:=[0,1,2,2,3,3,3,3,4,4,4,4,4,4,4,4,5,5,5,5,5,5,5,5,5,5,5,5,5,5,5,5,6,6,6,6,6,6,6,6,6,6,6,6,6,6,6,6,6,6,6,6,6,6,6,6,6,6,6,6,6,6,6,6,7,7,7,7,7,7,7,7,7,7,7,7,7,7,7,7,7,7,7,7,7,7,7,7,7,7,7,7,7,7,7,7,7,7,7,7,7,7,7,7,7,7,7,7,7,7,7,7,7,7,7,7,7,7,7,7,7,7,7,7,7,7,7,7,8,8,8,8,8,8,8,8,8,8,8,8,8,8,8,8,8,8,8,8,8,8,8,8,8,8,8,8,8,8,8,8,8,8,8,8,8,8,8,8,8,8,8,8,8,8,8,8,8,8,8,8,8,8,8,8,8,8,8,8,8,8,8,8,8,8,8,8,8,8,8,8,8,8,8,8,8,8,8,8,8,8,8,8,8,8,8,8,8,8,8,8,8,8,8,8,8,8,8,8,8,8,8,8,8,8,8,8,8,8,8,8,8,8,8,8,8,8,8,8,8,8,8,8,8,8,8,8]
theorem tab8_ok:∀ y,y<256->∃ L,tab8[y]?=some L/\L<=8/\(1<=y->2^L<=2*y):=by
 have h:∀ y:Fin 256,∃ L,L<9/\tab8[y.val]?=some L/\(1<=y.val->2^L<=2*y.val):=by decide +kernel
 intro y hy
 obtain ⟨L,h1,h2,h3⟩:=h ⟨y,hy⟩
 exact ⟨L,h2,by omega,h3⟩
theorem wU8 {x:Nat} (h:x<256):IntKind.u8.wrap (x:Int)=(x:Int):=wrap_u8 (by omega) (by omega)
theorem wI' {x:Nat} (h:x<=1000000):IntKind.i64.wrap (x:Int)=(x:Int):=wrap_i64 (by omega) (by omega)
theorem len64_ok {n:Nat} (hn:1<=n) {x:Nat} (hx:x<=65535) (h:Heap):WC (SC n (.fn 177) [.int .u64 (x:Int)] h) fun r h'=>h'=h/\∃ L,r=I L/\L<=16/\(1<=x->2^L<=2*x):=by
 obtain ⟨m,rfl⟩:∃ m,n=m+1:=⟨n - 1,by omega⟩
 refine call_fn _ f177A rfl (by simp [fn177]) fun QQ hQ=>?_
 simp only [fn177] at hQ
 simp only [fn177,fill_cons,fill_nil,Nat.zero_add,Nat.reduceAdd]
 have c1:¬(4294967296:Int)<=(x:Int):=by omega
 have c2:¬(65536:Int)<=(x:Int):=by omega
 by_cases c3:256<=x
 ·have d3:(256:Int)<=(x:Int):=by omega
  obtain ⟨L,l1,l2,l3⟩:=tab8_ok (x / 256) (by omega)
  have w:=wAdd (show 8+L<=1000000 by omega)
  have e8:IntKind.i64.wrap (0+8)=((8:Nat):Int):=by decide
  unfold tab8 at l1
  simp only [F177,SS,Nat.reduceBEq,Nat.reduceEqDiff,Nat.reduceAdd,reduceIte,Nat.reduceMul,c1,c2,d3,shr8,e8,x_cv_185_5,wU8 (show x / 256<256 by omega),x_ix_9,l1,x_cv_5_3,wI' (show L<=1000000 by omega),w]
  refine hQ _ _ _ _ (.inr rfl) (by simp only [SS,Nat.reduceBEq]) (by simp only [SS,Nat.reduceBEq,Nat.reduceEqDiff,Nat.reduceAdd,reduceIte,Nat.reduceMul];rfl) ?_
  refine ⟨rfl,8+L,rfl,by omega,fun _=>?_⟩
  have:=l3 (by omega)
  rw [Nat.pow_add]
  omega
 ·have d3:¬(256:Int)<=(x:Int):=by omega
  obtain ⟨L,l1,l2,l3⟩:=tab8_ok x (by omega)
  have w:IntKind.i64.wrap (0+(L:Int))=(L:Int):=by rw [Int.zero_add];exact wI' (by omega)
  unfold tab8 at l1
  simp only [F177,SS,Nat.reduceBEq,Nat.reduceEqDiff,Nat.reduceAdd,reduceIte,Nat.reduceMul,c1,c2,d3,x_cv_185_5,wU8 (show x<256 by omega),x_ix_9,l1,x_cv_5_3,wI' (show L<=1000000 by omega),w]
  refine hQ _ _ _ _ (.inr rfl) (by simp only [SS,Nat.reduceBEq]) (by simp only [SS,Nat.reduceBEq,Nat.reduceEqDiff,Nat.reduceAdd,reduceIte,Nat.reduceMul];rfl) ?_
  exact ⟨rfl,L,rfl,by omega,l3⟩
theorem len_ok {n:Nat} (hn:2<=n) {x:Nat} (hx:x<=65535) (h:Heap):WC (SC n (.fn 144) [.int .u64 (x:Int)] h) fun r h'=>h'=h/\∃ L,r=I L/\L<=16/\(1<=x->2^L<=2*x):=by
 obtain ⟨m,rfl⟩:∃ m,n=m+1:=⟨n - 1,by omega⟩
 refine call_fn _ f144A rfl (by simp [fn144]) fun QQ hQ=>?_
 simp only [fn144] at hQ
 simp only [fn144,fill_cons,fill_nil,Nat.zero_add,Nat.reduceAdd]
 obtain ⟨_,_,e1,rfl,L,rfl,l1,l2⟩:=len64_ok (n:=m) (by omega) hx h
 simp only [F144,SS,Nat.reduceBEq,Nat.reduceEqDiff,Nat.reduceAdd,reduceIte,Nat.reduceMul,e1]
 refine hQ _ _ _ _ (.inr rfl) (by simp only [SS,Nat.reduceBEq]) (by simp only [SS,Nat.reduceBEq,Nat.reduceEqDiff,Nat.reduceAdd,reduceIte,Nat.reduceMul];rfl) ?_
 exact ⟨rfl,L,rfl,l1,l2⟩
theorem wU64 {x:Nat} (h:x<=1000000):IntKind.u64.wrap (x:Int)=(x:Int):=by
 show ((x:Int)%(2^64:Nat):Int)=_
 exact Int.emod_eq_of_lt (by omega) (by omega)
theorem npow_ok {n:Nat} (hn:3<=n) {x:Nat} (hx:x<=65535) (hx1:1<=x) (h:Heap):WC (SC n (.fn 183) [I x] h) fun r h'=>h'=h/\∃ M:Nat,r=.int .u64 (M:Int)/\1<=M/\M<=2*x:=by
 obtain ⟨m,rfl⟩:∃ m,n=m+1:=⟨n - 1,by omega⟩
 refine call_fn _ f183A rfl (by simp [fn183]) fun QQ hQ=>?_
 simp only [fn183] at hQ
 simp only [fn183,fill_cons,fill_nil,Nat.zero_add,Nat.reduceAdd]
 obtain ⟨_,_,e1,rfl,L,rfl,l1,l2⟩:=len_ok (n:=m) (by omega) hx h
 have hM:=l2 hx1
 have hp:1<=2^L:=Nat.one_le_two_pow
 have e2:IntKind.u64.wrap (1*2^L)=((2^L:Nat):Int):=by
  rw [Int.one_mul,show ((2:Int)^L)=((2^L:Nat):Int) by norm_cast]
  exact wU64 (by omega)
 simp only [F183,SS,Nat.reduceBEq,Nat.reduceEqDiff,Nat.reduceAdd,reduceIte,Nat.reduceMul,x_cv_3_154,wU64 (show x<=1000000 by omega),e1,shl_n (show L<=17 by omega),e2]
 refine hQ _ _ _ _ (.inr rfl) (by simp only [SS,Nat.reduceBEq]) (by simp only [SS,Nat.reduceBEq,Nat.reduceEqDiff,Nat.reduceAdd,reduceIte,Nat.reduceMul];rfl) ?_
 exact ⟨rfl,2^L,rfl,hp,hM⟩
end Go.Proofs.YtboobbebilegnaaGreat
namespace Go.Proofs.YtboobbebilegnaaGreat
open Go.Am Go.Sort
set_option maxRecDepth 10000
theorem xnext_ok {n:Nat} (hn:1<=n) {h:Heap} {s:Nat} {c:Int} {z:List AV} (hr:Rw h s [.int .u64 c] z false) (hs:s<h.next) (hc:U64 c) :
  WC (SC n (.fn 184) [.ptr (some (s,0))] h) fun r h'=>∃ c',r=.int .u64 c'/\U64 c'/\Rw h' s [.int .u64 c'] z false/\SmS s h h':=by
 obtain ⟨m,rfl⟩:∃ m,n=m+1:=⟨n - 1,by omega⟩
 refine call_fn _ f184A rfl (by simp [fn184]) fun QQ hQ=>?_
 simp only [fn184] at hQ
 simp only [fn184,fill_cons,fill_nil,Nat.zero_add,Nat.reduceAdd]
 
 have step:∀ (op:BinOp) (k:Nat) (h:Heap) (c:Int),(∀ c,U64 c->∃ v,bin2 P op 182 (.int .u64 c) (.int .u64 (k:Int))=some (.int .u64 v)/\U64 v)->Rw h s [.int .u64 c] z false->s<h.next->U64 c ->
   ∃ hb h2 v w,Heap.mk h.bs (h.next+10)=hb/\hb.ld1 s 0=some (.int .u64 c)/\bin2 P op 182 (.int .u64 c) (.int .u64 (k:Int))=some (.int .u64 v)/\bin2 P .xor 257 (.int .u64 c) (.int .u64 v)=some (.int .u64 w)/\hb.st1 s 0 (.int .u64 w)=some h2/\U64 w/\Rw h2 s [.int .u64 w] z false/\s<h2.next/\SmS s h h2:=by
  intro op k h c hop hr hs hc
  obtain ⟨hb,eb,sb,_,_⟩:=Sm.bump h 10
  have hrb:=hr.sm sb hs (fun h=>h)
  obtain ⟨v,e1,hv⟩:=hop c hc
  obtain ⟨w,e2,hw⟩:=xor_u (t:=257) hc hv
  have lc:=hrb.ld1 0
  rw [List.getElem?_cons_zero] at lc
  obtain ⟨w1,w2,w3,w4⟩:=hrb.st1 (o:=0) (v:=.int .u64 w) (by simp) rfl
  have sb1:=sb.1
  exact ⟨hb,_,v,w,eb,lc,e1,e2,w1,hw,w2,by omega,(sb.no (F:=(·= s))).trans ⟨by omega,fun c _ hc=>w4 c hc⟩ (fun _ _ h=>h) (fun _ _ h=>h)⟩
 obtain ⟨hb1,h2,v1,w1,p1,p2,p3,p4,p5,p6,p7,p8,p9⟩:=step .shl 13 h c (fun c _=>shl_u (by decide)) hr hs hc
 obtain ⟨hb3,h4,v3,w3,q1,q2,q3,q4',q5,q6,q7,q8',q9⟩:=step .shr 7 h2 w1 (fun c hc=>shr_u hc) p7 p8 p6
 obtain ⟨hb5,h6,v5,w5,r1,r2,r3,r4,r5,r6,r7,r8,r9⟩:=step .shl 17 h4 w3 (fun c _=>shl_u (by decide)) q7 q8' q6
 have l6:=r7.ld1 0
 rw [List.getElem?_cons_zero] at l6
 have p3':bin2 P .shl 257 (.int .u64 c) (.int .u64 13)=some (.int .u64 v1):=p3
 have q3':bin2 P .shr 257 (.int .u64 w1) (.int .u64 7)=some (.int .u64 v3):=q3
 have r3':bin2 P .shl 257 (.int .u64 w3) (.int .u64 17)=some (.int .u64 v5):=r3
 simp only [F184,SS,Nat.reduceBEq,Nat.reduceEqDiff,Nat.reduceAdd,reduceIte,Nat.reduceMul,p1,p2,p3',p4,p5,q1,q2,q3',q4',q5,r1,r2,r3',r4,r5,l6,s_int,s_ptr,s_slice,s_bool,and'_eq,iff'_true]
 refine hQ _ _ _ _ (.inr rfl) (by simp only [SS,Nat.reduceBEq]) (by simp only [SS,Nat.reduceBEq,Nat.reduceEqDiff,Nat.reduceAdd,reduceIte,Nat.reduceMul];rfl) ?_
 exact ⟨w5,rfl,r6,r7,(p9.tr q9).tr r9⟩
structure RnAt (X:Px) (s:Nat) (h:Heap) (D:Array El):Prop where
 at':X.At h D
 ct:∃ c z,Rw h s [.int .u64 c] z false/\U64 c
 lt:s<h.next
 ne:s≠X.b
theorem break_ok {n:Nat} (hn:4<=n) {X:Px} (hN:X.N<=40000) {h:Heap} {D:Array El} (hA:X.At h D) {a e:Nat} (hae:a+12<e) (he:e<=X.N) :
  WC (SC n (.fn 169) [X.sv,I a,I e] h) fun r h'=>∃ D',X.At h' D'/\PermIn a e D D'/\PsB X h h':=by
 obtain ⟨m,rfl⟩:∃ m,n=m+1:=⟨n - 1,by omega⟩
 refine call_fn _ f169A rfl (by simp [fn169]) fun QQ hQ=>?_
 simp only [fn169] at hQ
 simp only [fn169,fill_cons,fill_nil,Nat.zero_add,Nat.reduceAdd]
 have w0:=wSub (show a<=e by omega) (show e<=1000000 by omega)
 obtain ⟨h1,e1,r1,n1,g1⟩:=Rw.alloc h (id:=h.next) (n:=1) (vs:=[.int .u64 0]) (z:=tyMark 257 true) (ro:=false) (Nat.le_refl _) rfl
 obtain ⟨y1,y2,y3,y4⟩:=r1.st1 (o:=0) (v:=.int .u64 ((e - a:Nat):Int)) (by simp) rfl
 rw [show ([AV.int .u64 0]:List AV).set 0 (.int .u64 ((e - a:Nat):Int))=[.int .u64 ((e - a:Nat):Int)] from rfl] at y2
 generalize h1.wr h.next 0 [.int .u64 ((e - a:Nat):Int)]=h2 at y1 y2 y3 y4
 have s2:Sm NoB h h2:=⟨by omega,fun c hc _=>by rw [y4 c (by omega),g1 c (by omega)]⟩
 have hne:h.next≠X.b:=by have:=hA.lt;omega
 have hlt0:=hA.lt
 have hU:U64 ((e - a:Nat):Int):=by unfold U64;omega
 have A2:RnAt X h.next h2 D:=⟨hA.sm s2,⟨_,_,y2,hU⟩,by omega,hne⟩
 obtain ⟨qd,hqd⟩:∃ qd,(e - a) / 4=qd:=⟨_,rfl⟩
 have d4:qd*4<=e - a/\e - a<qd*4+4:=by omega
 have q4':bin2 P .quo 3 (I (e - a)) (.int .i64 4)=some (I qd):=by rw [← hqd];exact q4 (show e - a<=1000000 by omega)
 clear hqd
 have d8:(8:Int)<=((e - a:Nat):Int):=by omega
 obtain ⟨_,_,e3,rfl,M,rfl,m1,m2⟩:=npow_ok (n:=m) (by omega) (x:=e - a) (by omega) (by omega) h2
 rename_i h2
 have w2:=wAdd (show a+qd*2<=1000000 by omega)
 have w3:=wSub1 (show 1<=a+qd*2 by omega) (show a+qd*2<=1000000 by omega)
 have w4:=wAdd1 (show a+qd*2<=1000000 by omega)
 simp only [F169,r169_29,SS,Nat.reduceBEq,Nat.reduceEqDiff,Nat.reduceAdd,reduceIte,Nat.reduceMul,w0,d8,x_cv_3_257,wU64 (show e - a<=1000000 by omega),x_al_257,e1,y1,e3,q4',wMulR2 (show qd<=400000 by omega),w2,w3]
 refine run_loop (c:=c169_13) (I:=fun m' tm' h'=>∃ i cur,a<=i/\i<=a+qd*2+2/\m'=a+qd*2+2 - i/\RnAt X h.next h' cur/\Sm (fun b=>b=X.b∨b=h.next) h2 h'/\PermIn a e D cur/\tm'.gt 0=some X.sv/\tm'.gt 1=some (I a)/\tm'.gt 6=some (I (e - a))/\tm'.gt 7=some (.ptr (some (h.next,0)))/\tm'.gt 8=some (.int .u64 (M:Int))/\tm'.gt 9=some (I i)/\tm'.gt 65=none) (n:=a+qd*2+2 - (a+qd*2 - 1))
  ⟨a+qd*2 - 1,D,by omega,by omega,rfl,A2,Sm.refl _ _,permIn_refl _ _ _,by simp [gt_same,gt_other,gt_leaf]⟩ (by omega) ?_
 rintro _ tm h' ⟨i,cur,hi1,hi2,rfl,hA',hS,hP,t0,t1,t6,t7,t8,t9,t65⟩ Q1 hN1 hE
 by_cases hlt:i<=a+qd*2+1
 ·have d1:(i:Int)<=((a+qd*2+1:Nat):Int):=by omega
  obtain ⟨c,z,hc,hcu⟩:=hA'.ct
  obtain ⟨_,h3,e5,c',rfl,hcu',hc',s3⟩:=xnext_ok (n:=m) (by omega) hc hA'.lt hcu
  have e6:IntKind.u64.wrap ((M:Int) - 1)=((M - 1:Nat):Int):=by rw [show (M:Int) - 1=((M - 1:Nat):Int) by omega];exact wU64 (by omega)
  obtain ⟨v,e7,hv⟩:=and_u (t:=154) (y:=M - 1) hcu' (by omega)
  have A3:X.At h3 cur:=⟨hA'.at'.sz,hA'.at'.rw.sm s3 hA'.at'.lt (fun e=>hne e.symm),Nat.lt_of_lt_of_le hA'.at'.lt s3.1⟩
  have hlt3:h.next<h3.next:=Nat.lt_of_lt_of_le hA'.lt s3.1
  
  have go:∀ (o:Nat) tm,o<e - a->tm.gt 0=some X.sv->tm.gt 1=some (I a)->tm.gt 6=some (I (e - a))->tm.gt 7=some (.ptr (some (h.next,0)))->tm.gt 8=some (.int .u64 (M:Int))->tm.gt 9=some (I i)->tm.gt 10=some (I o)->tm.gt 65=none->run (SC m) 100000 65 169 none c169_29 [.blk 1,.seq c169_30] tm h3 Q1:=by
   intro o tm ho t0 t1 t6 t7 t8 t9 t10 t65
   obtain ⟨hc2,ec,sc,_,_⟩:=Sm.bump h3 20
   have hAc:=A3.sm sc
   obtain ⟨h4,h5,e4,e5',a5,s5⟩:=hAc.swap (i:=i) (j:=a+o) (by omega) (by omega)
   have l3:=hAc.ld (i:=i) (by omega)
   have l4:=hAc.ld (i:=a+o) (by omega)
   have x1:=x_ia_51 (k:=.i64) (b:=X.b) (o:=0) (n:=X.N) (c:=X.cap) (g:=X.g) (show i<X.N by omega)
   have x2:=x_ia_51 (k:=.i64) (b:=X.b) (o:=0) (n:=X.N) (c:=X.cap) (g:=X.g) (show a+o<X.N by omega)
   simp only [F169,r169_29,SS,Nat.reduceBEq,Nat.reduceEqDiff,Nat.reduceAdd,reduceIte,Nat.reduceMul,t0,t1,t6,t7,t8,t9,t10,t65,ec,wAdd (show a+o<=1000000 by omega),x1,x2,l3,l4,e4,e5',s_int,s_ptr,s_slice,s_bool,and'_eq,iff'_true,wAdd1 (show i<=1000000 by omega)]
   have s35:PsB X h3 h5:=(PsB.no sc).tr s5
   refine hN1 _ _ (a+qd*2+2 - (i+1)) (by omega) ⟨i+1,_,by omega,by omega,rfl,⟨a5,⟨c',z,hc'.sm s35 hlt3 hne,hcu'⟩,Nat.lt_of_lt_of_le hlt3 s35.1,hne⟩,?_,permIn_trans _ _ _ _ _ hP (swp_permIn _ _ _ _ _ hi1 (by omega) (by omega) (by omega) (by rw [hA'.at'.sz];omega)),?_⟩
   ·exact (hS.trans s3 (fun _ _ h=>h) (fun _ _ h=>Or.inr h)).trans s35 (fun _ _ h=>h) (fun _ _ h=>Or.inl h)
   ·simp only [SS,Nat.reduceBEq,Nat.reduceEqDiff,Nat.reduceAdd,reduceIte,Nat.reduceMul,t0,t1,t6,t7,t8,t9,t65,and_self]
  by_cases ho:e - a<=v
  ·have d2:((e - a:Nat):Int)<=(v:Int):=by omega
   simp only [F169,SS,Nat.reduceBEq,Nat.reduceEqDiff,Nat.reduceAdd,reduceIte,Nat.reduceMul,t0,t1,t6,t7,t8,t9,t65,q4',wMulR2 (show qd<=400000 by omega),w2,w4,d1,e5,e6,e7,x_cv_154_3,wI' (show v<=1000000 by omega),d2,wSub ho (show v<=1000000 by omega)]
   exact go (v - (e - a)) _ (by omega) (by simp only [SS,Nat.reduceBEq,t0]) (by simp only [SS,Nat.reduceBEq,t1]) (by simp only [SS,Nat.reduceBEq,t6]) (by simp only [SS,Nat.reduceBEq,t7]) (by simp only [SS,Nat.reduceBEq,t8]) (by simp only [SS,Nat.reduceBEq,t9]) (by simp only [SS,Nat.reduceBEq]) (by simp only [SS,Nat.reduceBEq,t65])
  ·have d2:¬((e - a:Nat):Int)<=(v:Int):=by omega
   simp only [F169,SS,Nat.reduceBEq,Nat.reduceEqDiff,Nat.reduceAdd,reduceIte,Nat.reduceMul,t0,t1,t6,t7,t8,t9,t65,q4',wMulR2 (show qd<=400000 by omega),w2,w4,d1,e5,e6,e7,x_cv_154_3,wI' (show v<=1000000 by omega),d2]
   exact go v _ (by omega) (by simp only [SS,Nat.reduceBEq,t0]) (by simp only [SS,Nat.reduceBEq,t1]) (by simp only [SS,Nat.reduceBEq,t6]) (by simp only [SS,Nat.reduceBEq,t7]) (by simp only [SS,Nat.reduceBEq,t8]) (by simp only [SS,Nat.reduceBEq,t9]) (by simp only [SS,Nat.reduceBEq]) (by simp only [SS,Nat.reduceBEq,t65])
 ·have d1:¬(i:Int)<=((a+qd*2+1:Nat):Int):=by omega
  simp only [F169,r169_29,SS,Nat.reduceBEq,Nat.reduceEqDiff,Nat.reduceAdd,reduceIte,Nat.reduceMul,t0,t1,t6,t7,t8,t9,t65,q4',wMulR2 (show qd<=400000 by omega),w2,w4,d1]
  refine hE _ _ _ (by simp) ?_
  simp only [SS,Nat.reduceBEq,Nat.reduceEqDiff,Nat.reduceAdd,reduceIte,Nat.reduceMul]
  refine hQ _ _ _ _ (.inl rfl) (by simp only [SS,Nat.reduceBEq,t65]) (by simp only [SS,Nat.reduceBEq,Nat.reduceEqDiff,Nat.reduceAdd,reduceIte,Nat.reduceMul];rfl) ⟨cur,hA'.at',hP,?_⟩
  have:=s2.1
  exact ⟨Nat.le_trans s2.1 hS.1,fun b hb hne'=>by rw [hS.2 b (by omega) (by intro h;rcases h with h | h;exact hne' h;omega),s2.2 b hb (fun h=>h)]⟩
end Go.Proofs.YtboobbebilegnaaGreat
namespace Go.Proofs.YtboobbebilegnaaGreat
open Go.Am Go.Sort
set_option maxRecDepth 10000
theorem scanU_step {p:El->Bool} {d:Array El} {j i:Nat} (h:i<=j) (hp:p d[i]! = true):scanUp p d j i=scanUp p d j (i+1):=by
 rw [scanUp,if_pos];rw [hp,decide_eq_true h];rfl
theorem scanU_stop {p:El->Bool} {d:Array El} {j i:Nat} (h:¬i<=j∨p d[i]! = false):scanUp p d j i=i:=by
 rw [scanUp,if_neg]
 intro hc
 rw [Bool.and_eq_true,decide_eq_true_eq] at hc
 rcases h with h | h
 ·exact h hc.1
 ·rw [h] at hc;exact absurd hc.2 (by simp)
theorem scanD_step {p:El->Bool} {d:Array El} {j i:Nat} (h:i<=j+1) (hp:p d[j+1]! = true):scanDown p d i (j+1)=scanDown p d i j:=by
 rw [scanDown,if_pos];rw [hp,decide_eq_true h];rfl
theorem scanD_stop {p:El->Bool} {d:Array El} {j i:Nat} (hi:1<=i) (h:¬i<=j∨p d[j]! = false):scanDown p d i j=j:=by
 cases j with
 | zero=>rfl
 | succ j =>
  rw [scanDown,if_neg]
  intro hc
  rw [Bool.and_eq_true,decide_eq_true_eq] at hc
  rcases h with h | h
  ·exact h hc.1
  ·rw [h] at hc;exact absurd hc.2 (by simp)
theorem parteq_ok {n:Nat} (hn:3<=n) {X:Px} (hN:X.N<=40000) {h:Heap} {D:Array El} (hA:X.At h D) {a e p:Nat} (hap:a<=p) (hpe:p<e) (he:e<=X.N) :
  WC (SC n (.fn 174) [X.sv,I a,I e,I p] h) fun r h'=>r=I (partitionEqual ltE D a e p).1/\X.At h' (partitionEqual ltE D a e p).2/\PsB X h h':=by
 obtain ⟨m,rfl⟩:∃ m,n=m+1:=⟨n - 1,by omega⟩
 refine call_fn _ f174A rfl (by simp [fn174]) fun QQ hQ=>?_
 simp only [fn174] at hQ
 simp only [fn174,fill_cons,fill_nil,Nat.zero_add,Nat.reduceAdd]
 obtain ⟨hb,eb,sb,_,_⟩:=Sm.bump h 16
 have hAb:=hA.sm sb
 obtain ⟨h1,h2,e1,e2,a2,s2⟩:=hAb.swap (i:=a) (j:=p) (by omega) (by omega)
 have l1:=hAb.ld (i:=a) (by omega)
 have l2:=hAb.ld (i:=p) (by omega)
 have x1:=x_ia_51 (k:=.i64) (b:=X.b) (o:=0) (n:=X.N) (c:=X.cap) (g:=X.g) (show a<X.N by omega)
 have x2:=x_ia_51 (k:=.i64) (b:=X.b) (o:=0) (n:=X.N) (c:=X.cap) (g:=X.g) (show p<X.N by omega)
 simp only [F174,r174_32,r174_21,SS,Nat.reduceBEq,Nat.reduceEqDiff,Nat.reduceAdd,reduceIte,Nat.reduceMul,eb,x1,x2,l1,l2,e1,e2,s_int,s_ptr,s_slice,s_bool,and'_eq,iff'_true,wAdd1 (show a<=1000000 by omega),wSub1 (show 1<=e by omega) (show e<=1000000 by omega)]
 refine run_loop (c:=c174_9) (I:=fun m' tm' h'=>∃ i j cur,a<i/\i<=j+1/\j<e/\m'=j+1 - i/\X.At h' cur/\PsB X h h'/\partEqLoop ltE a i j cur=partitionEqual ltE D a e p/\tm'.gt 0=some X.sv/\tm'.gt 1=some (I a)/\tm'.gt 9=some (I i)/\tm'.gt 10=some (I j)/\tm'.gt 84=none) (n:=e - 1+1 - (a+1))
  ⟨a+1,e - 1,_,by omega,by omega,by omega,rfl,a2,(PsB.no sb).tr s2,rfl,by simp [gt_same,gt_other,gt_leaf]⟩ (by omega) ?_
 rintro _ tm h3 ⟨i0,j0,cur,hi0,hij0,hj0,rfl,hA3,hS3,hE0,t0,t1,t9,t10,t84⟩ Q1 hN1 hE
 rw [partEqLoop_eq] at hE0
 simp only [F174,r174_32,r174_21,SS,Nat.reduceBEq,Nat.reduceEqDiff,Nat.reduceAdd,reduceIte,Nat.reduceMul,t0,t1,t9,t10,t84]
 
 refine run_loop (c:=c174_13) (I:=fun m' tm' h'=>∃ i,i0<=i/\i<=j0+1/\m'=j0+1 - i/\X.At h' cur/\PsB X h h'/\scanUp (fun x=>!ltE cur[a]! x) cur j0 i0=scanUp (fun x=>!ltE cur[a]! x) cur j0 i/\tm'.gt 0=some X.sv/\tm'.gt 1=some (I a)/\tm'.gt 9=some (I i)/\tm'.gt 10=some (I j0)/\tm'.gt 84=none) (n:=j0+1 - i0)
  ⟨i0,by omega,by omega,rfl,hA3,hS3,rfl,by simp only [SS,Nat.reduceBEq,Nat.reduceEqDiff,Nat.reduceAdd,reduceIte,Nat.reduceMul,t0,t1,t9,t10,t84,and_self]⟩ (by omega) ?_
 rintro _ tm h4 ⟨i,hi,hij,rfl,hA4,hS4,hU,t0,t1,t9,t10,t84⟩ Q2 hN2 hE2
 obtain ⟨hb4,eb4,sb4,_,_⟩:=Sm.bump h4 15
 have hAb4:=hA4.sm sb4
 have hSb4:=hS4.tr (PsB.no sb4)
 
 have go:(¬i<=j0∨(fun x=>!ltE cur[a]! x) cur[i]! = false)->∀ tm,tm.gt 0=some X.sv->tm.gt 1=some (I a)->tm.gt 9=some (I i)->tm.gt 10=some (I j0)->tm.gt 84=none->run (SC m) 100000 84 174 none c174_21 [.blk 1] tm hb4 Q1:=by
  intro hstU tm t0 t1 t9 t10 t84
  rw [scanU_stop (p:=fun x=>!ltE cur[a]! x) hstU] at hU
  rw [hU] at hE0
  simp only [F174,r174_32,r174_21,SS,Nat.reduceBEq,Nat.reduceEqDiff,Nat.reduceAdd,reduceIte,Nat.reduceMul,t0,t1,t9,t10,t84]
  refine run_loop (c:=c174_24) (I:=fun m' tm' h'=>∃ j,i<=j+1/\j<=j0/\m'=j/\X.At h' cur/\PsB X h h'/\scanDown (fun x=>ltE cur[a]! x) cur i j0=scanDown (fun x=>ltE cur[a]! x) cur i j/\tm'.gt 0=some X.sv/\tm'.gt 1=some (I a)/\tm'.gt 9=some (I i)/\tm'.gt 10=some (I j)/\tm'.gt 84=none) (n:=j0)
   ⟨j0,by omega,by omega,rfl,hAb4,hSb4,rfl,by simp only [SS,Nat.reduceBEq,Nat.reduceEqDiff,Nat.reduceAdd,reduceIte,Nat.reduceMul,t0,t1,t9,t10,t84,and_self]⟩ (by omega) ?_
  rintro j tm h5 ⟨_,hij,hj,rfl,hA5,hS5,hD,t0,t1,t9,t10,t84⟩ Q3 hN3 hE3
  obtain ⟨hb5,eb5,sb5,_,_⟩:=Sm.bump h5 14
  have hAb5:=hA5.sm sb5
  have hSb5:=hS5.tr (PsB.no sb5)
  have go2:(¬i<=j∨(fun x=>ltE cur[a]! x) cur[j]! = false)->∀ tm,tm.gt 0=some X.sv->tm.gt 1=some (I a)->tm.gt 9=some (I i)->tm.gt 10=some (I j)->tm.gt 84=none->run (SC m) 100000 84 174 none c174_32 [.blk 1] tm hb5 Q1:=by
   intro hst tm t0 t1 t9 t10 t84
   rw [scanD_stop (p:=fun x=>ltE cur[a]! x) (by omega) hst] at hD
   rw [hD] at hE0
   by_cases hgt:j<i
   ·rw [if_pos hgt] at hE0
    simp only [F174,r174_32,r174_21,SS,Nat.reduceBEq,Nat.reduceEqDiff,Nat.reduceAdd,reduceIte,Nat.reduceMul,t0,t1,t9,t10,t84,Int.ofNat_lt,hgt]
    refine hE _ _ _ (by simp) ?_
    simp only [F174,r174_32,r174_21,SS,Nat.reduceBEq,Nat.reduceEqDiff,Nat.reduceAdd,reduceIte,Nat.reduceMul,t9,t84]
    refine hQ _ _ _ _ (.inr rfl) (by simp only [SS,Nat.reduceBEq,t84]) (by simp only [SS,Nat.reduceBEq,Nat.reduceEqDiff,Nat.reduceAdd,reduceIte,Nat.reduceMul];rfl) ?_
    rw [← hE0]
    exact ⟨rfl,hAb5,hSb5⟩
   ·rw [if_neg hgt] at hE0
    have hne:i≠j:=by
     intro e
     subst e
     rcases hstU with h | h
     ·omega
     ·rcases hst with h' | h'
      ·omega
      ·have h1:(!ltE cur[a]! cur[i]!)=false:=h
       have h2:ltE cur[a]! cur[i]! = false:=h'
       rw [h2] at h1;cases h1
    obtain ⟨hc,ec,sc,_,_⟩:=Sm.bump hb5 16
    have hAc:=hAb5.sm sc
    obtain ⟨h6,h7,e6,e7,a7,s7⟩:=hAc.swap (i:=i) (j:=j) (by omega) (by omega)
    have l3:=hAc.ld (i:=i) (by omega)
    have l4:=hAc.ld (i:=j) (by omega)
    have x3:=x_ia_51 (k:=.i64) (b:=X.b) (o:=0) (n:=X.N) (c:=X.cap) (g:=X.g) (show i<X.N by omega)
    have x4:=x_ia_51 (k:=.i64) (b:=X.b) (o:=0) (n:=X.N) (c:=X.cap) (g:=X.g) (show j<X.N by omega)
    simp only [F174,r174_32,r174_21,SS,Nat.reduceBEq,Nat.reduceEqDiff,Nat.reduceAdd,reduceIte,Nat.reduceMul,t0,t1,t9,t10,t84,Int.ofNat_lt,hgt,ec,x3,x4,l3,l4,e6,e7,s_int,s_ptr,s_slice,s_bool,and'_eq,iff'_true,wAdd1 (show i<=1000000 by omega),wSub1 (show 1<=j by omega) (show j<=1000000 by omega)]
    refine hN1 _ _ (j - 1+1 - (i+1)) (by omega) ⟨i+1,j - 1,_,by omega,by omega,by omega,rfl,a7,(hSb5.tr (PsB.no sc)).tr s7,hE0,?_⟩
    simp only [SS,Nat.reduceBEq,Nat.reduceEqDiff,Nat.reduceAdd,reduceIte,Nat.reduceMul,t0,t1,t9,t10,t84,and_self]
  have xa:=x_ia_51 (k:=.i64) (b:=X.b) (o:=0) (n:=X.N) (c:=X.cap) (g:=X.g) (show a<X.N by omega)
  have la:=hAb5.ld (i:=a) (by omega)
  by_cases c1:i<=j
  ·have d1:(i:Int)<=(j:Int):=by omega
   have xj:=x_ia_51 (k:=.i64) (b:=X.b) (o:=0) (n:=X.N) (c:=X.cap) (g:=X.g) (show j<X.N by omega)
   have lj:=hAb5.ld (i:=j) (by omega)
   have e8:=less_ok (n:=m) (by omega) cur[a]! cur[j]! hb5
   cases hl:ltE cur[a]! cur[j]! with
   | true =>
    rw [hl] at e8
    obtain ⟨j,rfl⟩:∃ j',j=j'+1:=⟨j - 1,by omega⟩
    simp only [F174,r174_32,r174_21,SS,Nat.reduceBEq,Nat.reduceEqDiff,Nat.reduceAdd,reduceIte,Nat.reduceMul,t0,t1,t9,t10,t84,eb5,d1,xa,xj,la,lj,e8,w_undef,s_int,s_ptr,s_slice,s_bool,and'_eq,iff'_true,wSub1 (show 1<=j+1 by omega) (show j+1<=1000000 by omega),Nat.add_sub_cancel]
    exact hN3 _ _ j (by omega) ⟨j,by omega,by omega,rfl,hAb5,hSb5,by rw [hD];exact scanD_step (p:=fun x=>ltE cur[a]! x) c1 hl,by simp only [SS,Nat.reduceBEq,Nat.reduceEqDiff,Nat.reduceAdd,reduceIte,Nat.reduceMul,t0,t1,t9,t10,t84,and_self]⟩
   | false =>
    rw [hl] at e8
    simp only [F174,r174_21,SS,Nat.reduceBEq,Nat.reduceEqDiff,Nat.reduceAdd,reduceIte,Nat.reduceMul,t0,t1,t9,t10,t84,eb5,d1,xa,xj,la,lj,e8,w_undef,s_int,s_ptr,s_slice,s_bool,and'_eq,iff'_true]
    refine hE3 _ _ _ (by simp) ?_
    simp only [SS,Nat.reduceBEq,Nat.reduceEqDiff,Nat.reduceAdd,reduceIte,Nat.reduceMul]
    exact go2 (.inr hl) _ (by simp only [SS,Nat.reduceBEq,t0]) (by simp only [SS,Nat.reduceBEq,t1]) (by simp only [SS,Nat.reduceBEq,t9]) (by simp only [SS,Nat.reduceBEq,t10]) (by simp only [SS,Nat.reduceBEq,t84])
  ·have d1:¬(i:Int)<=(j:Int):=by omega
   simp only [F174,r174_21,SS,Nat.reduceBEq,Nat.reduceEqDiff,Nat.reduceAdd,reduceIte,Nat.reduceMul,t0,t1,t9,t10,t84,eb5,d1,w_undef,s_int,s_ptr,s_slice,s_bool,and'_eq,iff'_true]
   refine hE3 _ _ _ (by simp) ?_
   simp only [SS,Nat.reduceBEq,Nat.reduceEqDiff,Nat.reduceAdd,reduceIte,Nat.reduceMul]
   exact go2 (.inl c1) _ (by simp only [SS,Nat.reduceBEq,t0]) (by simp only [SS,Nat.reduceBEq,t1]) (by simp only [SS,Nat.reduceBEq,t9]) (by simp only [SS,Nat.reduceBEq,t10]) (by simp only [SS,Nat.reduceBEq,t84])
 have xa:=x_ia_51 (k:=.i64) (b:=X.b) (o:=0) (n:=X.N) (c:=X.cap) (g:=X.g) (show a<X.N by omega)
 have la:=hAb4.ld (i:=a) (by omega)
 by_cases c1:i<=j0
 ·have d1:(i:Int)<=(j0:Int):=by omega
  have xi:=x_ia_51 (k:=.i64) (b:=X.b) (o:=0) (n:=X.N) (c:=X.cap) (g:=X.g) (show i<X.N by omega)
  have li:=hAb4.ld (i:=i) (by omega)
  have e8:=less_ok (n:=m) (by omega) cur[a]! cur[i]! hb4
  cases hl:ltE cur[a]! cur[i]! with
  | false =>
   rw [hl] at e8
   simp only [F174,r174_32,r174_21,SS,Nat.reduceBEq,Nat.reduceEqDiff,Nat.reduceAdd,reduceIte,Nat.reduceMul,t0,t1,t9,t10,t84,eb4,d1,xa,xi,la,li,e8,w_undef,s_int,s_ptr,s_slice,s_bool,and'_eq,iff'_true,wAdd1 (show i<=1000000 by omega)]
   exact hN2 _ _ (j0+1 - (i+1)) (by omega) ⟨i+1,by omega,by omega,rfl,hAb4,hSb4,by rw [hU];exact scanU_step c1 (show (!ltE cur[a]! cur[i]!)=true by rw [hl];rfl),by simp only [SS,Nat.reduceBEq,Nat.reduceEqDiff,Nat.reduceAdd,reduceIte,Nat.reduceMul,t0,t1,t9,t10,t84,and_self]⟩
  | true =>
   rw [hl] at e8
   simp only [F174,r174_32,SS,Nat.reduceBEq,Nat.reduceEqDiff,Nat.reduceAdd,reduceIte,Nat.reduceMul,t0,t1,t9,t10,t84,eb4,d1,xa,xi,la,li,e8,w_undef,s_int,s_ptr,s_slice,s_bool,and'_eq,iff'_true]
   refine hE2 _ _ _ (by simp) ?_
   simp only [SS,Nat.reduceBEq,Nat.reduceEqDiff,Nat.reduceAdd,reduceIte,Nat.reduceMul]
   exact go (.inr (show (!ltE cur[a]! cur[i]!)=false by rw [hl];rfl)) _ (by simp only [SS,Nat.reduceBEq,t0]) (by simp only [SS,Nat.reduceBEq,t1]) (by simp only [SS,Nat.reduceBEq,t9]) (by simp only [SS,Nat.reduceBEq,t10]) (by simp only [SS,Nat.reduceBEq,t84])
 ·have d1:¬(i:Int)<=(j0:Int):=by omega
  simp only [F174,r174_32,SS,Nat.reduceBEq,Nat.reduceEqDiff,Nat.reduceAdd,reduceIte,Nat.reduceMul,t0,t1,t9,t10,t84,eb4,d1,w_undef,s_int,s_ptr,s_slice,s_bool,and'_eq,iff'_true]
  refine hE2 _ _ _ (by simp) ?_
  simp only [SS,Nat.reduceBEq,Nat.reduceEqDiff,Nat.reduceAdd,reduceIte,Nat.reduceMul]
  exact go (.inl c1) _ (by simp only [SS,Nat.reduceBEq,t0]) (by simp only [SS,Nat.reduceBEq,t1]) (by simp only [SS,Nat.reduceBEq,t9]) (by simp only [SS,Nat.reduceBEq,t10]) (by simp only [SS,Nat.reduceBEq,t84])
end Go.Proofs.YtboobbebilegnaaGreat
namespace Go.Proofs.YtboobbebilegnaaGreat
open Go.Am Go.Sort
set_option maxRecDepth 10000
theorem pu1 {m:Nat} (hm:2<=m) {X:Px} (hN:X.N<=40000) {h:Heap} {cur:Array El} (hA:X.At h cur) {a i0 j0:Nat} (ha:a<i0) (hij:i0<=j0+1) (hj:j0<X.N) {K:List Wt} {Q:XQ} {tm:Tr AV}
  (ht:tm.gt 0=some X.sv/\tm.gt 1=some (I a)/\tm.gt 10=some (I i0)/\tm.gt 11=some (I j0)/\tm.gt 168=none)
  (hK:∀ i tm2 h2,i0<=i->i<=j0+1->scanUp (fun x=>ltE x cur[a]!) cur j0 i0=i->(¬i<=j0∨(ltE cur[i]! cur[a]!)=false)->X.At h2 cur->PsB X h h2->tm2.gt 0=some X.sv/\tm2.gt 1=some (I a)/\tm2.gt 10=some (I i)/\tm2.gt 11=some (I j0)/\tm2.gt 168=none->ret (SC m) 100000 168 175 none (.exit 0) K tm2 h2 Q) :
  run (SC m) 100000 168 175 none c175_8 K tm h Q:=by
 refine run_loop (c:=c175_9) (I:=fun m' tm h'=>∃ i,i0<=i/\i<=j0+1/\m'=j0+1 - i/\X.At h' cur/\PsB X h h'/\scanUp (fun x=>ltE x cur[a]!) cur j0 i0=scanUp (fun x=>ltE x cur[a]!) cur j0 i/\tm.gt 0=some X.sv/\tm.gt 1=some (I a)/\tm.gt 10=some (I i)/\tm.gt 11=some (I j0)/\tm.gt 168=none) (n:=j0+1 - i0)
  ⟨i0,by omega,by omega,rfl,hA,Sm.refl _ _,rfl,ht⟩ (by omega) ?_
 rintro _ tm h4 ⟨i,hi,hij,rfl,hA4,hS4,hU,t0,t1,ti,tj,tn⟩ Q2 hN2 hE2
 obtain ⟨hb4,eb4,sb4,_,_⟩:=Sm.bump h4 14
 have hAb4:=hA4.sm sb4
 have hSb4:=hS4.tr (PsB.no sb4)
 have xa:=x_ia_51 (k:=.i64) (b:=X.b) (o:=0) (n:=X.N) (c:=X.cap) (g:=X.g) (show a<X.N by omega)
 have la:=hAb4.ld (i:=a) (by omega)
 by_cases c1:i<=j0
 ·have d1:(i:Int)<=(j0:Int):=by omega
  have xi:=x_ia_51 (k:=.i64) (b:=X.b) (o:=0) (n:=X.N) (c:=X.cap) (g:=X.g) (show i<X.N by omega)
  have li:=hAb4.ld (i:=i) (by omega)
  have e8:=less_ok (n:=m) (by omega) cur[i]! cur[a]! hb4
  cases hl:ltE cur[i]! cur[a]! with
  | true =>
   rw [hl] at e8
   simp only [F175,SS,Nat.reduceBEq,Nat.reduceEqDiff,Nat.reduceAdd,reduceIte,Nat.reduceMul,t0,t1,ti,tj,tn,eb4,d1,xa,xi,la,li,e8,w_undef,s_int,s_ptr,s_slice,s_bool,and'_eq,iff'_true,wAdd1 (show i<=1000000 by omega)]
   exact hN2 _ _ (j0+1 - (i+1)) (by omega) ⟨i+1,by omega,by omega,rfl,hAb4,hSb4,by rw [hU];exact scanU_step (p:=fun x=>ltE x cur[a]!) c1 (show (ltE cur[i]! cur[a]!)=true by simp [hl]),by simp only [SS,Nat.reduceBEq,Nat.reduceEqDiff,Nat.reduceAdd,reduceIte,Nat.reduceMul,t0,t1,ti,tj,tn,and_self]⟩
  | false =>
   rw [hl] at e8
   simp only [F175,SS,Nat.reduceBEq,Nat.reduceEqDiff,Nat.reduceAdd,reduceIte,Nat.reduceMul,t0,t1,ti,tj,tn,eb4,d1,xa,xi,la,li,e8,w_undef,s_int,s_ptr,s_slice,s_bool,and'_eq,iff'_true]
   have hst:¬i<=j0∨(ltE cur[i]! cur[a]!)=false:=.inr (by simp [hl])
   rw [scanU_stop (p:=fun x=>ltE x cur[a]!) hst] at hU
   exact hE2 _ _ _ (by simp) (hK i _ _ hi hij hU hst hAb4 hSb4 (by simp only [SS,Nat.reduceBEq,Nat.reduceEqDiff,Nat.reduceAdd,reduceIte,Nat.reduceMul,t0,t1,ti,tj,tn,and_self]))
 ·have d1:¬(i:Int)<=(j0:Int):=by omega
  simp only [F175,SS,Nat.reduceBEq,Nat.reduceEqDiff,Nat.reduceAdd,reduceIte,Nat.reduceMul,t0,t1,ti,tj,tn,eb4,d1,w_undef,s_int,s_ptr,s_slice,s_bool,and'_eq,iff'_true]
  have hst:¬i<=j0∨(ltE cur[i]! cur[a]!)=false:=.inl c1
  rw [scanU_stop (p:=fun x=>ltE x cur[a]!) hst] at hU
  exact hE2 _ _ _ (by simp) (hK i _ _ hi hij hU hst hAb4 hSb4 (by simp only [SS,Nat.reduceBEq,Nat.reduceEqDiff,Nat.reduceAdd,reduceIte,Nat.reduceMul,t0,t1,ti,tj,tn,and_self]))
theorem pd1 {m:Nat} (hm:2<=m) {X:Px} (hN:X.N<=40000) {h:Heap} {cur:Array El} (hA:X.At h cur) {a i j0:Nat} (ha:a<i) (hij:i<=j0+1) (hj:j0<X.N) {K:List Wt} {Q:XQ} {tm:Tr AV}
  (ht:tm.gt 0=some X.sv/\tm.gt 1=some (I a)/\tm.gt 10=some (I i)/\tm.gt 11=some (I j0)/\tm.gt 168=none)
  (hK:∀ j tm2 h2,i<=j+1->j<=j0->scanDown (fun x=>!ltE x cur[a]!) cur i j0=j->(¬i<=j∨(!ltE cur[j]! cur[a]!)=false)->X.At h2 cur->PsB X h h2->tm2.gt 0=some X.sv/\tm2.gt 1=some (I a)/\tm2.gt 10=some (I i)/\tm2.gt 11=some (I j)/\tm2.gt 168=none->ret (SC m) 100000 168 175 none (.exit 2) K tm2 h2 Q) :
  run (SC m) 100000 168 175 none c175_19 K tm h Q:=by
 refine run_loop (c:=c175_20) (I:=fun m' tm h'=>∃ j,i<=j+1/\j<=j0/\m'=j/\X.At h' cur/\PsB X h h'/\scanDown (fun x=>!ltE x cur[a]!) cur i j0=scanDown (fun x=>!ltE x cur[a]!) cur i j/\tm.gt 0=some X.sv/\tm.gt 1=some (I a)/\tm.gt 10=some (I i)/\tm.gt 11=some (I j)/\tm.gt 168=none) (n:=j0)
  ⟨j0,by omega,by omega,rfl,hA,Sm.refl _ _,rfl,ht⟩ (by omega) ?_
 rintro j tm h4 ⟨_,hij,hj,rfl,hA4,hS4,hD,t0,t1,ti,tj,tn⟩ Q2 hN2 hE2
 obtain ⟨hb4,eb4,sb4,_,_⟩:=Sm.bump h4 15
 have hAb4:=hA4.sm sb4
 have hSb4:=hS4.tr (PsB.no sb4)
 have xa:=x_ia_51 (k:=.i64) (b:=X.b) (o:=0) (n:=X.N) (c:=X.cap) (g:=X.g) (show a<X.N by omega)
 have la:=hAb4.ld (i:=a) (by omega)
 by_cases c1:i<=j
 ·have d1:(i:Int)<=(j:Int):=by omega
  have xi:=x_ia_51 (k:=.i64) (b:=X.b) (o:=0) (n:=X.N) (c:=X.cap) (g:=X.g) (show j<X.N by omega)
  have li:=hAb4.ld (i:=j) (by omega)
  have e8:=less_ok (n:=m) (by omega) cur[j]! cur[a]! hb4
  cases hl:ltE cur[j]! cur[a]! with
  | false =>
   rw [hl] at e8
   obtain ⟨j,rfl⟩:∃ j',j=j'+1:=⟨j - 1,by omega⟩
   simp only [F175,SS,Nat.reduceBEq,Nat.reduceEqDiff,Nat.reduceAdd,reduceIte,Nat.reduceMul,t0,t1,ti,tj,tn,eb4,d1,xa,xi,la,li,e8,w_undef,s_int,s_ptr,s_slice,s_bool,and'_eq,iff'_true,wSub1 (show 1<=j+1 by omega) (show j+1<=1000000 by omega),Nat.add_sub_cancel]
   exact hN2 _ _ j (by omega) ⟨j,by omega,by omega,rfl,hAb4,hSb4,by rw [hD];exact scanD_step (p:=fun x=>!ltE x cur[a]!) c1 (show (!ltE cur[j+1]! cur[a]!)=true by simp [hl]),by simp only [SS,Nat.reduceBEq,Nat.reduceEqDiff,Nat.reduceAdd,reduceIte,Nat.reduceMul,t0,t1,ti,tj,tn,and_self]⟩
  | true =>
   rw [hl] at e8
   simp only [F175,SS,Nat.reduceBEq,Nat.reduceEqDiff,Nat.reduceAdd,reduceIte,Nat.reduceMul,t0,t1,ti,tj,tn,eb4,d1,xa,xi,la,li,e8,w_undef,s_int,s_ptr,s_slice,s_bool,and'_eq,iff'_true]
   have hst:¬i<=j∨(!ltE cur[j]! cur[a]!)=false:=.inr (by simp [hl])
   rw [scanD_stop (p:=fun x=>!ltE x cur[a]!) (by omega) hst] at hD
   exact hE2 _ _ _ (by simp) (hK j _ _ hij hj hD hst hAb4 hSb4 (by simp only [SS,Nat.reduceBEq,Nat.reduceEqDiff,Nat.reduceAdd,reduceIte,Nat.reduceMul,t0,t1,ti,tj,tn,and_self]))
 ·have d1:¬(i:Int)<=(j:Int):=by omega
  simp only [F175,SS,Nat.reduceBEq,Nat.reduceEqDiff,Nat.reduceAdd,reduceIte,Nat.reduceMul,t0,t1,ti,tj,tn,eb4,d1,w_undef,s_int,s_ptr,s_slice,s_bool,and'_eq,iff'_true]
  have hst:¬i<=j∨(!ltE cur[j]! cur[a]!)=false:=.inl c1
  rw [scanD_stop (p:=fun x=>!ltE x cur[a]!) (by omega) hst] at hD
  exact hE2 _ _ _ (by simp) (hK j _ _ hij hj hD hst hAb4 hSb4 (by simp only [SS,Nat.reduceBEq,Nat.reduceEqDiff,Nat.reduceAdd,reduceIte,Nat.reduceMul,t0,t1,ti,tj,tn,and_self]))
theorem pu2 {m:Nat} (hm:2<=m) {X:Px} (hN:X.N<=40000) {h:Heap} {cur:Array El} (hA:X.At h cur) {a i0 j0:Nat} (ha:a<i0) (hij:i0<=j0+1) (hj:j0<X.N) {K:List Wt} {Q:XQ} {tm:Tr AV}
  (ht:tm.gt 0=some X.sv/\tm.gt 1=some (I a)/\tm.gt 10=some (I i0)/\tm.gt 11=some (I j0)/\tm.gt 168=none)
  (hK:∀ i tm2 h2,i0<=i->i<=j0+1->scanUp (fun x=>ltE x cur[a]!) cur j0 i0=i->(¬i<=j0∨(ltE cur[i]! cur[a]!)=false)->X.At h2 cur->PsB X h h2->tm2.gt 0=some X.sv/\tm2.gt 1=some (I a)/\tm2.gt 10=some (I i)/\tm2.gt 11=some (I j0)/\tm2.gt 168=none->ret (SC m) 100000 168 175 none (.exit 6) K tm2 h2 Q) :
  run (SC m) 100000 168 175 none c175_50 K tm h Q:=by
 refine run_loop (c:=c175_51) (I:=fun m' tm h'=>∃ i,i0<=i/\i<=j0+1/\m'=j0+1 - i/\X.At h' cur/\PsB X h h'/\scanUp (fun x=>ltE x cur[a]!) cur j0 i0=scanUp (fun x=>ltE x cur[a]!) cur j0 i/\tm.gt 0=some X.sv/\tm.gt 1=some (I a)/\tm.gt 10=some (I i)/\tm.gt 11=some (I j0)/\tm.gt 168=none) (n:=j0+1 - i0)
  ⟨i0,by omega,by omega,rfl,hA,Sm.refl _ _,rfl,ht⟩ (by omega) ?_
 rintro _ tm h4 ⟨i,hi,hij,rfl,hA4,hS4,hU,t0,t1,ti,tj,tn⟩ Q2 hN2 hE2
 obtain ⟨hb4,eb4,sb4,_,_⟩:=Sm.bump h4 14
 have hAb4:=hA4.sm sb4
 have hSb4:=hS4.tr (PsB.no sb4)
 have xa:=x_ia_51 (k:=.i64) (b:=X.b) (o:=0) (n:=X.N) (c:=X.cap) (g:=X.g) (show a<X.N by omega)
 have la:=hAb4.ld (i:=a) (by omega)
 by_cases c1:i<=j0
 ·have d1:(i:Int)<=(j0:Int):=by omega
  have xi:=x_ia_51 (k:=.i64) (b:=X.b) (o:=0) (n:=X.N) (c:=X.cap) (g:=X.g) (show i<X.N by omega)
  have li:=hAb4.ld (i:=i) (by omega)
  have e8:=less_ok (n:=m) (by omega) cur[i]! cur[a]! hb4
  cases hl:ltE cur[i]! cur[a]! with
  | true =>
   rw [hl] at e8
   simp only [F175,SS,Nat.reduceBEq,Nat.reduceEqDiff,Nat.reduceAdd,reduceIte,Nat.reduceMul,t0,t1,ti,tj,tn,eb4,d1,xa,xi,la,li,e8,w_undef,s_int,s_ptr,s_slice,s_bool,and'_eq,iff'_true,wAdd1 (show i<=1000000 by omega)]
   exact hN2 _ _ (j0+1 - (i+1)) (by omega) ⟨i+1,by omega,by omega,rfl,hAb4,hSb4,by rw [hU];exact scanU_step (p:=fun x=>ltE x cur[a]!) c1 (show (ltE cur[i]! cur[a]!)=true by simp [hl]),by simp only [SS,Nat.reduceBEq,Nat.reduceEqDiff,Nat.reduceAdd,reduceIte,Nat.reduceMul,t0,t1,ti,tj,tn,and_self]⟩
  | false =>
   rw [hl] at e8
   simp only [F175,SS,Nat.reduceBEq,Nat.reduceEqDiff,Nat.reduceAdd,reduceIte,Nat.reduceMul,t0,t1,ti,tj,tn,eb4,d1,xa,xi,la,li,e8,w_undef,s_int,s_ptr,s_slice,s_bool,and'_eq,iff'_true]
   have hst:¬i<=j0∨(ltE cur[i]! cur[a]!)=false:=.inr (by simp [hl])
   rw [scanU_stop (p:=fun x=>ltE x cur[a]!) hst] at hU
   exact hE2 _ _ _ (by simp) (hK i _ _ hi hij hU hst hAb4 hSb4 (by simp only [SS,Nat.reduceBEq,Nat.reduceEqDiff,Nat.reduceAdd,reduceIte,Nat.reduceMul,t0,t1,ti,tj,tn,and_self]))
 ·have d1:¬(i:Int)<=(j0:Int):=by omega
  simp only [F175,SS,Nat.reduceBEq,Nat.reduceEqDiff,Nat.reduceAdd,reduceIte,Nat.reduceMul,t0,t1,ti,tj,tn,eb4,d1,w_undef,s_int,s_ptr,s_slice,s_bool,and'_eq,iff'_true]
  have hst:¬i<=j0∨(ltE cur[i]! cur[a]!)=false:=.inl c1
  rw [scanU_stop (p:=fun x=>ltE x cur[a]!) hst] at hU
  exact hE2 _ _ _ (by simp) (hK i _ _ hi hij hU hst hAb4 hSb4 (by simp only [SS,Nat.reduceBEq,Nat.reduceEqDiff,Nat.reduceAdd,reduceIte,Nat.reduceMul,t0,t1,ti,tj,tn,and_self]))
theorem pd2 {m:Nat} (hm:2<=m) {X:Px} (hN:X.N<=40000) {h:Heap} {cur:Array El} (hA:X.At h cur) {a i j0:Nat} (ha:a<i) (hij:i<=j0+1) (hj:j0<X.N) {K:List Wt} {Q:XQ} {tm:Tr AV}
  (ht:tm.gt 0=some X.sv/\tm.gt 1=some (I a)/\tm.gt 10=some (I i)/\tm.gt 11=some (I j0)/\tm.gt 168=none)
  (hK:∀ j tm2 h2,i<=j+1->j<=j0->scanDown (fun x=>!ltE x cur[a]!) cur i j0=j->(¬i<=j∨(!ltE cur[j]! cur[a]!)=false)->X.At h2 cur->PsB X h h2->tm2.gt 0=some X.sv/\tm2.gt 1=some (I a)/\tm2.gt 10=some (I i)/\tm2.gt 11=some (I j)/\tm2.gt 168=none->ret (SC m) 100000 168 175 none (.exit 8) K tm2 h2 Q) :
  run (SC m) 100000 168 175 none c175_61 K tm h Q:=by
 refine run_loop (c:=c175_62) (I:=fun m' tm h'=>∃ j,i<=j+1/\j<=j0/\m'=j/\X.At h' cur/\PsB X h h'/\scanDown (fun x=>!ltE x cur[a]!) cur i j0=scanDown (fun x=>!ltE x cur[a]!) cur i j/\tm.gt 0=some X.sv/\tm.gt 1=some (I a)/\tm.gt 10=some (I i)/\tm.gt 11=some (I j)/\tm.gt 168=none) (n:=j0)
  ⟨j0,by omega,by omega,rfl,hA,Sm.refl _ _,rfl,ht⟩ (by omega) ?_
 rintro j tm h4 ⟨_,hij,hj,rfl,hA4,hS4,hD,t0,t1,ti,tj,tn⟩ Q2 hN2 hE2
 obtain ⟨hb4,eb4,sb4,_,_⟩:=Sm.bump h4 15
 have hAb4:=hA4.sm sb4
 have hSb4:=hS4.tr (PsB.no sb4)
 have xa:=x_ia_51 (k:=.i64) (b:=X.b) (o:=0) (n:=X.N) (c:=X.cap) (g:=X.g) (show a<X.N by omega)
 have la:=hAb4.ld (i:=a) (by omega)
 by_cases c1:i<=j
 ·have d1:(i:Int)<=(j:Int):=by omega
  have xi:=x_ia_51 (k:=.i64) (b:=X.b) (o:=0) (n:=X.N) (c:=X.cap) (g:=X.g) (show j<X.N by omega)
  have li:=hAb4.ld (i:=j) (by omega)
  have e8:=less_ok (n:=m) (by omega) cur[j]! cur[a]! hb4
  cases hl:ltE cur[j]! cur[a]! with
  | false =>
   rw [hl] at e8
   obtain ⟨j,rfl⟩:∃ j',j=j'+1:=⟨j - 1,by omega⟩
   simp only [F175,SS,Nat.reduceBEq,Nat.reduceEqDiff,Nat.reduceAdd,reduceIte,Nat.reduceMul,t0,t1,ti,tj,tn,eb4,d1,xa,xi,la,li,e8,w_undef,s_int,s_ptr,s_slice,s_bool,and'_eq,iff'_true,wSub1 (show 1<=j+1 by omega) (show j+1<=1000000 by omega),Nat.add_sub_cancel]
   exact hN2 _ _ j (by omega) ⟨j,by omega,by omega,rfl,hAb4,hSb4,by rw [hD];exact scanD_step (p:=fun x=>!ltE x cur[a]!) c1 (show (!ltE cur[j+1]! cur[a]!)=true by simp [hl]),by simp only [SS,Nat.reduceBEq,Nat.reduceEqDiff,Nat.reduceAdd,reduceIte,Nat.reduceMul,t0,t1,ti,tj,tn,and_self]⟩
  | true =>
   rw [hl] at e8
   simp only [F175,SS,Nat.reduceBEq,Nat.reduceEqDiff,Nat.reduceAdd,reduceIte,Nat.reduceMul,t0,t1,ti,tj,tn,eb4,d1,xa,xi,la,li,e8,w_undef,s_int,s_ptr,s_slice,s_bool,and'_eq,iff'_true]
   have hst:¬i<=j∨(!ltE cur[j]! cur[a]!)=false:=.inr (by simp [hl])
   rw [scanD_stop (p:=fun x=>!ltE x cur[a]!) (by omega) hst] at hD
   exact hE2 _ _ _ (by simp) (hK j _ _ hij hj hD hst hAb4 hSb4 (by simp only [SS,Nat.reduceBEq,Nat.reduceEqDiff,Nat.reduceAdd,reduceIte,Nat.reduceMul,t0,t1,ti,tj,tn,and_self]))
 ·have d1:¬(i:Int)<=(j:Int):=by omega
  simp only [F175,SS,Nat.reduceBEq,Nat.reduceEqDiff,Nat.reduceAdd,reduceIte,Nat.reduceMul,t0,t1,ti,tj,tn,eb4,d1,w_undef,s_int,s_ptr,s_slice,s_bool,and'_eq,iff'_true]
  have hst:¬i<=j∨(!ltE cur[j]! cur[a]!)=false:=.inl c1
  rw [scanD_stop (p:=fun x=>!ltE x cur[a]!) (by omega) hst] at hD
  exact hE2 _ _ _ (by simp) (hK j _ _ hij hj hD hst hAb4 hSb4 (by simp only [SS,Nat.reduceBEq,Nat.reduceEqDiff,Nat.reduceAdd,reduceIte,Nat.reduceMul,t0,t1,ti,tj,tn,and_self]))
theorem swap_at {X:Px} {h:Heap} {D:Array El} (hA:X.At h D) {i j:Nat} (n:Nat) (hi:i<X.N) (hj:j<X.N) :
  ∃ hb h1 h2,Heap.mk h.bs (h.next+n)=hb/\hb.ld1 X.b i=some (en D[i]!)/\hb.ld1 X.b j=some (en D[j]!)/\hb.st1 X.b i (en D[j]!)=some h1/\h1.st1 X.b j (en D[i]!)=some h2/\X.At h2 (swp D i j)/\PsB X h h2:=by
 obtain ⟨hb,eb,sb,_,_⟩:=Sm.bump h n
 have hAb:=hA.sm sb
 obtain ⟨h1,h2,e1,e2,a2,s2⟩:=hAb.swap hi hj
 exact ⟨hb,h1,h2,eb,hAb.ld hi,hAb.ld hj,e1,e2,a2,(PsB.no sb).tr s2⟩
theorem part_ok {n:Nat} (hn:3<=n) {X:Px} (hN:X.N<=40000) {h:Heap} {D:Array El} (hA:X.At h D) {a e p:Nat} (hap:a<=p) (hpe:p<e) (he:e<=X.N) :
  WC (SC n (.fn 175) [X.sv,I a,I e,I p] h) fun r h'=>r=.tuple [I (partition ltE D a e p).1,.bool (partition ltE D a e p).2.1]/\X.At h' (partition ltE D a e p).2.2/\PsB X h h':=by
 obtain ⟨m,rfl⟩:∃ m,n=m+1:=⟨n - 1,by omega⟩
 refine call_fn _ f175A rfl (by simp [fn175]) fun QQ hQ=>?_
 simp only [fn175] at hQ
 simp only [fn175,fill_cons,fill_nil,Nat.zero_add,Nat.reduceAdd]
 obtain ⟨hb,h1,h2,eb,l1,l2,e1,e2,a2,s2⟩:=swap_at hA 16 (i:=a) (j:=p) (by omega) (by omega)
 have xa:=x_ia_51 (k:=.i64) (b:=X.b) (o:=0) (n:=X.N) (c:=X.cap) (g:=X.g) (show a<X.N by omega)
 have xp:=x_ia_51 (k:=.i64) (b:=X.b) (o:=0) (n:=X.N) (c:=X.cap) (g:=X.g) (show p<X.N by omega)
 simp only [F175,SS,Nat.reduceBEq,Nat.reduceEqDiff,Nat.reduceAdd,reduceIte,Nat.reduceMul,eb,xa,xp,l1,l2,e1,e2,s_int,s_ptr,s_slice,s_bool,and'_eq,iff'_true,wAdd1 (show a<=1000000 by omega),wSub1 (show 1<=e by omega) (show e<=1000000 by omega)]
 obtain ⟨cur,hcur⟩:∃ cur,swp D a p=cur:=⟨_,rfl⟩
 rw [hcur] at a2
 refine pu1 (m:=m) (by omega) hN a2 (a:=a) (i0:=a+1) (j0:=e - 1) (by omega) (by omega) (by omega) (by simp only [SS,Nat.reduceBEq,Nat.reduceEqDiff,Nat.reduceAdd,reduceIte,Nat.reduceMul,and_self]) ?_
 intro i tm h3 hi1 hi2 hU hst3 A3 s3 ⟨t0,t1,t10,t11,tn⟩
 simp only [F175,SS,Nat.reduceBEq,Nat.reduceEqDiff,Nat.reduceAdd,reduceIte,Nat.reduceMul,t0,t1,t10,t11,tn]
 refine pd1 (m:=m) (by omega) hN A3 (a:=a) (i:=i) (j0:=e - 1) (by omega) (by omega) (by omega) (by simp only [SS,Nat.reduceBEq,Nat.reduceEqDiff,Nat.reduceAdd,reduceIte,Nat.reduceMul,t0,t1,t10,t11,tn,and_self]) ?_
 intro j tm h4 hj1 hj2 hD hst4 A4 s4 ⟨t0,t1,t10,t11,tn⟩
 have s04:PsB X h h4:=(s2.tr s3).tr s4
 have hdef:partition ltE D a e p=if i > j then (j,true,swp cur j a) else ((partLoop ltE a (i+1) (j - 1) (swp cur i j)).1,false,swp (partLoop ltE a (i+1) (j - 1) (swp cur i j)).2 (partLoop ltE a (i+1) (j - 1) (swp cur i j)).1 a):=by
  unfold partition
  simp only [hcur,hU,hD]
 rw [hdef] at hQ
 have xj:=x_ia_51 (k:=.i64) (b:=X.b) (o:=0) (n:=X.N) (c:=X.cap) (g:=X.g) (show j<X.N by omega)
 by_cases c1:j<i
 ·rw [if_pos c1] at hQ
  obtain ⟨hb5,h5,h6,eb5,l5,l6,e5,e6,a6,s6⟩:=swap_at A4 16 (i:=j) (j:=a) (by omega) (by omega)
  simp only [F175,SS,Nat.reduceBEq,Nat.reduceEqDiff,Nat.reduceAdd,reduceIte,Nat.reduceMul,t0,t1,t10,t11,tn,Int.ofNat_lt,c1,eb5,xa,xj,l5,l6,e5,e6,s_int,s_ptr,s_slice,s_bool,and'_eq,iff'_true]
  refine hQ _ _ _ _ (.inr rfl) (by simp only [SS,Nat.reduceBEq,Nat.reduceEqDiff,Nat.reduceAdd,reduceIte,Nat.reduceMul,tn]) (by simp only [SS,Nat.reduceBEq,Nat.reduceEqDiff,Nat.reduceAdd,reduceIte,Nat.reduceMul];rfl) ?_
  exact ⟨rfl,a6,s04.tr s6⟩
 ·rw [if_neg c1] at hQ
  have hne:i≠j:=by
   intro e
   subst e
   rcases hst3 with h | h
   ·omega
   ·rcases hst4 with h' | h'
    ·omega
    ·rw [h] at h';cases h'
  obtain ⟨hb5,h5,h6,eb5,l5,l6,e5,e6,a6,s6⟩:=swap_at A4 16 (i:=i) (j:=j) (by omega) (by omega)
  have xi:=x_ia_51 (k:=.i64) (b:=X.b) (o:=0) (n:=X.N) (c:=X.cap) (g:=X.g) (show i<X.N by omega)
  simp only [F175,SS,Nat.reduceBEq,Nat.reduceEqDiff,Nat.reduceAdd,reduceIte,Nat.reduceMul,t0,t1,t10,t11,tn,Int.ofNat_lt,c1,eb5,xi,xj,l5,l6,e5,e6,s_int,s_ptr,s_slice,s_bool,and'_eq,iff'_true,wAdd1 (show i<=1000000 by omega),wSub1 (show 1<=j by omega) (show j<=1000000 by omega)]
  obtain ⟨R,hR⟩:∃ R,partLoop ltE a (i+1) (j - 1) (swp cur i j)=R:=⟨_,rfl⟩
  rw [hR] at hQ
  refine run_loop (c:=c175_47) (I:=fun m' tm' h'=>∃ i j cur,a<i/\i<=j+1/\j<e/\m'=j+1 - i/\X.At h' cur/\PsB X h h'/\partLoop ltE a i j cur=R/\tm'.gt 0=some X.sv/\tm'.gt 1=some (I a)/\tm'.gt 10=some (I i)/\tm'.gt 11=some (I j)/\tm'.gt 168=none) (n:=j - 1+1 - (i+1))
   ⟨i+1,j - 1,_,by omega,by omega,by omega,rfl,a6,s04.tr s6,hR,by simp only [SS,Nat.reduceBEq,Nat.reduceEqDiff,Nat.reduceAdd,reduceIte,Nat.reduceMul,t0,t1,tn,and_self]⟩ (by omega) ?_
  clear hdef hU hD hR hst3 hst4 c1 hcur
  rintro _ tm h7 ⟨i0,j0,cur,hi0,hij0,hj0,rfl,A7,s7,hE0,t0,t1,t10,t11,tn⟩ Q1 hN1 hE
  rw [partLoop_eq] at hE0
  simp only [F175,SS,Nat.reduceBEq,Nat.reduceEqDiff,Nat.reduceAdd,reduceIte,Nat.reduceMul,t0,t1,t10,t11,tn]
  refine pu2 (m:=m) (by omega) hN A7 (a:=a) (i0:=i0) (j0:=j0) (by omega) (by omega) (by omega) (by simp only [SS,Nat.reduceBEq,Nat.reduceEqDiff,Nat.reduceAdd,reduceIte,Nat.reduceMul,t0,t1,t10,t11,tn,and_self]) ?_
  intro i tm h8 hi1 hi2 hU hst8 A8 s8 ⟨t0,t1,t10,t11,tn⟩
  simp only [F175,SS,Nat.reduceBEq,Nat.reduceEqDiff,Nat.reduceAdd,reduceIte,Nat.reduceMul,t0,t1,t10,t11,tn]
  refine pd2 (m:=m) (by omega) hN A8 (a:=a) (i:=i) (j0:=j0) (by omega) (by omega) (by omega) (by simp only [SS,Nat.reduceBEq,Nat.reduceEqDiff,Nat.reduceAdd,reduceIte,Nat.reduceMul,t0,t1,t10,t11,tn,and_self]) ?_
  intro j tm h9 hj1 hj2 hD hst9 A9 s9 ⟨t0,t1,t10,t11,tn⟩
  have s09:PsB X h h9:=(s7.tr s8).tr s9
  simp only [hU,hD] at hE0
  by_cases c1:j<i
  ·rw [if_pos c1] at hE0
   simp only [F175,SS,Nat.reduceBEq,Nat.reduceEqDiff,Nat.reduceAdd,reduceIte,Nat.reduceMul,t0,t1,t10,t11,tn,Int.ofNat_lt,c1]
   refine hE _ _ _ (by simp) ?_
   obtain ⟨hb5,h5,h6,eb5,l5,l6,e5,e6,a6,s6⟩:=swap_at A9 16 (i:=j) (j:=a) (by omega) (by omega)
   have xj:=x_ia_51 (k:=.i64) (b:=X.b) (o:=0) (n:=X.N) (c:=X.cap) (g:=X.g) (show j<X.N by omega)
   simp only [F175,SS,Nat.reduceBEq,Nat.reduceEqDiff,Nat.reduceAdd,reduceIte,Nat.reduceMul,t0,t1,t10,t11,tn,eb5,xa,xj,l5,l6,e5,e6,s_int,s_ptr,s_slice,s_bool,and'_eq,iff'_true]
   refine hQ _ _ _ _ (.inr rfl) (by simp only [SS,Nat.reduceBEq,Nat.reduceEqDiff,Nat.reduceAdd,reduceIte,Nat.reduceMul,tn]) (by simp only [SS,Nat.reduceBEq,Nat.reduceEqDiff,Nat.reduceAdd,reduceIte,Nat.reduceMul];rfl) ?_
   rw [← hE0]
   exact ⟨rfl,a6,s09.tr s6⟩
  ·rw [if_neg c1] at hE0
   have hne:i≠j:=by
    intro e
    subst e
    rcases hst8 with h | h
    ·omega
    ·rcases hst9 with h' | h'
     ·omega
     ·rw [h] at h';cases h'
   obtain ⟨hb5,h5,h6,eb5,l5,l6,e5,e6,a6,s6⟩:=swap_at A9 16 (i:=i) (j:=j) (by omega) (by omega)
   have xi:=x_ia_51 (k:=.i64) (b:=X.b) (o:=0) (n:=X.N) (c:=X.cap) (g:=X.g) (show i<X.N by omega)
   have xj:=x_ia_51 (k:=.i64) (b:=X.b) (o:=0) (n:=X.N) (c:=X.cap) (g:=X.g) (show j<X.N by omega)
   simp only [F175,SS,Nat.reduceBEq,Nat.reduceEqDiff,Nat.reduceAdd,reduceIte,Nat.reduceMul,t0,t1,t10,t11,tn,Int.ofNat_lt,c1,eb5,xi,xj,l5,l6,e5,e6,s_int,s_ptr,s_slice,s_bool,and'_eq,iff'_true,wAdd1 (show i<=1000000 by omega),wSub1 (show 1<=j by omega) (show j<=1000000 by omega)]
   exact hN1 _ _ (j - 1+1 - (i+1)) (by omega) ⟨i+1,j - 1,_,by omega,by omega,by omega,rfl,a6,s09.tr s6,hE0,by simp only [SS,Nat.reduceBEq,Nat.reduceEqDiff,Nat.reduceAdd,reduceIte,Nat.reduceMul,t0,t1,tn,and_self]⟩
end Go.Proofs.YtboobbebilegnaaGreat
namespace Go.Proofs.YtboobbebilegnaaGreat
open Go.Am Go.Sort
set_option maxRecDepth 10000
theorem pi_scan {m:Nat} (hm:2<=m) {X:Px} (hN:X.N<=40000) {h:Heap} {cur:Array El} (hA:X.At h cur) {e i0:Nat} {J:Int} (h1:1<=i0) (hie:i0<=e) (he:e<=X.N) {a:Nat} {K:List Wt} {Q:XQ} {tm:Tr AV}
  (ht:tm.gt 0=some X.sv/\tm.gt 1=some (I a)/\tm.gt 2=some (I e)/\tm.gt 7=some (I i0)/\tm.gt 8=some (.int .i64 J)/\tm.gt 133=none)
  (hK:∀ i tm2 h2,i0<=i->i<=e->scanSorted ltE cur e i0=i->X.At h2 cur->PsB X h h2->tm2.gt 0=some X.sv/\tm2.gt 1=some (I a)/\tm2.gt 2=some (I e)/\tm2.gt 7=some (I i)/\tm2.gt 8=some (.int .i64 J)/\tm2.gt 133=none->ret (SC m) 100000 133 172 none (.exit 2) K tm2 h2 Q) :
  run (SC m) 100000 133 172 none c172_19 K tm h Q:=by
 refine run_loop (c:=c172_20) (I:=fun m' tm h'=>∃ i,i0<=i/\i<=e/\m'=e - i/\X.At h' cur/\PsB X h h'/\scanSorted ltE cur e i0=scanSorted ltE cur e i/\tm.gt 0=some X.sv/\tm.gt 1=some (I a)/\tm.gt 2=some (I e)/\tm.gt 7=some (I i)/\tm.gt 8=some (.int .i64 J)/\tm.gt 133=none) (n:=e - i0)
  ⟨i0,by omega,by omega,rfl,hA,Sm.refl _ _,rfl,ht⟩ (by omega) ?_
 rintro _ tm h4 ⟨i,hi,hie,rfl,hA4,hS4,hU,t0,t1,t2,t7,t8,tn⟩ Q2 hN2 hE2
 obtain ⟨hb4,eb4,sb4,_,_⟩:=Sm.bump h4 16
 have hAb4:=hA4.sm sb4
 have hSb4:=hS4.tr (PsB.no sb4)
 by_cases c1:i<e
 ·have xa:=x_ia_51 (k:=.i64) (b:=X.b) (o:=0) (n:=X.N) (c:=X.cap) (g:=X.g) (show i<X.N by omega)
  have xb:=x_ia_51 (k:=.i64) (b:=X.b) (o:=0) (n:=X.N) (c:=X.cap) (g:=X.g) (show i - 1<X.N by omega)
  have la:=hAb4.ld (i:=i) (by omega)
  have lb:=hAb4.ld (i:=i - 1) (by omega)
  have e8:=less_ok (n:=m) (by omega) cur[i]! cur[i - 1]! hb4
  cases hl:ltE cur[i]! cur[i - 1]! with
  | false =>
   rw [hl] at e8
   simp only [F172,r172_71,r172_95,SS,Nat.reduceBEq,Nat.reduceEqDiff,Nat.reduceAdd,reduceIte,Nat.reduceMul,t0,t1,t2,t7,t8,tn,eb4,Int.ofNat_lt,c1,xa,xb,la,lb,wSub1 (show 1<=i by omega) (show i<=1000000 by omega),e8,w_undef,s_int,s_ptr,s_slice,s_bool,and'_eq,iff'_true,wAdd1 (show i<=1000000 by omega)]
   exact hN2 _ _ (e - (i+1)) (by omega) ⟨i+1,by omega,by omega,rfl,hAb4,hSb4,by rw [hU,scanSorted,if_pos];simp [c1,hl],by simp only [SS,Nat.reduceBEq,Nat.reduceEqDiff,Nat.reduceAdd,reduceIte,Nat.reduceMul,t0,t1,t2,t7,t8,tn,and_self]⟩
  | true =>
   rw [hl] at e8
   simp only [F172,r172_71,r172_95,SS,Nat.reduceBEq,Nat.reduceEqDiff,Nat.reduceAdd,reduceIte,Nat.reduceMul,t0,t1,t2,t7,t8,tn,eb4,Int.ofNat_lt,c1,xa,xb,la,lb,wSub1 (show 1<=i by omega) (show i<=1000000 by omega),e8,w_undef,s_int,s_ptr,s_slice,s_bool,and'_eq,iff'_true]
   exact hE2 _ _ _ (by simp) (hK i _ _ hi hie (by rw [hU,scanSorted,if_neg];simp [hl]) hAb4 hSb4 (by simp only [SS,Nat.reduceBEq,Nat.reduceEqDiff,Nat.reduceAdd,reduceIte,Nat.reduceMul,t0,t1,t2,t7,t8,tn,and_self]))
 ·simp only [F172,r172_71,r172_95,SS,Nat.reduceBEq,Nat.reduceEqDiff,Nat.reduceAdd,reduceIte,Nat.reduceMul,t0,t1,t2,t7,t8,tn,eb4,Int.ofNat_lt,c1,w_undef,s_int,s_ptr,s_slice,s_bool,and'_eq,iff'_true]
  exact hE2 _ _ _ (by simp) (hK i _ _ hi hie (by rw [hU,scanSorted,if_neg];simp [c1]) hAb4 hSb4 (by simp only [SS,Nat.reduceBEq,Nat.reduceEqDiff,Nat.reduceAdd,reduceIte,Nat.reduceMul,t0,t1,t2,t7,t8,tn,and_self]))
theorem pi_down {m:Nat} (hm:2<=m) {X:Px} (hN:X.N<=40000) {h:Heap} {D:Array El} (hA:X.At h D) {e i a j0:Nat} {J:Int} (hj:j0<X.N) {K:List Wt} {Q:XQ} {tm:Tr AV}
  (ht:tm.gt 0=some X.sv/\tm.gt 1=some (I a)/\tm.gt 2=some (I e)/\tm.gt 7=some (I i)/\tm.gt 8=some (.int .i64 J)/\tm.gt 9=some (I j0)/\tm.gt 133=none)
  (hK:∀ tm2 h2,X.At h2 (shiftDown ltE j0 D)->PsB X h h2->tm2.gt 0=some X.sv/\tm2.gt 1=some (I a)/\tm2.gt 2=some (I e)/\tm2.gt 7=some (I i)/\tm2.gt 8=some (.int .i64 J)/\tm2.gt 133=none->ret (SC m) 100000 133 172 none (.exit 4) K tm2 h2 Q) :
  run (SC m) 100000 133 172 none c172_53 K tm h Q:=by
 refine run_loop (c:=c172_54) (I:=fun m' tm h'=>∃ j cur,j<=j0/\m'=j/\X.At h' cur/\PsB X h h'/\shiftDown ltE j cur=shiftDown ltE j0 D/\tm.gt 0=some X.sv/\tm.gt 1=some (I a)/\tm.gt 2=some (I e)/\tm.gt 7=some (I i)/\tm.gt 8=some (.int .i64 J)/\tm.gt 9=some (I j)/\tm.gt 133=none) (n:=j0)
  ⟨j0,D,by omega,rfl,hA,Sm.refl _ _,rfl,ht⟩ (by omega) ?_
 rintro j tm h4 ⟨_,cur,hjj,rfl,hA4,hS4,hU,t0,t1,t2,t7,t8,t9,tn⟩ Q2 hN2 hE2
 cases j with
 | zero =>
  have d1:¬(1:Int)<=((0:Nat):Int):=by decide
  simp only [F172,r172_71,r172_95,SS,Nat.reduceBEq,Nat.reduceEqDiff,Nat.reduceAdd,reduceIte,Nat.reduceMul,t0,t1,t2,t7,t8,t9,tn,d1]
  exact hE2 _ _ _ (by simp) (hK _ _ (by rw [← hU];exact hA4) hS4 (by simp only [SS,Nat.reduceBEq,Nat.reduceEqDiff,Nat.reduceAdd,reduceIte,Nat.reduceMul,t0,t1,t2,t7,t8,tn,and_self]))
 | succ j =>
  have d1:(1:Int)<=((j+1:Nat):Int):=by omega
  obtain ⟨hb4,eb4,sb4,_,_⟩:=Sm.bump h4 11
  have hAb4:=hA4.sm sb4
  have hSb4:=hS4.tr (PsB.no sb4)
  have xa:=x_ia_51 (k:=.i64) (b:=X.b) (o:=0) (n:=X.N) (c:=X.cap) (g:=X.g) (show j+1<X.N by omega)
  have xb:=x_ia_51 (k:=.i64) (b:=X.b) (o:=0) (n:=X.N) (c:=X.cap) (g:=X.g) (show j<X.N by omega)
  have la:=hAb4.ld (i:=j+1) (by omega)
  have lb:=hAb4.ld (i:=j) (by omega)
  have ew:IntKind.i64.wrap (((j+1:Nat):Int) - 1)=(j:Int):=by rw [wrap_i64 (by omega) (by omega)];omega
  have e8:=less_ok (n:=m) (by omega) cur[j+1]! cur[j]! hb4
  cases hl:ltE cur[j+1]! cur[j]! with
  | true =>
   rw [hl] at e8
   obtain ⟨hb5,h5,h6,eb5,l5,l6,e5,e6,a6,s6⟩:=swap_at hAb4 18 (i:=j+1) (j:=j) (by omega) (by omega)
   simp only [F172,r172_71,r172_95,SS,Nat.reduceBEq,Nat.reduceEqDiff,Nat.reduceAdd,reduceIte,Nat.reduceMul,t0,t1,t2,t7,t8,t9,tn,d1,eb4,xa,xb,la,lb,ew,e8,eb5,l5,l6,e5,e6,w_undef,s_int,s_ptr,s_slice,s_bool,and'_eq,iff'_true]
   exact hN2 _ _ j (by omega) ⟨j,_,by omega,rfl,a6,hSb4.tr s6,by rw [← hU,shiftDown,if_neg];simp [hl],by simp only [SS,Nat.reduceBEq,Nat.reduceEqDiff,Nat.reduceAdd,reduceIte,Nat.reduceMul,t0,t1,t2,t7,t8,tn,and_self]⟩
  | false =>
   rw [hl] at e8
   simp only [F172,r172_71,r172_95,SS,Nat.reduceBEq,Nat.reduceEqDiff,Nat.reduceAdd,reduceIte,Nat.reduceMul,t0,t1,t2,t7,t8,t9,tn,d1,eb4,xa,xb,la,lb,ew,e8,w_undef,s_int,s_ptr,s_slice,s_bool,and'_eq,iff'_true]
   exact hE2 _ _ _ (by simp) (hK _ _ (by rw [← hU,shiftDown,if_pos (by simp [hl])];exact hAb4) hSb4 (by simp only [SS,Nat.reduceBEq,Nat.reduceEqDiff,Nat.reduceAdd,reduceIte,Nat.reduceMul,t0,t1,t2,t7,t8,tn,and_self]))
theorem pi_up {m:Nat} (hm:2<=m) {X:Px} (hN:X.N<=40000) {h:Heap} {D:Array El} (hA:X.At h D) {e i a j0:Nat} {J:Int} (hj1:1<=j0) (hj:j0<=e) (he:e<=X.N) {K:List Wt} {Q:XQ} {tm:Tr AV}
  (ht:tm.gt 0=some X.sv/\tm.gt 1=some (I a)/\tm.gt 2=some (I e)/\tm.gt 7=some (I i)/\tm.gt 8=some (.int .i64 J)/\tm.gt 10=some (I j0)/\tm.gt 133=none)
  (hK:∀ tm2 h2,X.At h2 (shiftUp ltE e j0 D)->PsB X h h2->tm2.gt 0=some X.sv/\tm2.gt 1=some (I a)/\tm2.gt 2=some (I e)/\tm2.gt 7=some (I i)/\tm2.gt 8=some (.int .i64 J)/\tm2.gt 133=none->ret (SC m) 100000 133 172 none (.exit 6) K tm2 h2 Q) :
  run (SC m) 100000 133 172 none c172_77 K tm h Q:=by
 refine run_loop (c:=c172_78) (I:=fun m' tm h'=>∃ j cur,j0<=j/\j<=e/\m'=e - j/\X.At h' cur/\PsB X h h'/\shiftUp ltE e j cur=shiftUp ltE e j0 D/\tm.gt 0=some X.sv/\tm.gt 1=some (I a)/\tm.gt 2=some (I e)/\tm.gt 7=some (I i)/\tm.gt 8=some (.int .i64 J)/\tm.gt 10=some (I j)/\tm.gt 133=none) (n:=e - j0)
  ⟨j0,D,by omega,by omega,rfl,hA,Sm.refl _ _,rfl,ht⟩ (by omega) ?_
 rintro _ tm h4 ⟨j,cur,hjj,hje,rfl,hA4,hS4,hU,t0,t1,t2,t7,t8,t10,tn⟩ Q2 hN2 hE2
 by_cases c1:j<e
 ·obtain ⟨hb4,eb4,sb4,_,_⟩:=Sm.bump h4 11
  have hAb4:=hA4.sm sb4
  have hSb4:=hS4.tr (PsB.no sb4)
  have xa:=x_ia_51 (k:=.i64) (b:=X.b) (o:=0) (n:=X.N) (c:=X.cap) (g:=X.g) (show j<X.N by omega)
  have xb:=x_ia_51 (k:=.i64) (b:=X.b) (o:=0) (n:=X.N) (c:=X.cap) (g:=X.g) (show j - 1<X.N by omega)
  have la:=hAb4.ld (i:=j) (by omega)
  have lb:=hAb4.ld (i:=j - 1) (by omega)
  have ew:=wSub1 (show 1<=j by omega) (show j<=1000000 by omega)
  have e8:=less_ok (n:=m) (by omega) cur[j]! cur[j - 1]! hb4
  cases hl:ltE cur[j]! cur[j - 1]! with
  | true =>
   rw [hl] at e8
   obtain ⟨hb5,h5,h6,eb5,l5,l6,e5,e6,a6,s6⟩:=swap_at hAb4 18 (i:=j) (j:=j - 1) (by omega) (by omega)
   simp only [F172,r172_71,r172_95,SS,Nat.reduceBEq,Nat.reduceEqDiff,Nat.reduceAdd,reduceIte,Nat.reduceMul,t0,t1,t2,t7,t8,t10,tn,Int.ofNat_lt,c1,eb4,xa,xb,la,lb,ew,e8,eb5,l5,l6,e5,e6,w_undef,s_int,s_ptr,s_slice,s_bool,and'_eq,iff'_true,wAdd1 (show j<=1000000 by omega)]
   exact hN2 _ _ (e - (j+1)) (by omega) ⟨j+1,_,by omega,by omega,rfl,a6,hSb4.tr s6,by rw [← hU];conv=>rhs;rw [shiftUp,if_pos c1,if_neg (by simp [hl])],by simp only [SS,Nat.reduceBEq,Nat.reduceEqDiff,Nat.reduceAdd,reduceIte,Nat.reduceMul,t0,t1,t2,t7,t8,tn,and_self]⟩
  | false =>
   rw [hl] at e8
   simp only [F172,r172_71,r172_95,SS,Nat.reduceBEq,Nat.reduceEqDiff,Nat.reduceAdd,reduceIte,Nat.reduceMul,t0,t1,t2,t7,t8,t10,tn,Int.ofNat_lt,c1,eb4,xa,xb,la,lb,ew,e8,w_undef,s_int,s_ptr,s_slice,s_bool,and'_eq,iff'_true]
   exact hE2 _ _ _ (by simp) (hK _ _ (by rw [← hU,shiftUp,if_pos c1,if_pos (by simp [hl])];exact hAb4) hSb4 (by simp only [SS,Nat.reduceBEq,Nat.reduceEqDiff,Nat.reduceAdd,reduceIte,Nat.reduceMul,t0,t1,t2,t7,t8,tn,and_self]))
 ·simp only [F172,r172_71,r172_95,SS,Nat.reduceBEq,Nat.reduceEqDiff,Nat.reduceAdd,reduceIte,Nat.reduceMul,t0,t1,t2,t7,t8,t10,tn,Int.ofNat_lt,c1]
  exact hE2 _ _ _ (by simp) (hK _ _ (by rw [← hU,shiftUp,if_neg c1];exact hA4) hS4 (by simp only [SS,Nat.reduceBEq,Nat.reduceEqDiff,Nat.reduceAdd,reduceIte,Nat.reduceMul,t0,t1,t2,t7,t8,tn,and_self]))
theorem pins_ok {n:Nat} (hn:3<=n) {X:Px} (hN:X.N<=40000) {h:Heap} {D:Array El} (hA:X.At h D) {a e:Nat} (hae:a<e) (he:e<=X.N) :
  WC (SC n (.fn 172) [X.sv,I a,I e] h) fun r h'=>r=.bool (partialInsertionSort ltE D a e).2/\X.At h' (partialInsertionSort ltE D a e).1/\PsB X h h':=by
 obtain ⟨m,rfl⟩:∃ m,n=m+1:=⟨n - 1,by omega⟩
 refine call_fn _ f172A rfl (by simp [fn172]) fun QQ hQ=>?_
 simp only [fn172] at hQ
 simp only [fn172,fill_cons,fill_nil,Nat.zero_add,Nat.reduceAdd]
 obtain ⟨R,hR⟩:∃ R,partialInsertionSort ltE D a e=R:=⟨_,rfl⟩
 rw [hR] at hQ
 have hR:partialIns ltE a e 5 (a+1) D=R:=hR
 simp only [F172,r172_71,r172_95,SS,Nat.reduceBEq,Nat.reduceEqDiff,Nat.reduceAdd,reduceIte,Nat.reduceMul,wAdd1 (show a<=1000000 by omega)]
 refine run_loop (c:=c172_9) (I:=fun m' tm' h'=>∃ s i cur,s<=5/\m'=s/\a+1<=i/\i<=e/\X.At h' cur/\PsB X h h'/\partialIns ltE a e s i cur=R/\tm'.gt 0=some X.sv/\tm'.gt 1=some (I a)/\tm'.gt 2=some (I e)/\tm'.gt 7=some (I i)/\tm'.gt 8=some (I (5 - s))/\tm'.gt 133=none) (n:=5)
  ⟨5,a+1,D,by omega,rfl,by omega,by omega,hA,Sm.refl _ _,hR,by simp [gt_same,gt_other,gt_leaf]⟩ (by omega) ?_
 rintro s tm h1 ⟨_,i0,cur,hs,rfl,hi1,hi2,A1,s1,hE0,t0,t1,t2,t7,t8,tn⟩ Q1 hN1 hE
 cases s with
 | zero =>
  have d1:¬((5 - 0:Nat):Int)<5:=by decide
  simp only [F172,r172_71,r172_95,SS,Nat.reduceBEq,Nat.reduceEqDiff,Nat.reduceAdd,reduceIte,Nat.reduceMul,t0,t1,t2,t7,t8,tn,d1]
  refine hE _ _ _ (by simp) ?_
  simp only [F172,r172_71,r172_95,SS,Nat.reduceBEq,Nat.reduceEqDiff,Nat.reduceAdd,reduceIte,Nat.reduceMul,tn]
  refine hQ _ _ _ _ (.inr rfl) (by simp only [SS,Nat.reduceBEq,Nat.reduceEqDiff,Nat.reduceAdd,reduceIte,Nat.reduceMul,tn]) (by simp only [SS,Nat.reduceBEq,Nat.reduceEqDiff,Nat.reduceAdd,reduceIte,Nat.reduceMul];rfl) ?_
  rw [← hE0];exact ⟨rfl,A1,s1⟩
 | succ s =>
  rw [partialIns_succ] at hE0
  unfold fixUp fixDown at hE0
  have d1:((5 - (s+1):Nat):Int)<5:=by omega
  simp only [F172,r172_71,r172_95,SS,Nat.reduceBEq,Nat.reduceEqDiff,Nat.reduceAdd,reduceIte,Nat.reduceMul,t0,t1,t2,t7,t8,tn,d1]
  refine pi_scan (J:=((5 - (s+1):Nat):Int)) (m:=m) (by omega) hN A1 (e:=e) (i0:=i0) (a:=a) (by omega) hi2 he (by simp only [SS,Nat.reduceBEq,Nat.reduceEqDiff,Nat.reduceAdd,reduceIte,Nat.reduceMul,t0,t1,t2,t7,t8,tn,and_self]) ?_
  rintro i tm h2 hi3 hi4 hU A2 s2 ⟨t0,t1,t2,t7,t8,tn⟩
  rw [hU] at hE0
  have s02:=s1.tr s2
  by_cases c1:i=e
  ·rw [if_pos c1] at hE0
   subst c1
   simp only [F172,r172_71,r172_95,SS,Nat.reduceBEq,Nat.reduceEqDiff,Nat.reduceAdd,reduceIte,Nat.reduceMul,t0,t1,t2,t7,t8,tn]
   refine hE _ _ _ (by simp) ?_
   simp only [SS,Nat.reduceBEq,Nat.reduceEqDiff,Nat.reduceAdd,reduceIte,Nat.reduceMul]
   refine hQ _ _ _ _ (.inr rfl) (by simp only [SS,Nat.reduceBEq,Nat.reduceEqDiff,Nat.reduceAdd,reduceIte,Nat.reduceMul,tn]) (by simp only [SS,Nat.reduceBEq,Nat.reduceEqDiff,Nat.reduceAdd,reduceIte,Nat.reduceMul];rfl) ?_
   rw [← hE0];exact ⟨rfl,A2,s02⟩
  ·rw [if_neg c1] at hE0
   have c1':¬(i:Int)=(e:Int):=by omega
   have w0:=wSub (show a<=e by omega) (show e<=1000000 by omega)
   by_cases c2:e - a<50
   ·rw [if_pos c2] at hE0
    have d2:((e - a:Nat):Int)<50:=by omega
    simp only [F172,r172_71,r172_95,SS,Nat.reduceBEq,Nat.reduceEqDiff,Nat.reduceAdd,reduceIte,Nat.reduceMul,t0,t1,t2,t7,t8,tn,c1',w0,d2]
    refine hE _ _ _ (by simp) ?_
    simp only [SS,Nat.reduceBEq,Nat.reduceEqDiff,Nat.reduceAdd,reduceIte,Nat.reduceMul]
    refine hQ _ _ _ _ (.inr rfl) (by simp only [SS,Nat.reduceBEq,Nat.reduceEqDiff,Nat.reduceAdd,reduceIte,Nat.reduceMul,tn]) (by simp only [SS,Nat.reduceBEq,Nat.reduceEqDiff,Nat.reduceAdd,reduceIte,Nat.reduceMul];rfl) ?_
    rw [← hE0];exact ⟨rfl,A2,s02⟩
   ·rw [if_neg c2] at hE0
    have d2:¬((e - a:Nat):Int)<50:=by omega
    obtain ⟨hb5,h5,h6,eb5,l5,l6,e5,e6,a6,s6⟩:=swap_at A2 18 (i:=i) (j:=i - 1) (by omega) (by omega)
    have xa:=x_ia_51 (k:=.i64) (b:=X.b) (o:=0) (n:=X.N) (c:=X.cap) (g:=X.g) (show i<X.N by omega)
    have xb:=x_ia_51 (k:=.i64) (b:=X.b) (o:=0) (n:=X.N) (c:=X.cap) (g:=X.g) (show i - 1<X.N by omega)
    have w1:=wSub1 (show 1<=i by omega) (show i<=1000000 by omega)
    have w2:=wSub (show a<=i by omega) (show i<=1000000 by omega)
    have w3:=wSub (show i<=e by omega) (show e<=1000000 by omega)
    
    have nx:∀ tm h7 cur7,X.At h7 cur7->PsB X h h7->partialIns ltE a e s i cur7=R->tm.gt 0=some X.sv->tm.gt 1=some (I a)->tm.gt 2=some (I e)->tm.gt 7=some (I i)->tm.gt 8=some (I (5 - (s+1)))->tm.gt 133=none->run (SC m) 100000 133 172 none c172_95 [] tm h7 Q1:=by
     intro tm h7 cur7 A7 s7 hE7 t0 t1 t2 t7 t8 tn
     have w9:=wAdd1 (show 5 - (s+1)<=1000000 by omega)
     simp only [F172,r172_71,r172_95,SS,Nat.reduceBEq,Nat.reduceEqDiff,Nat.reduceAdd,reduceIte,Nat.reduceMul,t0,t1,t2,t7,t8,tn,w9]
     exact hN1 _ _ s (by omega) ⟨s,i,cur7,by omega,rfl,by omega,by omega,A7,s7,hE7,by simp only [SS,Nat.reduceBEq,Nat.reduceEqDiff,Nat.reduceAdd,reduceIte,Nat.reduceMul,t0,t1,t2,t7,tn,true_and,and_true];rw [show 5 - (s+1)+1=5 - s by omega]⟩
    
    have up:∀ tm h7 cur7,X.At h7 cur7->PsB X h h7->partialIns ltE a e s i (if e - i≥2 then shiftUp ltE e (i+1) cur7 else cur7)=R->tm.gt 0=some X.sv->tm.gt 1=some (I a)->tm.gt 2=some (I e)->tm.gt 7=some (I i)->tm.gt 8=some (I (5 - (s+1)))->tm.gt 133=none->run (SC m) 100000 133 172 none c172_71 [.blk 1,.seq c172_95] tm h7 Q1:=by
     intro tm h7 cur7 A7 s7 hE7 t0 t1 t2 t7 t8 tn
     by_cases c4:2<=e - i
     ·rw [if_pos c4] at hE7
      have d4:(2:Int)<=((e - i:Nat):Int):=by omega
      simp only [F172,r172_71,SS,Nat.reduceBEq,Nat.reduceEqDiff,Nat.reduceAdd,reduceIte,Nat.reduceMul,t0,t1,t2,t7,t8,tn,w3,d4,wAdd1 (show i<=1000000 by omega)]
      refine pi_up (J:=((5 - (s+1):Nat):Int)) (m:=m) (by omega) hN A7 (e:=e) (i:=i) (a:=a) (j0:=i+1) (by omega) (by omega) he (by simp only [SS,Nat.reduceBEq,Nat.reduceEqDiff,Nat.reduceAdd,reduceIte,Nat.reduceMul,t0,t1,t2,t7,t8,tn,and_self]) ?_
      rintro tm h8 A8 s8 ⟨t0,t1,t2,t7,t8,tn⟩
      simp only [SS,Nat.reduceBEq,Nat.reduceEqDiff,Nat.reduceAdd,reduceIte,Nat.reduceMul]
      exact nx _ _ _ A8 (s7.tr s8) hE7 t0 t1 t2 t7 t8 tn
     ·rw [if_neg c4] at hE7
      have d4:¬(2:Int)<=((e - i:Nat):Int):=by omega
      simp only [F172,r172_71,SS,Nat.reduceBEq,Nat.reduceEqDiff,Nat.reduceAdd,reduceIte,Nat.reduceMul,t0,t1,t2,t7,t8,tn,w3,d4]
      exact nx _ _ _ A7 s7 hE7 (by simp only [SS,Nat.reduceBEq,t0]) (by simp only [SS,Nat.reduceBEq,t1]) (by simp only [SS,Nat.reduceBEq,t2]) (by simp only [SS,Nat.reduceBEq,t7]) (by simp only [SS,Nat.reduceBEq,t8]) (by simp only [SS,Nat.reduceBEq,Nat.reduceEqDiff,Nat.reduceAdd,reduceIte,Nat.reduceMul,tn])
    by_cases c3:2<=i - a
    ·rw [if_pos (show i - a≥2 from c3)] at hE0
     have d3:(2:Int)<=((i - a:Nat):Int):=by omega
     simp only [F172,r172_95,SS,Nat.reduceBEq,Nat.reduceEqDiff,Nat.reduceAdd,reduceIte,Nat.reduceMul,t0,t1,t2,t7,t8,tn,c1',w0,d2,eb5,xa,xb,w1,l5,l6,e5,e6,w2,d3,s_int,s_ptr,s_slice,s_bool,and'_eq,iff'_true]
     refine pi_down (J:=((5 - (s+1):Nat):Int)) (m:=m) (by omega) hN a6 (e:=e) (i:=i) (a:=a) (j0:=i - 1) (by omega) (by simp only [SS,Nat.reduceBEq,Nat.reduceEqDiff,Nat.reduceAdd,reduceIte,Nat.reduceMul,t0,t1,t2,t7,t8,tn,and_self]) ?_
     rintro tm h8 A8 s8 ⟨t0,t1,t2,t7,t8,tn⟩
     simp only [SS,Nat.reduceBEq,Nat.reduceEqDiff,Nat.reduceAdd,reduceIte,Nat.reduceMul]
     exact up _ _ _ A8 ((s02.tr s6).tr s8) hE0 t0 t1 t2 t7 t8 tn
    ·rw [if_neg (show ¬i - a≥2 from c3)] at hE0
     have d3:¬(2:Int)<=((i - a:Nat):Int):=by omega
     simp only [F172,r172_95,SS,Nat.reduceBEq,Nat.reduceEqDiff,Nat.reduceAdd,reduceIte,Nat.reduceMul,t0,t1,t2,t7,t8,tn,c1',w0,d2,eb5,xa,xb,w1,l5,l6,e5,e6,w2,d3,s_int,s_ptr,s_slice,s_bool,and'_eq,iff'_true]
     exact up _ _ _ a6 (s02.tr s6) hE0 (by simp only [SS,Nat.reduceBEq,t0]) (by simp only [SS,Nat.reduceBEq,t1]) (by simp only [SS,Nat.reduceBEq,t2]) (by simp only [SS,Nat.reduceBEq,t7]) (by simp only [SS,Nat.reduceBEq,t8]) (by simp only [SS,Nat.reduceBEq,Nat.reduceEqDiff,Nat.reduceAdd,reduceIte,Nat.reduceMul,tn])
end Go.Proofs.YtboobbebilegnaaGreat
namespace Go.Proofs.YtboobbebilegnaaGreat
open Go.Am Go.Sort
set_option maxRecDepth 10000
theorem swoE:SWO ltE:=swo_ltInt
def PdqAt (X:Px) (L:Nat):Prop:=∀ {n:Nat} {h:Heap} {D:Array El} {a e lim:Nat},L+7<=n->bitsLen (e - a)<=L->X.At h D->a<=e->e<=X.N->lim<=1000->Below ltE a e D ->
  WC (SC n (.fn 143) [X.sv,I a,I e,I lim] h) fun r h'=>∃ D',X.At h' D'/\PermIn a e D D'/\SortedIn ltE a e D'/\PsB X h h'
theorem pdq_zero {X:Px} (hN:X.N<=40000):PdqAt X 0:=by
 intro n h D a e lim hn hL hA hae he hlim hB
 have h0:e - a<2^0:=(bitsLen_le_iff _ _).1 hL
 have h12:((e - a:Nat):Int)<=12:=by omega
 obtain ⟨m,rfl⟩:∃ m,n=m+1:=⟨n - 1,by omega⟩
 refine call_fn _ f143A rfl (by simp [fn143]) fun QQ hQ=>?_
 simp only [fn143] at hQ
 simp only [fn143,fill_cons,fill_nil,Nat.zero_add,Nat.reduceAdd]
 obtain ⟨_,h1,e1,a1,s1⟩:=insI_ok (n:=m) (by omega) hN hA hae he
 obtain ⟨p1,p2⟩:=insertionSort_holds swoE D a e hae (by rw [hA.sz];exact he)
 have w0:=wSub hae (show e<=1000000 by omega)
 simp only [F143,r143_65,r143_55,r143_45,r143_33,SS,Nat.reduceBEq,Nat.reduceEqDiff,Nat.reduceAdd,reduceIte,Nat.reduceMul]
 refine run_loop (c:=c143_6) (I:=fun m' tm' h'=>m'=0/\h'=h/\tm'.gt 0=some X.sv/\tm'.gt 1=some (I a)/\tm'.gt 2=some (I e)/\tm'.gt 134=none) (n:=0) ⟨rfl,rfl,by simp [gt_same,gt_other,gt_leaf]⟩ (by omega) ?_
 rintro _ tm h' ⟨rfl,rfl,t0,t1,t2,tn⟩ Q1 hN1 hE
 simp only [F143,r143_65,r143_55,r143_45,r143_33,SS,Nat.reduceBEq,Nat.reduceEqDiff,Nat.reduceAdd,reduceIte,Nat.reduceMul,t0,t1,t2,tn,w0,h12,e1]
 refine hE _ _ _ (by simp) ?_
 simp only [SS,Nat.reduceBEq,Nat.reduceEqDiff,Nat.reduceAdd,reduceIte,Nat.reduceMul]
 exact hQ _ _ _ _ (.inr rfl) (by simp only [SS,Nat.reduceBEq,Nat.reduceEqDiff,Nat.reduceAdd,reduceIte,Nat.reduceMul,tn]) (by simp only [SS,Nat.reduceBEq,Nat.reduceEqDiff,Nat.reduceAdd,reduceIte,Nat.reduceMul];rfl) ⟨_,a1,p1,p2,s1⟩
set_option maxHeartbeats 1000000 in
theorem pdq_succ {X:Px} (hN:X.N<=40000) {L:Nat} (ih:PdqAt X L):PdqAt X (L+1):=by
 intro n h D a e lim hn hL hA hae he hlim hB
 obtain ⟨m,rfl⟩:∃ m,n=m+1:=⟨n - 1,by omega⟩
 refine call_fn _ f143A rfl (by simp [fn143]) fun QQ hQ=>?_
 simp only [fn143] at hQ
 simp only [fn143,fill_cons,fill_nil,Nat.zero_add,Nat.reduceAdd]
 simp only [F143,r143_65,r143_55,r143_45,r143_33,SS,Nat.reduceBEq,Nat.reduceEqDiff,Nat.reduceAdd,reduceIte,Nat.reduceMul]
 have hsz:=hA.sz
 refine run_loop (c:=c143_6) (I:=fun m' tm' h'=>∃ a' e' lim wb wp cur,m'=e' - a'/\a<=a'/\a'<=e'/\e'<=e/\lim<=1000/\X.At h' cur/\PsB X h h'/\Below ltE a' e' cur/\(∀ R,PermIn a' e' cur R->SortedIn ltE a' e' R->PermIn a e D R/\SortedIn ltE a e R)/\tm'.gt 0=some X.sv/\tm'.gt 1=some (I a')/\tm'.gt 2=some (I e')/\tm'.gt 3=some (I lim)/\tm'.gt 8=some (.bool wb)/\tm'.gt 9=some (.bool wp)/\tm'.gt 134=none) (n:=e - a)
  ⟨a,e,lim,true,true,D,rfl,by omega,hae,by omega,hlim,hA,Sm.refl _ _,hB,fun R h1 h2=>⟨h1,h2⟩,by simp [gt_same,gt_other,gt_leaf]⟩ (by omega) ?_
 rintro _ tm h1 ⟨x,y,lim,wb,wp,cur,rfl,hx1,hxy,hy,hlim,A1,s1,B1,fin,t0,t1,t2,t3,t8,t9,tn⟩ Q1 hN1 hE
 have hyN:y<=X.N:=by omega
 have hszc:cur.size=X.N:=A1.sz
 have w0:=wSub hxy (show y<=1000000 by omega)
 by_cases c12:y - x<=12
 ·have d12:((y - x:Nat):Int)<=12:=by omega
  obtain ⟨_,h2,e2,A2,s2⟩:=insI_ok (n:=m) (by omega) hN A1 hxy hyN
  obtain ⟨p1,p2⟩:=insertionSort_holds swoE cur x y hxy (by omega)
  obtain ⟨f1,f2⟩:=fin _ p1 p2
  simp only [F143,r143_65,r143_55,r143_45,r143_33,SS,Nat.reduceBEq,Nat.reduceEqDiff,Nat.reduceAdd,reduceIte,Nat.reduceMul,t0,t1,t2,t3,t8,t9,tn,w0,d12,e2]
  refine hE _ _ _ (by simp) ?_
  simp only [SS,Nat.reduceBEq,Nat.reduceEqDiff,Nat.reduceAdd,reduceIte,Nat.reduceMul]
  exact hQ _ _ _ _ (.inr rfl) (by simp only [SS,Nat.reduceBEq,Nat.reduceEqDiff,Nat.reduceAdd,reduceIte,Nat.reduceMul,tn]) (by simp only [SS,Nat.reduceBEq,Nat.reduceEqDiff,Nat.reduceAdd,reduceIte,Nat.reduceMul];rfl) ⟨_,A2,f1,f2,s1.tr s2⟩
 have d12:¬((y - x:Nat):Int)<=12:=by omega
 by_cases cl:lim=0
 ·subst cl
  obtain ⟨_,h2,e2,A2,s2⟩:=heap_ok (n:=m) (by omega) hN A1 (show x<y by omega) hyN
  obtain ⟨p1,p2⟩:=heapSort_holds swoE cur x y hxy (by omega)
  obtain ⟨f1,f2⟩:=fin _ p1 p2
  have dl:((0:Nat):Int)=0:=rfl
  simp only [F143,r143_65,r143_55,r143_45,r143_33,SS,Nat.reduceBEq,Nat.reduceEqDiff,Nat.reduceAdd,reduceIte,Nat.reduceMul,t0,t1,t2,t3,t8,t9,tn,w0,d12,dl,e2]
  refine hE _ _ _ (by simp) ?_
  simp only [SS,Nat.reduceBEq,Nat.reduceEqDiff,Nat.reduceAdd,reduceIte,Nat.reduceMul]
  exact hQ _ _ _ _ (.inr rfl) (by simp only [SS,Nat.reduceBEq,Nat.reduceEqDiff,Nat.reduceAdd,reduceIte,Nat.reduceMul,tn]) (by simp only [SS,Nat.reduceBEq,Nat.reduceEqDiff,Nat.reduceAdd,reduceIte,Nat.reduceMul];rfl) ⟨_,A2,f1,f2,s1.tr s2⟩
 have dl:¬(lim:Int)=0:=by omega
 have hbl:bitsLen (y - x)<=L+1:=Nat.le_trans (bitsLen_mono (by omega)) hL
 
 have k3:∀ tm h2 D2 p lim wb wp,lim<=1000->x<=p->p<y->X.At h2 D2->PsB X h h2->PermIn x y cur D2->tm.gt 0=some X.sv->tm.gt 1=some (I x)->tm.gt 2=some (I y)->tm.gt 3=some (I lim)->tm.gt 8=some (.bool wb)->tm.gt 9=some (.bool wp)->tm.gt 10=some (I (y - x))->tm.gt 11=some (I p)->tm.gt 134=none ->
   run (SC m) 100000 134 143 none c143_55 [.blk 1] tm h2 Q1:=by
  intro tm h2 D2 p lim wb wp hlim hp1 hp2 A2 s2 P2 t0 t1 t2 t3 t8 t9 t10 t11 tn
  have hsz2:D2.size=X.N:=A2.sz
  have B2:Below ltE x y D2:=B1.perm (by omega) P2
  obtain ⟨hb,eb,sb,_,_⟩:=Sm.bump h2 15
  have Ab:=A2.sm sb
  have sB:=s2.tr (PsB.no sb)
  
  have kp:∀ tm,tm.gt 0=some X.sv->tm.gt 1=some (I x)->tm.gt 2=some (I y)->tm.gt 3=some (I lim)->tm.gt 8=some (.bool wb)->tm.gt 9=some (.bool wp)->tm.gt 10=some (I (y - x))->tm.gt 11=some (I p)->tm.gt 134=none ->
    run (SC m) 100000 134 143 none c143_65 [.blk 1] tm hb Q1:=by
   intro tm t0 t1 t2 t3 t8 t9 t10 t11 tn
   obtain ⟨_,h3,e3,rfl,A3,s3⟩:=part_ok (n:=m) (by omega) hN Ab hp1 hp2 hyN
   obtain ⟨mid,ap,D4,hpt⟩:∃ mid ap D4,partition ltE D2 x y p=(mid,ap,D4):=⟨_,_,_,rfl⟩
   rw [hpt] at e3 A3
   simp only at e3 A3
   obtain ⟨g1,g2,g3,g4,g5,g6,g7⟩:=round_part swoE (partition_holds ltE) hp1 hp2 (by omega) B2 hpt
   have w1:=wSub (show x<=mid by omega) (show mid<=1000000 by omega)
   have w2:=wSub (show mid<=y by omega) (show y<=1000000 by omega)
   have w3:=wAdd1 (show mid<=1000000 by omega)
   have s23:=sB.tr s3
   have q8':=q8 (t:=3) (show y - x<=1000000 by omega)
   by_cases cm:mid - x<y - mid
   ·have dm:((mid - x:Nat):Int)<((y - mid:Nat):Int):=by omega
    have hb2:bitsLen (mid - x)<=L:=by have:=bitsLen_half (x:=mid - x) (y:=y - x) (by omega) (by omega);omega
    obtain ⟨_,h5,e5,D5,A5,P5,S5,s5⟩:=ih (n:=m) (lim:=lim) (by omega) hb2 A3 (show x<=mid by omega) (by omega) hlim g4
    obtain ⟨B6,f6⟩:=g6 D5 P5 S5
    simp only [F143,r143_65,r143_55,r143_45,r143_33,SS,Nat.reduceBEq,Nat.reduceEqDiff,Nat.reduceAdd,reduceIte,Nat.reduceMul,t0,t1,t2,t3,t8,t9,t10,t11,tn,e3,w1,w2,w3,q8',dm,e5]
    refine hN1 _ _ (y - (mid+1)) (by omega) ⟨mid+1,y,lim,_,ap,D5,rfl,by omega,by omega,hy,hlim,A5,s23.tr s5,B6,fun R r1 r2=>?_,by simp only [SS,Nat.reduceBEq,t0],by simp only [SS,Nat.reduceBEq],by simp only [SS,Nat.reduceBEq,t2],by simp only [SS,Nat.reduceBEq,t3],by simp only [SS,Nat.reduceBEq,Nat.reduceEqDiff,Nat.reduceAdd,reduceIte,Nat.reduceMul];rfl,by simp only [SS,Nat.reduceBEq],by simp only [SS,Nat.reduceBEq,Nat.reduceEqDiff,Nat.reduceAdd,reduceIte,Nat.reduceMul,tn]⟩
    obtain ⟨f7,f8⟩:=f6 R r1 r2
    exact fin R (permIn_trans _ _ _ _ _ P2 f7) f8
   ·have dm:¬((mid - x:Nat):Int)<((y - mid:Nat):Int):=by omega
    have hb2:bitsLen (y - (mid+1))<=L:=by have:=bitsLen_half (x:=y - (mid+1)) (y:=y - x) (by omega) (by omega);omega
    obtain ⟨_,h5,e5,D5,A5,P5,S5,s5⟩:=ih (n:=m) (lim:=lim) (by omega) hb2 A3 (show mid+1<=y by omega) hyN hlim g5
    obtain ⟨B6,f6⟩:=g7 D5 P5 S5
    simp only [F143,r143_65,r143_55,r143_45,r143_33,SS,Nat.reduceBEq,Nat.reduceEqDiff,Nat.reduceAdd,reduceIte,Nat.reduceMul,t0,t1,t2,t3,t8,t9,t10,t11,tn,e3,w1,w2,w3,q8',dm,e5]
    refine hN1 _ _ (mid - x) (by omega) ⟨x,mid,lim,_,ap,D5,rfl,hx1,by omega,by omega,hlim,A5,s23.tr s5,B6,fun R r1 r2=>?_,by simp only [SS,Nat.reduceBEq,t0],by simp only [SS,Nat.reduceBEq,t1],by simp only [SS,Nat.reduceBEq],by simp only [SS,Nat.reduceBEq,t3],by simp only [SS,Nat.reduceBEq,Nat.reduceEqDiff,Nat.reduceAdd,reduceIte,Nat.reduceMul];rfl,by simp only [SS,Nat.reduceBEq],by simp only [SS,Nat.reduceBEq,Nat.reduceEqDiff,Nat.reduceAdd,reduceIte,Nat.reduceMul,tn]⟩
    obtain ⟨f7,f8⟩:=f6 R r1 r2
    exact fin R (permIn_trans _ _ _ _ _ P2 f7) f8
  by_cases cx:0<x
  ·have dx:(0:Int)<(x:Int):=by omega
   have xa:=x_ia_51 (k:=.i64) (b:=X.b) (o:=0) (n:=X.N) (c:=X.cap) (g:=X.g) (show x - 1<X.N by omega)
   have xb:=x_ia_51 (k:=.i64) (b:=X.b) (o:=0) (n:=X.N) (c:=X.cap) (g:=X.g) (show p<X.N by omega)
   have la:=Ab.ld (i:=x - 1) (by omega)
   have lb:=Ab.ld (i:=p) (by omega)
   have e8:=less_ok (n:=m) (by omega) D2[x - 1]! D2[p]! hb
   cases hl:ltE D2[x - 1]! D2[p]! with
   | true =>
    rw [hl] at e8
    simp only [F143,r143_55,r143_45,r143_33,SS,Nat.reduceBEq,Nat.reduceEqDiff,Nat.reduceAdd,reduceIte,Nat.reduceMul,t0,t1,t2,t3,t8,t9,t10,t11,tn,eb,dx,xa,xb,la,lb,wSub1 (show 1<=x by omega) (show x<=1000000 by omega),e8,w_undef,s_int,s_ptr,s_slice,s_bool,and'_eq,iff'_true]
    exact kp _ (by simp only [SS,Nat.reduceBEq,t0]) (by simp only [SS,Nat.reduceBEq,t1]) (by simp only [SS,Nat.reduceBEq,t2]) (by simp only [SS,Nat.reduceBEq,t3]) (by simp only [SS,Nat.reduceBEq,t8]) (by simp only [SS,Nat.reduceBEq,t9]) (by simp only [SS,Nat.reduceBEq,t10]) (by simp only [SS,Nat.reduceBEq,t11]) (by simp only [SS,Nat.reduceBEq,Nat.reduceEqDiff,Nat.reduceAdd,reduceIte,Nat.reduceMul,tn])
   | false =>
    rw [hl] at e8
    obtain ⟨_,h3,e3,rfl,A3,s3⟩:=parteq_ok (n:=m) (by omega) hN Ab hp1 hp2 hyN
    obtain ⟨mid,D4,hpt⟩:∃ mid D4,partitionEqual ltE D2 x y p=(mid,D4):=⟨_,_,rfl⟩
    rw [hpt] at e3 A3
    simp only at e3 A3
    obtain ⟨g1,g2,g3,g4,g5⟩:=round_eq swoE (partitionEqual_holds ltE) cx hp1 hp2 (by omega) B2 hl hpt
    simp only [F143,r143_55,r143_45,r143_33,SS,Nat.reduceBEq,Nat.reduceEqDiff,Nat.reduceAdd,reduceIte,Nat.reduceMul,t0,t1,t2,t3,t8,t9,t10,t11,tn,eb,dx,xa,xb,la,lb,wSub1 (show 1<=x by omega) (show x<=1000000 by omega),e8,e3,w_undef,s_int,s_ptr,s_slice,s_bool,and'_eq,iff'_true]
    refine hN1 _ _ (y - mid) (by omega) ⟨mid,y,lim,wb,wp,D4,rfl,by omega,g2,hy,hlim,A3,sB.tr s3,g4,fun R r1 r2=>?_,by simp only [SS,Nat.reduceBEq,t0],by simp only [SS,Nat.reduceBEq],by simp only [SS,Nat.reduceBEq,t2],by simp only [SS,Nat.reduceBEq,t3],by simp only [SS,Nat.reduceBEq,t8],by simp only [SS,Nat.reduceBEq,t9],by simp only [SS,Nat.reduceBEq,Nat.reduceEqDiff,Nat.reduceAdd,reduceIte,Nat.reduceMul,tn]⟩
    obtain ⟨f7,f8⟩:=g5 R r1 r2
    exact fin R (permIn_trans _ _ _ _ _ P2 f7) f8
  ·have dx:¬(0:Int)<(x:Int):=by omega
   simp only [F143,r143_55,r143_45,r143_33,SS,Nat.reduceBEq,Nat.reduceEqDiff,Nat.reduceAdd,reduceIte,Nat.reduceMul,t0,t1,t2,t3,t8,t9,t10,t11,tn,eb,dx,w_undef,s_int,s_ptr,s_slice,s_bool,and'_eq,iff'_true]
   exact kp _ (by simp only [SS,Nat.reduceBEq,t0]) (by simp only [SS,Nat.reduceBEq,t1]) (by simp only [SS,Nat.reduceBEq,t2]) (by simp only [SS,Nat.reduceBEq,t3]) (by simp only [SS,Nat.reduceBEq,t8]) (by simp only [SS,Nat.reduceBEq,t9]) (by simp only [SS,Nat.reduceBEq,t10]) (by simp only [SS,Nat.reduceBEq,t11]) (by simp only [SS,Nat.reduceBEq,Nat.reduceEqDiff,Nat.reduceAdd,reduceIte,Nat.reduceMul,tn])
 
 have k2:∀ tm h2 D2 p (hint:Int) lim wb wp,lim<=1000->x<=p->p<y->X.At h2 D2->PsB X h h2->PermIn x y cur D2->tm.gt 0=some X.sv->tm.gt 1=some (I x)->tm.gt 2=some (I y)->tm.gt 3=some (I lim)->tm.gt 8=some (.bool wb)->tm.gt 9=some (.bool wp)->tm.gt 10=some (I (y - x))->tm.gt 11=some (I p)->tm.gt 12=some (.int .i64 hint)->tm.gt 134=none ->
   run (SC m) 100000 134 143 none c143_45 [.blk 1] tm h2 Q1:=by
  intro tm h2 D2 p hint lim wb wp hlim hp1 hp2 A2 s2 P2 t0 t1 t2 t3 t8 t9 t10 t11 t12 tn
  have hsz2:D2.size=X.N:=A2.sz
  have B2:Below ltE x y D2:=B1.perm (by omega) P2
  have no:∀ tm,tm.gt 0=some X.sv->tm.gt 1=some (I x)->tm.gt 2=some (I y)->tm.gt 3=some (I lim)->tm.gt 8=some (.bool wb)->tm.gt 9=some (.bool wp)->tm.gt 10=some (I (y - x))->tm.gt 11=some (I p)->tm.gt 134=none ->
    run (SC m) 100000 134 143 none c143_55 [.blk 1] tm h2 Q1:=fun tm t0 t1 t2 t3 t8 t9 t10 t11 tn=>k3 tm h2 D2 p lim wb wp hlim hp1 hp2 A2 s2 P2 t0 t1 t2 t3 t8 t9 t10 t11 tn
  cases wb with
  | false =>
   simp only [F143,r143_65,r143_45,r143_33,SS,Nat.reduceBEq,Nat.reduceEqDiff,Nat.reduceAdd,reduceIte,Nat.reduceMul,t0,t1,t2,t3,t8,t9,t10,t11,t12,tn,w_undef]
   exact no _ (by simp only [SS,Nat.reduceBEq,t0]) (by simp only [SS,Nat.reduceBEq,t1]) (by simp only [SS,Nat.reduceBEq,t2]) (by simp only [SS,Nat.reduceBEq,t3]) (by simp only [SS,Nat.reduceBEq,t8]) (by simp only [SS,Nat.reduceBEq,t9]) (by simp only [SS,Nat.reduceBEq,t10]) (by simp only [SS,Nat.reduceBEq,t11]) (by simp only [SS,Nat.reduceBEq,Nat.reduceEqDiff,Nat.reduceAdd,reduceIte,Nat.reduceMul,tn])
  | true =>
  cases wp with
  | false =>
   simp only [F143,r143_65,r143_45,r143_33,SS,Nat.reduceBEq,Nat.reduceEqDiff,Nat.reduceAdd,reduceIte,Nat.reduceMul,t0,t1,t2,t3,t8,t9,t10,t11,t12,tn,w_undef]
   exact no _ (by simp only [SS,Nat.reduceBEq,t0]) (by simp only [SS,Nat.reduceBEq,t1]) (by simp only [SS,Nat.reduceBEq,t2]) (by simp only [SS,Nat.reduceBEq,t3]) (by simp only [SS,Nat.reduceBEq,t8]) (by simp only [SS,Nat.reduceBEq,t9]) (by simp only [SS,Nat.reduceBEq,t10]) (by simp only [SS,Nat.reduceBEq,t11]) (by simp only [SS,Nat.reduceBEq,Nat.reduceEqDiff,Nat.reduceAdd,reduceIte,Nat.reduceMul,tn])
  | true =>
  by_cases ch:hint=1
  ·obtain ⟨_,h3,e3,rfl,A3,s3⟩:=pins_ok (n:=m) (by omega) hN A2 (show x<y by omega) hyN
   obtain ⟨q1,q2⟩:=partialInsertionSort_holds swoE D2 x y (by omega) (by omega) B2
   cases hb:(partialInsertionSort ltE D2 x y).2 with
   | true =>
    rw [hb] at e3
    obtain ⟨f1,f2⟩:=fin _ (permIn_trans _ _ _ _ _ P2 q1) (q2 hb)
    simp only [F143,r143_65,r143_45,r143_33,SS,Nat.reduceBEq,Nat.reduceEqDiff,Nat.reduceAdd,reduceIte,Nat.reduceMul,t0,t1,t2,t3,t8,t9,t10,t11,t12,tn,ch,e3,w_undef]
    refine hE _ _ _ (by simp) ?_
    simp only [SS,Nat.reduceBEq,Nat.reduceEqDiff,Nat.reduceAdd,reduceIte,Nat.reduceMul]
    exact hQ _ _ _ _ (.inr rfl) (by simp only [SS,Nat.reduceBEq,Nat.reduceEqDiff,Nat.reduceAdd,reduceIte,Nat.reduceMul,tn]) (by simp only [SS,Nat.reduceBEq,Nat.reduceEqDiff,Nat.reduceAdd,reduceIte,Nat.reduceMul];rfl) ⟨_,A3,f1,f2,s2.tr s3⟩
   | false =>
    rw [hb] at e3
    simp only [F143,r143_65,r143_45,r143_33,SS,Nat.reduceBEq,Nat.reduceEqDiff,Nat.reduceAdd,reduceIte,Nat.reduceMul,t0,t1,t2,t3,t8,t9,t10,t11,t12,tn,ch,e3,w_undef]
    exact k3 _ h3 _ p lim true true hlim hp1 hp2 A3 (s2.tr s3) (permIn_trans _ _ _ _ _ P2 q1) (by simp only [SS,Nat.reduceBEq,t0]) (by simp only [SS,Nat.reduceBEq,t1]) (by simp only [SS,Nat.reduceBEq,t2]) (by simp only [SS,Nat.reduceBEq,t3]) (by simp only [SS,Nat.reduceBEq,t8]) (by simp only [SS,Nat.reduceBEq,t9]) (by simp only [SS,Nat.reduceBEq,t10]) (by simp only [SS,Nat.reduceBEq,t11]) (by simp only [SS,Nat.reduceBEq,Nat.reduceEqDiff,Nat.reduceAdd,reduceIte,Nat.reduceMul,tn])
  ·simp only [F143,r143_65,r143_45,r143_33,SS,Nat.reduceBEq,Nat.reduceEqDiff,Nat.reduceAdd,reduceIte,Nat.reduceMul,t0,t1,t2,t3,t8,t9,t10,t11,t12,tn,ch,w_undef]
   exact no _ (by simp only [SS,Nat.reduceBEq,t0]) (by simp only [SS,Nat.reduceBEq,t1]) (by simp only [SS,Nat.reduceBEq,t2]) (by simp only [SS,Nat.reduceBEq,t3]) (by simp only [SS,Nat.reduceBEq,t8]) (by simp only [SS,Nat.reduceBEq,t9]) (by simp only [SS,Nat.reduceBEq,t10]) (by simp only [SS,Nat.reduceBEq,t11]) (by simp only [SS,Nat.reduceBEq,Nat.reduceEqDiff,Nat.reduceAdd,reduceIte,Nat.reduceMul,tn])
 
 have k1:∀ tm h2 D2 lim wb wp,lim<=1000->X.At h2 D2->PsB X h h2->PermIn x y cur D2->tm.gt 0=some X.sv->tm.gt 1=some (I x)->tm.gt 2=some (I y)->tm.gt 3=some (I lim)->tm.gt 8=some (.bool wb)->tm.gt 9=some (.bool wp)->tm.gt 10=some (I (y - x))->tm.gt 134=none ->
   run (SC m) 100000 134 143 none c143_33 [.blk 1] tm h2 Q1:=by
  intro tm h2 D2 lim wb wp hlim A2 s2 P2 t0 t1 t2 t3 t8 t9 t10 tn
  obtain ⟨_,h3,e3,p,hint,rfl,hp1,hp2,A3,s3⟩:=pivot_ok (n:=m) (by omega) hN A2 (show x+12<y by omega) hyN
  have s23:=s2.tr (PsB.no s3)
  by_cases ch:hint=2
  ·obtain ⟨_,h4,e4,D4,A4,P4,s4⟩:=rev_ok (n:=m) (by omega) hN A3 (show x<y by omega) hyN
   have w1:=wSub1 (show 1<=y by omega) (show y<=1000000 by omega)
   have w2:=wSub (show x<=p by omega) (show p<=1000000 by omega)
   have w3:=wSub (show p - x<=y - 1 by omega) (show y - 1<=1000000 by omega)
   simp only [F143,r143_65,r143_55,r143_33,SS,Nat.reduceBEq,Nat.reduceEqDiff,Nat.reduceAdd,reduceIte,Nat.reduceMul,t0,t1,t2,t3,t8,t9,t10,tn,e3,ch,e4,w1,w2,w3]
   exact k2 _ h4 D4 (y - 1 - (p - x)) 1 lim wb wp hlim (by omega) (by omega) A4 (s23.tr s4) (permIn_trans _ _ _ _ _ P2 P4) (by simp only [SS,Nat.reduceBEq,t0]) (by simp only [SS,Nat.reduceBEq,t1]) (by simp only [SS,Nat.reduceBEq,t2]) (by simp only [SS,Nat.reduceBEq,t3]) (by simp only [SS,Nat.reduceBEq,t8]) (by simp only [SS,Nat.reduceBEq,t9]) (by simp only [SS,Nat.reduceBEq,t10]) (by simp only [SS,Nat.reduceBEq]) (by simp only [SS,Nat.reduceBEq]) (by simp only [SS,Nat.reduceBEq,Nat.reduceEqDiff,Nat.reduceAdd,reduceIte,Nat.reduceMul,tn])
  ·simp only [F143,r143_65,r143_55,r143_33,SS,Nat.reduceBEq,Nat.reduceEqDiff,Nat.reduceAdd,reduceIte,Nat.reduceMul,t0,t1,t2,t3,t8,t9,t10,tn,e3,ch]
   exact k2 _ h3 D2 p hint lim wb wp hlim hp1 hp2 A3 s23 P2 (by simp only [SS,Nat.reduceBEq,t0]) (by simp only [SS,Nat.reduceBEq,t1]) (by simp only [SS,Nat.reduceBEq,t2]) (by simp only [SS,Nat.reduceBEq,t3]) (by simp only [SS,Nat.reduceBEq,t8]) (by simp only [SS,Nat.reduceBEq,t9]) (by simp only [SS,Nat.reduceBEq,t10]) (by simp only [SS,Nat.reduceBEq]) (by simp only [SS,Nat.reduceBEq]) (by simp only [SS,Nat.reduceBEq,Nat.reduceEqDiff,Nat.reduceAdd,reduceIte,Nat.reduceMul,tn])
 cases wb with
 | true =>
  simp only [F143,r143_65,r143_55,r143_45,SS,Nat.reduceBEq,Nat.reduceEqDiff,Nat.reduceAdd,reduceIte,Nat.reduceMul,t0,t1,t2,t3,t8,t9,tn,w0,d12,dl]
  exact k1 _ h1 cur lim true wp hlim A1 s1 (permIn_refl _ _ _) (by simp only [SS,Nat.reduceBEq,t0]) (by simp only [SS,Nat.reduceBEq,t1]) (by simp only [SS,Nat.reduceBEq,t2]) (by simp only [SS,Nat.reduceBEq,t3]) (by simp only [SS,Nat.reduceBEq,t8]) (by simp only [SS,Nat.reduceBEq,t9]) (by simp only [SS,Nat.reduceBEq]) (by simp only [SS,Nat.reduceBEq,Nat.reduceEqDiff,Nat.reduceAdd,reduceIte,Nat.reduceMul,tn])
 | false =>
  obtain ⟨_,h2,e2,D2,A2,P2,s2⟩:=break_ok (n:=m) (by omega) hN A1 (show x+12<y by omega) hyN
  simp only [F143,r143_65,r143_55,r143_45,SS,Nat.reduceBEq,Nat.reduceEqDiff,Nat.reduceAdd,reduceIte,Nat.reduceMul,t0,t1,t2,t3,t8,t9,tn,w0,d12,dl,e2,wSub1 (show 1<=lim by omega) (show lim<=1000000 by omega)]
  exact k1 _ h2 D2 (lim - 1) false wp (by omega) A2 (s1.tr s2) P2 (by simp only [SS,Nat.reduceBEq,t0]) (by simp only [SS,Nat.reduceBEq,t1]) (by simp only [SS,Nat.reduceBEq,t2]) (by simp only [SS,Nat.reduceBEq]) (by simp only [SS,Nat.reduceBEq,t8]) (by simp only [SS,Nat.reduceBEq,t9]) (by simp only [SS,Nat.reduceBEq]) (by simp only [SS,Nat.reduceBEq,Nat.reduceEqDiff,Nat.reduceAdd,reduceIte,Nat.reduceMul,tn])
theorem pdq_ok {X:Px} (hN:X.N<=40000):∀ (L:Nat),PdqAt X L
 | 0=>pdq_zero hN
 | L+1=>pdq_succ hN (pdq_ok hN L)
theorem sort_ok {X:Px} (hN:X.N<=40000) {n:Nat} (hn:30<=n) {h:Heap} {D:Array El} (hA:X.At h D) :
  WC (SC n (.fn 95) [X.sv] h) fun r h'=>∃ D',X.At h' D'/\PermIn 0 D.size D D'/\SortedIn ltE 0 D.size D'/\PsB X h h':=by
 obtain ⟨m,rfl⟩:∃ m,n=m+1:=⟨n - 1,by omega⟩
 refine call_fn _ f95A rfl (by simp [fn95]) fun QQ hQ=>?_
 simp only [fn95] at hQ
 simp only [fn95,fill_cons,fill_nil,Nat.zero_add,Nat.reduceAdd]
 have hsz:=hA.sz
 obtain ⟨_,h0,e1,rfl,L,rfl,l1,_⟩:=len_ok (n:=m) (by omega) (x:=X.N) (by omega) h
 have hb:bitsLen (X.N - 0)<=16:=(bitsLen_le_iff _ _).2 (by omega)
 obtain ⟨_,h2,e2,D2,A2,P2,S2,s2⟩:=pdq_ok hN 16 (n:=m) (lim:=L) (by omega) hb hA (Nat.zero_le _) (Nat.le_refl _) (by omega) (.inl rfl)
 have e2':SC m (.fn 143) [X.sv,.int .i64 0,I X.N,I L] h0=some (_,h2):=e2
 simp only [F95,SS,Nat.reduceBEq,Nat.reduceEqDiff,Nat.reduceAdd,reduceIte,Nat.reduceMul,x_len_51,x_cv_3_154,wU64 (show X.N<=1000000 by omega),e1,e2']
 exact hQ _ _ _ _ (.inl rfl) (by simp only [SS,Nat.reduceBEq]) (by simp only [SS,Nat.reduceBEq,Nat.reduceEqDiff,Nat.reduceAdd,reduceIte,Nat.reduceMul];rfl) ⟨D2,A2,by rw [hsz];exact P2,by rw [hsz];exact S2,s2⟩
end Go.Proofs.YtboobbebilegnaaGreat
namespace Go.Proofs.YtboobbebilegnaaGreat
open Go.Am Go.Sort
set_option maxRecDepth 10000
noncomputable def ltU (x y:AV):Option Bool:=match x,y with | .int _ a,.int _ b=>some (Go.Am.ltI a b) | _,_=>none
def insI (x:Int):List Int->List Int
 | []=>[x]
 | y::l=>if x<y then x::y::l else y::insI x l
def isort:List Int->List Int
 | []=>[]
 | x::l=>insI x (isort l)
theorem insI_perm (x:Int):∀ l,(insI x l).Perm (x::l)
 | []=>List.Perm.refl _
 | y::l=>by
  unfold insI
  split
  ·exact List.Perm.refl _
  ·exact ((insI_perm x l).cons y).trans (List.Perm.swap x y l)
theorem isort_perm:∀ l,(isort l).Perm l
 | []=>List.Perm.refl _
 | x::l=>(insI_perm x _).trans ((isort_perm l).cons x)
theorem insI_sorted {x:Int}:∀ {l:List Int},l.Pairwise (·<= ·)->(insI x l).Pairwise (·<= ·)
 | [],_=>List.pairwise_singleton _ _
 | y::l,h=>by
  obtain ⟨h1,h2⟩:=List.pairwise_cons.1 h
  unfold insI
  split
  ·refine List.pairwise_cons.2 ⟨fun z hz=>?_,h⟩
   rcases List.mem_cons.1 hz with rfl | hz
   ·omega
   ·have:=h1 z hz;omega
  ·refine List.pairwise_cons.2 ⟨fun z hz=>?_,insI_sorted h2⟩
   rcases List.mem_cons.1 ((insI_perm x l).mem_iff.1 hz) with rfl | hz
   ·omega
   ·exact h1 z hz
theorem isort_sorted:∀ l,(isort l).Pairwise (·<= ·)
 | []=>List.Pairwise.nil
 | _::l=>insI_sorted (isort_sorted l)
theorem sorted_eq:∀ {l m:List Int},l.Perm m->l.Pairwise (·<= ·)->m.Pairwise (·<= ·)->l=m
 | [],m,h,_,_=>(List.nil_perm.1 h).symm
 | x::l,[],h,_,_=>by cases List.perm_nil.1 h
 | x::l,y::m,h,hl,hm=>by
  obtain ⟨l1,l2⟩:=List.pairwise_cons.1 hl
  obtain ⟨m1,m2⟩:=List.pairwise_cons.1 hm
  have e:x=y:=by
   have hx:x∈y::m:=h.mem_iff.1 (List.mem_cons_self ..)
   have hy:y∈x::l:=h.mem_iff.2 (List.mem_cons_self ..)
   rcases List.mem_cons.1 hx with e | hx
   ·exact e
   ·rcases List.mem_cons.1 hy with e | hy
    ·exact e.symm
    ·have:=m1 x hx;have:=l1 y hy;omega
  subst e
  rw [sorted_eq ((List.perm_cons x).1 h) l2 m2]
theorem en_len (l:List Int):(cellsL (l.map en))=l.map en:=by
 rw [cellsL_eq]
 induction l with
 | nil=>rfl
 | cons x l ih=>rw [List.map_cons,List.flatMap_cons,ih];rfl
theorem insK_en (x:Int):∀ l:List Int,insK ltU (en x) (l.map en)=some ((insI x l).map en)
 | []=>rfl
 | y::l=>by
  have ih:=insK_en x l
  have e:Go.Am.ltI x y=decide (x<y):=Go.Am.ltI_eq x y
  show ob (ltU (en x) (en y)) (fun b=>Bool.rec (motive:=fun _=>Option (List AV)) (ob (insK ltU (en x) (l.map en)) fun l=>some (en y::l)) (some (en x::en y::l.map en)) b)=_
  show (Bool.rec (motive:=fun _=>Option (List AV)) (ob (insK ltU (en x) (l.map en)) fun l=>some (en y::l)) (some (en x::en y::l.map en)) (Go.Am.ltI x y):Option (List AV))=_
  rw [e,ih]
  rw [show insI x (y::l)=if x<y then x::y::l else y::insI x l from rfl]
  by_cases h:x<y
  ·rw [if_pos h,decide_eq_true h];rfl
  ·rw [if_neg h,decide_eq_false h];rfl
theorem sortK_en:∀ l:List Int,sortK ltU (l.map en)=some ((isort l).map en)
 | []=>rfl
 | x::l=>by
  show ob (sortK ltU (l.map en)) (fun l=>insK ltU (en x) l)=_
  rw [sortK_en l]
  exact insK_en x (isort l)
theorem insA_perm {x:AV}:∀ {l m:List AV},m∈insA x l->m.Perm (x::l)
 | [],m,h=>by rw [insA,List.mem_singleton] at h;rw [h]
 | y::l,m,h=>by
  rw [insA,List.mem_cons] at h
  rcases h with rfl | h
  ·exact List.Perm.refl _
  ·obtain ⟨q,hq,rfl⟩:=List.mem_map.1 h
   exact ((insA_perm hq).cons y).trans (List.Perm.swap x y l)
theorem permsA_perm:∀ {l m:List AV},m∈permsA l->m.Perm l
 | [],m,h=>by rw [permsA,List.mem_singleton] at h;rw [h]
 | x::l,m,h=>by
  rw [permsA] at h
  obtain ⟨q,hq,hm⟩:=List.mem_flatMap.1 h
  exact (insA_perm hm).trans ((permsA_perm hq).cons x)
theorem allTo_mk {call:CallFn} {T:FuncId} {sz n:Nat} {ds:List AV}:∀ {πs:List (List AV)},(∀ π∈πs,sortsTo call T sz n ds π=true)->allTo call T sz n ds πs=true
 | [],_=>rfl
 | x::xs,h=>by
  show and' (sortsTo call T sz n ds x) (allTo call T sz n ds xs)=true
  rw [and'_eq,h x (List.mem_cons_self ..),allTo_mk fun π hp=>h π (List.mem_cons_of_mem _ hp)];rfl
def unE:AV->Int
 | .int _ n=>n
 | _=>0
theorem perm_en {l:List Int} {π : List AV} (h:π.Perm (l.map en)):∃ m:List Int,π=m.map en/\m.Perm l:=by
 refine ⟨π.map unE,?_,?_⟩
 ·rw [List.map_map]
  symm
  rw [List.map_congr_left (g:=id)]
  ·exact List.map_id _
  ·intro a ha
   obtain ⟨x,_,rfl⟩:=List.mem_map.1 (h.mem_iff.1 ha)
   rfl
 ·have:=h.map unE
  rw [List.map_map] at this
  rwa [show (unE∘en)=id from rfl,List.map_id] at this
theorem sortIn_pw {D:Array Int} (h:SortedIn ltE 0 D.size D):D.toList.Pairwise (·<= ·):=by
 rw [List.pairwise_iff_getElem]
 intro i j hi hj hij
 have hi':i<D.size:=by simpa using hi
 have hj':j<D.size:=by simpa using hj
 have:=h i j (Nat.zero_le _) hij hj'
 rw [getElem!_pos D i hi',getElem!_pos D j hj'] at this
 have this:decide (D[j]<D[i])=false:=this
 rw [decide_eq_false_iff_not] at this
 rw [Array.getElem_toList,Array.getElem_toList]
 omega
theorem sames_refl:∀ l:List Int,AV.sames (l.map en) (l.map en)=true
 | []=>by simp [AV.sames]
 | x::l=>by
  show AV.sames (en x::l.map en) (en x::l.map en)=true
  unfold AV.sames
  rw [s_int,sames_refl l];rfl
theorem sortsTo_ok {l m:List Int} (hp:m.Perm l) (hl:l.length<=40000) {n:Nat} (hn:30<=n):sortsTo (SC n) 95 1 l.length (cellsL ((isort l).map en)) (m.map en)=true:=by
 have hml:m.length=l.length:=hp.length_eq
 let X:Px:=⟨0,l.length,l.length,some 1,[],[]⟩
 have hA:X.At (minH (m.map en)) m.toArray:=by
  refine ⟨by simp [X,hml],⟨fillC (m.map en) .leaf 0,?_,?_⟩,?_⟩
  ·show (minH (m.map en)).bs.gt 0=_
   rw [minH_get,if_pos rfl]
   show some (Blk.cells _ [] (m.map en).length false)=some (Blk.cells _ [] ((m.toArray.toList.map en++[]).length) false)
   simp
  ·intro i hi
   have hi':i<(m.map en).length:=by simpa [X] using hi
   rw [cellAt_fill _ _ _ hi']
   simp [X]
  ·show (0:Nat)<1;decide
 obtain ⟨r,h',e,D',A',P',S',_⟩:=sort_ok (X:=X) (show l.length<=40000 from hl) hn hA
 unfold sortsTo
 rw [en_len,en_len]
 have e':SC n (.fn 95) [.slice (some (0,0)) l.length l.length (some 1)] (minH (m.map en))=some (r,h'):=e
 rw [e']
 show rowIs h' ((isort l).map en)=true
 have hsz:D'.size=m.toArray.size:=P'.1
 have hperm:D'.toList.Perm l:=by
  have:=P'.2.2
  have e1:D'.extract 0 m.toArray.size=D':=by rw [← hsz];exact Array.extract_size
  have e2:m.toArray.extract 0 m.toArray.size=m.toArray:=Array.extract_size
  rw [e1,e2] at this
  exact this.trans hp
 rw [← hsz] at S'
 have hD:D'.toList=isort l:=sorted_eq (hperm.trans (isort_perm l).symm) (sortIn_pw S') (isort_sorted l)
 obtain ⟨t,g1,g2⟩:=A'.rw
 have g1':h'.bs.gt 0=some (.cells t [] ((isort l).map en).length false):=by
  have:=g1
  rw [hD] at this
  simpa [X] using this
 have g2':∀ i,i<((isort l).map en).length->cellAt t [] i=((isort l).map en)[i]?:=by
  intro i hi
  have:=g2 i (by rw [hD];simpa [X] using hi)
  rw [hD] at this
  simpa [X] using this
 have hlc:loadC t [] ((isort l).map en).length 0=some ((isort l).map en):=Go.Am.loadC_of (vs:=(isort l).map en) (i:=0) (fun j hj=>by rw [Nat.zero_add];exact g2' j hj)
 unfold rowIs
 rw [cells_of g1',len'_eq]
 show (Option.rec (motive:=fun _=>Bool) false (fun l'=>AV.sames l' ((isort l).map en)) (iff' (and' (notB false) (Nat.beq ((isort l).map en).length ((isort l).map en).length)) (loadC t [] ((isort l).map en).length 0)):Bool)=true
 rw [Nat.beq_refl,hlc]
 exact sames_refl _
theorem sortedR_ok {n:Nat} (hn:30<=n) {gs:List FuncId} {bs:Nat} {fine:AV->Bool} {g cb mb clock:Nat} {h:Heap} {es:List MEnt} {l:List Int} (hg:gs.contains g=true) (hc:h.ld1 cb 0=some (.map (some mb))) (hm:h.bs.gt mb=some (.map es clock)) (hk:es.map (·.key)=l.map en) (hb:bornB clock es=true)
  (hf:fineB fine es=true) (hr:room bs l.length=true) (hl:l.length<=40000) (hnil:∃ r,SC n (.fn 95) [.slice none 0 0 none] ⟨.leaf,0⟩=some r) :
  sortedR (SC n) 95 gs 1 bs ltU fine (.func (.func g) [] [.ptr (some (cb,0))]) h =
   some (if l=[] then (.slice none 0 0 none,h) else (.slice (some (h.next,0)) l.length l.length (some 1),h.new h.next (.cells (fillC ((isort l).map en) .leaf 0) [] ((isort l).map en).length false))):=by
 have hel:es.length=l.length:=by have:=congrArg List.length hk;simpa using this
 have hkl:keysL es=l.map en:=by rw [keysL_eq];exact hk
 have hall:allTo (SC n) 95 1 es.length (cellsL ((isort l).map en)) (permsA (l.map en))=true:=by
  refine allTo_mk fun π hp=>?_
  obtain ⟨m,rfl,hm⟩:=perm_en (permsA_perm hp)
  rw [hel]
  exact sortsTo_ok hm hl hn
 show iff' (gs.contains g) (ob (h.ld1 cb 0) fun m=>mapAt m fun mb=>h.theMap mb fun es clock =>
  iff' (and' (bornB clock es) (and' (fineB fine es) (room bs (len' es)))) (ob (sortK ltU (keysL es)) fun ks =>
   iff' (allTo (SC n) 95 1 (len' es) (cellsL ks) (permsA (keysL es)))
    (Nat.rec (motive:=fun _=>Res) (ob (SC n (.fn 95) [.slice none 0 0 none] ⟨.leaf,0⟩) fun _=>some (.slice none 0 0 none,h))
     (fun _ _=>some (.slice (some (h.next,0)) (len' es) (len' es) (some 1),h.new h.next (.cells (fillC (cellsL ks) .leaf 0) [] (cellsL ks).length false))) (len' es))))=_
 rw [hg,hc]
 show h.theMap mb _=_
 unfold Heap.theMap
 rw [hm]
 show iff' (and' (bornB clock es) (and' (fineB fine es) (room bs (len' es)))) _=_
 rw [hb,hf,len'_eq,hel,hr,hkl,sortK_en]
 show iff' (allTo (SC n) 95 1 l.length (cellsL ((isort l).map en)) (permsA (l.map en))) _=_
 rw [← hel,hall,hel]
 cases l with
 | nil =>
  obtain ⟨r,hr⟩:=hnil
  show (ob (SC n (.fn 95) [.slice none 0 0 none] ⟨.leaf,0⟩) fun _=>some (.slice none 0 0 none,h):Res)=_
  rw [hr];rfl
 | cons x l =>
  rw [if_neg (by simp),en_len]
  rfl
end Go.Proofs.YtboobbebilegnaaGreat
namespace Go.Proofs.YtboobbebilegnaaGreat
open Go.Am
theorem namesQ:Am.NamesOk Tryz.prog:=by unfold Am.NamesOk;kernel_rfl
theorem mixed:Tryz.prog.follows .mixedOrders=true:=by kernel_rfl
noncomputable def suApp:Am.AppCode Tryz.prog (Am.keepF Tryz.prog) 93 51 0 (Am.buildSliceN Tryz.prog 51 1 [0]) :=
 ⟨Tryz.f93,_,_,_,_,_,_,_,_,Tryz.func93,rfl,rfl,by kernel_rfl,by decide,by kernel_rfl,by kernel_rfl,by kernel_rfl,rfl,by kernel_rfl,by kernel_rfl,by kernel_rfl,by kernel_rfl,by kernel_rfl⟩
theorem suCol:∃ fn c,Tryz.prog.funcs[(94:Nat)]?=some fn/\fn.body=some c/\Am.CollectCode 93 c/\fn.results=#[.tmp 2]/\5<=fn.ntmps :=
 ⟨Tryz.f94,_,Tryz.func94,rfl,⟨_,_,_,_,_,_,_,rfl,⟨rfl,rfl,rfl⟩,⟨rfl,rfl,rfl⟩,⟨rfl,rfl,rfl⟩,⟨rfl,rfl,rfl⟩⟩,rfl,by decide⟩
theorem suSor:∃ fn c,Tryz.prog.funcs[(113:Nat)]?=some fn/\fn.body=some c/\Am.SortedCode 94 95 c/\fn.results=#[.tmp 2]/\9<=fn.ntmps :=
 ⟨Tryz.f113,_,Tryz.func113,rfl,⟨_,_,_,_,_,_,_,_,_,_,_,_,_,_,rfl,⟨rfl,rfl,rfl⟩,⟨rfl,rfl,rfl⟩,⟨rfl,rfl,rfl⟩,⟨rfl,rfl,rfl⟩,⟨rfl,rfl,rfl⟩,⟨rfl,rfl,rfl⟩,⟨rfl,rfl,rfl⟩,⟨rfl,rfl,rfl⟩⟩,rfl,by decide⟩
theorem keysFn103:Am.KeysFn Tryz.prog 152 :=
 ⟨Tryz.f152,_,173,_,_,Tryz.func152,rfl,⟨_,_,_,_,_,_,_,_,_,_,_,_,_,_,_,_,_,_,_,rfl,⟨rfl,rfl,rfl⟩,⟨rfl,rfl,rfl⟩,⟨rfl,rfl,rfl⟩,⟨rfl,rfl,rfl⟩,⟨rfl,rfl,rfl⟩,⟨rfl,rfl,rfl⟩,⟨rfl,rfl,rfl⟩,⟨rfl,rfl,rfl⟩,⟨rfl,rfl,rfl⟩,⟨rfl,rfl,rfl⟩,⟨rfl,rfl,rfl⟩⟩,rfl,by decide,Tryz.underlying173,by kernel_rfl⟩
def suFine:Am.AV->Bool:=fun k=>match k with | .int .u32 _=>true | _=>false
theorem suFineOk (k:Am.AV) (hk:suFine k=true):Am.buildSliceN Tryz.prog 51 1 [0] [k]=some (Am.rowBlk k.cells,Am.sliceTo 1)/\k.cells.length=0+1/\∀ c∈k.cells,Am.plainCell c=true:=by
 cases k with
 | int kk n =>
  cases kk with
  | u32=>exact ⟨by kernel_rfl,rfl,fun c hc=>by obtain rfl:=List.mem_singleton.1 hc;rfl⟩
  | _=>cases hk
 | _=>cases hk
noncomputable def suPrim:Am.Prims:=Am.sortedP (Am.callN Tryz.prog (Am.keepF Tryz.prog) Am.noPrims 100000 (40+1)) 113 95 [152] 1 4 ltU suFine
theorem suGs:∀ g∈([152]:List Nat),Am.KeysFn Tryz.prog g:=by
 intro g hg
 simp only [List.mem_cons,List.not_mem_nil,or_false] at hg
 rcases hg with rfl
 exact keysFn103
theorem suOk:Am.PrimsOk Tryz.prog (Am.keepF Tryz.prog) suPrim :=
 Am.sortedP_ok mixed namesQ suApp Tryz.underlying51 (by kernel_rfl) (by kernel_rfl) (by kernel_rfl) suCol ⟨_,_,Tryz.func95,rfl⟩ suSor suGs suFineOk
end Go.Proofs.YtboobbebilegnaaGreat
namespace Go.Proofs.YtboobbebilegnaaGreat
open Go.Am
noncomputable abbrev prW:Prims:=(pureP 8 [] (.bool true)).or suPrim
noncomputable abbrev C (n:Nat):CallFn:=callN P (keepF P) prW 100000 n
theorem awake_ok {n:Nat} (hn:1<=n) (h:Heap):C n (.fn 8) [] h=some (.bool true,h):=by
 obtain ⟨m,rfl⟩:∃ m,n=m+1:=⟨n - 1,by omega⟩
 rfl
def bterm (s:List Nat) (i:Nat):Nat:=(s[i]?.getD 0)*(i%7*2+1)
def bsum (s:List Nat):Nat->Nat
 | 0=>s.length
 | i+1=>bsum s i+bterm s i
def Byts (s:List Nat):Prop:=∀ (i c:Nat),s[i]?=some c->c<256
theorem bterm_le {s:List Nat} (hb:Byts s) (i:Nat):bterm s i<=3315:=by
 unfold bterm
 have h3:i%7*2+1<=13:=by omega
 have h4:s[i]?.getD 0<=255:=by
  cases hc:s[i]? with
  | none=>simp
  | some c=>have:=hb i c hc;simp;omega
 exact Nat.mul_le_mul h4 h3
theorem bsum_le {s:List Nat} (hb:Byts s):∀ i,bsum s i<=s.length+i*3315
 | 0=>by simp [bsum]
 | i+1=>by
  have ih:=bsum_le hb i
  have h2:=bterm_le hb i
  show bsum s i+bterm s i<=_
  omega
theorem bucket_ok {n:Nat} (hn:1<=n) (s:List Nat) (h:Heap) (hl:s.length<=1000) (hb:Byts s):WC (C n (.fn 164) [.str s] h) fun v h'=>v=.int .u8 ((bsum s s.length%16:Nat):Int)/\h'=h:=by
 obtain ⟨m,rfl⟩:∃ m,n=m+1:=⟨n - 1,by omega⟩
 refine call_fn _ f164A rfl (by simp [fn164]) fun QQ hQ=>?_
 simp only [fn164] at hQ
 simp only [fn164,fill_cons,fill_nil,Nat.zero_add,Nat.reduceAdd]
 simp only [F164,x_len_9,SS,Nat.reduceBEq,Nat.reduceEqDiff,Nat.reduceAdd,reduceIte,Nat.reduceMul]
 refine run_loop (c:=c164_9) (I:=fun m tm' h'=>∃ i,i<=s.length/\m=s.length - i/\h'=h/\tm'.gt 0=some (.str s)/\tm'.gt 9=some (.int .i64 (i:Int))/\tm'.gt 8=some (.int .i64 (s.length:Int))/\tm'.gt 3=some (.int .i64 (bsum s i:Int))/\tm'.gt 27=none) (n:=s.length)
  ⟨0,by simp [gt_same,gt_other,gt_leaf,bsum]⟩ (by omega) ?_
 rintro _ tm h ⟨i,hi,rfl,rfl,t0,t9,t8,t3,t27⟩ Q1 hN hE
 by_cases hlt:i<s.length
 ·have hbs:=bsum_le hb i
  have hbt:=bterm_le hb i
  have hc:=List.getElem?_eq_getElem hlt
  have hcb:=hb i _ hc
  simp only [F164,x_ix_9,x_cv_5_3,t0,t9,t8,t3,SS,Nat.reduceBEq,Nat.reduceEqDiff,Nat.reduceAdd,reduceIte,Nat.reduceMul,Int.ofNat_lt,hlt,hc,b_rem (show (7:Int)≠0 by decide)]
  refine hN _ _ (s.length - (i+1)) (by omega) ⟨i+1,hlt,rfl,rfl,?_⟩
  have e1:IntKind.i64.wrap (s[i]:Int)=(s[i]:Int):=wrap_i64 (by omega) (by omega)
  have e2:((i:Int)).tmod 7=((i%7:Nat):Int):=rfl
  have e3:IntKind.i64.wrap (((i%7:Nat):Int)*2)=(((i%7)*2:Nat):Int):=by rw [wrap_i64 (by omega) (by omega)];simp
  have e4:IntKind.i64.wrap ((((i%7)*2:Nat):Int)+1)=(((i%7)*2+1:Nat):Int):=by rw [wrap_i64 (by omega) (by omega)];simp
  have hbe:bterm s i=s[i]*(i%7*2+1):=by simp [bterm,hc]
  have e5:IntKind.i64.wrap ((s[i]:Int)*(((i%7)*2+1:Nat):Int))=(bterm s i:Int):=by
   rw [← Int.natCast_mul,← hbe,wrap_i64 (by omega) (by omega)]
  have e6:IntKind.i64.wrap ((bsum s i:Int)+(bterm s i:Int))=(bsum s (i+1):Int):=by
   rw [wrap_i64 (by omega) (by omega)];simp [bsum]
  have e7:IntKind.i64.wrap ((i:Int)+1)=((i+1:Nat):Int):=by rw [wrap_i64 (by omega) (by omega)];simp
  simp only [SS,Nat.reduceBEq,Nat.reduceEqDiff,Nat.reduceAdd,reduceIte,Nat.reduceMul,t0,t9,t8,t3,t27,e1,e2,e3,e4,e5,e6,e7,and_self]
 ·have hbs:=bsum_le hb i
  obtain rfl:i=s.length:=by omega
  simp only [F164,t0,t9,t8,t3,SS,Nat.reduceBEq,Nat.reduceEqDiff,Nat.reduceAdd,reduceIte,Nat.reduceMul,Int.ofNat_lt,hlt]
  refine hE _ _ _ (by simp) ?_
  simp only [F164,t0,t9,t8,t3,SS,Nat.reduceBEq,Nat.reduceEqDiff,Nat.reduceAdd,reduceIte,Nat.reduceMul,b_rem (show (16:Int)≠0 by decide),x_cv_3_5]
  refine hQ _ _ _ _ (.inr rfl) ?_ (by simp only [SS,Nat.reduceBEq,Nat.reduceEqDiff,Nat.reduceAdd,reduceIte,Nat.reduceMul,fn164];rfl) ?_
  ·simp only [SS,Nat.reduceBEq,Nat.reduceEqDiff,Nat.reduceAdd,reduceIte,Nat.reduceMul,fn164,t27]
  ·simp only [SS,Nat.reduceBEq,Nat.reduceEqDiff,Nat.reduceAdd,reduceIte,Nat.reduceMul]
   have e2:((bsum s s.length:Nat):Int).tmod 16=((bsum s s.length%16:Nat):Int):=rfl
   rw [e2,wrap_u8 (by omega) (by omega)];exact ⟨rfl,trivial⟩
end Go.Proofs.YtboobbebilegnaaGreat
namespace Go.Proofs.YtboobbebilegnaaGreat
open Go.Am
set_option maxRecDepth 10000
abbrev u (n:Int):AV:=.int .u32 n
def First (ids:List Int) (x:Int) (r:AV):Prop :=
 (∃ i:Nat,ids[i]?=some x/\(∀ j,j<i->ids[j]?≠some x)/\r=.int .i64 (i:Int))∨((∀ j:Nat,ids[j]?≠some x)/\r=.int .i64 (-1))
theorem index_ok {n:Nat} (hn:1<=n) {h:Heap} {v:AV} {l:Nat} {ids:List Int} (x:Int) (hv:Els h v l 1 (ids.map u)) (hl:l<90000):WC (C n (.fn 165) [v,u x] h) fun r h'=>h'=h/\First ids x r:=by
 obtain ⟨hlen,a,c,g,rfl,_⟩:=id hv
 rw [List.length_map,Nat.mul_one] at hlen
 obtain ⟨m,rfl⟩:∃ m,n=m+1:=⟨n - 1,by omega⟩
 refine call_fn _ f165A rfl (by simp [fn165]) fun QQ hQ=>?_
 simp only [fn165] at hQ
 simp only [fn165,fill_cons,fill_nil,Nat.zero_add,Nat.reduceAdd]
 simp only [F165,x_len_51,SS,Nat.reduceBEq,Nat.reduceEqDiff,Nat.reduceAdd,reduceIte,Nat.reduceMul]
 refine run_loop (c:=c165_7) (I:=fun k tm' h'=>∃ i,i<=l/\k=l - i/\h'=h/\(∀ j,j<i->ids[j]?≠some x)/\tm'.gt 0=some (.slice a l c g)/\tm'.gt 1=some (u x)/\tm'.gt 7=some (.int .i64 (l:Int))/\tm'.gt 8=some (.int .i64 (i:Int))/\tm'.gt 19=none) (n:=l)
  ⟨0,by simp [gt_same,gt_other,gt_leaf]⟩ (by omega) ?_
 rintro _ tm h0 ⟨i,hi,rfl,rfl,hno,t0,t1,t7,t8,t19⟩ Q1 hN hE
 by_cases hlt:i<l
 ·obtain ⟨b,o,rfl,hcell⟩:=hv.cell (by omega)
  have hc:=hcell i (by omega)
  have hx:ids[i]?=some ids[i]:=List.getElem?_eq_getElem (by omega)
  rw [List.getElem?_map,hx,Option.map_some] at hc
  by_cases he:x=ids[i]
  ·simp only [F165,x_ia_51 hlt,Nat.mul_one,t0,t1,t7,t8,t19,SS,Nat.reduceBEq,Nat.reduceEqDiff,Nat.reduceAdd,reduceIte,Nat.reduceMul,Int.ofNat_lt,hlt,hc,← he]
   refine hE _ _ _ (by simp) ?_
   simp only [SS,Nat.reduceBEq,Nat.reduceEqDiff,Nat.reduceAdd,reduceIte,Nat.reduceMul]
   refine hQ _ _ _ _ (.inr rfl) (by simp only [SS,Nat.reduceBEq,t19]) (by simp only [SS,Nat.reduceBEq,Nat.reduceEqDiff,Nat.reduceAdd,reduceIte,Nat.reduceMul];rfl) ⟨rfl,.inl ⟨i,by rw [hx,he],hno,rfl⟩⟩
  ·simp only [F165,x_ia_51 hlt,Nat.mul_one,t0,t1,t7,t8,t19,SS,Nat.reduceBEq,Nat.reduceEqDiff,Nat.reduceAdd,reduceIte,Nat.reduceMul,Int.ofNat_lt,hlt,hc,he]
   refine hN _ _ (l - (i+1)) (by omega) ⟨i+1,hlt,rfl,rfl,fun j hj=>?_,?_⟩
   ·by_cases e:j=i
    ·subst e;rw [hx];exact fun e=>he (Option.some.inj e).symm
    ·exact hno j (by omega)
   ·have e7:IntKind.i64.wrap ((i:Int)+1)=((i+1:Nat):Int):=by rw [wrap_i64 (by omega) (by omega)];simp
    simp only [SS,Nat.reduceBEq,Nat.reduceEqDiff,Nat.reduceAdd,reduceIte,Nat.reduceMul,t0,t1,t7,t8,t19,e7,and_self]
 ·obtain rfl:i=l:=by omega
  simp only [F165,t0,t1,t7,t8,t19,SS,Nat.reduceBEq,Nat.reduceEqDiff,Nat.reduceAdd,reduceIte,Nat.reduceMul,Int.ofNat_lt,hlt]
  refine hE _ _ _ (by simp) ?_
  simp only [F165,t0,t1,t7,t8,t19,SS,Nat.reduceBEq,Nat.reduceEqDiff,Nat.reduceAdd,reduceIte,Nat.reduceMul]
  refine hQ _ _ _ _ (.inr rfl) (by simp only [SS,Nat.reduceBEq,t19]) (by simp only [SS,Nat.reduceBEq,Nat.reduceEqDiff,Nat.reduceAdd,reduceIte,Nat.reduceMul];rfl) ⟨rfl,.inr ⟨fun j=>?_,rfl⟩⟩
  by_cases e:j<i
  ·exact hno j e
  ·rw [List.getElem?_eq_none (by omega)];simp
theorem contains_ok {n:Nat} (hn:2<=n) {h:Heap} {v:AV} {l:Nat} {ids:List Int} (x:Int) (hv:Els h v l 1 (ids.map u)) (hl:l<90000):WC (C n (.fn 179) [v,u x] h) fun r h'=>h'=h/\r=.bool (decide (x∈ids)):=by
 obtain ⟨m,rfl⟩:∃ m,n=m+1:=⟨n - 1,by omega⟩
 refine call_fn _ f179A rfl (by simp [fn179]) fun QQ hQ=>?_
 simp only [fn179] at hQ
 simp only [fn179,fill_cons,fill_nil,Nat.zero_add,Nat.reduceAdd]
 obtain ⟨r,h',e,rfl,hF⟩:=index_ok (n:=m) (by omega) x hv hl
 rcases hF with ⟨i,h1,h2,rfl⟩|⟨h1,rfl⟩
 ·simp only [F179,SS,Nat.reduceBEq,Nat.reduceEqDiff,Nat.reduceAdd,reduceIte,Nat.reduceMul,e]
  have hp:(0:Int)<=(i:Int):=by omega
  have hm:x∈ids:=List.mem_of_getElem? h1
  refine hQ _ _ _ _ (.inr rfl) (by simp only [SS,Nat.reduceBEq]) (by simp only [SS,Nat.reduceBEq,Nat.reduceEqDiff,Nat.reduceAdd,reduceIte,Nat.reduceMul];rfl) ⟨rfl,by simp [hp,hm,tupled_one]⟩
 ·simp only [F179,SS,Nat.reduceBEq,Nat.reduceEqDiff,Nat.reduceAdd,reduceIte,Nat.reduceMul,e]
  have hm:¬x∈ids:=fun h=>by obtain ⟨j,hj⟩:=List.getElem?_of_mem h;exact h1 j hj
  refine hQ _ _ _ _ (.inr rfl) (by simp only [SS,Nat.reduceBEq]) (by simp only [SS,Nat.reduceBEq,Nat.reduceEqDiff,Nat.reduceAdd,reduceIte,Nat.reduceMul];rfl) ⟨rfl,by simp [hm,tupled_one]⟩
theorem one_map (ids:List Int):(ids.map u).all AV.one=true:=by
 rw [List.all_eq_true];intro x hx;obtain ⟨i,_,rfl⟩:=List.mem_map.1 hx;rfl
theorem clone_ok {n:Nat} (hn:1<=n) {h:Heap} {v:AV} {l:Nat} {ids:List Int} (hv:Els h v l 1 (ids.map u)) (hl:l<90000):WC (C n (.fn 180) [v] h) fun r h'=>Els h' r l 1 (ids.map u)/\Sm NoB h h':=by
 obtain ⟨hlen,a,c,g,rfl,hnone,_⟩:=id hv
 obtain ⟨m,rfl⟩:∃ m,n=m+1:=⟨n - 1,by omega⟩
 refine call_fn _ f180A rfl (by simp [fn180]) fun QQ hQ=>?_
 simp only [fn180] at hQ
 simp only [fn180,fill_cons,fill_nil,Nat.zero_add,Nat.reduceAdd]
 cases a with
 | none =>
  obtain rfl:=hnone rfl
  simp only [F180,x_eq_51,Option.isNone_none,SS,Nat.reduceBEq,Nat.reduceEqDiff,Nat.reduceAdd,reduceIte,Nat.reduceMul]
  exact hQ _ _ _ _ (.inr rfl) (by simp only [SS,Nat.reduceBEq]) (by simp only [SS,Nat.reduceBEq,Nat.reduceEqDiff,Nat.reduceAdd,reduceIte,Nat.reduceMul];rfl) ⟨⟨hlen,none,0,none,rfl,fun _=>rfl,(fun _ _ e=>by cases e)⟩,Sm.refl _ _⟩
 | some p =>
  obtain ⟨b,o⟩:=p
  obtain ⟨h1,e1,r1,n1,g1⟩:=Rw.alloc h (id:=h.next) (n:=0) (vs:=[]) (z:=[]) (ro:=false) (Nat.le_refl _) rfl
  have hbn:=hv.lt
  have hv1:=hv.same (h':=h1) (g1 b (by omega)) (by omega)
  have ha:=app_zero (t:=51) (id:=h1.next) u_51 s_48 b_48 z_48 rfl hv1.src hlen (one_map ids) (room_le (by omega) (by omega)) (b:=h.next) (by rw [r1.ld (Nat.le_refl _)];rfl)
  simp only [F180,x_eq_51,Option.isNone_some,x_bs_51_0,sliceTo,e1,ha,SS,Nat.reduceBEq,Nat.reduceEqDiff,Nat.reduceAdd,reduceIte,Nat.reduceMul]
  by_cases hl0:l=0
  ·subst hl0
   simp only [SS,Nat.reduceBEq,Nat.reduceEqDiff,Nat.reduceAdd,reduceIte,Nat.reduceMul]
   refine hQ _ _ _ _ (.inr rfl) (by simp only [SS,Nat.reduceBEq]) (by simp only [SS,Nat.reduceBEq,Nat.reduceEqDiff,Nat.reduceAdd,reduceIte,Nat.reduceMul];rfl) ⟨⟨hlen,_,_,_,rfl,(fun e=>by cases e),fun b' o' e=>?_⟩,?_⟩
   ·cases e
    refine ⟨by omega,?_⟩
    rw [r1.ld (Nat.le_refl _)]
    rw [List.eq_nil_of_length_eq_zero (show (ids.map u).length=0 by omega)];rfl
   ·exact ⟨by omega,fun c hc _=>g1 c (by omega)⟩
  ·obtain ⟨h2,e2,r2,n2,g2⟩:=Rw.alloc h1 (id:=h1.next) (vs:=ids.map u) (z:=tyMark 48 false) (ro:=false) (Nat.le_refl _) rfl
   simp only [hl0,e2,SS,Nat.reduceBEq,Nat.reduceEqDiff,Nat.reduceAdd,reduceIte,Nat.reduceMul]
   refine hQ _ _ _ _ (.inr rfl) (by simp only [SS,Nat.reduceBEq]) (by simp only [SS,Nat.reduceBEq,Nat.reduceEqDiff,Nat.reduceAdd,reduceIte,Nat.reduceMul];rfl) ⟨⟨hlen,_,_,_,rfl,(fun e=>by cases e),fun b' o' e=>?_⟩,?_⟩
   ·cases e
    refine ⟨by omega,?_⟩
    rw [r2.ld (by omega),List.drop_zero,List.take_of_length_le (by omega)]
   ·refine ⟨by omega,fun c hc _=>?_⟩
    rw [g2 c (by omega),g1 c (by omega)]
structure IxAt (h:Heap) (x:Nat) (B:Nat->List Int) (F:Nat->List Nat):Prop where
 ex:∃ S:List AV,S.length=16/\Rw h x (.bool true::S) [] false/\∀ i,i<16->∃ v,S[i]?=some v/\SlO 48 1 h v (B i).length ((B i).map u) (F i)
 lt:x<h.next
 fx:∀ i,i<16->x∉F i
 ff:∀ i j,i<16->j<16->i≠j->∀ b,b∈F i->b∉F j
 sz:∀ i,i<16->(B i).length<10000
def IxF (x:Nat) (F:Nat->List Nat):Nat->Prop:=fun b=>b=x∨∃ i,i<16/\b∈F i
theorem IxAt.sm {h h':Heap} {x:Nat} {B:Nat->List Int} {F:Nat->List Nat} {G:Nat->Prop} (hx:IxAt h x B F) (hs:Sm G h h') (hG:∀ b,IxF x F b->¬G b):IxAt h' x B F:=by
 obtain ⟨S,h1,h2,h3⟩:=hx.ex
 refine ⟨⟨S,h1,h2.sm hs hx.lt (hG x (.inl rfl)),fun i hi=>?_⟩,Nat.lt_of_lt_of_le hx.lt hs.1,hx.fx,hx.ff,hx.sz⟩
 obtain ⟨v,g1,g2⟩:=h3 i hi
 exact ⟨v,g1,g2.sm hs fun b hb=>hG b (.inr ⟨i,hi,hb⟩)⟩
def bk (s:List Nat):Nat:=bsum s s.length%16
theorem bk_lt (s:List Nat):bk s<16:=Nat.mod_lt _ (by decide)
theorem ixis_ok {n:Nat} (hn:1<=n) {h:Heap} {x:Nat} {B:Nat->List Int} {F:Nat->List Nat} (hx:IxAt h x B F):WC (C n (.fn 163) [.ptr (some (x,0))] h) fun r h'=>h'=h/\r=.bool true:=by
 obtain ⟨S,h1,h2,h3⟩:=hx.ex
 obtain ⟨m,rfl⟩:∃ m,n=m+1:=⟨n - 1,by omega⟩
 refine call_fn _ f163A rfl (by simp [fn163]) fun QQ hQ=>?_
 simp only [fn163] at hQ
 simp only [fn163,fill_cons,fill_nil,Nat.zero_add,Nat.reduceAdd]
 simp only [F163,x_ne_174,x_fa_234_0,h2.ld1,Option.isSome_some,SS,Nat.reduceBEq,Nat.reduceEqDiff,Nat.reduceAdd,reduceIte,Nat.reduceMul]
 exact hQ _ _ _ _ (.inr rfl) (by simp only [SS,Nat.reduceBEq]) (by simp only [SS,Nat.reduceBEq,Nat.reduceEqDiff,Nat.reduceAdd,reduceIte,Nat.reduceMul];rfl) ⟨rfl,rfl⟩
theorem ixnew_ok {n:Nat} (hn:1<=n) {h:Heap}:WC (C n (.fn 107) [] h) fun r h'=>∃ x,r=.ptr (some (x,0))/\IxAt h' x (fun _=>[]) (fun _=>[])/\Sm NoB h h'/\h.next<=x:=by
 obtain ⟨m,rfl⟩:∃ m,n=m+1:=⟨n - 1,by omega⟩
 refine call_fn _ f107A rfl (by simp [fn107]) fun QQ hQ=>?_
 simp only [fn107] at hQ
 simp only [fn107,fill_cons,fill_nil,Nat.zero_add,Nat.reduceAdd]
 obtain ⟨h1,e1,r1,n1,g1⟩:=Rw.alloc h (id:=h.next) (n:=17) (vs:=.bool true::List.replicate 16 (.slice none 0 0 none)) (z:=[]) (ro:=false) (Nat.le_refl _) rfl
 simp only [List.replicate_succ,List.replicate_zero] at e1
 simp only [F107,x_bd_234_0,e1,SS,Nat.reduceBEq,Nat.reduceEqDiff,Nat.reduceAdd,reduceIte,Nat.reduceMul]
 refine hQ _ _ _ _ (.inr rfl) (by simp only [SS,Nat.reduceBEq]) (by simp only [SS,Nat.reduceBEq,Nat.reduceEqDiff,Nat.reduceAdd,reduceIte,Nat.reduceMul];rfl) ⟨h.next,rfl,⟨⟨_,by simp,r1,fun i hi=>⟨.slice none 0 0 none,?_,SlO.nil⟩⟩,by omega,(fun _ _ h=>by cases h),(fun _ _ _ _ _ _ h=>by cases h),(fun _ _=>by simp)⟩,⟨by omega,fun c hc _=>g1 c (by omega)⟩,Nat.le_refl _⟩
 rw [List.getElem?_replicate,if_pos hi]
theorem ixfind_ok {n:Nat} (hn:2<=n) {h:Heap} {x:Nat} {B:Nat->List Int} {F:Nat->List Nat} (hx:IxAt h x B F) {s:List Nat} (hl:s.length<=1000) (hb:Byts s) :
  WC (C n (.fn 155) [.ptr (some (x,0)),.str s] h) fun r h'=>Els h' r (B (bk s)).length 1 ((B (bk s)).map u)/\Sm NoB h h':=by
 obtain ⟨m,rfl⟩:∃ m,n=m+1:=⟨n - 1,by omega⟩
 refine call_fn _ f155A rfl (by simp [fn155]) fun QQ hQ=>?_
 simp only [fn155] at hQ
 simp only [fn155,fill_cons,fill_nil,Nat.zero_add,Nat.reduceAdd]
 obtain ⟨_,h0,ea,rfl,rfl⟩:=ixis_ok (n:=m) (by omega) hx
 obtain ⟨hm,eb,sb,_⟩:=Sm.bump h0 9
 have hx':=hx.sm sb (fun _ _ h=>h)
 obtain ⟨_,h1,ec,rfl,rfl⟩:=bucket_ok (n:=m) (by omega) s hm hl hb
 obtain ⟨S,h2,h3,h4⟩:=hx'.ex
 obtain ⟨v,g1,g2⟩:=h4 (bk s) (bk_lt s)
 obtain ⟨r,h5,ed,f1,f2⟩:=clone_ok (n:=m) (by omega) g2.els (by have:=hx.sz _ (bk_lt s);omega)
 have hv:h1.ld1 x (1+bk s)=some v:=by rw [h3.ld1,Nat.add_comm,List.getElem?_cons_succ];exact g1
 have ec':C m (.fn 164) [.str s] h1=some (.int .u8 ((bk s:Nat):Int),h1):=ec
 simp only [F155,ea,eb,ec',x_fa_234_1,x_ia_232 (bk_lt s),Nat.mul_one,hv,ed,SS,Nat.reduceBEq,Nat.reduceEqDiff,Nat.reduceAdd,reduceIte,Nat.reduceMul]
 refine hQ _ _ _ _ (.inr rfl) (by simp only [SS,Nat.reduceBEq]) (by simp only [SS,Nat.reduceBEq,Nat.reduceEqDiff,Nat.reduceAdd,reduceIte,Nat.reduceMul];rfl) ?_
 exact ⟨f1,sb.trans f2 (fun _ _ h=>h) (fun _ _ h=>h)⟩
def setF {α : Type} (B:Nat->α) (i:Nat) (v:α):Nat->α:=fun j=>if j=i then v else B j
theorem setF_same {α : Type} (B:Nat->α) (i:Nat) (v:α):setF B i v i=v:=if_pos rfl
theorem setF_other {α : Type} (B:Nat->α) {i j:Nat} (v:α) (h:j≠i):setF B i v j=B j:=if_neg h
theorem IxAt.put {h h':Heap} {x:Nat} {B:Nat->List Int} {F:Nat->List Nat} (hx:IxAt h x B F) {S:List AV} {i:Nat} {v:AV} {ids:List Int} {bs:List Nat} (hi:i<16) (hS:S.length=16) (hS2:∀ j,j<16->j≠i->∃ v,S[j]?=some v/\SlO 48 1 h v (B j).length ((B j).map u) (F j))
  (hr:Rw h' x (.bool true::S.set i v) [] false) (ho:SlO 48 1 h' v ids.length (ids.map u) bs) (hbs:∀ b,b∈bs->b∈F i∨h.next<=b) (hn:h.next<=h'.next) (hsm:∀ c,c<h.next->c≠x->c∉F i->h'.bs.gt c=h.bs.gt c) (hl:ids.length<10000) :
  IxAt h' x (setF B i ids) (setF F i bs):=by
 have hff:∀ j,j<16->j≠i->∀ b,b∈F j->b∉bs/\b≠x/\b<h.next/\b∉F i:=by
  intro j hj hne b hb
  obtain ⟨v',_,g⟩:=hS2 j hj hne
  have hlt:=g.lt b hb
  refine ⟨fun hb2=>?_,fun e=>hx.fx j hj (e▸hb),hlt,hx.ff j i hj hi hne b hb⟩
  rcases hbs b hb2 with h1 | h1
  ·exact hx.ff j i hj hi hne b hb h1
  ·omega
 refine ⟨⟨S.set i v,by simpa using hS,hr,fun j hj=>?_⟩,Nat.lt_of_lt_of_le hx.lt hn,fun j hj=>?_,fun j k hj hk hne b hb=>?_,fun j hj=>?_⟩
 ·by_cases e:j=i
  ·subst e
   rw [setF_same,setF_same]
   exact ⟨v,by rw [List.getElem?_set_self (by omega)],ho⟩
  ·rw [setF_other _ _ e,setF_other _ _ e]
   obtain ⟨v',g1,g2⟩:=hS2 j hj e
   refine ⟨v',by rw [List.getElem?_set_ne (fun h=>e h.symm)];exact g1,g2.same (fun b hb=>?_) hn⟩
   obtain ⟨_,h2,h3,h4⟩:=hff j hj e b hb
   exact hsm b h3 h2 h4
 ·by_cases e:j=i
  ·subst e
   rw [setF_same]
   intro hb
   rcases hbs x hb with h1 | h1
   ·exact hx.fx j hj h1
   ·have:=hx.lt;omega
  ·rw [setF_other _ _ e];exact hx.fx j hj
 ·by_cases e:j=i
  ·subst e
   rw [setF_same] at hb
   rw [setF_other _ _ (fun h=>hne h.symm)]
   intro hb2
   exact (hff k hk (fun h=>hne h.symm) b hb2).1 hb
  ·rw [setF_other _ _ e] at hb
   by_cases e':k=i
   ·subst e'
    rw [setF_same];exact (hff j hj e b hb).1
   ·rw [setF_other _ _ e'];exact hx.ff j k hj hk hne b hb
 ·by_cases e:j=i
  ·subst e;rw [setF_same];exact hl
  ·rw [setF_other _ _ e];exact hx.sz j hj
theorem ixadd_ok {n:Nat} (hn:3<=n) {h:Heap} {x:Nat} {B:Nat->List Int} {F:Nat->List Nat} (hx:IxAt h x B F) {s:List Nat} (hl:s.length<=1000) (hb:Byts s) (id:Int) (hid:id∉B (bk s)) (hlen:(B (bk s)).length<9999) :
  WC (C n (.fn 151) [.ptr (some (x,0)),.str s,u id] h) fun r h'=>r=.int .i64 0/\∃ bs,IxAt h' x (setF B (bk s) (B (bk s)++[id])) (setF F (bk s) bs)/\Sm (IxF x F) h h'/\∀ b,b∈bs->b∈F (bk s)∨h.next<=b:=by
 obtain ⟨m,rfl⟩:∃ m,n=m+1:=⟨n - 1,by omega⟩
 refine call_fn _ f151A rfl (by simp [fn151]) fun QQ hQ=>?_
 simp only [fn151] at hQ
 simp only [fn151,fill_cons,fill_nil,Nat.zero_add,Nat.reduceAdd]
 obtain ⟨_,h0,ea,rfl,rfl⟩:=ixis_ok (n:=m) (by omega) hx
 obtain ⟨hm,eb,sb,_⟩:=Sm.bump h0 7
 have hx':=hx.sm sb (fun _ _ h=>h)
 obtain ⟨_,h1,ec,rfl,rfl⟩:=bucket_ok (n:=m) (by omega) s hm hl hb
 obtain ⟨S,h2,h3,h4⟩:=hx'.ex
 obtain ⟨v,g1,g2⟩:=h4 (bk s) (bk_lt s)
 have hv:h1.ld1 x (1+bk s)=some v:=by rw [h3.ld1,Nat.add_comm,List.getElem?_cons_succ];exact g1
 have ec':C m (.fn 164) [.str s] h1=some (.int .u8 ((bk s:Nat):Int),h1):=ec
 obtain ⟨_,h5,ed,e5,rfl⟩:=contains_ok (n:=m) (by omega) id g2.els (by omega)
 subst e5
 obtain ⟨h6,e6,r6,n6,q6⟩:=Rw.alloc h5 (id:=h5.next) (n:=1) (vs:=[u id]) (z:=[]) (ro:=false) (Nat.le_refl _) rfl
 have g6:SlO 48 1 h6 v (B (bk s)).length ((B (bk s)).map u) (F (bk s)):=g2.same (fun b hb=>q6 b (by have:=g2.lt b hb;omega)) (by omega)
 have hs6:srcOf 1 (fun n=>n) (.slice (some (h5.next,0)) 1 1 none) h6=some ([u id],1):=srcOf_row r6 (Nat.le_refl _)
 obtain ⟨v7,h7,bs,e7,o7,n7,q7,b7,_⟩:=app_own (t:=51) (id:=h6.next) u_51 s_48 b_48 z_48 rfl g6 hs6 (by decide) rfl rfl (room_le (by omega) (by omega)) (Nat.le_refl _)
 have r7:Rw h7 x (.bool true::S) [] false:=h3.same (by rw [q7 x (hx.fx _ (bk_lt s)) (by have:=hx'.lt;omega),q6 x (by have:=hx'.lt;omega)])
 obtain ⟨w1,w2,w3,w4⟩:=r7.st1 (o:=1+bk s) (v:=v7) (by simp [h2];have:=bk_lt s;omega) (by rcases o7 with ⟨rfl,_⟩|⟨_,_,_,_,rfl,_⟩ <;> rfl)
 simp only [F151,ea,eb,ec',x_fa_234_1,x_ia_232 (bk_lt s),Nat.mul_one,hv,ed,hid,x_bs_51_1,e6,e7,w1,SS,Nat.reduceBEq,Nat.reduceEqDiff,Nat.reduceAdd,reduceIte,Nat.reduceMul]
 refine hQ _ _ _ _ (.inr rfl) (by simp only [SS,Nat.reduceBEq]) (by simp only [SS,Nat.reduceBEq,Nat.reduceEqDiff,Nat.reduceAdd,reduceIte,Nat.reduceMul];rfl) ?_
 have hbk:=bk_lt s
 refine ⟨rfl,bs,?_,⟨by omega,fun c hc hF=>?_⟩,fun b hb'=>?_⟩
 ·refine hx'.put (h':=h7.wr x (1+bk s) [v7]) (v:=v7) (S:=S) hbk h2 (fun j hj _=>h4 j hj) ?_ ?_ ?_ (by omega) ?_ (by simp;omega)
  ·rw [show (AV.bool true::S).set (1+bk s) v7=.bool true::S.set (bk s) v7 from by rw [Nat.add_comm];rfl] at w2;exact w2
  ·have:=o7.same (h':=h7.wr x (1+bk s) [v7]) (fun b hb'=>w4 b ?_) (by omega)
   ·rw [List.length_append,List.map_append];exact this
   ·rintro rfl
    rcases b7 b hb' with h1 | h1
    ·exact hx.fx _ hbk h1
    ·have:=hx'.lt;omega
  ·intro b hb'
   rcases b7 b hb' with h1 | h1
   ·exact .inl h1
   ·exact .inr (by omega)
  ·intro c hc hcx hcF
   rw [w4 c hcx,q7 c hcF (by omega),q6 c (by omega)]
 ·have hcx:c≠x:=fun e=>hF (.inl e)
  have hcF:c∉F (bk s):=fun e=>hF (.inr ⟨_,hbk,e⟩)
  have hc5:c<h5.next:=Nat.lt_of_lt_of_le hc sb.1
  rw [w4 c hcx,q7 c hcF (by omega),q6 c (by omega),sb.2 c hc (fun h=>h)]
 ·have:=sb.1
  rcases b7 b hb' with h1 | h1
  ·exact .inl h1
  ·exact .inr (by omega)
end Go.Proofs.YtboobbebilegnaaGreat
namespace Go.Proofs.YtboobbebilegnaaGreat
open Go.Am
set_option maxRecDepth 10000
structure Ch where
 id:Int
 data:List Nat
 block:Int
 refs:Int
def Ch.val (c:Ch):AV:=.agg [.str c.data,.int .i64 c.block,.int .i64 c.refs]
def Ents (es:List MEnt) (L:List Ch):Prop:=es.map (fun e=>(e.key,e.val))=L.map fun c=>(u c.id,c.val)
def gtL (L:List Ch) (id:Int):Option Ch:=L.find? fun c=>c.id==id
def putC (c:Ch):List Ch->List Ch
 | []=>[c]
 | d::L=>if d.id==c.id then c::L else d::putC c L
def cutC (id:Int):List Ch->List Ch
 | []=>[]
 | d::L=>if d.id==id then L else d::cutC id L
theorem Ents.nil {es:List MEnt}:Ents es []↔es=[]:=by unfold Ents;simp
theorem Ents.cons {es:List MEnt} {c:Ch} {L:List Ch} (h:Ents es (c::L)):∃ e es',es=e::es'/\e.key=u c.id/\e.val=c.val/\Ents es' L:=by
 cases es with
 | nil=>cases h
 | cons e es' =>
  unfold Ents at h
  simp only [List.map_cons,List.cons.injEq,Prod.mk.injEq] at h
  exact ⟨e,es',rfl,h.1.1,h.1.2,h.2⟩
theorem Ents.mk {es:List MEnt} {e:MEnt} {c:Ch} {L:List Ch} (h:Ents es L) (h1:e.key=u c.id) (h2:e.val=c.val):Ents (e::es) (c::L):=by
 unfold Ents at h ⊢
 rw [List.map_cons,List.map_cons,h,h1,h2]
theorem Ents.all:∀ {L:List Ch} {es:List MEnt},Ents es L->AllInt .u32 es
 | [],es,h=>by rw [Ents.nil.1 h];intro e he;cases he
 | c::L,es,h=>by
  obtain ⟨e,es',rfl,h1,_,h3⟩:=h.cons
  intro x hx
  rcases List.mem_cons.1 hx with rfl | hx
  ·exact ⟨_,h1⟩
  ·exact h3.all x hx
theorem kInt_key {e:MEnt} {n id:Int} (h:e.key=u n):kInt .u32 id e=(n==id):=by
 unfold kInt;rw [h]
 show (IntKind.u32==IntKind.u32&&n==id)=_
 rw [show (IntKind.u32==IntKind.u32)=true from rfl,Bool.true_and]
theorem Ents.len {L:List Ch} {es:List MEnt} (h:Ents es L):es.length=L.length:=by
 have:=congrArg List.length h;simpa using this
theorem Ents.find:∀ {L:List Ch} {es:List MEnt} (_:Ents es L) (id:Int),(es.find? (kInt .u32 id)).map (·.val)=(gtL L id).map Ch.val
 | [],es,h,id=>by rw [Ents.nil.1 h];rfl
 | c::L,es,h,id=>by
  obtain ⟨e,es',rfl,h1,h2,h3⟩:=h.cons
  unfold gtL
  rw [List.find?_cons,List.find?_cons,kInt_key h1]
  cases c.id==id with
  | true=>simp [h2]
  | false=>exact h3.find id
theorem Ents.put:∀ {L:List Ch} {es:List MEnt} (_:Ents es L) (c:Ch) (k:Nat),Ents (putE .u32 c.id c.val k es) (putC c L)
 | [],es,h,c,k=>by rw [Ents.nil.1 h];rfl
 | d::L,es,h,c,k=>by
  obtain ⟨e,es',rfl,h1,h2,h3⟩:=h.cons
  rw [putE,putC,kInt_key h1]
  cases d.id==c.id with
  | true=>exact h3.mk rfl rfl
  | false=>exact (h3.put c k).mk h1 h2
theorem Ents.cut:∀ {L:List Ch} {es:List MEnt} (_:Ents es L) (id:Int),Ents (cutE .u32 id es) (cutC id L)
 | [],es,h,id=>by rw [Ents.nil.1 h];rfl
 | d::L,es,h,id=>by
  obtain ⟨e,es',rfl,h1,h2,h3⟩:=h.cons
  rw [cutE,cutC,kInt_key h1]
  cases d.id==id with
  | true=>exact h3
  | false=>exact (h3.cut id).mk h1 h2
section
variable {h:Heap} {mb k:Nat} {es:List MEnt} {L:List Ch} {id:Int} {c:Ch}
theorem Ents.findS (h:Ents es L) (hg:gtL L id=some c):∃ x,es.find? (kInt .u32 id)=some x/\x.val=c.val:=by
 have:=h.find id
 rw [hg] at this
 cases he:es.find? (kInt .u32 id) with
 | none=>rw [he] at this;cases this
 | some x=>rw [he] at this;exact ⟨x,rfl,Option.some.inj this⟩
theorem Ents.findN (h:Ents es L) (hg:gtL L id=none):es.find? (kInt .u32 id)=none:=by
 have:=h.find id
 rw [hg] at this
 cases he:es.find? (kInt .u32 id) with
 | none=>rfl
 | some x=>rw [he] at this;cases this
theorem lkT_some (hb:h.bs.gt mb=some (.map es k)) (he:Ents es L) (hg:gtL L id=some c):lookup2 P 173 true (.map (some mb)) (u id) h=some (.tuple [c.val,.bool true]):=by
 obtain ⟨x,h1,h2⟩:=he.findS hg
 rw [x_lk_173_true hb he.all,h1]
 show some (AV.tuple [x.val,.bool true])=_
 rw [h2]
theorem lkF_some (hb:h.bs.gt mb=some (.map es k)) (he:Ents es L) (hg:gtL L id=some c):lookup2 P 173 false (.map (some mb)) (u id) h=some c.val:=by
 obtain ⟨x,h1,h2⟩:=he.findS hg
 rw [x_lk_173_false hb he.all,h1]
 show some x.val=_
 rw [h2]
theorem lkT_none (hb:h.bs.gt mb=some (.map es k)) (he:Ents es L) (hg:gtL L id=none):lookup2 P 173 true (.map (some mb)) (u id) h=some (.tuple [.agg [.str [],.int .i64 0,.int .i64 0],.bool false]):=by
 rw [x_lk_173_true hb he.all,he.findN hg];rfl
end
structure EntsB (k:Nat) (es:List MEnt) (L:List Ch):Prop where
 e:Ents es L
 b:bornOk es k
theorem putE_new {k n:Nat} {id:Int} {v:AV}:∀ {es:List MEnt},es.any (kInt .u32 id)=false->bornOk es k->n=k+1->bornOk (putE .u32 id v k es) n:=by
 intro es ha hb hn
 subst hn
 rw [putE_end ha]
 refine ⟨fun e he=>?_,?_⟩
 ·rcases List.mem_append.1 he with h | h
  ·have:=hb.1 e h;omega
  ·rw [List.mem_singleton.1 h];exact Nat.lt_succ_self _
 ·rw [List.pairwise_append]
  refine ⟨hb.2,List.pairwise_singleton _ _,fun a ha b hb'=>?_⟩
  have:=hb.1 a ha
  rw [List.mem_singleton.1 hb']
  show a.born≠k
  omega
structure TabOk (L:List Ch) (next:Int) (B:Nat->List Int):Prop where
 ids:(L.map Ch.id).Nodup
 datas:(L.map Ch.data).Nodup
 ch:∀ c,c∈L->1<=c.id/\c.id<next/\1<=c.data.length/\c.data.length<=64/\Byts c.data/\1<=c.refs/\c.refs<=65535
 next:1<=next/\next<=4294967295
 inB:∀ c,c∈L->c.id∈B (bk c.data)
 ofB:∀ i,i<16->∀ id,id∈B i->∃ c,c∈L/\c.id=id/\bk c.data=i
 ndB:∀ i,i<16->(B i).Nodup
 len:L.length<5000
structure TabAt (h:Heap) (tb:Nat) (L:List Ch) (next:Int) (F:Nat->Prop):Prop where
 ex:∃ mb x es c B X,Rw h tb [.map (some mb),.ptr (some (x,0)),u next] [] false/\h.bs.gt mb=some (.map es c)/\EntsB c es L/\IxAt h x B X/\TabOk L next B/\mb<h.next/\tb≠mb/\¬IxF x X tb/\¬IxF x X mb/\F=fun b=>b=tb∨b=mb∨IxF x X b
 lt:tb<h.next
theorem TabAt.sm {h h':Heap} {tb:Nat} {L:List Ch} {next:Int} {F G:Nat->Prop} (ht:TabAt h tb L next F) (hs:Sm G h h') (hG:∀ b,F b->¬G b):TabAt h' tb L next F:=by
 obtain ⟨mb,x,es,c,B,X,h1,h2,h3,h4,h5,h6,h7,h8,h9,rfl⟩:=ht.ex
 exact ⟨⟨mb,x,es,c,B,X,h1.sm hs ht.lt (hG tb (.inl rfl)),(hs.2 mb h6 (hG mb (.inr (.inl rfl)))).trans h2,h3,h4.sm hs (fun b hb=>hG b (.inr (.inr hb))),h5,Nat.lt_of_lt_of_le h6 hs.1,h7,h8,h9,rfl⟩,Nat.lt_of_lt_of_le ht.lt hs.1⟩
theorem tis_ok {n:Nat} (hn:1<=n) {h:Heap} {tb:Nat} {L:List Ch} {next:Int} {F:Nat->Prop} (ht:TabAt h tb L next F):WC (C n (.fn 108) [.ptr (some (tb,0))] h) fun r h'=>h'=h/\r=.bool true:=by
 obtain ⟨mb,x,es,c,B,X,h1,_⟩:=ht.ex
 obtain ⟨m,rfl⟩:∃ m,n=m+1:=⟨n - 1,by omega⟩
 refine call_fn _ f108A rfl (by simp [fn108]) fun QQ hQ=>?_
 simp only [fn108] at hQ
 simp only [fn108,fill_cons,fill_nil,Nat.zero_add,Nat.reduceAdd]
 simp only [F108,x_ne_94,x_fa_177_0,x_ne_173,h1.ld1,Option.isSome_some,SS,Nat.reduceBEq,Nat.reduceEqDiff,Nat.reduceAdd,reduceIte,Nat.reduceMul]
 refine hQ _ _ _ _ (.inr rfl) (by simp only [SS,Nat.reduceBEq]) (by simp only [SS,Nat.reduceBEq,Nat.reduceEqDiff,Nat.reduceAdd,reduceIte,Nat.reduceMul];rfl) ?_
 exact ⟨rfl,rfl⟩
def zCh:AV:=.agg [.str [],.int .i64 0,.int .i64 0]
theorem tfind_ok {n:Nat} (hn:2<=n) {h:Heap} {tb:Nat} {L:List Ch} {next:Int} {F:Nat->Prop} (ht:TabAt h tb L next F) (id:Int):WC (C n (.fn 115) [.ptr (some (tb,0)),u id] h) fun r h'=>Sm NoB h h'/\r=match gtL L id with
  | some c=>.tuple [c.val,.int .i64 0]
  | none=>.tuple [zCh,.int .i64 5]:=by
 obtain ⟨mb,x,es,c,B,X,h1,h2,h3,_,_,hmb,_⟩:=ht.ex
 have h3:=h3.e
 obtain ⟨m,rfl⟩:∃ m,n=m+1:=⟨n - 1,by omega⟩
 refine call_fn _ f115A rfl (by simp [fn115]) fun QQ hQ=>?_
 simp only [fn115] at hQ
 simp only [fn115,fill_cons,fill_nil,Nat.zero_add,Nat.reduceAdd]
 obtain ⟨h5,e5,r5,n5,g5⟩:=Rw.alloc h (id:=h.next) (n:=3) (vs:=[.str [],.int .i64 0,.int .i64 0]) (z:=tyMark 183 true) (ro:=false) (Nat.le_refl _) rfl
 have s5:Sm NoB h h5:=⟨by omega,fun c hc _=>g5 c (by omega)⟩
 have ht5:=ht.sm s5 (fun _ _ h=>h)
 have h0':h5.bs.gt mb=some (.map es c):=(g5 mb (by omega)).trans h2
 have r1:Rw h5 tb [.map (some mb),.ptr (some (x,0)),u next] [] false:=h1.sm s5 ht.lt (fun h=>h)
 obtain ⟨_,h0,ea,rfl,rfl⟩:=tis_ok (n:=m) (by omega) ht5
 obtain ⟨h6,e6,r6,n6,g6⟩:=Rw.alloc h0 (id:=h0.next) (n:=3) (vs:=[.str [],.int .i64 0,.int .i64 0]) (z:=tyMark 183 true) (ro:=false) (Nat.le_refl _) rfl
 have rc:resC P 183=loadN 3:=by kernel_rfl
 have key:∀ us:List AV,us.length=3->us.all AV.one=true->∀ ws:List AV,ws.length=3->ws.all AV.one=true->∃ h7 h8,h6.sto h0.next 0 us=some h7/\h7.ld h0.next 0 3=some us/\h7.sto h.next 0 ws=some h8/\h8.ld h.next 0 3=some ws/\Sm NoB h h8:=by
  intro us hu1 hu2 ws hw1 hw2
  obtain ⟨w1,w2,w3,w4⟩:=r6.sto (o:=0) (us:=us) (by simp [hu1]) hu2
  have r7:Rw (h6.wr h0.next 0 us) h.next [.str [],.int .i64 0,.int .i64 0] (tyMark 183 true) false:=r5.same (by rw [w4 _ (by omega),g6 _ (by omega)])
  obtain ⟨v1,v2,v3,v4⟩:=r7.sto (o:=0) (us:=ws) (by simp [hw1]) hw2
  have full:∀ (l us:List AV),l.length=3->us.length=3->putL l 0 us=us:=by
   intro l us h1 h2
   unfold putL
   rw [List.take_zero,List.nil_append,Nat.zero_add,h2,List.drop_eq_nil_of_le (by omega),List.append_nil]
  rw [full _ _ rfl hu1] at w2
  rw [full _ _ rfl hw1] at v2
  refine ⟨_,_,w1,?_,v1,?_,⟨by omega,fun c hc _=>?_⟩⟩
  ·rw [w2.ld (by omega),List.drop_zero,List.take_of_length_le (by omega)]
  ·rw [v2.ld (by omega),List.drop_zero,List.take_of_length_le (by omega)]
  ·rw [v4 c (by omega),w4 c (by omega),g6 c (by omega),g5 c (Nat.ne_of_lt hc)]
 cases hg:gtL L id with
 | none =>
  obtain ⟨h7,h8,k1,k2,k3,k4,k5⟩:=key [.str [],.int .i64 0,.int .i64 0] rfl rfl [.str [],.int .i64 0,.int .i64 0] rfl rfl
  simp only [F115,x_al_183,e5,ea,x_fa_177_0,r1.ld1,lkT_none h0' h3 hg,e6,x_bd_183_,k1,k3,SS,Nat.reduceBEq,Nat.reduceEqDiff,Nat.reduceAdd,reduceIte,Nat.reduceMul]
  refine hQ _ _ _ _ (.inr rfl) (by simp only [SS,Nat.reduceBEq]) (by simp only [SS,Nat.reduceBEq,Nat.reduceEqDiff,Nat.reduceAdd,reduceIte,Nat.reduceMul,rc,k4];rfl) ?_
  exact ⟨k5,by rw [hg];rfl⟩
 | some ch =>
  obtain ⟨h7,h8,k1,k2,k3,k4,k5⟩:=key [.str ch.data,.int .i64 ch.block,.int .i64 ch.refs] rfl rfl [.str ch.data,.int .i64 ch.block,.int .i64 ch.refs] rfl rfl
  have hl:=lkT_some h0' h3 hg
  unfold Ch.val at hl
  simp only [F115,x_al_183,e5,ea,x_fa_177_0,r1.ld1,hl,e6,k1,k2,k3,SS,Nat.reduceBEq,Nat.reduceEqDiff,Nat.reduceAdd,reduceIte,Nat.reduceMul]
  refine hQ _ _ _ _ (.inr rfl) (by simp only [SS,Nat.reduceBEq]) (by simp only [SS,Nat.reduceBEq,Nat.reduceEqDiff,Nat.reduceAdd,reduceIte,Nat.reduceMul,rc,k4];rfl) ?_
  exact ⟨k5,by rw [hg];rfl⟩
def fdL (L:List Ch) (d:List Nat):Option Ch:=L.find? fun c=>c.data==d
theorem gt_some {L:List Ch} {id:Int} {c:Ch} (h:gtL L id=some c):c∈L/\c.id=id:=by
 have h1:=List.find?_some h
 exact ⟨List.mem_of_find?_eq_some h,by simpa using h1⟩
theorem gt_none {L:List Ch} {id:Int} (h:gtL L id=none):∀ c,c∈L->c.id≠id:=by
 intro c hc e
 have:=List.find?_eq_none.1 h c hc
 simp [e] at this
theorem fd_some {L:List Ch} {d:List Nat} {c:Ch} (h:fdL L d=some c):c∈L/\c.data=d:=by
 have h1:=List.find?_some h
 exact ⟨List.mem_of_find?_eq_some h,by simpa using h1⟩
theorem fd_none {L:List Ch} {d:List Nat} (h:fdL L d=none):∀ c,c∈L->c.data≠d:=by
 intro c hc e
 have:=List.find?_eq_none.1 h c hc
 simp [e] at this
theorem nodup_inj {α β : Type} {f:α->β}:∀ {L:List α},(L.map f).Nodup->∀ {c d:α},c∈L->d∈L->f c=f d->c=d
 | [],_,c,d,hc,_,_=>by cases hc
 | a::L,hn,c,d,hc,hd,he=>by
  rw [List.map_cons,List.nodup_cons] at hn
  rcases List.mem_cons.1 hc with rfl | hc'
  ·rcases List.mem_cons.1 hd with rfl | hd'
   ·rfl
   ·exact absurd (List.mem_map.2 ⟨d,hd',he.symm⟩) hn.1
  ·rcases List.mem_cons.1 hd with rfl | hd'
   ·exact absurd (List.mem_map.2 ⟨c,hc',he⟩) hn.1
   ·exact nodup_inj hn.2 hc' hd' he
theorem gt_mem {L:List Ch} (hn:(L.map Ch.id).Nodup) {c:Ch} (hc:c∈L):gtL L c.id=some c:=by
 cases hg:gtL L c.id with
 | none=>exact absurd rfl (gt_none hg c hc)
 | some d =>
  obtain ⟨h1,h2⟩:=gt_some hg
  rw [nodup_inj hn h1 hc h2]
theorem fd_mem {L:List Ch} (hn:(L.map Ch.data).Nodup) {c:Ch} (hc:c∈L):fdL L c.data=some c:=by
 cases hg:fdL L c.data with
 | none=>exact absurd rfl (fd_none hg c hc)
 | some d =>
  obtain ⟨h1,h2⟩:=fd_some hg
  rw [nodup_inj hn h1 hc h2]
theorem tFind_ok {n:Nat} (hn:4<=n) {h:Heap} {tb:Nat} {L:List Ch} {next:Int} {F:Nat->Prop} (ht:TabAt h tb L next F) {s:List Nat} (hl:s.length<=1000) (hb:Byts s):WC (C n (.fn 120) [.ptr (some (tb,0)),.str s] h) fun r h'=>Sm NoB h h'/\r=match fdL L s with
  | some c=>.tuple [u c.id,.bool true]
  | none=>.tuple [u 0,.bool false]:=by
 obtain ⟨mb,x,es,c,B,X,h1,h2,h3,h4,h5,hmb,_⟩:=ht.ex
 have h3:=h3.e
 obtain ⟨m,rfl⟩:∃ m,n=m+1:=⟨n - 1,by omega⟩
 refine call_fn _ f120A rfl (by simp [fn120]) fun QQ hQ=>?_
 simp only [fn120] at hQ
 simp only [fn120,fill_cons,fill_nil,Nat.zero_add,Nat.reduceAdd]
 obtain ⟨_,h0,ea,rfl,rfl⟩:=tis_ok (n:=m) (by omega) ht
 obtain ⟨v,h6,eb,hv,s6⟩:=ixfind_ok (n:=m) (by omega) h4 hl hb
 have hbk:=bk_lt s
 have hsz:=h4.sz _ hbk
 obtain ⟨hlen,a,cp,g,rfl,_⟩:=id hv
 have h2':h6.bs.gt mb=some (.map es c):=(s6.2 mb hmb (fun h=>h)).trans h2
 have r1:Rw h6 tb [.map (some mb),.ptr (some (x,0)),u next] [] false:=h1.sm s6 ht.lt (fun h=>h)
 simp only [F120,ea,x_fa_177_1,h1.ld1,eb,x_len_51,SS,Nat.reduceBEq,Nat.reduceEqDiff,Nat.reduceAdd,reduceIte,Nat.reduceMul]
 refine run_loop (c:=c120_15) (I:=fun k tm' h'=>∃ i,i<=(B (bk s)).length/\k=(B (bk s)).length - i/\h'=h6/\(∀ (j:Nat) id c,j<i->(B (bk s))[j]?=some id->gtL L id=some c->c.data≠s)/\tm'.gt 0=some (.ptr (some (tb,0)))/\tm'.gt 1=some (.str s)/\tm'.gt 16=some (.slice a (B (bk s)).length cp g)/\tm'.gt 17=some (.int .i64 ((B (bk s)).length:Int))/\tm'.gt 18=some (.int .i64 (i:Int))/\tm'.gt 33=none) (n:=(B (bk s)).length)
  ⟨0,by simp [gt_same,gt_other,gt_leaf]⟩ (by omega) ?_
 rintro _ tm h9 ⟨i,hi,rfl,rfl,hno,t0,t1,t16,t17,t18,t33⟩ Q1 hN hE
 by_cases hlt:i<(B (bk s)).length
 ·obtain ⟨b,o,rfl,hcell⟩:=hv.cell (by omega)
  have hc:=hcell i (by omega)
  have hx:(B (bk s))[i]?=some (B (bk s))[i]:=List.getElem?_eq_getElem (by omega)
  rw [List.getElem?_map,hx,Option.map_some] at hc
  obtain ⟨ch,c1,c2,c3⟩:=h5.ofB _ hbk _ (List.mem_of_getElem? hx)
  have hg:=gt_mem h5.ids c1
  rw [c2] at hg
  have hlk:=lkF_some h2' h3 hg
  unfold Ch.val at hlk
  by_cases he:ch.data=s
  ·simp only [F120,x_ia_51 hlt,x_fa_177_0,r1.ld1,hlk,x_fd_183_0,t0,t1,t16,t17,t18,t33,SS,Nat.reduceBEq,Nat.reduceEqDiff,Nat.reduceAdd,reduceIte,Nat.reduceMul,Int.ofNat_lt,hlt,hc,he]
   refine hE _ _ _ (by simp) ?_
   simp only [SS,Nat.reduceBEq,Nat.reduceEqDiff,Nat.reduceAdd,reduceIte,Nat.reduceMul]
   refine hQ _ _ _ _ (.inr rfl) (by simp only [SS,Nat.reduceBEq,t33]) (by simp only [SS,Nat.reduceBEq,Nat.reduceEqDiff,Nat.reduceAdd,reduceIte,Nat.reduceMul];rfl) ?_
   refine ⟨s6,?_⟩
   have hf:=fd_mem h5.datas c1
   rw [he] at hf
   rw [hf,← c2];rfl
  ·simp only [F120,x_ia_51 hlt,x_fa_177_0,r1.ld1,hlk,x_fd_183_0,t0,t1,t16,t17,t18,t33,SS,Nat.reduceBEq,Nat.reduceEqDiff,Nat.reduceAdd,reduceIte,Nat.reduceMul,Int.ofNat_lt,hlt,hc,he]
   refine hN _ _ ((B (bk s)).length - (i+1)) (by omega) ⟨i+1,hlt,rfl,rfl,fun j id c' hj h1' h2'=>?_,?_⟩
   ·by_cases e:j=i
    ·subst e;rw [hx] at h1';cases h1';rw [hg] at h2';cases h2';exact he
    ·exact hno j id c' (by omega) h1' h2'
   ·have e7:IntKind.i64.wrap ((i:Int)+1)=((i+1:Nat):Int):=by rw [wrap_i64 (by omega) (by omega)];simp
    simp only [SS,Nat.reduceBEq,Nat.reduceEqDiff,Nat.reduceAdd,reduceIte,Nat.reduceMul,t0,t1,t16,t17,t18,t33,e7,and_self]
 ·obtain rfl:i=(B (bk s)).length:=by omega
  simp only [F120,t0,t1,t16,t17,t18,t33,SS,Nat.reduceBEq,Nat.reduceEqDiff,Nat.reduceAdd,reduceIte,Nat.reduceMul,Int.ofNat_lt,hlt]
  refine hE _ _ _ (by simp) ?_
  simp only [F120,t0,t1,t16,t17,t18,t33,SS,Nat.reduceBEq,Nat.reduceEqDiff,Nat.reduceAdd,reduceIte,Nat.reduceMul]
  refine hQ _ _ _ _ (.inr rfl) (by simp only [SS,Nat.reduceBEq,t33]) (by simp only [SS,Nat.reduceBEq,Nat.reduceEqDiff,Nat.reduceAdd,reduceIte,Nat.reduceMul];rfl) ?_
  refine ⟨s6,?_⟩
  cases hf:fdL L s with
  | none=>rfl
  | some c' =>
   obtain ⟨f1,f2⟩:=fd_some hf
   have hin:=h5.inB c' f1
   rw [f2] at hin
   obtain ⟨j,hj⟩:=List.getElem?_of_mem hin
   exact absurd f2 (hno j _ c' (List.getElem?_eq_some_iff.1 hj).1 hj (gt_mem h5.ids f1))
theorem putC_new {c:Ch}:∀ {L:List Ch},(∀ d,d∈L->d.id≠c.id)->putC c L=L++[c]
 | [],_=>rfl
 | d::L,h=>by
  rw [putC,show (d.id==c.id)=false from by simpa using h d (List.mem_cons_self ..),putC_new fun e he=>h e (List.mem_cons_of_mem _ he)];rfl
theorem any_none {es:List MEnt} {id:Int} (h:es.find? (kInt .u32 id)=none):es.any (kInt .u32 id)=false:=by
 rw [List.any_eq_false]
 intro e he
 have:=List.find?_eq_none.1 h e he
 simpa using this
theorem nodup_snoc {α : Type} {L:List α} {a:α} (h:L.Nodup) (ha:a∉L):(L++[a]).Nodup:=by
 rw [List.nodup_append]
 refine ⟨h,List.nodup_cons.2 ⟨List.not_mem_nil,List.nodup_nil⟩,fun x hx y hy e=>?_⟩
 rw [List.mem_singleton] at hy
 exact ha (hy▸e▸hx)
theorem TabOk.add {L:List Ch} {next:Int} {B:Nat->List Int} (h:TabOk L next B) {c:Ch} (h1:1<=c.id) (h2:c.id<4294967295) (hid:gtL L c.id=none) (hd:fdL L c.data=none) (hl1:1<=c.data.length) (hl2:c.data.length<=64) (hb:Byts c.data) (hr1:1<=c.refs) (hr2:c.refs<=65535) (hlen:L.length<4999) :
  TabOk (L++[c]) (max next (c.id+1)) (setF B (bk c.data) (B (bk c.data)++[c.id])):=by
 have hbk:=bk_lt c.data
 refine ⟨?_,?_,fun d hd'=>?_,⟨by have:=h.next;omega,by have:=h.next;omega⟩,fun d hd'=>?_,fun i hi id hid'=>?_,fun i hi=>?_,by simp;omega⟩
 ·rw [List.map_append]
  exact nodup_snoc h.ids fun hm=>by obtain ⟨d,d1,d2⟩:=List.mem_map.1 hm;exact gt_none hid d d1 d2
 ·rw [List.map_append]
  exact nodup_snoc h.datas fun hm=>by obtain ⟨d,d1,d2⟩:=List.mem_map.1 hm;exact fd_none hd d d1 d2
 ·rcases List.mem_append.1 hd' with hd' | hd'
  ·obtain ⟨a1,a2,a3⟩:=h.ch d hd'
   exact ⟨a1,by omega,a3⟩
  ·rw [List.mem_singleton] at hd'
   subst hd'
   exact ⟨h1,by omega,hl1,hl2,hb,hr1,hr2⟩
 ·rcases List.mem_append.1 hd' with hd' | hd'
  ·have:=h.inB d hd'
   by_cases e:bk d.data=bk c.data
   ·rw [e,setF_same];rw [e] at this;exact List.mem_append_left _ this
   ·rw [setF_other _ _ e];exact this
  ·rw [List.mem_singleton] at hd'
   subst hd'
   rw [setF_same];exact List.mem_append_right _ (List.mem_singleton.2 rfl)
 ·by_cases e:i=bk c.data
  ·subst e
   rw [setF_same] at hid'
   rcases List.mem_append.1 hid' with h3 | h3
   ·obtain ⟨d,d1,d2,d3⟩:=h.ofB _ hi id h3
    exact ⟨d,List.mem_append_left _ d1,d2,d3⟩
   ·exact ⟨c,List.mem_append_right _ (List.mem_singleton.2 rfl),(List.mem_singleton.1 h3).symm,rfl⟩
  ·rw [setF_other _ _ e] at hid'
   obtain ⟨d,d1,d2,d3⟩:=h.ofB _ hi id hid'
   exact ⟨d,List.mem_append_left _ d1,d2,d3⟩
 ·by_cases e:i=bk c.data
  ·subst e
   rw [setF_same]
   refine nodup_snoc (h.ndB _ hi) fun hm=>?_
   obtain ⟨d,d1,d2,d3⟩:=h.ofB _ hi _ hm
   exact gt_none hid d d1 d2
  ·rw [setF_other _ _ e];exact h.ndB i hi
theorem nodup_len:∀ {l m:List Int},l.Nodup->(∀ x,x∈l->x∈m)->l.length<=m.length
 | [],_,_,_=>Nat.zero_le _
 | x::l,m,hn,h=>by
  rw [List.nodup_cons] at hn
  have hx:=h x (List.mem_cons_self ..)
  have:=nodup_len (m:=m.erase x) hn.2 fun y hy=>(List.mem_erase_of_ne (fun e=>hn.1 (by rw [← e];exact hy))).2 (h y (List.mem_cons_of_mem _ hy))
  rw [List.length_erase_of_mem hx] at this
  have hp:0<m.length:=List.length_pos_of_mem hx
  simp only [List.length_cons];omega
theorem TabOk.szB {L:List Ch} {next:Int} {B:Nat->List Int} (h:TabOk L next B) {i:Nat} (hi:i<16):(B i).length<=L.length:=by
 have:=nodup_len (m:=L.map Ch.id) (h.ndB i hi) fun x hx=>by obtain ⟨d,d1,d2,_⟩:=h.ofB i hi x hx;exact List.mem_map.2 ⟨d,d1,d2⟩
 simpa using this
theorem tput_ok {n:Nat} (hn:4<=n) {h:Heap} {tb:Nat} {L:List Ch} {next:Int} {F:Nat->Prop} (ht:TabAt h tb L next F) (c:Ch) (h1:1<=c.id) (h2:c.id<4294967295) (hid:gtL L c.id=none) (hd:fdL L c.data=none) (hl1:1<=c.data.length) (hl2:c.data.length<=64) (hb:Byts c.data) (hr1:1<=c.refs) (hr2:c.refs<=65535) (hlen:L.length<4999) :
  WC (C n (.fn 109) [.ptr (some (tb,0)),u c.id,c.val] h) fun r h'=>r=.tuple []/\∃ F',TabAt h' tb (L++[c]) (max next (c.id+1)) F'/\Sm F h h'/\∀ b,F' b->F b∨h.next<=b:=by
 obtain ⟨mb,x,es,k,B,X,t1,t2,t3,t4,t5,hmb,hne,hx1,hx2,rfl⟩:=ht.ex
 have t3b:=t3.b
 have t3:=t3.e
 unfold Ch.val
 obtain ⟨m,rfl⟩:∃ m,n=m+1:=⟨n - 1,by omega⟩
 refine call_fn _ f109A rfl (by simp [fn109]) fun QQ hQ=>?_
 simp only [fn109] at hQ
 simp only [fn109,fill_cons,fill_nil,Nat.zero_add,Nat.reduceAdd]
 obtain ⟨h3,e3,r3,n3,g3⟩:=Rw.alloc h (id:=h.next) (n:=3) (vs:=[.str c.data,.int .i64 c.block,.int .i64 c.refs]) (z:=[]) (ro:=false) (Nat.le_refl _) rfl
 obtain ⟨h4,e4,s4,b4,n4⟩:=Sm.bump h3 7
 have htb:=ht.lt
 have s3:Sm NoB h h3:=⟨by omega,fun c hc _=>g3 c (by omega)⟩
 have s34:Sm NoB h h4:=s3.trans s4 (fun _ _ h=>h) (fun _ _ h=>h)
 have r4:Rw h4 tb [.map (some mb),.ptr (some (x,0)),u next] [] false:=t1.sm s34 ht.lt (fun h=>h)
 have rv:Rw h4 h.next [.str c.data,.int .i64 c.block,.int .i64 c.refs] [] false:=r3.same (by rw [b4])
 have m4:h4.bs.gt mb=some (.map es k):=(s34.2 mb hmb (fun h=>h)).trans t2
 have hany:=any_none (t3.findN hid)
 have hmu:=x_mu_173 m4 t3.all c.id (.agg [.str c.data,.int .i64 c.block,.int .i64 c.refs])
 rw [hany] at hmu
 have hent:=t3.put c k
 unfold Ch.val at hent
 rw [putC_new (fun d hd'=>gt_none hid d hd')] at hent
 obtain ⟨h5,e5,p5⟩:∃ h5,h4.put mb (.map (putE .u32 c.id (.agg [.str c.data,.int .i64 c.block,.int .i64 c.refs]) k es) (k+1))=h5/\(∀ b,h5.bs.gt b=if b=mb then some (.map (putE .u32 c.id (.agg [.str c.data,.int .i64 c.block,.int .i64 c.refs]) k es) (k+1)) else h4.bs.gt b)/\h5.next=h4.next:=⟨_,rfl,fun b=>put_get _ _ _ _,rfl⟩
 rw [show (if false=true then k else k+1)=k+1 from rfl,e5] at hmu
 obtain ⟨h6,e6,s6,b6,n6⟩:=Sm.bump h5 8
 have ix6:IxAt h6 x B X:=(t4.sm s34 (fun _ _ h=>h)).sm (G:=fun b=>b=mb) (h':=h6) ⟨by omega,fun c hc hF=>by rw [b6,p5.1,if_neg hF]⟩ (fun b hb e=>hx2 (e▸hb))
 have r6:Rw h6 tb [.map (some mb),.ptr (some (x,0)),u next] [] false:=r4.same (by rw [b6,p5.1,if_neg hne])
 have rv6:Rw h6 h.next [.str c.data,.int .i64 c.block,.int .i64 c.refs] [] false:=rv.same (by rw [b6,p5.1,if_neg (by omega)])
 have hidB:c.id∉B (bk c.data):=fun hm=>by obtain ⟨d,d1,d2,d3⟩:=t5.ofB _ (bk_lt _) _ hm;exact gt_none hid d d1 d2
 obtain ⟨_,h7,e7,rfl,bs,ix7,s7,f7⟩:=ixadd_ok (n:=m) (by omega) ix6 (s:=c.data) (by omega) hb c.id hidB (by have:=t5.szB (bk_lt c.data);omega)
 have hixx:∀ b,b<h6.next->¬IxF x X b->h7.bs.gt b=h6.bs.gt b:=fun b hb hF=>s7.2 b hb hF
 have r7:Rw h7 tb [.map (some mb),.ptr (some (x,0)),u next] [] false:=r6.same (hixx tb (by omega) hx1)
 obtain ⟨w1,w2,w3,w4⟩:=r7.st1 (o:=2) (v:=u (max next (c.id+1))) (by simp) rfl
 have ew:IntKind.u32.wrap (c.id+1)=c.id+1:=wrap_u32 (by omega) (by omega)
 have ldv:h4.ld h.next 0 3=some [.str c.data,.int .i64 c.block,.int .i64 c.refs]:=by rw [rv.ld (i:=0) (n:=3) (by simp)];rfl
 simp only [F109,box_agg,e3,e4,x_fa_177_0,x_fa_177_1,x_fa_177_2,x_fa_183_0,r4.ld1,r6.ld1,r7.ld1,ldv,rv6.ld1,hmu,e6,e7,ew,w1,SS,Nat.reduceBEq,Nat.reduceEqDiff,Nat.reduceAdd,reduceIte,Nat.reduceMul]
 refine hQ _ _ _ _ (.inl rfl) (by simp only [SS,Nat.reduceBEq]) (by simp only [SS,Nat.reduceBEq,Nat.reduceEqDiff,Nat.reduceAdd,reduceIte,Nat.reduceMul];rfl) ?_
 have hbk:=bk_lt c.data
 have hnew:∀ b,IxF x (setF X (bk c.data) bs) b->IxF x X b∨h6.next<=b:=by
  rintro b (rfl|⟨i,hi,hb⟩)
  ·exact .inl (.inl rfl)
  ·by_cases e:i=bk c.data
   ·subst e;rw [setF_same] at hb
    rcases f7 b hb with h9 | h9
    ·exact .inl (.inr ⟨_,hbk,h9⟩)
    ·exact .inr h9
   ·rw [setF_other _ _ e] at hb;exact .inl (.inr ⟨i,hi,hb⟩)
 have hmb6:h7.bs.gt mb=h6.bs.gt mb:=hixx mb (by omega) hx2
 have htn:¬IxF x (setF X (bk c.data) bs) tb:=fun h9=>by rcases hnew _ h9 with h9 | h9;exact hx1 h9;omega
 refine ⟨rfl,_,⟨⟨mb,x,_,k+1,_,_,by simpa using w2,?_,⟨hent,putE_new hany t3b rfl⟩,ix7.sm (G:=fun b=>b=tb) ⟨by omega,fun c hc hF=>w4 c hF⟩ (fun b hb e=>htn (e▸hb)),t5.add h1 h2 hid hd hl1 hl2 hb hr1 hr2 hlen,by have:=s7.1;omega,hne,htn,fun h9=>by rcases hnew _ h9 with h9 | h9;exact hx2 h9;omega,rfl⟩,by have:=s7.1;omega⟩,⟨by have:=s7.1;omega,fun b hb hF=>?_⟩,fun b hF=>?_⟩
 ·rw [w4 mb (fun e=>hne e.symm),hmb6,b6,p5.1,if_pos rfl]
 ·have hF1:b≠tb:=fun e=>hF (.inl e)
  have hF2:b≠mb:=fun e=>hF (.inr (.inl e))
  have hF3:¬IxF x X b:=fun e=>hF (.inr (.inr e))
  rw [w4 b hF1,hixx b (by omega) hF3,b6,p5.1,if_neg hF2,s34.2 b hb (fun h=>h)]
 ·rcases hF with rfl | rfl | hF
  ·exact .inl (.inl rfl)
  ·exact .inl (.inr (.inl rfl))
  ·rcases hnew b hF with h9 | h9
   ·exact .inl (.inr (.inr h9))
   ·exact .inr (by omega)
end Go.Proofs.YtboobbebilegnaaGreat
namespace Go.Proofs.YtboobbebilegnaaGreat
open Go.Am
set_option maxRecDepth 10000
theorem tnew_ok {n:Nat} (hn:2<=n) {h:Heap}:WC (C n (.fn 50) [] h) fun r h'=>∃ tb F,r=.ptr (some (tb,0))/\TabAt h' tb [] 1 F/\Sm NoB h h'/\(∀ b,F b->h.next<=b):=by
 obtain ⟨m,rfl⟩:∃ m,n=m+1:=⟨n - 1,by omega⟩
 refine call_fn _ f50A rfl (by simp [fn50]) fun QQ hQ=>?_
 simp only [fn50] at hQ
 simp only [fn50,fill_cons,fill_nil,Nat.zero_add,Nat.reduceAdd]
 obtain ⟨h1,e1,p1⟩:∃ h1,h.new h.next (.map [] 0)=h1/\(∀ b,h1.bs.gt b=if b=h.next then some (.map [] 0) else h.bs.gt b)/\h1.next=h.next+1:=⟨_,rfl,fun b=>new_get' (Nat.le_refl _) _ _,new_next' (Nat.le_refl _) _⟩
 obtain ⟨_,h2,e2,x,rfl,ix2,s2,x2⟩:=ixnew_ok (n:=m) (by omega) (h:=h1)
 obtain ⟨h3,e3,r3,n3,g3⟩:=Rw.alloc h2 (id:=h2.next) (n:=3) (vs:=[.map (some h.next),.ptr (some (x,0)),.int .u32 1]) (z:=[]) (ro:=false) (Nat.le_refl _) rfl
 have hx:=ix2.lt
 simp only [F50,x_mm_173,e1,e2,x_bd_177_0_1_2,box_agg,e3,SS,Nat.reduceBEq,Nat.reduceEqDiff,Nat.reduceAdd,reduceIte,Nat.reduceMul]
 refine hQ _ _ _ _ (.inr rfl) (by simp only [SS,Nat.reduceBEq]) (by simp only [SS,Nat.reduceBEq,Nat.reduceEqDiff,Nat.reduceAdd,reduceIte,Nat.reduceMul];rfl) ?_
 have hix:∀ b,IxF x (fun _=>[]) b->b=x:=by
  rintro b (rfl|⟨_,_,hb⟩)
  ·rfl
  ·cases hb
 have hm2:h2.bs.gt h.next=some (.map [] 0):=by rw [s2.2 _ (by omega) (fun h=>h),p1.1,if_pos rfl]
 refine ⟨h2.next,_,rfl,⟨⟨h.next,x,[],0,_,_,r3,by rw [g3 _ (by have:=s2.1;omega),hm2],⟨Ents.nil.2 rfl,⟨(fun e he=>by cases he),List.Pairwise.nil⟩⟩,ix2.sm (G:=fun b=>b=h2.next) ⟨by omega,fun c hc hF=>g3 c hF⟩ (fun b hb e=>by have:=hix b hb;omega),?_,by have:=s2.1;omega,by have:=s2.1;omega,fun h9=>by have:=hix _ h9;omega,fun h9=>by have:=hix _ h9;omega,rfl⟩,by omega⟩,⟨by have:=s2.1;omega,fun c hc _=>?_⟩,fun b hb=>?_⟩
 ·exact ⟨by simp,by simp,by simp,⟨by decide,by decide⟩,by simp,by simp,by simp,by simp⟩
 ·rw [g3 c (by have:=s2.1;omega),s2.2 c (by omega) (fun h=>h),p1.1,if_neg (by omega)]
 ·rcases hb with rfl | rfl | hb
  ·have:=s2.1;omega
  ·exact Nat.le_refl _
  ·have:=hix b hb;omega
theorem full3 (l us:List AV) (h1:l.length=3) (h2:us.length=3):putL l 0 us=us:=by
 unfold putL
 rw [List.take_zero,List.nil_append,Nat.zero_add,h2,List.drop_eq_nil_of_le (by omega),List.append_nil]
theorem tget_ok {n:Nat} (hn:3<=n) {h:Heap} {tb:Nat} {L:List Ch} {next:Int} {F:Nat->Prop} (ht:TabAt h tb L next F) (id:Int):WC (C n (.fn 58) [.ptr (some (tb,0)),u id] h) fun r h'=>Sm NoB h h'/\r=match gtL L id with
  | some c=>.tuple [.str c.data,.int .i64 c.block,.int .i64 c.refs,.bool true]
  | none=>.tuple [.str [],.int .i64 0,.int .i64 0,.bool false]:=by
 obtain ⟨m,rfl⟩:∃ m,n=m+1:=⟨n - 1,by omega⟩
 refine call_fn _ f58A rfl (by simp [fn58]) fun QQ hQ=>?_
 simp only [fn58] at hQ
 simp only [fn58,fill_cons,fill_nil,Nat.zero_add,Nat.reduceAdd]
 obtain ⟨_,h1,ea,s1,rfl⟩:=tfind_ok (n:=m) (by omega) ht id
 obtain ⟨h2,e2,r2,n2,g2⟩:=Rw.alloc h1 (id:=h1.next) (n:=3) (vs:=[.str [],.int .i64 0,.int .i64 0]) (z:=tyMark 183 true) (ro:=false) (Nat.le_refl _) rfl
 have key:∀ us:List AV,us.length=3->us.all AV.one=true->∃ h3 h4,h2.sto h1.next 0 us=some h3/\Heap.mk h3.bs (h3.next+12)=h4/\(∀ i,h4.ld1 h1.next i=us[i]?)/\Sm NoB h h4:=by
  intro us hu1 hu2
  obtain ⟨w1,w2,w3,w4⟩:=r2.sto (o:=0) (us:=us) (by simp [hu1]) hu2
  rw [full3 _ _ rfl hu1] at w2
  obtain ⟨h4,e4,s4,b4,n4⟩:=Sm.bump (h2.wr h1.next 0 us) 12
  refine ⟨_,_,w1,e4,fun i=>?_,⟨by have:=s1.1;omega,fun c hc _=>?_⟩⟩
  ·exact (w2.same (h':=h4) (by rw [b4])).ld1 i
  ·have:=s1.1
   rw [b4,w4 c (by omega),g2 c (by omega),s1.2 c hc (fun h=>h)]
 cases hg:gtL L id with
 | none =>
  rw [hg] at ea
  unfold zCh at ea
  obtain ⟨h3,h4,k1,k2,k3,k4⟩:=key [.str [],.int .i64 0,.int .i64 0] rfl rfl
  simp only [F58,ea,x_al_183,e2,k1,k2,k3,x_fa_183_0,x_fa_183_1,x_fa_183_2,SS,Nat.reduceBEq,Nat.reduceEqDiff,Nat.reduceAdd,reduceIte,Nat.reduceMul]
  refine hQ _ _ _ _ (.inr rfl) (by simp only [SS,Nat.reduceBEq]) (by simp only [SS,Nat.reduceBEq,Nat.reduceEqDiff,Nat.reduceAdd,reduceIte,Nat.reduceMul];rfl) ?_
  exact ⟨k4,by rw [hg];rfl⟩
 | some ch =>
  rw [hg] at ea
  unfold Ch.val at ea
  obtain ⟨h3,h4,k1,k2,k3,k4⟩:=key [.str ch.data,.int .i64 ch.block,.int .i64 ch.refs] rfl rfl
  simp only [F58,ea,x_al_183,e2,k1,k2,k3,x_fa_183_0,x_fa_183_1,x_fa_183_2,SS,Nat.reduceBEq,Nat.reduceEqDiff,Nat.reduceAdd,reduceIte,Nat.reduceMul]
  refine hQ _ _ _ _ (.inr rfl) (by simp only [SS,Nat.reduceBEq]) (by simp only [SS,Nat.reduceBEq,Nat.reduceEqDiff,Nat.reduceAdd,reduceIte,Nat.reduceMul];rfl) ?_
  exact ⟨k4,by rw [hg];rfl⟩
theorem cutC_sub (id:Int):∀ L:List Ch,(cutC id L).Sublist L
 | []=>List.Sublist.slnil
 | d::L=>by
  rw [cutC]
  cases d.id==id with
  | true=>exact List.sublist_cons_self d L
  | false=>exact (cutC_sub id L).cons_cons d
theorem cutC_mem {id:Int}:∀ {L:List Ch},(L.map Ch.id).Nodup->∀ d,d∈cutC id L↔d∈L/\d.id≠id
 | [],_,d=>by simp [cutC]
 | e::L,hn,d=>by
  rw [List.map_cons,List.nodup_cons] at hn
  rw [cutC]
  cases hk:e.id==id with
  | true =>
   have hk:e.id=id:=by simpa using hk
   simp only [if_true,List.mem_cons]
   constructor
   ·intro hd
    refine ⟨.inr hd,fun h=>hn.1 (List.mem_map.2 ⟨d,hd,by rw [h,hk]⟩)⟩
   ·rintro ⟨rfl | hd,hne⟩
    ·exact absurd hk hne
    ·exact hd
  | false =>
   have hk:e.id≠id:=by simpa using hk
   simp only [Bool.false_eq_true,if_false,List.mem_cons,cutC_mem hn.2 d]
   constructor
   ·rintro (rfl|⟨h1,h2⟩)
    ·exact ⟨.inl rfl,hk⟩
    ·exact ⟨.inr h1,h2⟩
   ·rintro ⟨rfl | h1,h2⟩
    ·exact .inl rfl
    ·exact .inr ⟨h1,h2⟩
theorem cutC_len {id:Int} {c:Ch}:∀ {L:List Ch},gtL L id=some c->(cutC id L).length+1=L.length
 | [],h=>by cases h
 | d::L,h=>by
  unfold gtL at h
  rw [List.find?_cons] at h
  rw [cutC]
  cases hk:d.id==id with
  | true=>simp
  | false =>
   rw [hk] at h
   have:=cutC_len h
   simp only [Bool.false_eq_true,if_false,List.length_cons];omega
theorem mem_eraseIdx_nodup:∀ {l:List Int} {i:Nat} {a:Int},l.Nodup->l[i]?=some a->∀ x,x∈l.eraseIdx i↔x∈l/\x≠a
 | [],_,_,_,h,_=>by simp at h
 | b::l,0,a,hn,h,x=>by
  rw [List.nodup_cons] at hn
  cases h
  simp only [List.eraseIdx_cons_zero,List.mem_cons]
  constructor
  ·intro hx;exact ⟨.inr hx,fun e=>hn.1 (e▸hx)⟩
  ·rintro ⟨rfl | h1,h2⟩
   ·exact absurd rfl h2
   ·exact h1
 | b::l,i+1,a,hn,h,x=>by
  rw [List.nodup_cons] at hn
  rw [List.getElem?_cons_succ] at h
  have hne:b≠a:=fun e=>hn.1 (e▸List.mem_of_getElem? h)
  simp only [List.eraseIdx_cons_succ,List.mem_cons,mem_eraseIdx_nodup hn.2 h x]
  constructor
  ·rintro (rfl|⟨h1,h2⟩)
   ·exact ⟨.inl rfl,hne⟩
   ·exact ⟨.inr h1,h2⟩
  ·rintro ⟨rfl | h1,h2⟩
   ·exact .inl rfl
   ·exact .inr ⟨h1,h2⟩
theorem TabOk.cut {L:List Ch} {next:Int} {B:Nat->List Int} (h:TabOk L next B) {id:Int} {c:Ch} (hg:gtL L id=some c) {i:Nat} (hi:(B (bk c.data))[i]?=some id) :
  TabOk (cutC id L) next (setF B (bk c.data) ((B (bk c.data)).eraseIdx i)):=by
 obtain ⟨g1,g2⟩:=gt_some hg
 have hbk:=bk_lt c.data
 have hm:=cutC_mem (id:=id) h.ids
 have he:=mem_eraseIdx_nodup (h.ndB _ hbk) hi
 have hl:=cutC_len hg
 refine ⟨h.ids.sublist ((cutC_sub id L).map _),h.datas.sublist ((cutC_sub id L).map _),fun d hd=>h.ch d ((hm d).1 hd).1,h.next,fun d hd=>?_,fun j hj x hx=>?_,fun j hj=>?_,by have:=h.len;omega⟩
 ·obtain ⟨d1,d2⟩:=(hm d).1 hd
  have:=h.inB d d1
  by_cases e:bk d.data=bk c.data
  ·rw [e,setF_same,he];rw [e] at this;exact ⟨this,d2⟩
  ·rw [setF_other _ _ e];exact this
 ·by_cases e:j=bk c.data
  ·subst e
   rw [setF_same,he] at hx
   obtain ⟨d,d1,d2,d3⟩:=h.ofB _ hj x hx.1
   exact ⟨d,(hm d).2 ⟨d1,by rw [d2];exact hx.2⟩,d2,d3⟩
  ·rw [setF_other _ _ e] at hx
   obtain ⟨d,d1,d2,d3⟩:=h.ofB _ hj x hx
   refine ⟨d,(hm d).2 ⟨d1,fun h9=>e ?_⟩,d2,d3⟩
   have:=nodup_inj h.ids d1 g1 (by rw [h9,g2])
   rw [← d3,this]
 ·by_cases e:j=bk c.data
  ·subst e
   rw [setF_same];exact (h.ndB _ hj).sublist (List.eraseIdx_sublist ..)
  ·rw [setF_other _ _ e];exact h.ndB j hj
end Go.Proofs.YtboobbebilegnaaGreat
namespace Go.Proofs.YtboobbebilegnaaGreat
open Go.Am
set_option maxRecDepth 10000
end Go.Proofs.YtboobbebilegnaaGreat
namespace Go.Proofs.YtboobbebilegnaaGreat
open Go.Am
set_option maxRecDepth 10000
theorem perm_nd {α : Type}:∀ {l m:List α},l.Nodup->m.Nodup->(∀ x,x∈l↔x∈m)->l.Perm m
 | [],m,_,_,h=>by
  cases m with
  | nil=>exact List.Perm.refl _
  | cons y m=>exact absurd ((h y).2 (List.mem_cons_self ..)) (by simp)
 | x::l,m,hl,hm,h=>by
  obtain ⟨a,b,rfl⟩:=List.append_of_mem ((h x).1 (List.mem_cons_self ..))
  obtain ⟨h1,h2⟩:=List.nodup_cons.1 hl
  have hp:(x::(a++b)).Nodup:=(List.perm_middle (a:=x) (l₁:=a) (l₂:=b)).nodup_iff.1 hm
  obtain ⟨h3,h4⟩:=List.nodup_cons.1 hp
  refine ((perm_nd h2 h4 fun y=>?_).cons x).trans List.perm_middle.symm
  have hy:=h y
  rw [List.mem_cons,List.perm_middle.mem_iff,List.mem_cons] at hy
  constructor
  ·intro h5
   rcases hy.1 (.inr h5) with rfl | h6
   ·exact absurd h5 h1
   ·exact h6
  ·intro h5
   rcases hy.2 (.inr h5) with rfl | h6
   ·exact absurd h5 h3
   ·exact h6
structure Rel (L R:List Ch):Prop where
 mem:∀ c,c∈R↔c∈L
 up:R.Pairwise (fun a b=>a.id<b.id)
 nd:(L.map Ch.id).Nodup
 dd:(L.map Ch.data).Nodup
theorem nodup_of_map {α β : Type} {f:α->β} {l:List α} (h:(l.map f).Nodup):l.Nodup:=List.Pairwise.of_map f (fun _ _ hne e=>hne (by rw [e])) h
section
variable {L R:List Ch}
theorem Rel.ndR (h:Rel L R):(R.map Ch.id).Nodup:=by
 rw [List.Nodup,List.pairwise_map]
 exact h.up.imp fun hlt e=>by omega
theorem Rel.perm (h:Rel L R):R.Perm L:=perm_nd (nodup_of_map h.ndR) (nodup_of_map h.nd) h.mem
theorem Rel.len (h:Rel L R):R.length=L.length:=h.perm.length_eq
theorem Rel.ddR (h:Rel L R):(R.map Ch.data).Nodup:=(h.perm.map Ch.data).nodup_iff.2 h.dd
theorem Rel.nil:Rel [] []:=⟨fun _=>Iff.rfl,List.Pairwise.nil,List.nodup_nil,List.nodup_nil⟩
theorem Rel.sortIds (h:Rel L R):isort (L.map Ch.id)=R.map Ch.id:=by
 refine sorted_eq ((isort_perm _).trans (h.perm.map Ch.id).symm) (isort_sorted _) ?_
 rw [List.pairwise_map]
 exact h.up.imp fun hlt=>by omega
theorem Rel.at (h:Rel L R) {id:Int} {c:Ch} (hg:gtL L id=some c):∃ i:Nat,R[i]?=some c/\∀ (j:Nat) (_:j<i) (d:Ch),R[j]?=some d->d.id≠id:=by
 obtain ⟨g1,g2⟩:=gt_some hg
 obtain ⟨i,hi⟩:=List.getElem?_of_mem ((h.mem c).2 g1)
 refine ⟨i,hi,fun j hj d hd e=>?_⟩
 obtain ⟨i1,i2⟩:=List.getElem?_eq_some_iff.1 hi
 obtain ⟨j1,j2⟩:=List.getElem?_eq_some_iff.1 hd
 have:=List.pairwise_iff_getElem.1 h.up j i j1 i1 hj
 rw [i2,j2] at this
 omega
theorem Rel.none (h:Rel L R) {id:Int} (hg:gtL L id=.none):∀ (j:Nat) (d:Ch),R[j]?=some d->d.id≠id:=fun j d hd=>gt_none hg d ((h.mem d).1 (List.mem_of_getElem? hd))
theorem Rel.fd (h:Rel L R) {s:List Nat} {c:Ch} (hg:fdL L s=some c):∃ i:Nat,R[i]?=some c/\c.data=s/\∀ (j:Nat) (_:j<i) (d:Ch),R[j]?=some d->d.data≠s:=by
 obtain ⟨g1,g2⟩:=fd_some hg
 obtain ⟨i,hi⟩:=List.getElem?_of_mem ((h.mem c).2 g1)
 refine ⟨i,hi,g2,fun j hj d hd e=>?_⟩
 obtain ⟨i1,i2⟩:=List.getElem?_eq_some_iff.1 hi
 obtain ⟨j1,j2⟩:=List.getElem?_eq_some_iff.1 hd
 have hn:=List.pairwise_iff_getElem.1 h.ddR j i (by simpa using j1) (by simpa using i1) hj
 rw [List.getElem_map,List.getElem_map,i2,j2] at hn
 exact hn (e.trans g2.symm)
def posR (id:Int):List Ch->Nat
 | []=>0
 | c::R=>if c.id<id then posR id R+1 else 0
theorem posR_le (id:Int):∀ R,posR id R<=R.length
 | []=>Nat.le_refl _
 | c::R=>by unfold posR;split;exact Nat.succ_le_succ (posR_le id R);exact Nat.zero_le _
theorem posR_lt {id:Int}:∀ {R:List Ch} {j:Nat},j<posR id R->∃ c,R[j]?=some c/\c.id<id
 | [],j,h=>by unfold posR at h;omega
 | c::R,j,h=>by
  unfold posR at h
  split at h
  ·rename_i hc
   cases j with
   | zero=>exact ⟨c,rfl,hc⟩
   | succ j=>exact posR_lt (R:=R) (by omega)
  ·omega
theorem posR_at {id:Int}:∀ {R:List Ch} {c:Ch},R[posR id R]?=some c->¬c.id<id
 | [],c,h=>by cases h
 | d::R,c,h=>by
  unfold posR at h
  split at h
  ·exact posR_at (R:=R) h
  ·rename_i hc
   have:d=c:=Option.some.inj h
   rw [← this];exact hc
def insR (x:Ch) (R:List Ch):List Ch:=R.take (posR x.id R)++x::R.drop (posR x.id R)
theorem insR_mem {x:Ch} {R:List Ch} (c:Ch):c∈insR x R↔c=x∨c∈R:=by
 unfold insR
 rw [List.mem_append,List.mem_cons]
 have:c∈R↔c∈R.take (posR x.id R)∨c∈R.drop (posR x.id R):=by
  rw [← List.mem_append,List.take_append_drop]
 rw [this]
 constructor
 ·rintro (h | h | h)
  ·exact .inr (.inl h)
  ·exact .inl h
  ·exact .inr (.inr h)
 ·rintro (h | h | h)
  ·exact .inr (.inl h)
  ·exact .inl h
  ·exact .inr (.inr h)
theorem insR_up {x:Ch}:∀ {R:List Ch},R.Pairwise (fun a b=>a.id<b.id)->(∀ c,c∈R->c.id≠x.id)->(insR x R).Pairwise (fun a b=>a.id<b.id)
 | [],_,_=>List.pairwise_singleton _ _
 | d::R,h,hx=>by
  obtain ⟨h1,h2⟩:=List.pairwise_cons.1 h
  have hd:=hx d (List.mem_cons_self ..)
  unfold insR posR
  by_cases hc:d.id<x.id
  ·rw [if_pos hc]
   show (d::insR x R).Pairwise _
   refine List.pairwise_cons.2 ⟨fun c hcm=>?_,insR_up h2 fun c hc=>hx c (List.mem_cons_of_mem _ hc)⟩
   rcases (insR_mem c).1 hcm with rfl | hcm
   ·exact hc
   ·exact h1 c hcm
  ·rw [if_neg hc]
   show (x::d::R).Pairwise _
   refine List.pairwise_cons.2 ⟨fun c hcm=>?_,h⟩
   rcases List.mem_cons.1 hcm with rfl | hcm
   ·omega
   ·have:=h1 c hcm;omega
theorem Rel.add (h:Rel L R) {x:Ch} (hi:gtL L x.id=.none) (hd:fdL L x.data=.none):Rel (L++[x]) (insR x R):=by
 refine ⟨fun c=>?_,insR_up h.up fun c hc=>gt_none hi c ((h.mem c).1 hc),?_,?_⟩
 ·rw [insR_mem,List.mem_append,List.mem_singleton,h.mem];exact Or.comm
 ·rw [List.map_append]
  exact nodup_snoc h.nd fun hm=>by obtain ⟨c,c1,c2⟩:=List.mem_map.1 hm;exact gt_none hi c c1 c2
 ·rw [List.map_append]
  exact nodup_snoc h.dd fun hm=>by obtain ⟨c,c1,c2⟩:=List.mem_map.1 hm;exact fd_none hd c c1 c2
theorem Rel.cut (h:Rel L R) {id:Int} {c:Ch} (hg:gtL L id=some c) {i:Nat} (hi:R[i]?=some c):Rel (cutC id L) (R.eraseIdx i):=by
 have hid:=(gt_some hg).2
 obtain ⟨i1,i2⟩:=List.getElem?_eq_some_iff.1 hi
 have hR:R=R.take i++c::R.drop (i+1):=by rw [← i2,List.getElem_cons_drop,List.take_append_drop]
 have hn':((R.take i).map Ch.id++c.id::(R.drop (i+1)).map Ch.id).Nodup:=by rw [← List.map_cons,← List.map_append,← hR];exact h.ndR
 obtain ⟨_,n2,n3⟩:=List.nodup_append.1 hn'
 obtain ⟨n4,_⟩:=List.nodup_cons.1 n2
 have hsub:=List.eraseIdx_sublist R i
 have hcs:=cutC_sub id L
 refine ⟨fun d=>?_,h.up.sublist hsub,h.nd.sublist (hcs.map Ch.id),h.dd.sublist (hcs.map Ch.data)⟩
 rw [cutC_mem h.nd,← h.mem,List.eraseIdx_eq_take_drop_succ,List.mem_append]
 have hm:d∈R↔d∈R.take i∨d=c∨d∈R.drop (i+1):=by rw [← List.mem_cons,← List.mem_append,← hR]
 rw [hm]
 have a1:d∈R.take i->d.id≠id:=fun h e=>n3 d.id (List.mem_map.2 ⟨d,h,rfl⟩) c.id (List.mem_cons_self ..) (e.trans hid.symm)
 have a2:d∈R.drop (i+1)->d.id≠id:=fun h e=>n4 (by rw [hid,← e];exact List.mem_map.2 ⟨d,h,rfl⟩)
 constructor
 ·rintro (h | h)
  ·exact ⟨.inl h,a1 h⟩
  ·exact ⟨.inr (.inr h),a2 h⟩
 ·rintro ⟨h | h | h,h'⟩
  ·exact .inl h
  ·exact absurd (h▸hid) h'
  ·exact .inr h
end
end Go.Proofs.YtboobbebilegnaaGreat
namespace Go.Proofs.YtboobbebilegnaaGreat
open Go.Am
set_option maxRecDepth 10000
def blkOf:AV->Nat->Prop
 | .slice (some (b,_)) _ _ _,c=>b=c
 | _,_=>False
theorem ld_part {h:Heap} {b o n:Nat} {vs:List AV} (hl:h.ld b o n=some vs) {i k:Nat} (hi:i+k<=n):h.ld b (o+i) k=some ((vs.drop i).take k):=by
 obtain ⟨t,z,m,ro,h1,h2,h3,h4⟩:=ld_some hl
 unfold Heap.ld Heap.cells
 rw [h1]
 show (Bool.rec (motive:=fun _=>Option (List AV)) none (loadC t z k (o+i)) (Nat.ble (o+i+k) m):Option (List AV))=_
 rw [show Nat.ble (o+i+k) m=true from Nat.ble_eq_true_of_le (by omega)]
 have hlen:((vs.drop i).take k).length=k:=by simp;omega
 have:=Go.Am.loadC_of (t:=t) (z:=z) (vs:=(vs.drop i).take k) (i:=o+i) fun j hj=>by
  rw [hlen] at hj
  rw [show o+i+j=o+(i+j) by omega,h4 _ (by omega),List.getElem?_take_of_lt hj,List.getElem?_drop]
 rw [hlen] at this
 exact this
theorem elsR_sm {F:Nat->Prop} {h h':Heap} {v:AV} {n s:Nat} {cs:List AV} (hi:ElsR h v n s cs) (hs:Sm F h h') (hF:∀ b,blkOf v b->¬F b):ElsR h' v n s cs:=by
 obtain ⟨h0,a,c,g,rfl,h1,h2⟩:=hi
 refine ⟨h0,a,c,g,rfl,h1,fun b o e=>?_⟩
 subst e
 obtain ⟨g1,g2⟩:=h2 b o rfl
 refine ⟨Nat.lt_of_lt_of_le g1 hs.1,fun hn=>?_⟩
 rw [← g2 hn]
 unfold Heap.ld Heap.cells
 rw [hs.2 b g1 (hF b rfl)]
theorem elsR_lt {h:Heap} {v:AV} {n s:Nat} {cs:List AV} (hi:ElsR h v n s cs) {b:Nat} (hb:blkOf v b):b<h.next:=by
 obtain ⟨h0,a,c,g,rfl,h1,h2⟩:=hi
 cases a with
 | none=>exact hb.elim
 | some p=>have:p.1=b:=hb;rw [← this];exact (h2 p.1 p.2 rfl).1
theorem els_sm {F:Nat->Prop} {h h':Heap} {v:AV} {n s:Nat} {cs:List AV} (hi:Els h v n s cs) (hs:Sm F h h') (hF:∀ b,blkOf v b->¬F b):Els h' v n s cs:=by
 obtain ⟨h0,a,c,g,rfl,h1,h2⟩:=hi
 refine ⟨h0,a,c,g,rfl,h1,fun b o e=>?_⟩
 subst e
 obtain ⟨g1,g2⟩:=h2 b o rfl
 refine ⟨Nat.lt_of_lt_of_le g1 hs.1,?_⟩
 rw [← g2]
 unfold Heap.ld Heap.cells
 rw [hs.2 b g1 (hF b rfl)]
theorem els_R {h:Heap} {v:AV} {n s:Nat} {cs:List AV} (hv:Els h v n s cs):ElsR h v n s cs:=by
 obtain ⟨h0,a,c,g,rfl,h1,h2⟩:=hv
 exact ⟨h0,a,c,g,rfl,h1,fun b o e=>⟨(h2 b o e).1,fun _=>(h2 b o e).2⟩⟩
theorem app_any {P:Program} {t:TypeId} {e k by' m id n:Nat} {h:Heap} {v zv x:AV} {ys cs:List AV} {bs:List Nat} (hu:P.underlying t=some (.slice e)) (hs:tSize P e=some (k+1)) (hb:tBytes P e=some by') (hz:tZero P e=some zv) (hzl:zv.cells.length=k+1)
  (ho:SlO e (k+1) h v n cs bs) (hsrc:srcOf (k+1) (fun n=>n) x h=some (ys,m)) (hyl:ys.length=m*(k+1)) (hy1:ys.all AV.one=true) (hr:room by' (n+m)=true) (hid:h.next<=id) :
  ∃ v' h' bs',appendS P t v x id h=some (v',h')/\SlO e (k+1) h' v' (n+m) (cs++ys) bs'/\h.next<=h'.next/\(∀ c,c∉bs->c≠id->h'.bs.gt c=h.bs.gt c)/\(∀ b,b∈bs'->b∈bs∨b=id)/\(h'.next=h.next∨h'.next=id+1):=by
 by_cases hm:0<m
 ·exact app_own hu hs hb hz hzl ho hsrc hm hyl hy1 hr hid
 ·obtain rfl:m=0:=by omega
  rw [Nat.zero_mul] at hyl
  obtain rfl:=List.eq_nil_of_length_eq_zero hyl
  obtain ⟨_,a,c,g,rfl,_⟩:=_root_.id ho.els
  refine ⟨.slice a n c g,h,bs,?_,?_,Nat.le_refl _,(fun _ _ _=>rfl),(fun _ hb=>.inl hb),.inl rfl⟩
  ·rw [appendS_eq hu hs hb hz hzl hsrc (by simp) hr,if_pos rfl]
  ·rw [List.append_nil];exact ho
theorem els_pre {h:Heap} {a:Option (Nat×Nat)} {n c s:Nat} {g:Option Nat} {cs:List AV} (hv:Els h (.slice a n c g) n s cs) {k c':Nat} {g':Option Nat} (hk:k<=n) :
  srcOf s (fun n=>n) (.slice (a.map fun p=>(p.1,p.2+0*s)) (k - 0) c' g') h=some (cs.take (k*s),k):=by
 obtain ⟨h0,a',c1,g1,e,h1,h2⟩:=hv
 cases e
 cases a with
 | none =>
  obtain rfl:k=0:=by have:=h1 rfl;omega
  rw [Nat.zero_mul,List.take_zero];rfl
 | some p =>
  show srcOf s (fun n=>n) (.slice (some (p.1,p.2+0*s)) (k - 0) c' g') h=_
  rw [srcOf_at,Nat.sub_zero]
  by_cases h0':k=0
  ·subst h0';rw [if_pos rfl,Nat.zero_mul,List.take_zero]
  ·have hle:=Nat.mul_le_mul_right s hk
   have:=ld_part (h2 p.1 p.2 rfl).2 (i:=0) (k:=k*s) (by omega)
   rw [if_neg h0']
   show (match h.ld p.1 (p.2+0*s) (k*s) with | none=>none | some vs=>some (vs,k))=_
   rw [Nat.zero_mul,this,List.drop_zero]
theorem els_post {h:Heap} {a:Option (Nat×Nat)} {n c s:Nat} {g:Option Nat} {cs:List AV} (hv:Els h (.slice a n c g) n s cs) {k c':Nat} {g':Option Nat} (hk:k<=n) :
  srcOf s (fun n=>n) (.slice (a.map fun p=>(p.1,p.2+k*s)) (n - k) c' g') h=some (cs.drop (k*s),n - k):=by
 obtain ⟨h0,a',c1,g1,e,h1,h2⟩:=hv
 cases e
 have hle:=Nat.mul_le_mul_right s hk
 have hsub:(n - k)*s=n*s - k*s:=Nat.sub_mul ..
 cases a with
 | none =>
  have:=h1 rfl
  obtain rfl:n=0:=this
  obtain rfl:k=0:=by omega
  rw [Nat.zero_mul] at h0
  rw [List.eq_nil_of_length_eq_zero h0];rw [List.drop_nil];rfl
 | some p =>
  show srcOf s (fun n=>n) (.slice (some (p.1,p.2+k*s)) (n - k) c' g') h=_
  rw [srcOf_at]
  by_cases h0':n - k=0
  ·rw [if_pos h0',List.drop_of_length_le (by rw [h0];rw [show n=k by omega];exact Nat.le_refl _),h0']
  ·have:=ld_part (h2 p.1 p.2 rfl).2 (i:=k*s) (k:=(n - k)*s) (by omega)
   rw [if_neg h0']
   show (match h.ld p.1 (p.2+k*s) ((n - k)*s) with | none=>none | some vs=>some (vs,n - k))=_
   rw [this,List.take_of_length_le (by simp;omega)]
def Ch.rc (x:Ch):List AV:=[.int .u32 x.id,.str x.data,.int .i64 x.block,.int .i64 x.refs]
abbrev csR (L:List Ch):List AV:=L.flatMap Ch.rc
theorem csR_len (L:List Ch):(csR L).length=L.length*4:=by
 induction L with
 | nil=>rfl
 | cons x L ih=>show (Ch.rc x++csR L).length=_;rw [List.length_append,ih,List.length_cons];simp [Ch.rc];omega
theorem csR_get:∀ (L:List Ch) (i:Nat) (h:i<L.length) (f:Nat),f<4->(csR L)[i*4+f]?=(L[i].rc)[f]?
 | x::L,0,h,f,hf=>by show (Ch.rc x++csR L)[0*4+f]?=_;rw [List.getElem?_append_left (by simp [Ch.rc];omega),Nat.zero_mul,Nat.zero_add];rfl
 | x::L,i+1,h,f,hf=>by
  show (Ch.rc x++csR L)[(i+1)*4+f]?=_
  rw [List.getElem?_append_right (by simp [Ch.rc];omega),show (i+1)*4+f - (Ch.rc x).length=i*4+f by simp [Ch.rc];omega]
  exact csR_get L i (by simpa using h) f hf
theorem csR_one (L:List Ch):(csR L).all AV.one=true:=by
 rw [List.all_eq_true];intro x hx
 obtain ⟨y,_,hy⟩:=List.mem_flatMap.1 hx
 simp only [Ch.rc,List.mem_cons,List.not_mem_nil,or_false] at hy
 rcases hy with rfl | rfl | rfl | rfl <;> rfl
def Rz:Ch:=⟨0,[],0,0⟩
def Ri (L:List Ch) (i:Nat):Ch:=L.getD i Rz
theorem Ri_at {L:List Ch} {i:Nat} (h:i<L.length):Ri L i=L[i]:=by simp [Ri,List.getD_eq_getElem?_getD,List.getElem?_eq_getElem h]
def Chs (h:Heap) (v:AV) (L:List Ch):Prop:=ElsR h v L.length 4 (csR L)
section
variable {h h':Heap} {v:AV} {L:List Ch}
theorem Chs.sl (hi:Chs h v L):∃ a c g,v=.slice a L.length c g:=by
 obtain ⟨_,a,c,g,e,_⟩:=hi
 exact ⟨a,c,g,e⟩
theorem Chs.sm {F:Nat->Prop} (hi:Chs h v L) (hs:Sm F h h') (hF:∀ b,blkOf v b->¬F b):Chs h' v L:=elsR_sm hi hs hF
theorem Chs.lt (hi:Chs h v L) {b:Nat} (hb:blkOf v b):b<h.next:=elsR_lt hi hb
theorem Chs.at {a:Option (Nat×Nat)} {c:Nat} {g:Option Nat} (hi:Chs h (.slice a L.length c g) L) {i:Nat} (hl:i<L.length) :
  ∃ b o,a=some (b,o)/\h.ld1 b (o+i*4)=some (.int .u32 (Ri L i).id)/\h.ld1 b (o+i*4+1)=some (.str (Ri L i).data)/\h.ld1 b (o+i*4+2)=some (.int .i64 (Ri L i).block)/\h.ld1 b (o+i*4+3)=some (.int .i64 (Ri L i).refs)/\h.ld b (o+i*4) 4=some (Ri L i).rc:=by
 obtain ⟨h0,a',c',g',e,h1,h2⟩:=hi
 cases e
 cases a with
 | none=>have:=h1 rfl;omega
 | some p =>
  have hld:=(h2 p.1 p.2 rfl).2 (by omega)
  have hc:=(ld_ld1 hld).2
  have hp:=ld_part hld (i:=i*4) (k:=4) (by omega)
  refine ⟨p.1,p.2,rfl,?_,?_,?_,?_,?_⟩
  ·rw [hc _ (by omega)];rw [Ri_at hl];exact (csR_get L i hl 0 (by omega))
  ·rw [Nat.add_assoc];rw [hc _ (by omega)];rw [Ri_at hl];exact (csR_get L i hl 1 (by omega))
  ·rw [Nat.add_assoc];rw [hc _ (by omega)];rw [Ri_at hl];exact (csR_get L i hl 2 (by omega))
  ·rw [Nat.add_assoc];rw [hc _ (by omega)];rw [Ri_at hl];exact (csR_get L i hl 3 (by omega))
  ·rw [hp];congr 1
   apply List.ext_getElem?
   intro f
   rw [Ri_at hl]
   by_cases hf:f<4
   ·rw [List.getElem?_take_of_lt hf,List.getElem?_drop];exact csR_get L i hl f hf
   ·rw [List.getElem?_eq_none (by simp;omega),List.getElem?_eq_none (by simp [Ch.rc];omega)]
end
structure RefAt (h:Heap) (rb:Nat) (R:List Ch) (next:Int) (bs:List Nat):Prop where
 ex:∃ v,Rw h rb [v,u next] [] false/\SlO 143 4 h v R.length (csR R) bs
 lt:rb<h.next
 nb:rb∉bs
theorem RefAt.sm {h h':Heap} {rb:Nat} {R:List Ch} {next:Int} {bs:List Nat} {G:Nat->Prop} (hr:RefAt h rb R next bs) (hs:Sm G h h') (h1:¬G rb) (h2:∀ b,b∈bs->¬G b):RefAt h' rb R next bs:=by
 obtain ⟨v,r,o⟩:=hr.ex
 exact ⟨⟨v,r.sm hs hr.lt h1,o.sm hs h2⟩,Nat.lt_of_lt_of_le hr.lt hs.1,hr.nb⟩
theorem RefAt.no {h h':Heap} {rb:Nat} {R:List Ch} {next:Int} {bs:List Nat} (hr:RefAt h rb R next bs) (hs:Sm NoB h h'):RefAt h' rb R next bs:=hr.sm hs (fun h=>h) (fun _ _ h=>h)
def RefF (rb:Nat) (bs:List Nat):Nat->Prop:=fun b=>b=rb∨b∈bs
theorem RefAt.flt {h:Heap} {rb:Nat} {R:List Ch} {next:Int} {bs:List Nat} (hr:RefAt h rb R next bs):∀ b,RefF rb bs b->b<h.next:=by
 rintro b (rfl | hb)
 ·exact hr.lt
 ·obtain ⟨v,_,o⟩:=hr.ex
  exact o.lt b hb
def FirstR (p:Ch->Bool) (R:List Ch) (r:AV):Prop :=
 (∃ (i:Nat) (c:Ch),R[i]?=some c/\p c=true/\(∀ (j:Nat) (_:j<i) (d:Ch),R[j]?=some d->p d=false)/\r=I i)∨((∀ c,c∈R->p c=false)/\r=.int .i64 (-1))
theorem rat_ok {n:Nat} (hn:1<=n) {h:Heap} {rb:Nat} {R:List Ch} {next:Int} {bs:List Nat} (hr:RefAt h rb R next bs) (hl:R.length<=1000) (x:Int) :
  WC (C n (.fn 82) [.ptr (some (rb,0)),u x] h) fun r h'=>h'=h/\FirstR (fun c=>decide (c.id=x)) R r:=by
 obtain ⟨v,r1,o1⟩:=hr.ex
 obtain ⟨a,c,g,rfl⟩:=Chs.sl (els_R o1.els)
 have hi:Chs h (.slice a R.length c g) R:=els_R o1.els
 have l0:=r1.ld1 0
 rw [List.getElem?_cons_zero] at l0
 obtain ⟨m,rfl⟩:∃ m,n=m+1:=⟨n - 1,by omega⟩
 refine call_fn _ f82A rfl (by simp [fn82]) fun QQ hQ=>?_
 simp only [fn82] at hQ
 simp only [fn82,fill_cons,fill_nil,Nat.zero_add,Nat.reduceAdd]
 simp only [F82,SS,Nat.reduceBEq,Nat.reduceEqDiff,Nat.reduceAdd,reduceIte,Nat.reduceMul]
 refine run_loop (c:=c82_7) (I:=fun m' tm' h'=>∃ i,i<=R.length/\m'=R.length - i/\h'=h/\(∀ (j:Nat) (_:j<i) (d:Ch),R[j]?=some d->d.id≠x)/\tm'.gt 0=some (.ptr (some (rb,0)))/\tm'.gt 1=some (u x)/\tm'.gt 5=some (I i)/\tm'.gt 26=none) (n:=R.length)
  ⟨0,by omega,rfl,rfl,(fun j hj=>by omega),by simp only [SS,Nat.reduceBEq],by simp only [SS,Nat.reduceBEq],by simp only [SS,Nat.reduceBEq,Nat.reduceEqDiff,Nat.reduceAdd,reduceIte,Nat.reduceMul];rfl,by simp only [SS,Nat.reduceBEq]⟩ (by omega) ?_
 rintro _ tm h1 ⟨i,hil,rfl,rfl,hno,t0,t1,t5,t26⟩ Q1 hN1 hE
 by_cases hlt:i<R.length
 ·obtain ⟨b,o,rfl,i0,i1,i2,i3,_⟩:=hi.at hlt
  have x2:=x_ia_80 (k:=.i64) (b:=b) (o:=o) (c:=c) (g:=g) hlt
  have hgi:R[i]?=some (Ri R i):=by rw [Ri_at hlt,List.getElem?_eq_getElem hlt]
  by_cases he:(Ri R i).id=x
  ·simp only [F82,SS,Nat.reduceBEq,Nat.reduceEqDiff,Nat.reduceAdd,reduceIte,Nat.reduceMul,t0,t1,t5,t26,x_fa_82_0,l0,x_len_80,Int.ofNat_lt,hlt,x2,x_fa_143_0,i0,he]
   refine hE _ _ _ (by simp) ?_
   simp only [SS,Nat.reduceBEq,Nat.reduceEqDiff,Nat.reduceAdd,reduceIte,Nat.reduceMul]
   refine hQ _ _ _ _ (.inr rfl) (by simp only [SS,Nat.reduceBEq,t26]) (by simp only [SS,Nat.reduceBEq,Nat.reduceEqDiff,Nat.reduceAdd,reduceIte,Nat.reduceMul];rfl) ⟨rfl,.inl ⟨i,_,hgi,by simp [he],fun j hj d hd=>by simpa using hno j hj d hd,rfl⟩⟩
  ·simp only [F82,SS,Nat.reduceBEq,Nat.reduceEqDiff,Nat.reduceAdd,reduceIte,Nat.reduceMul,t0,t1,t5,t26,x_fa_82_0,l0,x_len_80,Int.ofNat_lt,hlt,x2,x_fa_143_0,i0,he,wAdd1 (show i<=1000000 by omega)]
   refine hN1 _ _ (R.length - (i+1)) (by omega) ⟨i+1,hlt,rfl,rfl,fun j hj d hd=>?_,by simp only [SS,Nat.reduceBEq,t0],by simp only [SS,Nat.reduceBEq,t1],by simp only [SS,Nat.reduceBEq],by simp only [SS,Nat.reduceBEq,t26]⟩
   by_cases e:j=i
   ·subst e;rw [hgi] at hd;rw [← Option.some.inj hd];exact he
   ·exact hno j (by omega) d hd
 ·obtain rfl:i=R.length:=by omega
  simp only [F82,SS,Nat.reduceBEq,Nat.reduceEqDiff,Nat.reduceAdd,reduceIte,Nat.reduceMul,t0,t1,t5,t26,x_fa_82_0,l0,x_len_80,Int.ofNat_lt,hlt]
  refine hE _ _ _ (by simp) ?_
  simp only [F82,SS,Nat.reduceBEq,Nat.reduceEqDiff,Nat.reduceAdd,reduceIte,Nat.reduceMul,t26]
  refine hQ _ _ _ _ (.inr rfl) (by simp only [SS,Nat.reduceBEq,t26]) (by simp only [SS,Nat.reduceBEq,Nat.reduceEqDiff,Nat.reduceAdd,reduceIte,Nat.reduceMul];rfl) ⟨rfl,.inr ⟨fun d hd=>?_,rfl⟩⟩
  obtain ⟨j,hj⟩:=List.getElem?_of_mem hd
  have hjl:=(List.getElem?_eq_some_iff.1 hj).1
  simpa using hno j hjl d hj
theorem rfd_ok {n:Nat} (hn:1<=n) {h:Heap} {rb:Nat} {R:List Ch} {next:Int} {bs:List Nat} (hr:RefAt h rb R next bs) (hl:R.length<=1000) (x:List Nat) :
  WC (C n (.fn 132) [.ptr (some (rb,0)),.str x] h) fun r h'=>h'=h/\FirstR (fun c=>decide (c.data=x)) R r:=by
 obtain ⟨v,r1,o1⟩:=hr.ex
 obtain ⟨a,c,g,rfl⟩:=Chs.sl (els_R o1.els)
 have hi:Chs h (.slice a R.length c g) R:=els_R o1.els
 have l0:=r1.ld1 0
 rw [List.getElem?_cons_zero] at l0
 obtain ⟨m,rfl⟩:∃ m,n=m+1:=⟨n - 1,by omega⟩
 refine call_fn _ f132A rfl (by simp [fn132]) fun QQ hQ=>?_
 simp only [fn132] at hQ
 simp only [fn132,fill_cons,fill_nil,Nat.zero_add,Nat.reduceAdd]
 simp only [F132,SS,Nat.reduceBEq,Nat.reduceEqDiff,Nat.reduceAdd,reduceIte,Nat.reduceMul]
 refine run_loop (c:=c132_7) (I:=fun m' tm' h'=>∃ i,i<=R.length/\m'=R.length - i/\h'=h/\(∀ (j:Nat) (_:j<i) (d:Ch),R[j]?=some d->d.data≠x)/\tm'.gt 0=some (.ptr (some (rb,0)))/\tm'.gt 1=some (.str x)/\tm'.gt 5=some (I i)/\tm'.gt 26=none) (n:=R.length)
  ⟨0,by omega,rfl,rfl,(fun j hj=>by omega),by simp only [SS,Nat.reduceBEq],by simp only [SS,Nat.reduceBEq],by simp only [SS,Nat.reduceBEq,Nat.reduceEqDiff,Nat.reduceAdd,reduceIte,Nat.reduceMul];rfl,by simp only [SS,Nat.reduceBEq]⟩ (by omega) ?_
 rintro _ tm h1 ⟨i,hil,rfl,rfl,hno,t0,t1,t5,t26⟩ Q1 hN1 hE
 by_cases hlt:i<R.length
 ·obtain ⟨b,o,rfl,i0,i1,i2,i3,_⟩:=hi.at hlt
  have x2:=x_ia_80 (k:=.i64) (b:=b) (o:=o) (c:=c) (g:=g) hlt
  have hgi:R[i]?=some (Ri R i):=by rw [Ri_at hlt,List.getElem?_eq_getElem hlt]
  by_cases he:(Ri R i).data=x
  ·simp only [F132,SS,Nat.reduceBEq,Nat.reduceEqDiff,Nat.reduceAdd,reduceIte,Nat.reduceMul,t0,t1,t5,t26,x_fa_82_0,l0,x_len_80,Int.ofNat_lt,hlt,x2,x_fa_143_1,i1,he]
   refine hE _ _ _ (by simp) ?_
   simp only [SS,Nat.reduceBEq,Nat.reduceEqDiff,Nat.reduceAdd,reduceIte,Nat.reduceMul]
   refine hQ _ _ _ _ (.inr rfl) (by simp only [SS,Nat.reduceBEq,t26]) (by simp only [SS,Nat.reduceBEq,Nat.reduceEqDiff,Nat.reduceAdd,reduceIte,Nat.reduceMul];rfl) ⟨rfl,.inl ⟨i,_,hgi,by simp [he],fun j hj d hd=>by simpa using hno j hj d hd,rfl⟩⟩
  ·simp only [F132,SS,Nat.reduceBEq,Nat.reduceEqDiff,Nat.reduceAdd,reduceIte,Nat.reduceMul,t0,t1,t5,t26,x_fa_82_0,l0,x_len_80,Int.ofNat_lt,hlt,x2,x_fa_143_1,i1,he,wAdd1 (show i<=1000000 by omega)]
   refine hN1 _ _ (R.length - (i+1)) (by omega) ⟨i+1,hlt,rfl,rfl,fun j hj d hd=>?_,by simp only [SS,Nat.reduceBEq,t0],by simp only [SS,Nat.reduceBEq,t1],by simp only [SS,Nat.reduceBEq],by simp only [SS,Nat.reduceBEq,t26]⟩
   by_cases e:j=i
   ·subst e;rw [hgi] at hd;rw [← Option.some.inj hd];exact he
   ·exact hno j (by omega) d hd
 ·obtain rfl:i=R.length:=by omega
  simp only [F132,SS,Nat.reduceBEq,Nat.reduceEqDiff,Nat.reduceAdd,reduceIte,Nat.reduceMul,t0,t1,t5,t26,x_fa_82_0,l0,x_len_80,Int.ofNat_lt,hlt]
  refine hE _ _ _ (by simp) ?_
  simp only [F132,SS,Nat.reduceBEq,Nat.reduceEqDiff,Nat.reduceAdd,reduceIte,Nat.reduceMul,t26]
  refine hQ _ _ _ _ (.inr rfl) (by simp only [SS,Nat.reduceBEq,t26]) (by simp only [SS,Nat.reduceBEq,Nat.reduceEqDiff,Nat.reduceAdd,reduceIte,Nat.reduceMul];rfl) ⟨rfl,.inr ⟨fun d hd=>?_,rfl⟩⟩
  obtain ⟨j,hj⟩:=List.getElem?_of_mem hd
  have hjl:=(List.getElem?_eq_some_iff.1 hj).1
  simpa using hno j hjl d hj
theorem rnew_ok {n:Nat} (hn:1<=n) {h:Heap}:WC (C n (.fn 99) [] h) fun r h'=>∃ rb,r=.ptr (some (rb,0))/\RefAt h' rb [] 1 []/\Sm NoB h h'/\h.next<=rb:=by
 obtain ⟨m,rfl⟩:∃ m,n=m+1:=⟨n - 1,by omega⟩
 refine call_fn _ f99A rfl (by simp [fn99]) fun QQ hQ=>?_
 simp only [fn99] at hQ
 simp only [fn99,fill_cons,fill_nil,Nat.zero_add,Nat.reduceAdd]
 obtain ⟨h1,e1,r1,n1,g1⟩:=Rw.alloc h (id:=h.next) (n:=2) (vs:=[.slice none 0 0 none,u 1]) (z:=[]) (ro:=false) (Nat.le_refl _) rfl
 simp only [F99,SS,Nat.reduceBEq,Nat.reduceEqDiff,Nat.reduceAdd,reduceIte,Nat.reduceMul,x_bd_82_1,e1]
 refine hQ _ _ _ _ (.inr rfl) (by simp only [SS,Nat.reduceBEq]) (by simp only [SS,Nat.reduceBEq,Nat.reduceEqDiff,Nat.reduceAdd,reduceIte,Nat.reduceMul];rfl) ?_
 exact ⟨h.next,rfl,⟨⟨_,r1,SlO.nil⟩,by omega,by simp⟩,⟨by omega,fun c hc _=>g1 c (by omega)⟩,Nat.le_refl _⟩
theorem rskip_ok {n:Nat} (hn:1<=n) {h:Heap} {rb:Nat} {R:List Ch} {next:Int} {bs:List Nat} (hr:RefAt h rb R next bs) (x:Int) :
  WC (C n (.fn 78) [.ptr (some (rb,0)),u x] h) fun r h'=>RefAt h' rb R (max next x) bs/\Sm (·= rb) h h':=by
 obtain ⟨v,r1,o1⟩:=hr.ex
 have l1:=r1.ld1 1
 rw [show ([v,u next]:List AV)[1]?=some (u next) from rfl] at l1
 obtain ⟨m,rfl⟩:∃ m,n=m+1:=⟨n - 1,by omega⟩
 refine call_fn _ f78A rfl (by simp [fn78]) fun QQ hQ=>?_
 simp only [fn78] at hQ
 simp only [fn78,fill_cons,fill_nil,Nat.zero_add,Nat.reduceAdd]
 by_cases c1:next<x
 ·obtain ⟨w1,w2,w3,w4⟩:=r1.st1 (o:=1) (v:=u x) (by simp) rfl
  rw [show ([v,u next]:List AV).set 1 (u x)=[v,u x] from rfl] at w2
  simp only [F78,SS,Nat.reduceBEq,Nat.reduceEqDiff,Nat.reduceAdd,reduceIte,Nat.reduceMul,x_fa_82_1,l1,c1,w1]
  refine hQ _ _ _ _ (.inl rfl) (by simp only [SS,Nat.reduceBEq]) (by simp only [SS,Nat.reduceBEq,Nat.reduceEqDiff,Nat.reduceAdd,reduceIte,Nat.reduceMul];rfl) ?_
  rw [show max next x=x by omega]
  exact ⟨⟨⟨v,w2,o1.same (fun b hb=>w4 b (fun e=>hr.nb (e▸hb))) (by omega)⟩,by rw [w3];exact hr.lt,hr.nb⟩,⟨by omega,fun c _ hc=>w4 c hc⟩⟩
 ·simp only [F78,SS,Nat.reduceBEq,Nat.reduceEqDiff,Nat.reduceAdd,reduceIte,Nat.reduceMul,x_fa_82_1,l1,c1]
  refine hQ _ _ _ _ (.inl rfl) (by simp only [SS,Nat.reduceBEq]) (by simp only [SS,Nat.reduceBEq,Nat.reduceEqDiff,Nat.reduceAdd,reduceIte,Nat.reduceMul];rfl) ?_
  rw [show max next x=next by omega]
  exact ⟨hr,Sm.refl _ _⟩
end Go.Proofs.YtboobbebilegnaaGreat
namespace Go.Proofs.YtboobbebilegnaaGreat
open Go.Am
set_option maxRecDepth 10000
section
variable {L R:List Ch}
theorem firstI {x:Int} {r:AV} (hr:Rel L R) (h:FirstR (fun c=>decide (c.id=x)) R r):match gtL L x with
  | some c=>∃ i:Nat,R[i]?=some c/\r=I i
  | .none=>r=.int .i64 (-1):=by
 rcases h with ⟨i,c,h1,h2,h3,h4⟩|⟨h1,h2⟩
 ·have h2:c.id=x:=by simpa using h2
  have hm:=(hr.mem c).1 (List.mem_of_getElem? h1)
  have hg:=gt_mem hr.nd hm
  rw [h2] at hg
  rw [hg]
  exact ⟨i,h1,h4⟩
 ·cases hg:gtL L x with
  | none=>exact h2
  | some c =>
   obtain ⟨g1,g2⟩:=gt_some hg
   have:=h1 c ((hr.mem c).2 g1)
   simp [g2] at this
theorem firstD {x:List Nat} {r:AV} (hr:Rel L R) (h:FirstR (fun c=>decide (c.data=x)) R r):match fdL L x with
  | some c=>∃ i:Nat,R[i]?=some c/\r=I i
  | .none=>r=.int .i64 (-1):=by
 rcases h with ⟨i,c,h1,h2,h3,h4⟩|⟨h1,h2⟩
 ·have h2:c.data=x:=by simpa using h2
  have hm:=(hr.mem c).1 (List.mem_of_getElem? h1)
  have hg:=fd_mem hr.dd hm
  rw [h2] at hg
  rw [hg]
  exact ⟨i,h1,h4⟩
 ·cases hg:fdL L x with
  | none=>exact h2
  | some c =>
   obtain ⟨g1,g2⟩:=fd_some hg
   have:=h1 c ((hr.mem c).2 g1)
   simp [g2] at this
end
theorem csR_take (M:List Ch) (p:Nat) (h:p<=M.length):(csR M).take (p*4)=csR (M.take p):=by
 have:csR M=csR (M.take p)++csR (M.drop p):=by rw [← List.flatMap_append,List.take_append_drop]
 rw [this,List.take_left' (by rw [csR_len,List.length_take];congr 1;omega)]
theorem csR_drop (M:List Ch) (p:Nat) (h:p<=M.length):(csR M).drop (p*4)=csR (M.drop p):=by
 have:csR M=csR (M.take p)++csR (M.drop p):=by rw [← List.flatMap_append,List.take_append_drop]
 rw [this,List.drop_left' (by rw [csR_len,List.length_take];congr 1;omega)]
theorem csR_app (A B:List Ch):csR (A++B)=csR A++csR B:=List.flatMap_append
theorem rg4 {h:Heap} {a:Option (Nat×Nat)} {n c:Nat} {g:Option Nat} {cs:List AV} {bs:List Nat} {e:Nat} (ho:SlO e 4 h (.slice a n c g) n cs bs):gOk g 4=true/\n<=c:=by
 rcases ho with ⟨e1,h0,_⟩|⟨b,c',_,_,e1,_,_,hle,_⟩
 ·cases e1;exact ⟨rfl,Nat.le_refl _⟩
 ·cases e1;exact ⟨rfl,hle⟩
set_option maxHeartbeats 400000 in
theorem rput_ok {n:Nat} (hn:1<=n) {h:Heap} {rb:Nat} {R:List Ch} {next:Int} {bs:List Nat} (hr:RefAt h rb R next bs) (hl:R.length<=1000) (x:Ch) (hx:0<=x.id/\x.id<4294967295) :
  WC (C n (.fn 133) [.ptr (some (rb,0)),.agg x.rc] h) fun r h'=>∃ bs',RefAt h' rb (insR x R) (if next<=x.id then x.id+1 else next) bs'/\Sm (·= rb) h h'/\∀ b,b∈bs'->h.next<=b:=by
 obtain ⟨v,r1,o1⟩:=hr.ex
 obtain ⟨a,c,g,rfl⟩:=Chs.sl (els_R o1.els)
 obtain ⟨hg4,hc⟩:=rg4 o1
 obtain ⟨m,rfl⟩:∃ m,n=m+1:=⟨n - 1,by omega⟩
 refine call_fn _ f133A rfl (by simp [fn133]) fun QQ hQ=>?_
 simp only [fn133] at hQ
 simp only [fn133,fill_cons,fill_nil,Nat.zero_add,Nat.reduceAdd]
 obtain ⟨h1,e1,rx,n1,g1⟩:=Rw.alloc h (id:=h.next) (n:=4) (vs:=x.rc) (z:=[]) (ro:=false) (Nat.le_refl _) rfl
 unfold Ch.rc at e1
 have s1:Sm NoB h h1:=⟨by omega,fun c hc _=>g1 c (by omega)⟩
 have hrl:=hr.lt
 have hrn:h.next≠rb:=by omega
 have hobs:=o1.lt
 simp only [F133,SS,Nat.reduceBEq,Nat.reduceEqDiff,Nat.reduceAdd,reduceIte,Nat.reduceMul,Ch.rc,e1]
 refine run_loop (c:=c133_7) (I:=fun m' tm' h'=>∃ i,i<=posR x.id R/\m'=posR x.id R - i/\Rw h' rb [.slice a R.length c g,u next] [] false/\SlO 143 4 h' (.slice a R.length c g) R.length (csR R) bs/\Rw h' h.next x.rc [] false/\h.next<h'.next/\Sm NoB h1 h'/\tm'.gt 0=some (.ptr (some (rb,0)))/\tm'.gt 3=some (.ptr (some (h.next,0)))/\tm'.gt 4=some (I i)/\tm'.gt 64=none) (n:=posR x.id R)
  ⟨0,by omega,rfl,r1.sm s1 hrl (fun h=>h),o1.sm s1 (fun _ _ h=>h),rx,by omega,Sm.refl _ _,by simp only [SS,Nat.reduceBEq],by simp only [SS,Nat.reduceBEq],by simp only [SS,Nat.reduceBEq,Nat.reduceEqDiff,Nat.reduceAdd,reduceIte,Nat.reduceMul];rfl,by simp only [SS,Nat.reduceBEq]⟩ (by have:=posR_le x.id R;omega) ?_
 rintro _ tm h2 ⟨i,hi,rfl,r2,o2,rx2,n2,s2,t0,t3,t4,t64⟩ Q1 hN1 hE
 have hpl:=posR_le x.id R
 obtain ⟨hb,eb,sb,_,_⟩:=Sm.bump h2 20
 have rb2:=r2.sm sb (by have:=s2.1;omega) (fun h=>h)
 have ob2:=o2.sm sb (fun _ _ h=>h)
 have rxb:=rx2.sm sb n2 (fun h=>h)
 have hi2:Chs hb (.slice a R.length c g) R:=els_R ob2.els
 have l0:=rb2.ld1 0
 rw [List.getElem?_cons_zero] at l0
 have lx:=rxb.ld1 0
 rw [show x.rc[0]?=some (.int .u32 x.id) from rfl] at lx
 by_cases c1:i<posR x.id R
 ·obtain ⟨d,d1,d2⟩:=posR_lt c1
  have hlt:i<R.length:=by omega
  obtain ⟨b,o,rfl,i0,_⟩:=hi2.at hlt
  have hd:Ri R i=d:=by rw [Ri_at hlt];rw [List.getElem?_eq_getElem hlt] at d1;exact Option.some.inj d1
  rw [hd] at i0
  have x2:=x_ia_80 (k:=.i64) (b:=b) (o:=o) (c:=c) (g:=g) hlt
  simp only [F133,SS,Nat.reduceBEq,Nat.reduceEqDiff,Nat.reduceAdd,reduceIte,Nat.reduceMul,t0,t3,t4,t64,eb,x_fa_82_0,l0,x_len_80,Int.ofNat_lt,hlt,x2,x_fa_143_0,i0,lx,d2,wAdd1 (show i<=1000000 by omega)]
  refine hN1 _ _ (posR x.id R - (i+1)) (by omega) ⟨i+1,by omega,rfl,rb2,ob2,rxb,Nat.lt_of_lt_of_le n2 sb.1,s2.trans sb (fun _ _ h=>h) (fun _ _ h=>h),by simp only [SS,Nat.reduceBEq,t0],by simp only [SS,Nat.reduceBEq,t3],by simp only [SS,Nat.reduceBEq],by simp only [SS,Nat.reduceBEq,t64]⟩
 ·obtain rfl:i=posR x.id R:=by omega
  obtain ⟨pp,hpp⟩:∃ pp,posR x.id R=pp:=⟨_,rfl⟩
  
  have fin:∀ tm,tm.gt 0=some (.ptr (some (rb,0)))->tm.gt 3=some (.ptr (some (h.next,0)))->tm.gt 4=some (I pp)->tm.gt 64=none->Q1 (.exit 0) tm hb:=by
   intro tm t0 t3 t4 t64
   refine hE _ _ _ (by simp) ?_
   rw [hpp] at hpl
   have xs1:=x_sl_80_010 (a:=a) (n:=R.length) (c:=c) (hi:=pp) (g:=g) (k:=.i64) hg4 (by omega)
   have src1:=els_pre ob2.els (k:=pp) (c':=c - 0) (g':=g) hpl
   rw [csR_take _ _ hpl] at src1
   have ltk:(R.take pp).length=pp:=by rw [List.length_take];omega
   obtain ⟨v3,h3,b3,e3,o3,n3,g3,k3,_⟩:=app_any (t:=80) u_80 s_143 b_143 z_143 rfl (SlO.nil (h:=hb)) src1 (by rw [csR_len,ltk]) (csR_one _) (room_le (by omega) (by omega)) (Nat.le_refl hb.next)
   rw [Nat.zero_add,List.nil_append] at o3
   have s3:Sm NoB hb h3:=⟨n3,fun c hc _=>g3 c (by simp) (by omega)⟩
   have hb3:∀ b,b∈b3->hb.next<=b:=fun b hb'=>by
    rcases k3 b hb' with h | h
    ·cases h
    ·omega
   have hnb:=sb.1
   have hn2:=s2.1
   have rx3:=rxb.sm s3 (by omega) (fun h=>h)
   have lx3:=rx3.ld (i:=0) (n:=4) (Nat.le_refl _)
   rw [show (x.rc.drop 0).take 4=x.rc from rfl] at lx3
   obtain ⟨h4,e4,r4,n4,g4⟩:=Rw.alloc h3 (id:=h3.next) (n:=4) (vs:=x.rc) (z:=[]) (ro:=false) (Nat.le_refl _) rfl
   have s4:Sm NoB h3 h4:=⟨by omega,fun c hc _=>g4 c (by omega)⟩
   have hs4:srcOf 4 (fun n=>n) (.slice (some (h3.next,0)) 1 1 none) h4=some (x.rc,1):=srcOf_row r4 (Nat.le_refl _)
   have ebs:buildSliceN P 80 1 [0] [.agg x.rc]=some (.cells (fillC x.rc .leaf 0) [] 4 false,sliceTo 1):=x_bs_80_1 _ _ _ _
   obtain ⟨v5,h5,b5,e5,o5,n5,g5,k5,_⟩:=app_any (t:=80) u_80 s_143 b_143 z_143 rfl (o3.sm s4 (fun _ _ h=>h)) hs4 rfl rfl (room_le (by omega) (by omega)) (Nat.le_refl h4.next)
   have s5:Sm (fun q=>q∈b3) h4 h5:=⟨n5,fun c hc hb=>g5 c hb (by omega)⟩
   have hb5:∀ b,b∈b5->hb.next<=b:=fun b hb'=>by
    have:=s3.1
    rcases k5 b hb' with h | h
    ·exact hb3 b h
    ·omega
   have s05:Sm NoB hb h5:=⟨by have:=s3.1;omega,fun c hc _=>by
    have:=s3.1
    rw [s5.2 c (by omega) (fun h=>by have:=hb3 c h;omega),s4.2 c (by omega) (fun h=>h),s3.2 c hc (fun h=>h)]⟩
   have ob5:=ob2.sm s05 (fun _ _ h=>h)
   have rb5:=rb2.sm s05 (by omega) (fun h=>h)
   have rx5:=rxb.sm s05 (by omega) (fun h=>h)
   have l5:=rb5.ld1 0
   rw [List.getElem?_cons_zero] at l5
   have l3:=(rb2.sm s3 (by omega) (fun h=>h)).ld1 0
   have xs2:=x_sl_80_100 (a:=a) (n:=R.length) (c:=c) (lo:=pp) (g:=g) (k:=.i64) hg4 hpl
   have src2:=els_post ob5.els (k:=pp) (c':=c - pp) (g':=g) hpl
   rw [csR_drop _ _ hpl] at src2
   have ldr:(R.drop pp).length=R.length - pp:=List.length_drop
   obtain ⟨v6,h6,b6,e6,o6,n6,g6,k6,_⟩:=app_any (t:=80) u_80 s_143 b_143 z_143 rfl o5 src2 (by rw [csR_len,ldr]) (csR_one _) (room_le (by omega) (by omega)) (Nat.le_refl h5.next)
   have s6:Sm (fun q=>q∈b5) h5 h6:=⟨n6,fun c hc hb=>g6 c hb (by omega)⟩
   have hn5:=s05.1
   have hb6:∀ b,b∈b6->hb.next<=b:=fun b hb'=>by
    rcases k6 b hb' with h | h
    ·exact hb5 b h
    ·omega
   have hrb5:rb∉b5:=fun h=>by have:=hb5 rb h;omega
   have hx5:h.next∉b5:=fun h=>by have:=hb5 _ h;omega
   have rb6:=rb5.sm s6 (by omega) hrb5
   have rx6:=rx5.sm s6 (by omega) hx5
   have hv6:v6.one=true:=by obtain ⟨_,_,_,_,e,_⟩:=o6.els;rw [e];rfl
   obtain ⟨w1,w2,w3,w4⟩:=rb6.st1 (o:=0) (v:=v6) (by simp) hv6
   rw [show ([.slice a R.length c g,u next]:List AV).set 0 v6=[v6,u next] from rfl] at w2
   generalize h6.wr rb 0 [v6]=h7 at w1 w2 w3 w4
   have hins:SlO 143 4 h6 v6 (insR x R).length (csR (insR x R)) b6:=by
    unfold insR
    rw [hpp,List.length_append,ltk,List.length_cons,ldr,csR_app]
    have e:csR (x::R.drop pp)=x.rc++csR (R.drop pp):=rfl
    rw [e,← List.append_assoc,show pp+(R.length - pp+1)=pp+1+(R.length - pp) by omega]
    exact o6
   have o7:SlO 143 4 h7 v6 (insR x R).length (csR (insR x R)) b6:=hins.same (fun b hb'=>w4 b (fun e=>by have:=hb6 b hb';omega)) (by omega)
   have rx7:=rx6.same (w4 h.next hrn)
   obtain ⟨h8,eb8,sb8,_,_⟩:=Sm.bump h7 7
   have rx8:=rx7.sm sb8 (by omega) (fun h=>h)
   have lx8:=rx8.ld1 0
   rw [show x.rc[0]?=some (.int .u32 x.id) from rfl] at lx8
   have rb8:=w2.sm sb8 (by omega) (fun h=>h)
   have l8:=rb8.ld1 1
   rw [show ([v6,u next]:List AV)[1]?=some (u next) from rfl] at l8
   have o8:=o7.sm sb8 (fun _ _ h=>h)
   have frame:Sm (·= rb) h h8:=⟨by have:=sb8.1;omega,fun c hc hne=>by
    rw [sb8.2 c (by omega) (fun h=>h),w4 c hne,s6.2 c (by omega) (fun h=>by have:=hb5 c h;omega),s05.2 c (by omega) (fun h=>h),sb.2 c (by omega) (fun h=>h),s2.2 c (by omega) (fun h=>h),s1.2 c hc (fun h=>h)]⟩
   have hnr:rb∉b6:=fun h=>by have:=hb6 rb h;omega
   have hfr:∀ b,b∈b6->h.next<=b:=fun b hb'=>by have:=hb6 b hb';omega
   unfold Ch.rc at lx3 ebs e4 hs4
   simp only [Nat.zero_mul,Nat.add_zero,Nat.sub_zero] at xs1 xs2 e3 e6
   by_cases c9:next<=x.id
   ·have ew:IntKind.u32.wrap (x.id+1)=x.id+1:=wrap_u32 (by omega) (by omega)
    obtain ⟨y1,y2,y3,y4⟩:=rb8.st1 (o:=1) (v:=u (x.id+1)) (by simp) rfl
    rw [show ([v6,u next]:List AV).set 1 (u (x.id+1))=[v6,u (x.id+1)] from rfl] at y2
    simp only [F133,SS,Nat.reduceBEq,Nat.reduceEqDiff,Nat.reduceAdd,reduceIte,Nat.reduceMul,t0,t3,t4,t64,x_fa_82_0,l0,xs1,e3,lx3,ebs,e4,e5,l5,xs2,e6,w1,eb8,x_fa_143_0,lx8,x_fa_82_1,l8,c9,ew,y1]
    refine hQ _ _ _ _ (.inl rfl) (by simp only [SS,Nat.reduceBEq,t64]) (by simp only [SS,Nat.reduceBEq,Nat.reduceEqDiff,Nat.reduceAdd,reduceIte,Nat.reduceMul,t64];rfl) ?_
    rw [if_pos c9]
    exact ⟨b6,⟨⟨v6,y2,o8.same (fun b hb'=>y4 b (fun e=>hnr (e▸hb'))) (by omega)⟩,by rw [y3];have:=frame.1;omega,hnr⟩,frame.trans ⟨by omega,fun c _ hc=>y4 c hc⟩ (fun _ _ h=>h) (fun _ _ h=>h),hfr⟩
   ·simp only [F133,SS,Nat.reduceBEq,Nat.reduceEqDiff,Nat.reduceAdd,reduceIte,Nat.reduceMul,t0,t3,t4,t64,x_fa_82_0,l0,xs1,e3,lx3,ebs,e4,e5,l5,xs2,e6,w1,eb8,x_fa_143_0,lx8,x_fa_82_1,l8,c9]
    refine hQ _ _ _ _ (.inl rfl) (by simp only [SS,Nat.reduceBEq,t64]) (by simp only [SS,Nat.reduceBEq,Nat.reduceEqDiff,Nat.reduceAdd,reduceIte,Nat.reduceMul,t64];rfl) ?_
    rw [if_neg c9]
    exact ⟨b6,⟨⟨v6,rb8,o8⟩,by have:=frame.1;omega,hnr⟩,frame,hfr⟩
  by_cases c2:posR x.id R<R.length
  ·obtain ⟨b,o,rfl,i0,_⟩:=hi2.at c2
   have hd:¬(Ri R (posR x.id R)).id<x.id:=posR_at (by rw [Ri_at c2,List.getElem?_eq_getElem c2])
   have x2:=x_ia_80 (k:=.i64) (b:=b) (o:=o) (c:=c) (g:=g) c2
   rw [hpp] at c2 x2 hd i0 t4
   simp only [F133,SS,Nat.reduceBEq,Nat.reduceEqDiff,Nat.reduceAdd,reduceIte,Nat.reduceMul,t0,t3,t4,t64,eb,x_fa_82_0,l0,x_len_80,Int.ofNat_lt,c2,x2,x_fa_143_0,i0,lx,hd]
   exact fin _ (by simp only [SS,Nat.reduceBEq,t0]) (by simp only [SS,Nat.reduceBEq,t3]) (by simp only [SS,Nat.reduceBEq,t4]) (by simp only [SS,Nat.reduceBEq,t64])
  ·rw [hpp] at c2 t4
   simp only [F133,SS,Nat.reduceBEq,Nat.reduceEqDiff,Nat.reduceAdd,reduceIte,Nat.reduceMul,t0,t3,t4,t64,eb,x_fa_82_0,l0,x_len_80,Int.ofNat_lt,c2,w_undef]
   exact fin _ (by simp only [SS,Nat.reduceBEq,t0]) (by simp only [SS,Nat.reduceBEq,t3]) (by simp only [SS,Nat.reduceBEq,t4]) (by simp only [SS,Nat.reduceBEq,t64])
end Go.Proofs.YtboobbebilegnaaGreat
namespace Go.Proofs.YtboobbebilegnaaGreat
open Go.Am
set_option maxRecDepth 10000
section
variable {h:Heap} {rb:Nat} {R L:List Ch} {next:Int} {bs:List Nat}
end
end Go.Proofs.YtboobbebilegnaaGreat

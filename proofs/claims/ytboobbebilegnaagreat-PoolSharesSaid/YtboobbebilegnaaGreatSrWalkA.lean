/- A part of the proof of the law PoolShares. -/
import Derived.Test.YtboobbebilegnaaGreatSrRulesA
import Derived.Sort.AssemblyPlain
open Nat (reduceEqDiff reduceAdd reduceMul)
set_option linter.unusedVariables false
set_option linter.unusedSimpArgs false
set_option linter.constructorNameAsVariable false
set_option linter.defProp false
set_option maxRecDepth 20000

namespace Go.Proofs.YtboobbebilegnaaGreat
open Go.Am
theorem v_0 {a:AV} {l:List AV}:(a::l)[0]?=some a:=List.getElem?_cons_zero
theorem v_s {a:AV} {l:List AV} {i:Nat}:(a::l)[i+1]?=l[i]?:=List.getElem?_cons_succ
theorem zhn {l:List AV}:l++[]=l:=List.append_nil l
theorem zhs {l:List AV}:[]++l=l:=List.nil_append l
theorem zhm {a:AV} {l:List AV} {p:AV->Bool}:(a::l).all p=(p a&&l.all p):=List.all_cons
theorem zhl {p:AV->Bool}:([]:List AV).all p=true:=List.all_nil
theorem zhp {a:AV} {l:List AV}:(a::l).length=l.length+1:=List.length_cons
theorem zho:([]:List AV).length=0:=List.length_nil
theorem zht {a:Nat} {l:List Nat}:(a::l).length=l.length+1:=List.length_cons
theorem zhr:([]:List Nat).length=0:=List.length_nil
theorem zhv {a:Nat×Nat} {f:Nat×Nat->Nat×Nat}:(some a).map f=some (f a):=Option.map_some _ _
theorem zhu {a:Nat} {f:Nat->AV}:(some a).map f=some (f a):=Option.map_some _ _
theorem zhy {a:Nat} {l:List Nat}:(a::l)[0]?=some a:=List.getElem?_cons_zero
theorem zhz {a:Nat} {l:List Nat} {i:Nat}:(a::l)[i+1]?=l[i]?:=List.getElem?_cons_succ
theorem zhw {b:Nat}:dy b=.ptr (some (b,0)):=by unfold dy;rfl
theorem zhx {n b:Nat}:sliceTo n b=.slice (some (b,0)) n n none:=by unfold sliceTo;rfl
theorem zhq {b:Nat}:zj b=.map (some b):=by unfold zj;rfl
def SS:=And.intro @zeV<|And.intro @zeT<|And.intro @zeU<|And.intro @zbJ<|And.intro @zaK<|And.intro @zff<|And.intro @zg9<|And.intro @zcH<|And.intro @zfl<|And.intro @zfm<|And.intro @zfn<|And.intro @zfo<|And.intro @WB<|And.intro @zfp<|And.intro @zcF<|And.intro @zcG<|And.intro @zfq<|And.intro @zfi<|And.intro @zcI<|And.intro @zfk<|And.intro @zfj<|And.intro @zbH<|And.intro @Vo<|And.intro @zb8<|And.intro @VN<|And.intro @zgU<|And.intro @zde<|And.intro @Lo<|And.intro @zaU<|And.intro @T2<|And.intro @zdc<|And.intro @WA<|And.intro @zK<|And.intro @xh<|And.intro @Wy<|And.intro @zJ<|And.intro @xf<|And.intro @Wz<|And.intro @fe<|And.intro @dN<|And.intro @gt_leaf<|And.intro @zbR<|And.intro @zbS<|And.intro @Sv<|And.intro @zbF<|And.intro @zbG<|And.intro @zeQ<|And.intro @zeP<|And.intro @zdm<|And.intro @zdl<|And.intro @zdk<|And.intro @zdj<|And.intro @zdg<|And.intro @zdq<|And.intro @zdn<|And.intro @zdi<|And.intro @zdo<|And.intro @za6<|And.intro @za8<|And.intro @zfC<|And.intro @zcX<|And.intro @WU<|And.intro @Bp<|And.intro @Te<|And.intro @Tf<|And.intro @Kt<|And.intro @ST<|And.intro @Kd<|And.intro @Cg<|And.intro @iD<|And.intro @lC<|And.intro @zfy<|And.intro @zbU<|And.intro @qz<|And.intro @VA<|And.intro @ze0<|And.intro @Bool.not_true<|And.intro @Bool.not_false<|And.intro @decide_true<|And.intro @decide_false<|And.intro @zb1<|And.intro @zbY<|And.intro @Nat.add_zero<|And.intro @Nat.zero_add<|And.intro @cj<|And.intro @zb3<|And.intro @ze2<|And.intro @ze5<|And.intro @ze4<|And.intro @VE<|And.intro @ze3<|And.intro @Bool.and_self<|And.intro @jB<|And.intro @lA<|And.intro @Nat.mul_one<|And.intro @Nat.zero_mul<|And.intro @Nat.sub_zero<|And.intro @v_0<|And.intro @v_s<|And.intro @zhn<|And.intro @zhs<|And.intro @zhm<|And.intro @zhl<|And.intro @zhp<|And.intro @zho<|And.intro @zht<|And.intro @zhr<|And.intro @zhv<|And.intro @zhu<|And.intro @zhy<|And.intro @zhz<|And.intro @zhw<|And.intro @zhx<|@zhq
end Go.Proofs.YtboobbebilegnaaGreat
namespace Go.Proofs.YtboobbebilegnaaGreat
open Go.Am
set_option maxRecDepth 10000
noncomputable abbrev SC (n:Nat):an:=callN P (keepF P) noPrims 100000 n
abbrev I (n:Nat):AV:=.int .i64 (n:Int)
theorem ui {x y:Nat} (h:x+y<=1000000):IntKind.i64.wrap ((x:Int)+(y:Int))=((x+y:Nat):Int):=by rw [wrap_i64 (by omega) (by omega)];simp
theorem bG {x:Nat} (h:x<=1000000):IntKind.i64.wrap ((x:Int)+1)=((x+1:Nat):Int):=by rw [wrap_i64 (by omega) (by omega)];simp
theorem ph {x y:Nat} (h:y<=x) (h':x<=1000000):IntKind.i64.wrap ((x:Int) - (y:Int))=((x - y:Nat):Int):=by rw [wrap_i64 (by omega) (by omega)];omega
theorem eZ {x:Nat} (h:1<=x) (h':x<=1000000):IntKind.i64.wrap ((x:Int) - 1)=((x - 1:Nat):Int):=by rw [wrap_i64 (by omega) (by omega)];omega
theorem bC {k:IntKind} {n:Int}:AV.same (.int k n) (.int k n)=true:=by cases k <;> simp [AV.same]
theorem aY {b:Bool}:AV.same (.bool b) (.bool b)=true:=by simp [AV.same]
theorem bD {p:Option (Nat×Nat)}:AV.same (.ptr p) (.ptr p)=true:=by simp [AV.same]
theorem aH {p:Option (Nat×Nat)} {n c:Nat} {g:Option Nat}:AV.same (.slice p n c g) (.slice p n c g)=true:=by simp [AV.same]
theorem aI {b:Bool}:wanted b aJ=false:=rfl
abbrev El:=Int
abbrev en (x:El):AV:=.int .u32 x
abbrev bE:El->El->Bool:=Go.Sort.ltInt
theorem Vz {x y:El}:bE x y=decide (x<y):=rfl
structure Px where
 b:Nat
 N:Nat
 cap:Nat
 g:Option Nat
 rest:List AV
 z:List AV
abbrev Px.sv (X:Px):AV:=.slice (some (X.b,0)) X.N X.cap X.g
structure Px.At (X:Px) (h:ac) (D:Array El):Prop where
 sz:D.size=X.N
 rw:Rw h X.b (D.toList.map en++X.rest) X.z false
 lt:X.b<h.next
abbrev dB (X:Px) (h h':ac):Prop:=Sm (·= X.b) h h'
theorem dB.tr {X:Px} {h h' h'':ac} (a:dB X h h') (b:dB X h' h''):dB X h h'':=a.trans b (fun _ _ h=>h) (fun _ _ h=>h)
theorem dB.no {X:Px} {h h':ac} (a:Sm bm h h'):dB X h h':=a.no
section
variable {X:Px} {h h':ac} {D:Array El}
theorem zby {i:Nat} (h:i<D.size):(D.toList.map en)[i]?=some (en D[i]!):=by
 rw [List.getElem?_map,Array.getElem?_toList,getElem!_pos D i h,Array.getElem?_eq_getElem h];rfl
theorem Px.At.ld (hA:X.At h D) {i:Nat} (hi:i<X.N):h.ld1 X.b i=some (en D[i]!):=by
 have:=hA.sz
 rw [hA.rw.ld1,List.getElem?_append_left (by simp;omega),zby (by omega)]
theorem Px.At.sm (hA:X.At h D) (hs:Sm bm h h'):X.At h' D:=⟨hA.sz,hA.rw.sm hs hA.lt (fun h=>h),Nat.lt_of_lt_of_le hA.lt hs.1⟩
theorem Px.At.st1 (hA:X.At h D) {i:Nat} (x:El) (hi:i<X.N):∃ h1,h.st1 X.b i (en x)=some h1/\X.At h1 (D.setIfInBounds i x)/\dB X h h1:=by
 have hsz:=hA.sz
 obtain ⟨a1,a2,a3,a4⟩:=hA.rw.st1 (o:=i) (v:=en x) (by simp;omega) rfl
 refine ⟨_,a1,⟨by simpa using hsz,?_,by rw [a3];exact hA.lt⟩,⟨by rw [a3];exact Nat.le_refl _,fun c _ hc=>a4 c hc⟩⟩
 rw [List.set_append_left _ _ (by simp;omega),← List.map_set,← Array.toList_setIfInBounds] at a2
 exact a2
theorem Px.At.swap (hA:X.At h D) {i j:Nat} (hi:i<X.N) (hj:j<X.N) :
  ∃ h1 h2,h.st1 X.b i (en D[j]!)=some h1/\h1.st1 X.b j (en D[i]!)=some h2/\X.At h2 (Go.Sort.swp D i j)/\dB X h h2:=by
 obtain ⟨h1,a1,a2,a3⟩:=hA.st1 D[j]! hi
 obtain ⟨h2,b1,b2,b3⟩:=a2.st1 D[i]! hj
 exact ⟨h1,h2,a1,b1,b2,a3.tr b3⟩
end
theorem TA {n:Nat} (hn:1<=n) (x:El) (h:ac):WC (SC n (.fn 187) [en x] h) fun r h'=>h'=h/\r=.bool false:=by
 obtain ⟨m,rfl⟩:∃ m,n=m+1:=⟨n - 1,by omega⟩
 refine ak _ zeI rfl (by simp [IR]) fun QQ hQ=>?_
 simp only [IR] at hQ
 simp only [IR,ah,ai,Nat.zero_add,reduceAdd]
 simp only [zf6,SS,Nat.reduceBEq,reduceEqDiff,reduceAdd,reduceIte,reduceMul]
 exact hQ _ _ _ _ (.inr rfl) (by simp only [SS,Nat.reduceBEq]) (by simp only [SS,Nat.reduceBEq,reduceEqDiff,reduceAdd,reduceIte,reduceMul];rfl) ⟨rfl,by simp [iD]⟩
theorem WK {n:Nat} (hn:1<=n) (x:El) (h:ac):SC n (.fn 187) [en x] h=some (.bool false,h):=by
 obtain ⟨r,h',e,rfl,rfl⟩:=TA hn x h
 exact e
theorem SD {n:Nat} (hn:2<=n) (x y:El) (h:ac):WC (SC n (.fn 173) [en x,en y] h) fun r h'=>h'=h/\r=.bool (bE x y):=by
 have nan:∀ n,1<=n->∀ x:El,SC n (.fn 187) [en x] h=some (.bool false,h):=fun n hn x=>WK hn x h
 obtain ⟨m,rfl⟩:∃ m,n=m+1:=⟨n - 1,by omega⟩
 refine ak _ zex rfl (by simp [IF]) fun QQ hQ=>?_
 simp only [IF] at hQ
 simp only [IF,ah,ai,Nat.zero_add,reduceAdd]
 simp only [zf1,SS,Nat.reduceBEq,reduceEqDiff,reduceAdd,reduceIte,reduceMul,nan m (by omega),aI]
 exact hQ _ _ _ _ (.inr rfl) (by simp only [SS,Nat.reduceBEq]) (by simp only [SS,Nat.reduceBEq,reduceEqDiff,reduceAdd,reduceIte,reduceMul];rfl) ⟨rfl,by simp [iD,Vz]⟩
theorem dX {n:Nat} (hn:2<=n) (x y:El) (h:ac):SC n (.fn 173) [en x,en y] h=some (.bool (bE x y),h):=by
 obtain ⟨r,h',e,rfl,rfl⟩:=SD hn x y h
 exact e
end Go.Proofs.YtboobbebilegnaaGreat
namespace Go.Proofs.YtboobbebilegnaaGreat
open Go.Am Go.Sort
set_option maxRecDepth 10000
theorem zd {a b i:Nat} {d:Array El} (h:i<b):insOuter bE a b i d=insOuter bE a b (i+1) (insInner bE a i d):=by rw [insOuter,if_pos h]
theorem y9 {a b i:Nat} {d:Array El} (h:¬i<b):insOuter bE a b i d=d:=by rw [insOuter,if_neg h]
theorem IV {n:Nat} (hn:3<=n) {X:Px} (hN:X.N<=40000) {h:ac} {D:Array El} (hA:X.At h D) {a e:Nat} (hae:a<=e) (he:e<=X.N) :
  WC (SC n (.fn 167) [X.sv,I a,I e] h) fun r h'=>X.At h' (insertionSort bE D a e)/\dB X h h':=by
 obtain ⟨m,rfl⟩:∃ m,n=m+1:=⟨n - 1,by omega⟩
 refine ak _ zer rfl (by simp [Iz]) fun QQ hQ=>?_
 simp only [Iz] at hQ
 simp only [Iz,ah,ai,Nat.zero_add,reduceAdd]
 simp only [xF,SS,Nat.reduceBEq,reduceEqDiff,reduceAdd,reduceIte,reduceMul,bG (show a<=1000000 by omega)]
 refine aF (c:=AU) (I:=fun m' tm' h'=>∃ i cur,(i<=e∨i=a+1)/\m'=e - i/\X.At h' cur/\dB X h h'/\insOuter bE a e i cur=insertionSort bE D a e/\tm'.gt 0=some X.sv/\tm'.gt 1=some (I a)/\tm'.gt 2=some (I e)/\tm'.gt 6=some (I i)/\tm'.gt 49=none) (n:=e - (a+1))
  ⟨a+1,D,.inr rfl,rfl,hA,Sm.refl _ _,rfl,by simp [fe,dN,gt_leaf]⟩ (by omega) ?_
 rintro _ tm h' ⟨i,cur,hie,rfl,hA',hS,hE0,t0,t1,t2,t6,t49⟩ Q1 hN1 hE
 by_cases hlt:i<e
 ·simp only [xF,t0,t1,t2,t6,t49,SS,Nat.reduceBEq,reduceEqDiff,reduceAdd,reduceIte,reduceMul,Int.ofNat_lt,hlt]
  rw [zd hlt] at hE0
  refine aF (c:=vJ) (I:=fun m' tm' h2=>∃ j cur2,j<=i/\m'=j/\X.At h2 cur2/\dB X h h2/\insInner bE a j cur2=insInner bE a i cur/\tm'.gt 0=some X.sv/\tm'.gt 1=some (I a)/\tm'.gt 2=some (I e)/\tm'.gt 6=some (I i)/\tm'.gt 7=some (I j)/\tm'.gt 49=none) (n:=i)
   ⟨i,cur,by omega,rfl,hA',hS,rfl,by simp only [SS,Nat.reduceBEq,reduceEqDiff,reduceAdd,reduceIte,reduceMul,t0,t1,t2,t6,t49,and_self]⟩ (by omega) ?_
  rintro j tm h2 ⟨_,cur2,hji,rfl,hA2,hS2,hI,t0,t1,t2,t6,t7,t49⟩ Q2 hN2 hE2
  have e1:=bG (show i<=1000000 by omega)
  by_cases hja:a<j
  ·obtain ⟨j,rfl⟩:∃ j',j=j'+1:=⟨j - 1,by omega⟩
   obtain ⟨hb,eb,sb,_,_⟩:=Sm.bump h2 15
   have hAb:=hA2.sm sb
   have l1:=hAb.ld (i:=j+1) (by omega)
   have l2:=hAb.ld (i:=j) (by omega)
   have ej:IntKind.i64.wrap (((j+1:Nat):Int) - 1)=(j:Int):=by rw [wrap_i64 (by omega) (by omega)];omega
   have e3:=dX (n:=m) (by omega) cur2[j+1]! cur2[j]! hb
   have hS3:dB X h hb:=hS2.tr (dB.no sb)
   have x1:=aB (k:=.i64) (b:=X.b) (o:=0) (n:=X.N) (c:=X.cap) (g:=X.g) (show j+1<X.N by omega)
   have x2:=aB (k:=.i64) (b:=X.b) (o:=0) (n:=X.N) (c:=X.cap) (g:=X.g) (show j<X.N by omega)
   cases hr0:bE cur2[j+1]! cur2[j]! with
   | true =>
    rw [hr0] at e3
    have hI':insInner bE a (j+1) cur2=insInner bE a j (swp cur2 (j+1) j):=by rw [insInner,if_pos];rw [hr0,decide_eq_true (show j+1 > a by omega)];rfl
    obtain ⟨hc,ec,sc,_,_⟩:=Sm.bump hb 18
    have hAc:=hAb.sm sc
    obtain ⟨h4,h5,e4,e5,a5,s5⟩:=hAc.swap (i:=j+1) (j:=j) (by omega) (by omega)
    have l3:=hAc.ld (i:=j+1) (by omega)
    have l4:=hAc.ld (i:=j) (by omega)
    simp only [xF,t0,t1,t2,t6,t7,t49,SS,Nat.reduceBEq,reduceEqDiff,reduceAdd,reduceIte,reduceMul,Int.ofNat_lt,hja,eb,ej,x1,x2,l1,l2,e3,ec,l3,l4,e4,e5,aI,bC,bD,aH,aY,ax,au]
    refine hN2 _ _ j (by omega) ⟨j,_,by omega,rfl,a5,(hS3.tr (dB.no sc)).tr s5,by rw [← hI,hI'],?_⟩
    simp only [SS,Nat.reduceBEq,reduceEqDiff,reduceAdd,reduceIte,reduceMul,t0,t1,t2,t6,t7,t49,and_self]
   | false =>
    rw [hr0] at e3
    have hI':insInner bE a (j+1) cur2=cur2:=by rw [insInner,if_neg];rw [hr0,Bool.and_false];exact (fun h=>by cases h)
    simp only [xF,t0,t1,t2,t6,t7,t49,SS,Nat.reduceBEq,reduceEqDiff,reduceAdd,reduceIte,reduceMul,Int.ofNat_lt,hja,eb,ej,x1,x2,l1,l2,e3,aI,bC,bD,aH,aY,ax,au]
    refine hE2 _ _ _ (by simp) ?_
    simp only [xF,t0,t1,t2,t6,t7,t49,SS,Nat.reduceBEq,reduceEqDiff,reduceAdd,reduceIte,reduceMul,e1]
    refine hN1 _ _ (e - (i+1)) (by omega) ⟨i+1,cur2,by omega,rfl,hAb,hS3,by rw [← hE0,← hI,hI'],?_⟩
    simp only [SS,Nat.reduceBEq,reduceEqDiff,reduceAdd,reduceIte,reduceMul,t0,t1,t2,t6,t7,t49,and_self]
  ·have hI':insInner bE a j cur2=cur2:=by
    cases j with
    | zero=>rfl
    | succ j=>rw [insInner,if_neg];rw [decide_eq_false (show ¬j+1 > a by omega)];exact (fun h=>by cases h)
   obtain ⟨hb,eb,sb,_,_⟩:=Sm.bump h2 15
   simp only [xF,t0,t1,t2,t6,t7,t49,SS,Nat.reduceBEq,reduceEqDiff,reduceAdd,reduceIte,reduceMul,Int.ofNat_lt,hja,eb,aI,bC,bD,aH,aY,ax,au]
   refine hE2 _ _ _ (by simp) ?_
   simp only [xF,t0,t1,t2,t6,t7,t49,SS,Nat.reduceBEq,reduceEqDiff,reduceAdd,reduceIte,reduceMul,e1]
   refine hN1 _ _ (e - (i+1)) (by omega) ⟨i+1,cur2,by omega,rfl,hA2.sm sb,hS2.tr (dB.no sb),by rw [← hE0,← hI,hI'],?_⟩
   simp only [SS,Nat.reduceBEq,reduceEqDiff,reduceAdd,reduceIte,reduceMul,t0,t1,t2,t6,t7,t49,and_self]
 ·rw [y9 hlt] at hE0
  simp only [xF,t0,t1,t2,t6,t49,SS,Nat.reduceBEq,reduceEqDiff,reduceAdd,reduceIte,reduceMul,Int.ofNat_lt,hlt]
  refine hE _ _ _ (by simp) ?_
  simp only [SS,Nat.reduceBEq,reduceEqDiff,reduceAdd,reduceIte,reduceMul]
  exact hQ _ _ _ _ (.inl rfl) (by simp only [SS,Nat.reduceBEq,t49]) (by simp only [SS,Nat.reduceBEq,reduceEqDiff,reduceAdd,reduceIte,reduceMul];rfl) ⟨by rw [← hE0];exact hA',hS⟩
theorem zcE {n:Nat} (hn:1<=n) {X:Px} (hN:X.N<=40000) {h:ac} {D:Array El} (hA:X.At h D) {a e:Nat} (hae:a<e) (he:e<=X.N) :
  WC (SC n (.fn 171) [X.sv,I a,I e] h) fun r h'=>∃ D',X.At h' D'/\PermIn a e D D'/\dB X h h':=by
 obtain ⟨m,rfl⟩:∃ m,n=m+1:=⟨n - 1,by omega⟩
 refine ak _ zev rfl (by simp [ID]) fun QQ hQ=>?_
 simp only [ID] at hQ
 simp only [ID,ah,ai,Nat.zero_add,reduceAdd]
 simp only [zaX,SS,Nat.reduceBEq,reduceEqDiff,reduceAdd,reduceIte,reduceMul,eZ (show 1<=e by omega) (show e<=1000000 by omega)]
 have hsz:=hA.sz
 refine aF (c:=AY) (I:=fun m' tm' h'=>∃ i j cur,a<=i/\j<e/\i<=e/\i<=j+1/\m'=j+1 - i/\X.At h' cur/\dB X h h'/\PermIn a e D cur/\tm'.gt 0=some X.sv/\tm'.gt 6=some (I i)/\tm'.gt 7=some (I j)/\tm'.gt 32=none) (n:=e - 1+1 - a)
  ⟨a,e - 1,D,by omega,by omega,by omega,by omega,rfl,hA,Sm.refl _ _,permIn_refl _ _ _,by simp [fe,dN,gt_leaf]⟩ (by omega) ?_
 rintro _ tm h' ⟨i,j,cur,h1,h2,h3,h3',rfl,hA',hS,hP,t0,t6,t7,t32⟩ Q1 hN1 hE
 by_cases hlt:i<j
 ·obtain ⟨hc,ec,sc,_,_⟩:=Sm.bump h' 16
  have hAc:=hA'.sm sc
  obtain ⟨h4,h5,e4,e5,a5,s5⟩:=hAc.swap (i:=i) (j:=j) (by omega) (by omega)
  have l3:=hAc.ld (i:=i) (by omega)
  have l4:=hAc.ld (i:=j) (by omega)
  have x1:=aB (k:=.i64) (b:=X.b) (o:=0) (n:=X.N) (c:=X.cap) (g:=X.g) (show i<X.N by omega)
  have x2:=aB (k:=.i64) (b:=X.b) (o:=0) (n:=X.N) (c:=X.cap) (g:=X.g) (show j<X.N by omega)
  simp only [zaX,t0,t6,t7,t32,SS,Nat.reduceBEq,reduceEqDiff,reduceAdd,reduceIte,reduceMul,Int.ofNat_lt,hlt,ec,x1,x2,l3,l4,e4,e5,bG (show i<=1000000 by omega),eZ (show 1<=j by omega) (show j<=1000000 by omega),bC,bD,aH,aY,ax,au]
  refine hN1 _ _ (j - 1+1 - (i+1)) (by omega) ⟨i+1,j - 1,_,by omega,by omega,by omega,by omega,rfl,a5,(hS.tr (dB.no sc)).tr s5,permIn_trans _ _ _ _ _ hP (swp_permIn _ _ _ _ _ h1 (by omega) (by omega) h2 (by rw [hA'.sz];omega)),?_⟩
  simp only [SS,Nat.reduceBEq,reduceEqDiff,reduceAdd,reduceIte,reduceMul,t0,t6,t7,t32,and_self]
 ·simp only [zaX,t0,t6,t7,t32,SS,Nat.reduceBEq,reduceEqDiff,reduceAdd,reduceIte,reduceMul,Int.ofNat_lt,hlt]
  refine hE _ _ _ (by simp) ?_
  simp only [SS,Nat.reduceBEq,reduceEqDiff,reduceAdd,reduceIte,reduceMul]
  exact hQ _ _ _ _ (.inl rfl) (by simp only [SS,Nat.reduceBEq,t32]) (by simp only [SS,Nat.reduceBEq,reduceEqDiff,reduceAdd,reduceIte,reduceMul];rfl) ⟨cur,hA',hP,hS⟩
end Go.Proofs.YtboobbebilegnaaGreat
namespace Go.Proofs.YtboobbebilegnaaGreat
open Go.Am Go.Sort
set_option maxRecDepth 10000
theorem zfE {x:Nat} (h:x<=400000):IntKind.i64.wrap (2*(x:Int))=((2*x:Nat):Int):=by rw [wrap_i64 (by omega) (by omega)];simp
theorem Tt {hi F r:Nat} {d:Array El} (h:hi<=2*r+1):siftDown bE hi F r d=d:=by rw [siftDown,dif_pos h]
theorem Tu {hi F r:Nat} {d:Array El} (h:2*r+2<hi) (hl:bE d[F+(2*r+1)]! d[F+(2*r+1)+1]! = true) :
  siftDown bE hi F r d=if (!bE d[F+r]! d[F+(2*r+2)]!)=true then d else siftDown bE hi F (2*r+2) (swp d (F+r) (F+(2*r+2))):=by
 rw [siftDown,dif_neg (by omega),if_pos (by rw [hl,decide_eq_true (show 2*r+1+1<hi by omega)];rfl)]
 split
 ·rfl
 ·first | rfl | rw [dif_pos h]
theorem zS {hi F r:Nat} {d:Array El} (h:2*r+1<hi) (hl:¬(2*r+2<hi)∨bE d[F+(2*r+1)]! d[F+(2*r+1)+1]! = false) :
  siftDown bE hi F r d=if (!bE d[F+r]! d[F+(2*r+1)]!)=true then d else siftDown bE hi F (2*r+1) (swp d (F+r) (F+(2*r+1))):=by
 rw [siftDown,dif_neg (by omega),if_neg]
 intro hc
 rw [Bool.and_eq_true,decide_eq_true_eq] at hc
 rcases hl with h1 | h1
 ·omega
 ·rw [h1] at hc;exact absurd hc.2 (by simp)
theorem I5 {n:Nat} (hn:3<=n) {X:Px} (hN:X.N<=40000) {h:ac} {D:Array El} (hA:X.At h D) {lo hi F:Nat} (hlo:lo<=40000) (hF:F+hi<=X.N) :
  WC (SC n (.fn 182) [X.sv,I lo,I hi,I F] h) fun r h'=>X.At h' (siftDown bE hi F lo D)/\dB X h h':=by
 obtain ⟨m,rfl⟩:∃ m,n=m+1:=⟨n - 1,by omega⟩
 refine ak _ zeD rfl (by simp [IL]) fun QQ hQ=>?_
 simp only [IL] at hQ
 simp only [IL,ah,ai,Nat.zero_add,reduceAdd]
 simp only [Ar,qC,SS,Nat.reduceBEq,reduceEqDiff,reduceAdd,reduceIte,reduceMul]
 refine aF (c:=Bb) (I:=fun m' tm' h'=>∃ r cur,r<=40000/\m'=hi - r/\X.At h' cur/\dB X h h'/\siftDown bE hi F r cur=siftDown bE hi F lo D/\tm'.gt 0=some X.sv/\tm'.gt 2=some (I hi)/\tm'.gt 3=some (I F)/\tm'.gt 8=some (I r)/\tm'.gt 76=none) (n:=hi - lo)
  ⟨lo,D,hlo,rfl,hA,Sm.refl _ _,rfl,by simp [fe,dN,gt_leaf]⟩ (by omega) ?_
 rintro _ tm h' ⟨r,cur,hr,rfl,hA',hS,hE0,t0,t2,t3,t8,t76⟩ Q1 hN1 hE
 have fin:∀ tm h2,X.At h2 cur->dB X h h2->siftDown bE hi F r cur=cur->tm.gt 76=none->∀ e,(e=.normal∨e=.ret)->QQ e tm h2:=fun tm h2 a1 a2 a3 a4 e he =>
  hQ _ _ _ _ he a4 rfl ⟨by rw [← hE0,a3];exact a1,a2⟩
 have go:∀ ch tm h2,r<ch->ch<hi->siftDown bE hi F r cur=(if (!bE cur[F+r]! cur[F+ch]!)=true then cur else siftDown bE hi F ch (swp cur (F+r) (F+ch)))->X.At h2 cur->dB X h h2 ->
   tm.gt 0=some X.sv->tm.gt 2=some (I hi)->tm.gt 3=some (I F)->tm.gt 8=some (I r)->tm.gt 9=some (I ch)->tm.gt 76=none->run (SC m) 100000 76 182 none qv [.blk 1] tm h2 Q1:=by
  intro ch tm h2 hrc hch heq hA2 hS2 t0 t2 t3 t8 t9 t76
  obtain ⟨hb,eb,sb,_,_⟩:=Sm.bump h2 14
  have hAb:=hA2.sm sb
  have hSb:=hS2.tr (dB.no sb)
  have l1:=hAb.ld (i:=F+r) (by omega)
  have l2:=hAb.ld (i:=F+ch) (by omega)
  have x1:=aB (k:=.i64) (b:=X.b) (o:=0) (n:=X.N) (c:=X.cap) (g:=X.g) (show F+r<X.N by omega)
  have x2:=aB (k:=.i64) (b:=X.b) (o:=0) (n:=X.N) (c:=X.cap) (g:=X.g) (show F+ch<X.N by omega)
  have e3:=dX (n:=m) (by omega) cur[F+r]! cur[F+ch]! hb
  have w1:=ui (show F+r<=1000000 by omega)
  have w2:=ui (show F+ch<=1000000 by omega)
  cases hl:bE cur[F+r]! cur[F+ch]! with
  | false =>
   rw [hl] at e3
   simp only [Ar,qC,t0,t2,t3,t8,t9,t76,SS,Nat.reduceBEq,reduceEqDiff,reduceAdd,reduceIte,reduceMul,eb,w1,w2,x1,x2,l1,l2,e3]
   refine hE _ _ _ (by simp) ?_
   simp only [SS,Nat.reduceBEq,reduceEqDiff,reduceAdd,reduceIte,reduceMul]
   exact fin _ _ hAb hSb (by rw [heq,hl];rfl) (by simp only [SS,Nat.reduceBEq,t76]) _ (.inr rfl)
  | true =>
   rw [hl] at e3
   obtain ⟨hc,ec,sc,_,_⟩:=Sm.bump hb 24
   have hAc:=hAb.sm sc
   obtain ⟨h4,h5,e4,e5,a5,s5⟩:=hAc.swap (i:=F+r) (j:=F+ch) (by omega) (by omega)
   have l3:=hAc.ld (i:=F+r) (by omega)
   have l4:=hAc.ld (i:=F+ch) (by omega)
   simp only [Ar,qC,t0,t2,t3,t8,t9,t76,SS,Nat.reduceBEq,reduceEqDiff,reduceAdd,reduceIte,reduceMul,eb,w1,w2,x1,x2,l1,l2,e3,ec,l3,l4,e4,e5]
   refine hN1 _ _ (hi - ch) (by omega) ⟨ch,_,by omega,rfl,a5,(hSb.tr (dB.no sc)).tr s5,?_,?_⟩
   ·rw [← hE0,heq,hl];rfl
   ·simp only [SS,Nat.reduceBEq,reduceEqDiff,reduceAdd,reduceIte,reduceMul,t0,t2,t3,t8,t9,t76,and_self]
 have w0:=zfE (show r<=400000 by omega)
 have w1:=bG (show 2*r<=1000000 by omega)
 by_cases c1:hi<=2*r+1
 ·have d1:(hi:Int)<=((2*r+1:Nat):Int):=by omega
  simp only [Ar,qC,t0,t2,t3,t8,t76,SS,Nat.reduceBEq,reduceEqDiff,reduceAdd,reduceIte,reduceMul,w0,w1,d1]
  refine hE _ _ _ (by simp) ?_
  simp only [SS,Nat.reduceBEq,reduceEqDiff,reduceAdd,reduceIte,reduceMul]
  exact fin _ _ hA' hS (Tt c1) (by simp only [SS,Nat.reduceBEq,t76]) _ (.inl rfl)
 ·have d1:¬(hi:Int)<=((2*r+1:Nat):Int):=by omega
  have w2:=bG (show 2*r+1<=1000000 by omega)
  obtain ⟨hb,eb,sb,_,_⟩:=Sm.bump h' 20
  have hAb:=hA'.sm sb
  have hSb:=hS.tr (dB.no sb)
  by_cases c2:2*r+1+1<hi
  ·have d2:((2*r+1+1:Nat):Int)<(hi:Int):=by omega
   have l1:=hAb.ld (i:=F+(2*r+1)) (by omega)
   have l2:=hAb.ld (i:=F+(2*r+1)+1) (by omega)
   have x1:=aB (k:=.i64) (b:=X.b) (o:=0) (n:=X.N) (c:=X.cap) (g:=X.g) (show F+(2*r+1)<X.N by omega)
   have x2:=aB (k:=.i64) (b:=X.b) (o:=0) (n:=X.N) (c:=X.cap) (g:=X.g) (show F+(2*r+1)+1<X.N by omega)
   have e3:=dX (n:=m) (by omega) cur[F+(2*r+1)]! cur[F+(2*r+1)+1]! hb
   have w3:=ui (show F+(2*r+1)<=1000000 by omega)
   have w4:=bG (show F+(2*r+1)<=1000000 by omega)
   cases hl:bE cur[F+(2*r+1)]! cur[F+(2*r+1)+1]! with
   | true =>
    rw [hl] at e3
    simp only [Ar,t0,t2,t3,t8,t76,SS,Nat.reduceBEq,reduceEqDiff,reduceAdd,reduceIte,reduceMul,w0,w1,w2,d1,d2,eb,w3,w4,x1,x2,l1,l2,e3,aI,bC,bD,aH,aY,ax,au]
    exact go (2*r+1+1) _ _ (by omega) c2 (Tu c2 hl) hAb hSb (by simp only [SS,Nat.reduceBEq,t0]) (by simp only [SS,Nat.reduceBEq,t2]) (by simp only [SS,Nat.reduceBEq,t3]) (by simp only [SS,Nat.reduceBEq,t8]) (by simp only [SS,Nat.reduceBEq]) (by simp only [SS,Nat.reduceBEq,t76])
   | false =>
    rw [hl] at e3
    simp only [Ar,t0,t2,t3,t8,t76,SS,Nat.reduceBEq,reduceEqDiff,reduceAdd,reduceIte,reduceMul,w0,w1,w2,d1,d2,eb,w3,w4,x1,x2,l1,l2,e3,aI,bC,bD,aH,aY,ax,au]
    exact go (2*r+1) _ _ (by omega) (by omega) (zS (by omega) (.inr hl)) hAb hSb (by simp only [SS,Nat.reduceBEq,t0]) (by simp only [SS,Nat.reduceBEq,t2]) (by simp only [SS,Nat.reduceBEq,t3]) (by simp only [SS,Nat.reduceBEq,t8]) (by simp only [SS,Nat.reduceBEq]) (by simp only [SS,Nat.reduceBEq,t76])
  ·have d2:¬((2*r+1+1:Nat):Int)<(hi:Int):=by omega
   simp only [Ar,t0,t2,t3,t8,t76,SS,Nat.reduceBEq,reduceEqDiff,reduceAdd,reduceIte,reduceMul,w0,w1,w2,d1,d2,eb,aI,bC,bD,aH,aY,ax,au]
   exact go (2*r+1) _ _ (by omega) (by omega) (zS (by omega) (.inl (by omega))) hAb hSb (by simp only [SS,Nat.reduceBEq,t0]) (by simp only [SS,Nat.reduceBEq,t2]) (by simp only [SS,Nat.reduceBEq,t3]) (by simp only [SS,Nat.reduceBEq,t8]) (by simp only [SS,Nat.reduceBEq]) (by simp only [SS,Nat.reduceBEq,t76])
theorem Td {x y:Nat} (h:x<=1000000):Kl .i64 (x:Int) ((y+1:Nat):Int)=some (I (x / (y+1))):=by
 have h1:x / (y+1)<=x:=Nat.div_le_self _ _
 show oI .i64 (x / (y+1))=_
 unfold oI
 rw [show Nat.ble (x / (y+1)) (dG .i64)=true from Nat.ble_eq_true_of_le (show x / (y+1)<=9223372036854775807 by omega)]
 rfl
theorem Tc {t x y:Nat} (h:x<=1000000):ag P .quo t (.int .i64 (x:Int)) (.int .i64 ((y+1:Nat):Int))=some (I (x / (y+1))):=by
 show qi .i64 .i64 (Kl .i64 (x:Int) ((y+1:Nat):Int))=_
 rw [cy,Td h]
theorem q2 {t x:Nat} (h:x<=1000000):ag P .quo t (.int .i64 (x:Int)) (.int .i64 2)=some (I (x / 2)):=Tc (y:=1) h
theorem q4 {t x:Nat} (h:x<=1000000):ag P .quo t (.int .i64 (x:Int)) (.int .i64 4)=some (I (x / 4)):=Tc (y:=3) h
theorem q8 {t x:Nat} (h:x<=1000000):ag P .quo t (.int .i64 (x:Int)) (.int .i64 8)=some (I (x / 8)):=Tc (y:=7) h
theorem wDn {x:Nat} (h:x<=1000000):IntKind.i64.wrap ((x:Int) - 1)=(x:Int) - 1:=wrap_i64 (by omega) (by omega)
theorem wu (k:Nat):((k+1:Nat):Int) - 1=(k:Int):=by omega
theorem Vp {n:Nat} (hn:4<=n) {X:Px} (hN:X.N<=40000) {h:ac} {D:Array El} (hA:X.At h D) {a e:Nat} (hae:a<e) (he:e<=X.N) :
  WC (SC n (.fn 168) [X.sv,I a,I e] h) fun r h'=>X.At h' (heapSort bE D a e)/\dB X h h':=by
 obtain ⟨m,rfl⟩:∃ m,n=m+1:=⟨n - 1,by omega⟩
 refine ak _ zes rfl (by simp [IA]) fun QQ hQ=>?_
 simp only [IA] at hQ
 simp only [IA,ah,ai,Nat.zero_add,reduceAdd]
 have w0:=ph (show a<=e by omega) (show e<=1000000 by omega)
 have w1:=eZ (show 1<=e - a by omega) (show e - a<=1000000 by omega)
 simp only [Jn,SS,Nat.reduceBEq,reduceEqDiff,reduceAdd,reduceIte,reduceMul,w0,w1,q2 (show e - a - 1<=1000000 by omega)]
 refine aF (c:=vK) (I:=fun m' tm' h'=>∃ k cur,k<=40000/\m'=k/\X.At h' cur/\dB X h h'/\heapBuild bE (e - a) a k cur=heapBuild bE (e - a) a ((e - a - 1) / 2+1) D/\tm'.gt 0=some X.sv/\tm'.gt 6=some (I a)/\tm'.gt 7=some (I 0)/\tm'.gt 8=some (I (e - a))/\tm'.gt 9=some (.int .i64 ((k:Int) - 1))/\tm'.gt 56=none) (n:=(e - a - 1) / 2+1)
  ⟨(e - a - 1) / 2+1,D,by omega,rfl,hA,Sm.refl _ _,rfl,by simp only [SS,Nat.reduceBEq],by simp only [SS,Nat.reduceBEq],by simp only [SS,Nat.reduceBEq,reduceEqDiff,reduceAdd,reduceIte,reduceMul];rfl,by simp only [SS,Nat.reduceBEq],by simp only [SS,Nat.reduceBEq,reduceEqDiff,reduceAdd,reduceIte,reduceMul,wu],by simp only [SS,Nat.reduceBEq]⟩ (by omega) ?_
 rintro k tm h' ⟨_,cur,hk,rfl,hA',hS,hE0,t0,t6,t7,t8,t9,t56⟩ Q1 hN1 hE
 cases k with
 | succ k =>
  rw [wu] at t9
  have d1:(0:Int)<=(k:Int):=by omega
  obtain ⟨r1,h1,e1,a1,s1⟩:=I5 (n:=m) (by omega) hN hA' (lo:=k) (hi:=e - a) (F:=a) (by omega) (by omega)
  simp only [Jn,t0,t6,t7,t8,t9,t56,SS,Nat.reduceBEq,reduceEqDiff,reduceAdd,reduceIte,reduceMul,d1,e1,wDn (show k<=1000000 by omega)]
  refine hN1 _ _ k (by omega) ⟨k,_,by omega,rfl,a1,hS.tr s1,hE0,?_⟩
  simp only [SS,Nat.reduceBEq,reduceEqDiff,reduceAdd,reduceIte,reduceMul,t0,t6,t7,t8,t9,t56,and_self]
 | zero =>
  have d1:¬(0:Int)<=((0:Nat):Int) - 1:=by decide
  simp only [Jn,t0,t6,t7,t8,t9,t56,SS,Nat.reduceBEq,reduceEqDiff,reduceAdd,reduceIte,reduceMul,d1]
  refine hE _ _ _ (by simp) ?_
  simp only [Jn,t0,t6,t7,t8,t9,t56,SS,Nat.reduceBEq,reduceEqDiff,reduceAdd,reduceIte,reduceMul,wDn (show e - a<=1000000 by omega)]
  have hE1:cur=heapBuild bE (e - a) a ((e - a - 1) / 2+1) D:=hE0
  refine aF (c:=vL) (I:=fun m' tm' h2=>∃ k cur2,k<=e - a/\m'=k/\X.At h2 cur2/\dB X h h2/\heapPop bE a k cur2=heapSort bE D a e/\tm'.gt 0=some X.sv/\tm'.gt 6=some (I a)/\tm'.gt 7=some (I 0)/\tm'.gt 10=some (.int .i64 ((k:Int) - 1))/\tm'.gt 56=none) (n:=e - a)
   ⟨e - a,cur,by omega,rfl,hA',hS,by rw [hE1];rfl,by simp only [SS,Nat.reduceBEq,reduceEqDiff,reduceAdd,reduceIte,reduceMul,t0,t6,t7,t56,and_self]⟩ (by omega) ?_
  rintro k tm h2 ⟨_,cur2,hk,rfl,hA2,hS2,hE2,t0,t6,t7,t10,t56⟩ Q2 hN2 hEE
  cases k with
  | succ k =>
   rw [wu] at t10
   have d1:(0:Int)<=(k:Int):=by omega
   obtain ⟨hc,ec,sc,_,_⟩:=Sm.bump h2 20
   have hAc:=hA2.sm sc
   obtain ⟨h4,h5,e4,e5,a5,s5⟩:=hAc.swap (i:=a) (j:=a+k) (by omega) (by omega)
   have l3:=hAc.ld (i:=a) (by omega)
   have l4:=hAc.ld (i:=a+k) (by omega)
   have x1:=aB (k:=.i64) (b:=X.b) (o:=0) (n:=X.N) (c:=X.cap) (g:=X.g) (show a<X.N by omega)
   have x2:=aB (k:=.i64) (b:=X.b) (o:=0) (n:=X.N) (c:=X.cap) (g:=X.g) (show a+k<X.N by omega)
   obtain ⟨r1,h6,e6,a6,s6⟩:=I5 (n:=m) (by omega) hN a5 (lo:=0) (hi:=k) (F:=a) (by omega) (by omega)
   simp only [Jn,t0,t6,t7,t10,t56,SS,Nat.reduceBEq,reduceEqDiff,reduceAdd,reduceIte,reduceMul,d1,ec,ui (show a+k<=1000000 by omega),x1,x2,l3,l4,e4,e5,e6,bC,bD,aH,aY,ax,au,wDn (show k<=1000000 by omega)]
   refine hN2 _ _ k (by omega) ⟨k,_,by omega,rfl,a6,((hS2.tr (dB.no sc)).tr s5).tr s6,hE2,?_⟩
   simp only [SS,Nat.reduceBEq,reduceEqDiff,reduceAdd,reduceIte,reduceMul,t0,t6,t7,t10,t56,and_self]
  | zero =>
   have d1:¬(0:Int)<=((0:Nat):Int) - 1:=by decide
   simp only [Jn,t0,t6,t7,t10,t56,SS,Nat.reduceBEq,reduceEqDiff,reduceAdd,reduceIte,reduceMul,d1]
   refine hEE _ _ _ (by simp) ?_
   simp only [SS,Nat.reduceBEq,reduceEqDiff,reduceAdd,reduceIte,reduceMul]
   exact hQ _ _ _ _ (.inl rfl) (by simp only [SS,Nat.reduceBEq,t56]) (by simp only [SS,Nat.reduceBEq,reduceEqDiff,reduceAdd,reduceIte,reduceMul];rfl) ⟨by rw [← hE2];exact hA2,hS2⟩
end Go.Proofs.YtboobbebilegnaaGreat
namespace Go.Proofs.YtboobbebilegnaaGreat
open Go.Am Go.Sort
set_option maxRecDepth 10000
structure qQ (X:Px) (s:Nat) (h:ac) (D:Array El):Prop where
 at':X.At h D
 ct:∃ c z,Rw h s [.int .i64 c] z false
 lt:s<h.next
 ne:s≠X.b
abbrev K8 (s:Nat) (h h':ac):Prop:=Sm (·= s) h h'
theorem K8.tr {s:Nat} {h h' h'':ac} (a:K8 s h h') (b:K8 s h' h''):K8 s h h'':=a.trans b (fun _ _ h=>h) (fun _ _ h=>h)
theorem qQ.no {X:Px} {s:Nat} {h h':ac} {D:Array El} (hA:qQ X s h D) (hs:Sm bm h h'):qQ X s h' D:=by
 obtain ⟨c,z,hc⟩:=hA.ct
 exact ⟨hA.at'.sm hs,⟨c,z,hc.sm hs hA.lt (fun h=>h)⟩,Nat.lt_of_lt_of_le hA.lt hs.1,hA.ne⟩
theorem BM {n:Nat} (hn:3<=n) {X:Px} (hN:X.N<=40000) {h:ac} {D:Array El} {s:Nat} (hA:qQ X s h D) {a b:Nat} (ha:a<X.N) (hb:b<X.N) :
  WC (SC n (.fn 188) [X.sv,I a,I b,.ptr (some (s,0))] h) fun r h'=>∃ x y,r=.tuple [I x,I y]/\((x=a/\y=b)∨(x=b/\y=a))/\qQ X s h' D/\K8 s h h':=by
 obtain ⟨m,rfl⟩:∃ m,n=m+1:=⟨n - 1,by omega⟩
 refine ak _ zeJ rfl (by simp [IS]) fun QQ hQ=>?_
 simp only [IS] at hQ
 simp only [IS,ah,ai,Nat.zero_add,reduceAdd]
 obtain ⟨h1,eb,sb,_,_⟩:=Sm.bump h 9
 have hA1:=hA.no sb
 have l1:=hA1.at'.ld (i:=a) (by omega)
 have l2:=hA1.at'.ld (i:=b) (by omega)
 have x1:=aB (k:=.i64) (b:=X.b) (o:=0) (n:=X.N) (c:=X.cap) (g:=X.g) ha
 have x2:=aB (k:=.i64) (b:=X.b) (o:=0) (n:=X.N) (c:=X.cap) (g:=X.g) hb
 have e3:=dX (n:=m) (by omega) D[b]! D[a]! h1
 cases hl:bE D[b]! D[a]! with
 | true =>
  rw [hl] at e3
  obtain ⟨c,z,hc⟩:=hA1.ct
  have lc:=hc.ld1 0
  rw [List.getElem?_cons_zero] at lc
  obtain ⟨w1,w2,w3,w4⟩:=hc.st1 (o:=0) (v:=.int .i64 (IntKind.i64.wrap (c+1))) (by simp) rfl
  rw [show ([AV.int .i64 c]:List AV).set 0 (.int .i64 (IntKind.i64.wrap (c+1)))=[.int .i64 (IntKind.i64.wrap (c+1))] from rfl] at w2
  generalize h1.wr s 0 [.int .i64 (IntKind.i64.wrap (c+1))]=h2 at w1 w2 w3 w4
  simp only [zc6,SS,Nat.reduceBEq,reduceEqDiff,reduceAdd,reduceIte,reduceMul,eb,x1,x2,l1,l2,e3,lc,w1,aI,bC,bD,aH,aY,ax,au]
  refine hQ _ _ _ _ (.inr rfl) (by simp only [SS,Nat.reduceBEq]) (by simp only [SS,Nat.reduceBEq,reduceEqDiff,reduceAdd,reduceIte,reduceMul];rfl) ?_
  have s2:K8 s h1 h2:=⟨by omega,fun c _ hc=>w4 c hc⟩
  exact ⟨b,a,rfl,.inr ⟨rfl,rfl⟩,⟨⟨hA1.at'.sz,hA1.at'.rw.sm s2 hA1.at'.lt (fun e=>hA.ne e.symm),Nat.lt_of_lt_of_le hA1.at'.lt s2.1⟩,⟨_,_,w2⟩,Nat.lt_of_lt_of_le hA1.lt s2.1,hA.ne⟩,(sb.no (F:=(·= s))).trans s2 (fun _ _ h=>h) (fun _ _ h=>h)⟩
 | false =>
  rw [hl] at e3
  simp only [zc6,SS,Nat.reduceBEq,reduceEqDiff,reduceAdd,reduceIte,reduceMul,eb,x1,x2,l1,l2,e3,aI,bC,bD,aH,aY,ax,au]
  refine hQ _ _ _ _ (.inr rfl) (by simp only [SS,Nat.reduceBEq]) (by simp only [SS,Nat.reduceBEq,reduceEqDiff,reduceAdd,reduceIte,reduceMul];rfl) ?_
  exact ⟨a,b,rfl,.inl ⟨rfl,rfl⟩,hA1,sb.no (F:=(·= s))⟩
theorem BH {n:Nat} (hn:4<=n) {X:Px} (hN:X.N<=40000) {h:ac} {D:Array El} {s:Nat} (hA:qQ X s h D) {a b c:Nat} (ha:a<X.N) (hb:b<X.N) (hc:c<X.N) :
  WC (SC n (.fn 186) [X.sv,I a,I b,I c,.ptr (some (s,0))] h) fun r h'=>∃ x,r=I x/\(∀ lo hi,lo<=a->lo<=b->lo<=c->a<hi->b<hi->c<hi->lo<=x/\x<hi)/\qQ X s h' D/\K8 s h h':=by
 obtain ⟨m,rfl⟩:∃ m,n=m+1:=⟨n - 1,by omega⟩
 refine ak _ zeH rfl (by simp [IQ]) fun QQ hQ=>?_
 simp only [IQ] at hQ
 simp only [IQ,ah,ai,Nat.zero_add,reduceAdd]
 obtain ⟨_,h1,e1,a1,b1,rfl,c1,A1,s1⟩:=BM (n:=m) (by omega) hN hA ha hb
 have ha1:a1<X.N:=by omega
 have hb1:b1<X.N:=by omega
 obtain ⟨_,h2,e2,b2,c2',rfl,c2,A2,s2⟩:=BM (n:=m) (by omega) hN A1 hb1 hc
 have hb2:b2<X.N:=by omega
 obtain ⟨_,h3,e3,a3,b3,rfl,c3,A3,s3⟩:=BM (n:=m) (by omega) hN A2 ha1 hb2
 simp only [zf5,SS,Nat.reduceBEq,reduceEqDiff,reduceAdd,reduceIte,reduceMul,e1,e2,e3]
 refine hQ _ _ _ _ (.inr rfl) (by simp only [SS,Nat.reduceBEq]) (by simp only [SS,Nat.reduceBEq,reduceEqDiff,reduceAdd,reduceIte,reduceMul];rfl) ?_
 exact ⟨b3,rfl,fun lo hi g1 g2 g3 g4 g5 g6=>by omega,A3,(s1.tr s2).tr s3⟩
theorem AA {n:Nat} (hn:5<=n) {X:Px} (hN:X.N<=40000) {h:ac} {D:Array El} {s:Nat} (hA:qQ X s h D) {a:Nat} (ha:1<=a) (ha':a+1<X.N) :
  WC (SC n (.fn 185) [X.sv,I a,.ptr (some (s,0))] h) fun r h'=>∃ x,r=I x/\(a - 1<=x/\x<a+2)/\qQ X s h' D/\K8 s h h':=by
 obtain ⟨m,rfl⟩:∃ m,n=m+1:=⟨n - 1,by omega⟩
 refine ak _ zeG rfl (by simp [IP]) fun QQ hQ=>?_
 simp only [IP] at hQ
 simp only [IP,ah,ai,Nat.zero_add,reduceAdd]
 obtain ⟨_,h1,e1,x,rfl,c1,A1,s1⟩:=BH (n:=m) (by omega) hN hA (a:=a - 1) (b:=a) (c:=a+1) (by omega) (by omega) (by omega)
 simp only [zf4,SS,Nat.reduceBEq,reduceEqDiff,reduceAdd,reduceIte,reduceMul,eZ ha (show a<=1000000 by omega),bG (show a<=1000000 by omega),e1]
 refine hQ _ _ _ _ (.inr rfl) (by simp only [SS,Nat.reduceBEq]) (by simp only [SS,Nat.reduceBEq,reduceEqDiff,reduceAdd,reduceIte,reduceMul];rfl) ?_
 exact ⟨x,rfl,c1 (a - 1) (a+2) (by omega) (by omega) (by omega) (by omega) (by omega) (by omega),A1,s1⟩
theorem zaS {x:Nat} (h:x<=400000):IntKind.i64.wrap ((x:Int)*1)=(x:Int):=by rw [wrap_i64 (by omega) (by omega)];omega
theorem pf {x:Nat} (h:x<=400000):IntKind.i64.wrap ((x:Int)*2)=((x*2:Nat):Int):=by rw [wrap_i64 (by omega) (by omega)];simp
theorem TI {x:Nat} (h:x<=300000):IntKind.i64.wrap ((x:Int)*3)=((x*3:Nat):Int):=by rw [wrap_i64 (by omega) (by omega)];simp
theorem S0 {n:Nat} (hn:6<=n) {X:Px} (hN:X.N<=40000) {h:ac} {D:Array El} (hA:X.At h D) {a e:Nat} (hae:a+12<e) (he:e<=X.N) :
  WC (SC n (.fn 170) [X.sv,I a,I e] h) fun r h'=>∃ p hint,r=.tuple [I p,.int .i64 hint]/\a<=p/\p<e/\X.At h' D/\Sm bm h h':=by
 obtain ⟨m,rfl⟩:∃ m,n=m+1:=⟨n - 1,by omega⟩
 refine ak _ zeu rfl (by simp [IC]) fun QQ hQ=>?_
 simp only [IC] at hQ
 simp only [IC,ah,ai,Nat.zero_add,reduceAdd]
 have w0:=ph (show a<=e by omega) (show e<=1000000 by omega)
 obtain ⟨h1,e1,r1,n1,g1⟩:=Rw.alloc h (id:=h.next) (n:=1) (vs:=[.int .i64 0]) (z:=ay 3 true) (ro:=false) (Nat.le_refl _) rfl
 have s1:Sm bm h h1:=⟨by omega,fun c hc _=>g1 c (by omega)⟩
 have hne:h.next≠X.b:=by have:=hA.lt;omega
 have A1:qQ X h.next h1 D:=⟨hA.sm s1,⟨_,_,r1⟩,by omega,hne⟩
 obtain ⟨qd,hqd⟩:∃ qd,(e - a) / 4=qd:=⟨_,rfl⟩
 have d4:qd*4<=e - a/\e - a<qd*4+4:=by omega
 have q4':ag P .quo 3 (I (e - a)) (.int .i64 4)=some (I qd):=by rw [← hqd];exact q4 (show e - a<=1000000 by omega)
 clear hqd
 have d8:(8:Int)<=((e - a:Nat):Int):=by omega
 have w1:=ui (show a+qd<=1000000 by omega)
 have w2:=ui (show a+qd*2<=1000000 by omega)
 have w3:=ui (show a+qd*3<=1000000 by omega)
 have out:∀ {h':ac},K8 h.next h1 h'->Sm bm h h':=fun {h'} s=>⟨Nat.le_trans s1.1 s.1,fun c hc _=>by rw [s.2 c (by omega) (by omega),s1.2 c hc (fun h=>h)]⟩
 
 have fin:∀ tm p h2,qQ X h.next h2 D->K8 h.next h1 h2->a<=p->p<e->tm.gt 9=some (.ptr (some (h.next,0)))->tm.gt 11=some (I p)->tm.gt 57=none->run (SC m) 100000 57 170 none qr [] tm h2 QQ:=by
  intro tm p h2 A2 s2 hp1 hp2 t9 t11 t57
  obtain ⟨c,z,hc⟩:=A2.ct
  have lc:=hc.ld1 0
  rw [List.getElem?_cons_zero] at lc
  by_cases c0:c=0
  ·simp only [Lg,wX,SS,Nat.reduceBEq,reduceEqDiff,reduceAdd,reduceIte,reduceMul,t9,t11,t57,lc,c0]
   refine hQ _ _ _ _ (.inr rfl) (by simp only [SS,Nat.reduceBEq,t57]) (by simp only [SS,Nat.reduceBEq,reduceEqDiff,reduceAdd,reduceIte,reduceMul];rfl) ?_
   exact ⟨p,1,rfl,hp1,hp2,A2.at',out s2⟩
  ·by_cases c12:c=12
   ·simp only [Lg,wX,SS,Nat.reduceBEq,reduceEqDiff,reduceAdd,reduceIte,reduceMul,t9,t11,t57,lc,c0,c12]
    refine hQ _ _ _ _ (.inr rfl) (by simp only [SS,Nat.reduceBEq,t57]) (by simp only [SS,Nat.reduceBEq,reduceEqDiff,reduceAdd,reduceIte,reduceMul];rfl) ?_
    exact ⟨p,2,rfl,hp1,hp2,A2.at',out s2⟩
   ·simp only [Lg,wX,SS,Nat.reduceBEq,reduceEqDiff,reduceAdd,reduceIte,reduceMul,t9,t11,t57,lc,c0,c12]
    refine hQ _ _ _ _ (.inr rfl) (by simp only [SS,Nat.reduceBEq,t57]) (by simp only [SS,Nat.reduceBEq,reduceEqDiff,reduceAdd,reduceIte,reduceMul];rfl) ?_
    exact ⟨p,0,rfl,hp1,hp2,A2.at',out s2⟩
 by_cases c50:50<=e - a
 ·have d50:(50:Int)<=((e - a:Nat):Int):=by omega
  obtain ⟨_,h2,e2,i2,rfl,k2,A2,s2⟩:=AA (n:=m) (by omega) hN A1 (a:=a+qd) (by omega) (by omega)
  obtain ⟨_,h3,e3,i3,rfl,k3,A3,s3⟩:=AA (n:=m) (by omega) hN A2 (a:=a+qd*2) (by omega) (by omega)
  obtain ⟨_,h4,e4,i4,rfl,k4,A4,s4⟩:=AA (n:=m) (by omega) hN A3 (a:=a+qd*3) (by omega) (by omega)
  obtain ⟨_,h5,e5,p,rfl,k5,A5,s5⟩:=BH (n:=m) (by omega) hN A4 (a:=i2) (b:=i3) (c:=i4) (by omega) (by omega) (by omega)
  simp only [Lg,SS,Nat.reduceBEq,reduceEqDiff,reduceAdd,reduceIte,reduceMul,w0,xB,e1,q4',zaS (show qd<=400000 by omega),pf (show qd<=400000 by omega),TI (show qd<=300000 by omega),w1,w2,w3,d8,d50,e2,e3,e4,e5]
  obtain ⟨p1,p2⟩:=k5 a e (by omega) (by omega) (by omega) (by omega) (by omega) (by omega)
  exact fin _ p h5 A5 (((s2.tr s3).tr s4).tr s5) p1 p2 (by simp only [SS,Nat.reduceBEq]) (by simp only [SS,Nat.reduceBEq]) (by simp only [SS,Nat.reduceBEq])
 ·have d50:¬(50:Int)<=((e - a:Nat):Int):=by omega
  obtain ⟨_,h5,e5,p,rfl,k5,A5,s5⟩:=BH (n:=m) (by omega) hN A1 (a:=a+qd) (b:=a+qd*2) (c:=a+qd*3) (by omega) (by omega) (by omega)
  simp only [Lg,SS,Nat.reduceBEq,reduceEqDiff,reduceAdd,reduceIte,reduceMul,w0,xB,e1,q4',zaS (show qd<=400000 by omega),pf (show qd<=400000 by omega),TI (show qd<=300000 by omega),w1,w2,w3,d8,d50,e5]
  obtain ⟨p1,p2⟩:=k5 a e (by omega) (by omega) (by omega) (by omega) (by omega) (by omega)
  exact fin _ p h5 A5 s5 p1 p2 (by simp only [SS,Nat.reduceBEq]) (by simp only [SS,Nat.reduceBEq]) (by simp only [SS,Nat.reduceBEq])
end Go.Proofs.YtboobbebilegnaaGreat
namespace Go.Proofs.YtboobbebilegnaaGreat
open Go.Am Go.Sort
set_option maxRecDepth 10000
def qn (v:Int):Prop:=0<=v/\v<=18446744073709551615
theorem Aa (n:Int):qn (IntKind.u64.wrap n):=by
 have h:IntKind.u64.wrap n=n%18446744073709551616:=by
  show (n%(2^64:Nat):Int)=_
  rfl
 rw [h]
 unfold qn;omega
theorem zeM (n:Nat):∃ v,oI .u64 n=some (.int .u64 v)/\qn v:=by
 unfold oI
 cases h:Nat.ble n (dG .u64) with
 | true=>exact ⟨(n:Int),rfl,by have:n<=18446744073709551615:=Nat.le_of_ble_eq_true h;unfold qn;omega⟩
 | false=>exact ⟨_,rfl,Aa _⟩
theorem zdr (g:Nat->Nat->Nat) (slow:IntKind->Int->Int->Option AV) {a b:Int} (ha:qn a) (hb:qn b):∃ v,ox g slow .u64 a b=some (.int .u64 v)/\qn v:=by
 obtain ⟨x,rfl⟩:=Int.eq_ofNat_of_zero_le ha.1
 obtain ⟨y,rfl⟩:=Int.eq_ofNat_of_zero_le hb.1
 have h1:Nat.ble x (dG .u64)=true:=Nat.ble_eq_true_of_le (show x<=18446744073709551615 by have:=ha.2;omega)
 have h2:Nat.ble y (dG .u64)=true:=Nat.ble_eq_true_of_le (show y<=18446744073709551615 by have:=hb.2;omega)
 obtain ⟨v,e,hv⟩:=zeM (g x y)
 refine ⟨v,?_,hv⟩
 rw [← e]
 show (Bool.rec (motive:=fun _=>Option AV) (slow .u64 x y) (Bool.rec (motive:=fun _=>Option AV) (slow .u64 x y) (oI .u64 (g x y)) (Nat.ble y (dG .u64))) (Nat.ble x (dG .u64)):Option AV)=_
 rw [h1,h2]
theorem zfG {t:Nat} {a b:Int} (ha:qn a) (hb:qn b):∃ v,ag P .xor t (.int .u64 a) (.int .u64 b)=some (.int .u64 v)/\qn v:=by
 obtain ⟨v,e,hv⟩:=zdr Nat.xor CD ha hb
 exact ⟨v,by show qi .u64 .u64 (ox Nat.xor CD .u64 a b)=_;rw [cy,e],hv⟩
theorem zdd {t:Nat} {a:Int} {y:Nat} (ha:qn a) (hy:y<=1000000):∃ v:Nat,ag P .and t (.int .u64 a) (.int .u64 (y:Int))=some (.int .u64 (v:Int))/\v<=y:=by
 obtain ⟨x,rfl⟩:=Int.eq_ofNat_of_zero_le ha.1
 have h1:Nat.ble x (dG .u64)=true:=Nat.ble_eq_true_of_le (show x<=18446744073709551615 by have:=ha.2;omega)
 have h2:Nat.ble y (dG .u64)=true:=Nat.ble_eq_true_of_le (show y<=18446744073709551615 by omega)
 have h3:Nat.land x y<=y:=Nat.and_le_right
 refine ⟨Nat.land x y,?_,h3⟩
 show qi .u64 .u64 (ox Nat.land xI .u64 (x:Int) (y:Int))=_
 rw [cy]
 show (Bool.rec (motive:=fun _=>Option AV) (xI .u64 x y) (Bool.rec (motive:=fun _=>Option AV) (xI .u64 x y) (oI .u64 (Nat.land x y)) (Nat.ble y (dG .u64))) (Nat.ble x (dG .u64)):Option AV)=_
 rw [h1,h2]
 show oI .u64 (Nat.land x y)=_
 unfold oI
 rw [show Nat.ble (Nat.land x y) (dG .u64)=true from Nat.ble_eq_true_of_le (show Nat.land x y<=18446744073709551615 by omega)]
 rfl
theorem zaO {t:Nat} {a:Int} {k:IntKind} {b:Int} (hb:0<=b):∃ v,ag P .shl t (.int .u64 a) (.int k b)=some (.int .u64 v)/\qn v:=by
 refine ⟨_,?_,Aa (a*2^min b.toNat IntKind.u64.bits)⟩
 show zR .u64 a b=_
 unfold zR
 rw [if_neg (by omega)];rfl
theorem zfs {t:Nat} {a:Int} {L:Nat} (hL:L<=17):ag P .shl t (.int .u64 a) (.int .i64 (L:Int))=some (.int .u64 (IntKind.u64.wrap (a*2^L))):=by
 show zR .u64 a (L:Int)=_
 unfold zR
 rw [if_neg (by omega)]
 show eH .u64 _=_
 rw [show min ((L:Int)).toNat IntKind.u64.bits=L from by show min ((L:Int)).toNat 64=L;omega];rfl
theorem zft {t:Nat} {a:Int} {b:Nat} (ha:qn a):∃ v,ag P .shr t (.int .u64 a) (.int .u64 (b:Int))=some (.int .u64 v)/\qn v:=by
 obtain ⟨x,rfl⟩:=Int.eq_ofNat_of_zero_le ha.1
 have h2:((x:Int)).fdiv (2^min ((b:Int)).toNat IntKind.u64.bits)=((x / 2^min b 64:Nat):Int):=by
  rw [Int.fdiv_eq_ediv_of_nonneg]
  ·show (x:Int) / (2^min ((b:Int)).toNat 64)=_
   rw [Int.toNat_natCast];norm_cast
  ·exact Int.pow_nonneg (by decide)
 refine ⟨((x / 2^min b 64:Nat):Int),?_,?_⟩
 ·show KD .u64 (x:Int) (b:Int)=_
  unfold KD
  rw [if_neg (by omega),h2]
 ·have h3:=Nat.div_le_self x (2^min b 64)
  have h4:=ha.2
  generalize x / 2^min b 64=y at h3 ⊢
  unfold qn;omega
theorem zhc {t:Nat} {x:Nat}:ag P .shr t (.int .u64 (x:Int)) (.int .u64 8)=some (.int .u64 ((x / 256:Nat):Int)):=by
 show KD .u64 (x:Int) 8=_
 unfold KD
 rw [if_neg (by decide)]
 have:((x:Int)).fdiv (2^min ((8:Int)).toNat IntKind.u64.bits)=((x / 256:Nat):Int):=by
  rw [Int.fdiv_eq_ediv_of_nonneg]
  ·show (x:Int) / (2^8)=_
   norm_cast
  ·exact Int.pow_nonneg (by decide)
 rw [this]
def WQ:List Nat:=[0,1,2,2,3,3,3,3,4,4,4,4,4,4,4,4,5,5,5,5,5,5,5,5,5,5,5,5,5,5,5,5,6,6,6,6,6,6,6,6,6,6,6,6,6,6,6,6,6,6,6,6,6,6,6,6,6,6,6,6,6,6,6,6,7,7,7,7,7,7,7,7,7,7,7,7,7,7,7,7,7,7,7,7,7,7,7,7,7,7,7,7,7,7,7,7,7,7,7,7,7,7,7,7,7,7,7,7,7,7,7,7,7,7,7,7,7,7,7,7,7,7,7,7,7,7,7,7,8,8,8,8,8,8,8,8,8,8,8,8,8,8,8,8,8,8,8,8,8,8,8,8,8,8,8,8,8,8,8,8,8,8,8,8,8,8,8,8,8,8,8,8,8,8,8,8,8,8,8,8,8,8,8,8,8,8,8,8,8,8,8,8,8,8,8,8,8,8,8,8,8,8,8,8,8,8,8,8,8,8,8,8,8,8,8,8,8,8,8,8,8,8,8,8,8,8,8,8,8,8,8,8,8,8,8,8,8,8,8,8,8,8,8,8,8,8,8,8,8,8,8,8,8,8,8,8]
theorem Jb:∀ y,y<256->∃ L,WQ[y]?=some L/\L<=8/\(1<=y->2^L<=2*y):=by
 have h:∀ y:Fin 256,∃ L,L<9/\WQ[y.val]?=some L/\(1<=y.val->2^L<=2*y.val):=by decide +kernel
 intro y hy
 obtain ⟨L,h1,h2,h3⟩:=h ⟨y,hy⟩
 exact ⟨L,h2,by omega,h3⟩
theorem wU8 {x:Nat} (h:x<256):IntKind.u8.wrap (x:Int)=(x:Int):=Je (by omega) (by omega)
theorem wI' {x:Nat} (h:x<=1000000):IntKind.i64.wrap (x:Int)=(x:Int):=wrap_i64 (by omega) (by omega)
theorem SA {n:Nat} (hn:1<=n) {x:Nat} (hx:x<=65535) (h:ac):WC (SC n (.fn 177) [.int .u64 (x:Int)] h) fun r h'=>h'=h/\∃ L,r=I L/\L<=16/\(1<=x->2^L<=2*x):=by
 obtain ⟨m,rfl⟩:∃ m,n=m+1:=⟨n - 1,by omega⟩
 refine ak _ zeA rfl (by simp [II]) fun QQ hQ=>?_
 simp only [II] at hQ
 simp only [II,ah,ai,Nat.zero_add,reduceAdd]
 have c1:¬(4294967296:Int)<=(x:Int):=by omega
 have c2:¬(65536:Int)<=(x:Int):=by omega
 by_cases c3:256<=x
 ·have d3:(256:Int)<=(x:Int):=by omega
  obtain ⟨L,l1,l2,l3⟩:=Jb (x / 256) (by omega)
  have w:=ui (show 8+L<=1000000 by omega)
  have e8:IntKind.i64.wrap (0+8)=((8:Nat):Int):=by decide
  unfold WQ at l1
  simp only [zc3,SS,Nat.reduceBEq,reduceEqDiff,reduceAdd,reduceIte,reduceMul,c1,c2,d3,zhc,e8,tE,wU8 (show x / 256<256 by omega),Cu,l1,oi,wI' (show L<=1000000 by omega),w]
  refine hQ _ _ _ _ (.inr rfl) (by simp only [SS,Nat.reduceBEq]) (by simp only [SS,Nat.reduceBEq,reduceEqDiff,reduceAdd,reduceIte,reduceMul];rfl) ?_
  refine ⟨rfl,8+L,rfl,by omega,fun _=>?_⟩
  have:=l3 (by omega)
  rw [Nat.pow_add]
  omega
 ·have d3:¬(256:Int)<=(x:Int):=by omega
  obtain ⟨L,l1,l2,l3⟩:=Jb x (by omega)
  have w:IntKind.i64.wrap (0+(L:Int))=(L:Int):=by rw [Int.zero_add];exact wI' (by omega)
  unfold WQ at l1
  simp only [zc3,SS,Nat.reduceBEq,reduceEqDiff,reduceAdd,reduceIte,reduceMul,c1,c2,d3,tE,wU8 (show x<256 by omega),Cu,l1,oi,wI' (show L<=1000000 by omega),w]
  refine hQ _ _ _ _ (.inr rfl) (by simp only [SS,Nat.reduceBEq]) (by simp only [SS,Nat.reduceBEq,reduceEqDiff,reduceAdd,reduceIte,reduceMul];rfl) ?_
  exact ⟨rfl,L,rfl,by omega,l3⟩
theorem SB {n:Nat} (hn:2<=n) {x:Nat} (hx:x<=65535) (h:ac):WC (SC n (.fn 144) [.int .u64 (x:Int)] h) fun r h'=>h'=h/\∃ L,r=I L/\L<=16/\(1<=x->2^L<=2*x):=by
 obtain ⟨m,rfl⟩:∃ m,n=m+1:=⟨n - 1,by omega⟩
 refine ak _ zef rfl (by simp [Io]) fun QQ hQ=>?_
 simp only [Io] at hQ
 simp only [Io,ah,ai,Nat.zero_add,reduceAdd]
 obtain ⟨_,_,e1,rfl,L,rfl,l1,l2⟩:=SA (n:=m) (by omega) hx h
 simp only [zfU,SS,Nat.reduceBEq,reduceEqDiff,reduceAdd,reduceIte,reduceMul,e1]
 refine hQ _ _ _ _ (.inr rfl) (by simp only [SS,Nat.reduceBEq]) (by simp only [SS,Nat.reduceBEq,reduceEqDiff,reduceAdd,reduceIte,reduceMul];rfl) ?_
 exact ⟨rfl,L,rfl,l1,l2⟩
theorem TJ {x:Nat} (h:x<=1000000):IntKind.u64.wrap (x:Int)=(x:Int):=by
 show ((x:Int)%(2^64:Nat):Int)=_
 exact Int.emod_eq_of_lt (by omega) (by omega)
theorem VD {n:Nat} (hn:3<=n) {x:Nat} (hx:x<=65535) (hx1:1<=x) (h:ac):WC (SC n (.fn 183) [I x] h) fun r h'=>h'=h/\∃ M:Nat,r=.int .u64 (M:Int)/\1<=M/\M<=2*x:=by
 obtain ⟨m,rfl⟩:∃ m,n=m+1:=⟨n - 1,by omega⟩
 refine ak _ zeE rfl (by simp [IM]) fun QQ hQ=>?_
 simp only [IM] at hQ
 simp only [IM,ah,ai,Nat.zero_add,reduceAdd]
 obtain ⟨_,_,e1,rfl,L,rfl,l1,l2⟩:=SB (n:=m) (by omega) hx h
 have hM:=l2 hx1
 have hp:1<=2^L:=Nat.one_le_two_pow
 have e2:IntKind.u64.wrap (1*2^L)=((2^L:Nat):Int):=by
  rw [Int.one_mul,show ((2:Int)^L)=((2^L:Nat):Int) by norm_cast]
  exact TJ (by omega)
 simp only [zf2,SS,Nat.reduceBEq,reduceEqDiff,reduceAdd,reduceIte,reduceMul,tF,TJ (show x<=1000000 by omega),e1,zfs (show L<=17 by omega),e2]
 refine hQ _ _ _ _ (.inr rfl) (by simp only [SS,Nat.reduceBEq]) (by simp only [SS,Nat.reduceBEq,reduceEqDiff,reduceAdd,reduceIte,reduceMul];rfl) ?_
 exact ⟨rfl,2^L,rfl,hp,hM⟩
end Go.Proofs.YtboobbebilegnaaGreat
namespace Go.Proofs.YtboobbebilegnaaGreat
open Go.Am Go.Sort
set_option maxRecDepth 10000
theorem TY {n:Nat} (hn:1<=n) {h:ac} {s:Nat} {c:Int} {z:List AV} (hr:Rw h s [.int .u64 c] z false) (hs:s<h.next) (hc:qn c) :
  WC (SC n (.fn 184) [.ptr (some (s,0))] h) fun r h'=>∃ c',r=.int .u64 c'/\qn c'/\Rw h' s [.int .u64 c'] z false/\K8 s h h':=by
 obtain ⟨m,rfl⟩:∃ m,n=m+1:=⟨n - 1,by omega⟩
 refine ak _ zeF rfl (by simp [IN]) fun QQ hQ=>?_
 simp only [IN] at hQ
 simp only [IN,ah,ai,Nat.zero_add,reduceAdd]
 
 have step:∀ (op:BinOp) (k:Nat) (h:ac) (c:Int),(∀ c,qn c->∃ v,ag P op 182 (.int .u64 c) (.int .u64 (k:Int))=some (.int .u64 v)/\qn v)->Rw h s [.int .u64 c] z false->s<h.next->qn c ->
   ∃ hb h2 v w,ac.mk h.bs (h.next+10)=hb/\hb.ld1 s 0=some (.int .u64 c)/\ag P op 182 (.int .u64 c) (.int .u64 (k:Int))=some (.int .u64 v)/\ag P .xor 257 (.int .u64 c) (.int .u64 v)=some (.int .u64 w)/\hb.st1 s 0 (.int .u64 w)=some h2/\qn w/\Rw h2 s [.int .u64 w] z false/\s<h2.next/\K8 s h h2:=by
  intro op k h c hop hr hs hc
  obtain ⟨hb,eb,sb,_,_⟩:=Sm.bump h 10
  have hrb:=hr.sm sb hs (fun h=>h)
  obtain ⟨v,e1,hv⟩:=hop c hc
  obtain ⟨w,e2,hw⟩:=zfG (t:=257) hc hv
  have lc:=hrb.ld1 0
  rw [List.getElem?_cons_zero] at lc
  obtain ⟨w1,w2,w3,w4⟩:=hrb.st1 (o:=0) (v:=.int .u64 w) (by simp) rfl
  have sb1:=sb.1
  exact ⟨hb,_,v,w,eb,lc,e1,e2,w1,hw,w2,by omega,(sb.no (F:=(·= s))).trans ⟨by omega,fun c _ hc=>w4 c hc⟩ (fun _ _ h=>h) (fun _ _ h=>h)⟩
 obtain ⟨hb1,h2,v1,w1,p1,p2,p3,p4,p5,p6,p7,p8,p9⟩:=step .shl 13 h c (fun c _=>zaO (by decide)) hr hs hc
 obtain ⟨hb3,h4,v3,w3,q1,q2,q3,q4',q5,q6,q7,q8',q9⟩:=step .shr 7 h2 w1 (fun c hc=>zft hc) p7 p8 p6
 obtain ⟨hb5,h6,v5,w5,r1,r2,r3,r4,r5,r6,r7,r8,r9⟩:=step .shl 17 h4 w3 (fun c _=>zaO (by decide)) q7 q8' q6
 have l6:=r7.ld1 0
 rw [List.getElem?_cons_zero] at l6
 have p3':ag P .shl 257 (.int .u64 c) (.int .u64 13)=some (.int .u64 v1):=p3
 have q3':ag P .shr 257 (.int .u64 w1) (.int .u64 7)=some (.int .u64 v3):=q3
 have r3':ag P .shl 257 (.int .u64 w3) (.int .u64 17)=some (.int .u64 v5):=r3
 simp only [zf3,SS,Nat.reduceBEq,reduceEqDiff,reduceAdd,reduceIte,reduceMul,p1,p2,p3',p4,p5,q1,q2,q3',q4',q5,r1,r2,r3',r4,r5,l6,bC,bD,aH,aY,ax,au]
 refine hQ _ _ _ _ (.inr rfl) (by simp only [SS,Nat.reduceBEq]) (by simp only [SS,Nat.reduceBEq,reduceEqDiff,reduceAdd,reduceIte,reduceMul];rfl) ?_
 exact ⟨w5,rfl,r6,r7,(p9.tr q9).tr r9⟩
structure zdb (X:Px) (s:Nat) (h:ac) (D:Array El):Prop where
 at':X.At h D
 ct:∃ c z,Rw h s [.int .u64 c] z false/\qn c
 lt:s<h.next
 ne:s≠X.b
theorem Lw {n:Nat} (hn:4<=n) {X:Px} (hN:X.N<=40000) {h:ac} {D:Array El} (hA:X.At h D) {a e:Nat} (hae:a+12<e) (he:e<=X.N) :
  WC (SC n (.fn 169) [X.sv,I a,I e] h) fun r h'=>∃ D',X.At h' D'/\PermIn a e D D'/\dB X h h':=by
 obtain ⟨m,rfl⟩:∃ m,n=m+1:=⟨n - 1,by omega⟩
 refine ak _ zet rfl (by simp [IB]) fun QQ hQ=>?_
 simp only [IB] at hQ
 simp only [IB,ah,ai,Nat.zero_add,reduceAdd]
 have w0:=ph (show a<=e by omega) (show e<=1000000 by omega)
 obtain ⟨h1,e1,r1,n1,g1⟩:=Rw.alloc h (id:=h.next) (n:=1) (vs:=[.int .u64 0]) (z:=ay 257 true) (ro:=false) (Nat.le_refl _) rfl
 obtain ⟨y1,y2,y3,y4⟩:=r1.st1 (o:=0) (v:=.int .u64 ((e - a:Nat):Int)) (by simp) rfl
 rw [show ([AV.int .u64 0]:List AV).set 0 (.int .u64 ((e - a:Nat):Int))=[.int .u64 ((e - a:Nat):Int)] from rfl] at y2
 generalize h1.wr h.next 0 [.int .u64 ((e - a:Nat):Int)]=h2 at y1 y2 y3 y4
 have s2:Sm bm h h2:=⟨by omega,fun c hc _=>by rw [y4 c (by omega),g1 c (by omega)]⟩
 have hne:h.next≠X.b:=by have:=hA.lt;omega
 have hlt0:=hA.lt
 have hU:qn ((e - a:Nat):Int):=by unfold qn;omega
 have A2:zdb X h.next h2 D:=⟨hA.sm s2,⟨_,_,y2,hU⟩,by omega,hne⟩
 obtain ⟨qd,hqd⟩:∃ qd,(e - a) / 4=qd:=⟨_,rfl⟩
 have d4:qd*4<=e - a/\e - a<qd*4+4:=by omega
 have q4':ag P .quo 3 (I (e - a)) (.int .i64 4)=some (I qd):=by rw [← hqd];exact q4 (show e - a<=1000000 by omega)
 clear hqd
 have d8:(8:Int)<=((e - a:Nat):Int):=by omega
 obtain ⟨_,_,e3,rfl,M,rfl,m1,m2⟩:=VD (n:=m) (by omega) (x:=e - a) (by omega) (by omega) h2
 rename_i h2
 have w2:=ui (show a+qd*2<=1000000 by omega)
 have w3:=eZ (show 1<=a+qd*2 by omega) (show a+qd*2<=1000000 by omega)
 have w4:=bG (show a+qd*2<=1000000 by omega)
 simp only [Lf,wW,SS,Nat.reduceBEq,reduceEqDiff,reduceAdd,reduceIte,reduceMul,w0,d8,Cp,TJ (show e - a<=1000000 by omega),TM,e1,y1,e3,q4',pf (show qd<=400000 by omega),w2,w3]
 refine aF (c:=vM) (I:=fun m' tm' h'=>∃ i cur,a<=i/\i<=a+qd*2+2/\m'=a+qd*2+2 - i/\zdb X h.next h' cur/\Sm (fun b=>b=X.b∨b=h.next) h2 h'/\PermIn a e D cur/\tm'.gt 0=some X.sv/\tm'.gt 1=some (I a)/\tm'.gt 6=some (I (e - a))/\tm'.gt 7=some (.ptr (some (h.next,0)))/\tm'.gt 8=some (.int .u64 (M:Int))/\tm'.gt 9=some (I i)/\tm'.gt 65=none) (n:=a+qd*2+2 - (a+qd*2 - 1))
  ⟨a+qd*2 - 1,D,by omega,by omega,rfl,A2,Sm.refl _ _,permIn_refl _ _ _,by simp [fe,dN,gt_leaf]⟩ (by omega) ?_
 rintro _ tm h' ⟨i,cur,hi1,hi2,rfl,hA',hS,hP,t0,t1,t6,t7,t8,t9,t65⟩ Q1 hN1 hE
 by_cases hlt:i<=a+qd*2+1
 ·have d1:(i:Int)<=((a+qd*2+1:Nat):Int):=by omega
  obtain ⟨c,z,hc,hcu⟩:=hA'.ct
  obtain ⟨_,h3,e5,c',rfl,hcu',hc',s3⟩:=TY (n:=m) (by omega) hc hA'.lt hcu
  have e6:IntKind.u64.wrap ((M:Int) - 1)=((M - 1:Nat):Int):=by rw [show (M:Int) - 1=((M - 1:Nat):Int) by omega];exact TJ (by omega)
  obtain ⟨v,e7,hv⟩:=zdd (t:=154) (y:=M - 1) hcu' (by omega)
  have A3:X.At h3 cur:=⟨hA'.at'.sz,hA'.at'.rw.sm s3 hA'.at'.lt (fun e=>hne e.symm),Nat.lt_of_lt_of_le hA'.at'.lt s3.1⟩
  have hlt3:h.next<h3.next:=Nat.lt_of_lt_of_le hA'.lt s3.1
  
  have go:∀ (o:Nat) tm,o<e - a->tm.gt 0=some X.sv->tm.gt 1=some (I a)->tm.gt 6=some (I (e - a))->tm.gt 7=some (.ptr (some (h.next,0)))->tm.gt 8=some (.int .u64 (M:Int))->tm.gt 9=some (I i)->tm.gt 10=some (I o)->tm.gt 65=none->run (SC m) 100000 65 169 none vN [.blk 1,.seq vO] tm h3 Q1:=by
   intro o tm ho t0 t1 t6 t7 t8 t9 t10 t65
   obtain ⟨hc2,ec,sc,_,_⟩:=Sm.bump h3 20
   have hAc:=A3.sm sc
   obtain ⟨h4,h5,e4,e5',a5,s5⟩:=hAc.swap (i:=i) (j:=a+o) (by omega) (by omega)
   have l3:=hAc.ld (i:=i) (by omega)
   have l4:=hAc.ld (i:=a+o) (by omega)
   have x1:=aB (k:=.i64) (b:=X.b) (o:=0) (n:=X.N) (c:=X.cap) (g:=X.g) (show i<X.N by omega)
   have x2:=aB (k:=.i64) (b:=X.b) (o:=0) (n:=X.N) (c:=X.cap) (g:=X.g) (show a+o<X.N by omega)
   simp only [Lf,wW,SS,Nat.reduceBEq,reduceEqDiff,reduceAdd,reduceIte,reduceMul,t0,t1,t6,t7,t8,t9,t10,t65,ec,ui (show a+o<=1000000 by omega),x1,x2,l3,l4,e4,e5',bC,bD,aH,aY,ax,au,bG (show i<=1000000 by omega)]
   have s35:dB X h3 h5:=(dB.no sc).tr s5
   refine hN1 _ _ (a+qd*2+2 - (i+1)) (by omega) ⟨i+1,_,by omega,by omega,rfl,⟨a5,⟨c',z,hc'.sm s35 hlt3 hne,hcu'⟩,Nat.lt_of_lt_of_le hlt3 s35.1,hne⟩,?_,permIn_trans _ _ _ _ _ hP (swp_permIn _ _ _ _ _ hi1 (by omega) (by omega) (by omega) (by rw [hA'.at'.sz];omega)),?_⟩
   ·exact (hS.trans s3 (fun _ _ h=>h) (fun _ _ h=>Or.inr h)).trans s35 (fun _ _ h=>h) (fun _ _ h=>Or.inl h)
   ·simp only [SS,Nat.reduceBEq,reduceEqDiff,reduceAdd,reduceIte,reduceMul,t0,t1,t6,t7,t8,t9,t65,and_self]
  by_cases ho:e - a<=v
  ·have d2:((e - a:Nat):Int)<=(v:Int):=by omega
   simp only [Lf,SS,Nat.reduceBEq,reduceEqDiff,reduceAdd,reduceIte,reduceMul,t0,t1,t6,t7,t8,t9,t65,q4',pf (show qd<=400000 by omega),w2,w4,d1,e5,e6,e7,tD,wI' (show v<=1000000 by omega),d2,ph ho (show v<=1000000 by omega)]
   exact go (v - (e - a)) _ (by omega) (by simp only [SS,Nat.reduceBEq,t0]) (by simp only [SS,Nat.reduceBEq,t1]) (by simp only [SS,Nat.reduceBEq,t6]) (by simp only [SS,Nat.reduceBEq,t7]) (by simp only [SS,Nat.reduceBEq,t8]) (by simp only [SS,Nat.reduceBEq,t9]) (by simp only [SS,Nat.reduceBEq]) (by simp only [SS,Nat.reduceBEq,t65])
  ·have d2:¬((e - a:Nat):Int)<=(v:Int):=by omega
   simp only [Lf,SS,Nat.reduceBEq,reduceEqDiff,reduceAdd,reduceIte,reduceMul,t0,t1,t6,t7,t8,t9,t65,q4',pf (show qd<=400000 by omega),w2,w4,d1,e5,e6,e7,tD,wI' (show v<=1000000 by omega),d2]
   exact go v _ (by omega) (by simp only [SS,Nat.reduceBEq,t0]) (by simp only [SS,Nat.reduceBEq,t1]) (by simp only [SS,Nat.reduceBEq,t6]) (by simp only [SS,Nat.reduceBEq,t7]) (by simp only [SS,Nat.reduceBEq,t8]) (by simp only [SS,Nat.reduceBEq,t9]) (by simp only [SS,Nat.reduceBEq]) (by simp only [SS,Nat.reduceBEq,t65])
 ·have d1:¬(i:Int)<=((a+qd*2+1:Nat):Int):=by omega
  simp only [Lf,wW,SS,Nat.reduceBEq,reduceEqDiff,reduceAdd,reduceIte,reduceMul,t0,t1,t6,t7,t8,t9,t65,q4',pf (show qd<=400000 by omega),w2,w4,d1]
  refine hE _ _ _ (by simp) ?_
  simp only [SS,Nat.reduceBEq,reduceEqDiff,reduceAdd,reduceIte,reduceMul]
  refine hQ _ _ _ _ (.inl rfl) (by simp only [SS,Nat.reduceBEq,t65]) (by simp only [SS,Nat.reduceBEq,reduceEqDiff,reduceAdd,reduceIte,reduceMul];rfl) ⟨cur,hA'.at',hP,?_⟩
  have:=s2.1
  exact ⟨Nat.le_trans s2.1 hS.1,fun b hb hne'=>by rw [hS.2 b (by omega) (by intro h;rcases h with h | h;exact hne' h;omega),s2.2 b hb (fun h=>h)]⟩
end Go.Proofs.YtboobbebilegnaaGreat
namespace Go.Proofs.YtboobbebilegnaaGreat
open Go.Am Go.Sort
set_option maxRecDepth 10000
theorem mN {p:El->Bool} {d:Array El} {j i:Nat} (h:i<=j) (hp:p d[i]! = true):scanUp p d j i=scanUp p d j (i+1):=by
 rw [scanUp,if_pos];rw [hp,decide_eq_true h];rfl
theorem iA {p:El->Bool} {d:Array El} {j i:Nat} (h:¬i<=j∨p d[i]! = false):scanUp p d j i=i:=by
 rw [scanUp,if_neg]
 intro hc
 rw [Bool.and_eq_true,decide_eq_true_eq] at hc
 rcases h with h | h
 ·exact h hc.1
 ·rw [h] at hc;exact absurd hc.2 (by simp)
theorem mM {p:El->Bool} {d:Array El} {j i:Nat} (h:i<=j+1) (hp:p d[j+1]! = true):scanDown p d i (j+1)=scanDown p d i j:=by
 rw [scanDown,if_pos];rw [hp,decide_eq_true h];rfl
theorem iz {p:El->Bool} {d:Array El} {j i:Nat} (hi:1<=i) (h:¬i<=j∨p d[j]! = false):scanDown p d i j=j:=by
 cases j with
 | zero=>rfl
 | succ j =>
  rw [scanDown,if_neg]
  intro hc
  rw [Bool.and_eq_true,decide_eq_true_eq] at hc
  rcases h with h | h
  ·exact h hc.1
  ·rw [h] at hc;exact absurd hc.2 (by simp)
theorem Ke {n:Nat} (hn:3<=n) {X:Px} (hN:X.N<=40000) {h:ac} {D:Array El} (hA:X.At h D) {a e p:Nat} (hap:a<=p) (hpe:p<e) (he:e<=X.N) :
  WC (SC n (.fn 174) [X.sv,I a,I e,I p] h) fun r h'=>r=I (partitionEqual bE D a e p).1/\X.At h' (partitionEqual bE D a e p).2/\dB X h h':=by
 obtain ⟨m,rfl⟩:∃ m,n=m+1:=⟨n - 1,by omega⟩
 refine ak _ zey rfl (by simp [IG]) fun QQ hQ=>?_
 simp only [IG] at hQ
 simp only [IG,ah,ai,Nat.zero_add,reduceAdd]
 obtain ⟨hb,eb,sb,_,_⟩:=Sm.bump h 16
 have hAb:=hA.sm sb
 obtain ⟨h1,h2,e1,e2,a2,s2⟩:=hAb.swap (i:=a) (j:=p) (by omega) (by omega)
 have l1:=hAb.ld (i:=a) (by omega)
 have l2:=hAb.ld (i:=p) (by omega)
 have x1:=aB (k:=.i64) (b:=X.b) (o:=0) (n:=X.N) (c:=X.cap) (g:=X.g) (show a<X.N by omega)
 have x2:=aB (k:=.i64) (b:=X.b) (o:=0) (n:=X.N) (c:=X.cap) (g:=X.g) (show p<X.N by omega)
 simp only [qf,gj,gh,SS,Nat.reduceBEq,reduceEqDiff,reduceAdd,reduceIte,reduceMul,eb,x1,x2,l1,l2,e1,e2,bC,bD,aH,aY,ax,au,bG (show a<=1000000 by omega),eZ (show 1<=e by omega) (show e<=1000000 by omega)]
 refine aF (c:=A6) (I:=fun m' tm' h'=>∃ i j cur,a<i/\i<=j+1/\j<e/\m'=j+1 - i/\X.At h' cur/\dB X h h'/\partEqLoop bE a i j cur=partitionEqual bE D a e p/\tm'.gt 0=some X.sv/\tm'.gt 1=some (I a)/\tm'.gt 9=some (I i)/\tm'.gt 10=some (I j)/\tm'.gt 84=none) (n:=e - 1+1 - (a+1))
  ⟨a+1,e - 1,_,by omega,by omega,by omega,rfl,a2,(dB.no sb).tr s2,rfl,by simp [fe,dN,gt_leaf]⟩ (by omega) ?_
 rintro _ tm h3 ⟨i0,j0,cur,hi0,hij0,hj0,rfl,hA3,hS3,hE0,t0,t1,t9,t10,t84⟩ Q1 hN1 hE
 rw [partEqLoop_eq] at hE0
 simp only [qf,gj,gh,SS,Nat.reduceBEq,reduceEqDiff,reduceAdd,reduceIte,reduceMul,t0,t1,t9,t10,t84]
 
 refine aF (c:=vS) (I:=fun m' tm' h'=>∃ i,i0<=i/\i<=j0+1/\m'=j0+1 - i/\X.At h' cur/\dB X h h'/\scanUp (fun x=>!bE cur[a]! x) cur j0 i0=scanUp (fun x=>!bE cur[a]! x) cur j0 i/\tm'.gt 0=some X.sv/\tm'.gt 1=some (I a)/\tm'.gt 9=some (I i)/\tm'.gt 10=some (I j0)/\tm'.gt 84=none) (n:=j0+1 - i0)
  ⟨i0,by omega,by omega,rfl,hA3,hS3,rfl,by simp only [SS,Nat.reduceBEq,reduceEqDiff,reduceAdd,reduceIte,reduceMul,t0,t1,t9,t10,t84,and_self]⟩ (by omega) ?_
 rintro _ tm h4 ⟨i,hi,hij,rfl,hA4,hS4,hU,t0,t1,t9,t10,t84⟩ Q2 hN2 hE2
 obtain ⟨hb4,eb4,sb4,_,_⟩:=Sm.bump h4 15
 have hAb4:=hA4.sm sb4
 have hSb4:=hS4.tr (dB.no sb4)
 
 have go:(¬i<=j0∨(fun x=>!bE cur[a]! x) cur[i]! = false)->∀ tm,tm.gt 0=some X.sv->tm.gt 1=some (I a)->tm.gt 9=some (I i)->tm.gt 10=some (I j0)->tm.gt 84=none->run (SC m) 100000 84 174 none qt [.blk 1] tm hb4 Q1:=by
  intro hstU tm t0 t1 t9 t10 t84
  rw [iA (p:=fun x=>!bE cur[a]! x) hstU] at hU
  rw [hU] at hE0
  simp only [qf,gj,gh,SS,Nat.reduceBEq,reduceEqDiff,reduceAdd,reduceIte,reduceMul,t0,t1,t9,t10,t84]
  refine aF (c:=vT) (I:=fun m' tm' h'=>∃ j,i<=j+1/\j<=j0/\m'=j/\X.At h' cur/\dB X h h'/\scanDown (fun x=>bE cur[a]! x) cur i j0=scanDown (fun x=>bE cur[a]! x) cur i j/\tm'.gt 0=some X.sv/\tm'.gt 1=some (I a)/\tm'.gt 9=some (I i)/\tm'.gt 10=some (I j)/\tm'.gt 84=none) (n:=j0)
   ⟨j0,by omega,by omega,rfl,hAb4,hSb4,rfl,by simp only [SS,Nat.reduceBEq,reduceEqDiff,reduceAdd,reduceIte,reduceMul,t0,t1,t9,t10,t84,and_self]⟩ (by omega) ?_
  rintro j tm h5 ⟨_,hij,hj,rfl,hA5,hS5,hD,t0,t1,t9,t10,t84⟩ Q3 hN3 hE3
  obtain ⟨hb5,eb5,sb5,_,_⟩:=Sm.bump h5 14
  have hAb5:=hA5.sm sb5
  have hSb5:=hS5.tr (dB.no sb5)
  have go2:(¬i<=j∨(fun x=>bE cur[a]! x) cur[j]! = false)->∀ tm,tm.gt 0=some X.sv->tm.gt 1=some (I a)->tm.gt 9=some (I i)->tm.gt 10=some (I j)->tm.gt 84=none->run (SC m) 100000 84 174 none qu [.blk 1] tm hb5 Q1:=by
   intro hst tm t0 t1 t9 t10 t84
   rw [iz (p:=fun x=>bE cur[a]! x) (by omega) hst] at hD
   rw [hD] at hE0
   by_cases hgt:j<i
   ·rw [if_pos hgt] at hE0
    simp only [qf,gj,gh,SS,Nat.reduceBEq,reduceEqDiff,reduceAdd,reduceIte,reduceMul,t0,t1,t9,t10,t84,Int.ofNat_lt,hgt]
    refine hE _ _ _ (by simp) ?_
    simp only [qf,gj,gh,SS,Nat.reduceBEq,reduceEqDiff,reduceAdd,reduceIte,reduceMul,t9,t84]
    refine hQ _ _ _ _ (.inr rfl) (by simp only [SS,Nat.reduceBEq,t84]) (by simp only [SS,Nat.reduceBEq,reduceEqDiff,reduceAdd,reduceIte,reduceMul];rfl) ?_
    rw [← hE0]
    exact ⟨rfl,hAb5,hSb5⟩
   ·rw [if_neg hgt] at hE0
    have hne:i≠j:=by
     intro e
     subst e
     rcases hstU with h | h
     ·omega
     ·rcases hst with h' | h'
      ·omega
      ·have h1:(!bE cur[a]! cur[i]!)=false:=h
       have h2:bE cur[a]! cur[i]! = false:=h'
       rw [h2] at h1;cases h1
    obtain ⟨hc,ec,sc,_,_⟩:=Sm.bump hb5 16
    have hAc:=hAb5.sm sc
    obtain ⟨h6,h7,e6,e7,a7,s7⟩:=hAc.swap (i:=i) (j:=j) (by omega) (by omega)
    have l3:=hAc.ld (i:=i) (by omega)
    have l4:=hAc.ld (i:=j) (by omega)
    have x3:=aB (k:=.i64) (b:=X.b) (o:=0) (n:=X.N) (c:=X.cap) (g:=X.g) (show i<X.N by omega)
    have x4:=aB (k:=.i64) (b:=X.b) (o:=0) (n:=X.N) (c:=X.cap) (g:=X.g) (show j<X.N by omega)
    simp only [qf,gj,gh,SS,Nat.reduceBEq,reduceEqDiff,reduceAdd,reduceIte,reduceMul,t0,t1,t9,t10,t84,Int.ofNat_lt,hgt,ec,x3,x4,l3,l4,e6,e7,bC,bD,aH,aY,ax,au,bG (show i<=1000000 by omega),eZ (show 1<=j by omega) (show j<=1000000 by omega)]
    refine hN1 _ _ (j - 1+1 - (i+1)) (by omega) ⟨i+1,j - 1,_,by omega,by omega,by omega,rfl,a7,(hSb5.tr (dB.no sc)).tr s7,hE0,?_⟩
    simp only [SS,Nat.reduceBEq,reduceEqDiff,reduceAdd,reduceIte,reduceMul,t0,t1,t9,t10,t84,and_self]
  have xa:=aB (k:=.i64) (b:=X.b) (o:=0) (n:=X.N) (c:=X.cap) (g:=X.g) (show a<X.N by omega)
  have la:=hAb5.ld (i:=a) (by omega)
  by_cases c1:i<=j
  ·have d1:(i:Int)<=(j:Int):=by omega
   have xj:=aB (k:=.i64) (b:=X.b) (o:=0) (n:=X.N) (c:=X.cap) (g:=X.g) (show j<X.N by omega)
   have lj:=hAb5.ld (i:=j) (by omega)
   have e8:=dX (n:=m) (by omega) cur[a]! cur[j]! hb5
   cases hl:bE cur[a]! cur[j]! with
   | true =>
    rw [hl] at e8
    obtain ⟨j,rfl⟩:∃ j',j=j'+1:=⟨j - 1,by omega⟩
    simp only [qf,gj,gh,SS,Nat.reduceBEq,reduceEqDiff,reduceAdd,reduceIte,reduceMul,t0,t1,t9,t10,t84,eb5,d1,xa,xj,la,lj,e8,aI,bC,bD,aH,aY,ax,au,eZ (show 1<=j+1 by omega) (show j+1<=1000000 by omega),Nat.add_sub_cancel]
    exact hN3 _ _ j (by omega) ⟨j,by omega,by omega,rfl,hAb5,hSb5,by rw [hD];exact mM (p:=fun x=>bE cur[a]! x) c1 hl,by simp only [SS,Nat.reduceBEq,reduceEqDiff,reduceAdd,reduceIte,reduceMul,t0,t1,t9,t10,t84,and_self]⟩
   | false =>
    rw [hl] at e8
    simp only [qf,gh,SS,Nat.reduceBEq,reduceEqDiff,reduceAdd,reduceIte,reduceMul,t0,t1,t9,t10,t84,eb5,d1,xa,xj,la,lj,e8,aI,bC,bD,aH,aY,ax,au]
    refine hE3 _ _ _ (by simp) ?_
    simp only [SS,Nat.reduceBEq,reduceEqDiff,reduceAdd,reduceIte,reduceMul]
    exact go2 (.inr hl) _ (by simp only [SS,Nat.reduceBEq,t0]) (by simp only [SS,Nat.reduceBEq,t1]) (by simp only [SS,Nat.reduceBEq,t9]) (by simp only [SS,Nat.reduceBEq,t10]) (by simp only [SS,Nat.reduceBEq,t84])
  ·have d1:¬(i:Int)<=(j:Int):=by omega
   simp only [qf,gh,SS,Nat.reduceBEq,reduceEqDiff,reduceAdd,reduceIte,reduceMul,t0,t1,t9,t10,t84,eb5,d1,aI,bC,bD,aH,aY,ax,au]
   refine hE3 _ _ _ (by simp) ?_
   simp only [SS,Nat.reduceBEq,reduceEqDiff,reduceAdd,reduceIte,reduceMul]
   exact go2 (.inl c1) _ (by simp only [SS,Nat.reduceBEq,t0]) (by simp only [SS,Nat.reduceBEq,t1]) (by simp only [SS,Nat.reduceBEq,t9]) (by simp only [SS,Nat.reduceBEq,t10]) (by simp only [SS,Nat.reduceBEq,t84])
 have xa:=aB (k:=.i64) (b:=X.b) (o:=0) (n:=X.N) (c:=X.cap) (g:=X.g) (show a<X.N by omega)
 have la:=hAb4.ld (i:=a) (by omega)
 by_cases c1:i<=j0
 ·have d1:(i:Int)<=(j0:Int):=by omega
  have xi:=aB (k:=.i64) (b:=X.b) (o:=0) (n:=X.N) (c:=X.cap) (g:=X.g) (show i<X.N by omega)
  have li:=hAb4.ld (i:=i) (by omega)
  have e8:=dX (n:=m) (by omega) cur[a]! cur[i]! hb4
  cases hl:bE cur[a]! cur[i]! with
  | false =>
   rw [hl] at e8
   simp only [qf,gj,gh,SS,Nat.reduceBEq,reduceEqDiff,reduceAdd,reduceIte,reduceMul,t0,t1,t9,t10,t84,eb4,d1,xa,xi,la,li,e8,aI,bC,bD,aH,aY,ax,au,bG (show i<=1000000 by omega)]
   exact hN2 _ _ (j0+1 - (i+1)) (by omega) ⟨i+1,by omega,by omega,rfl,hAb4,hSb4,by rw [hU];exact mN c1 (show (!bE cur[a]! cur[i]!)=true by rw [hl];rfl),by simp only [SS,Nat.reduceBEq,reduceEqDiff,reduceAdd,reduceIte,reduceMul,t0,t1,t9,t10,t84,and_self]⟩
  | true =>
   rw [hl] at e8
   simp only [qf,gj,SS,Nat.reduceBEq,reduceEqDiff,reduceAdd,reduceIte,reduceMul,t0,t1,t9,t10,t84,eb4,d1,xa,xi,la,li,e8,aI,bC,bD,aH,aY,ax,au]
   refine hE2 _ _ _ (by simp) ?_
   simp only [SS,Nat.reduceBEq,reduceEqDiff,reduceAdd,reduceIte,reduceMul]
   exact go (.inr (show (!bE cur[a]! cur[i]!)=false by rw [hl];rfl)) _ (by simp only [SS,Nat.reduceBEq,t0]) (by simp only [SS,Nat.reduceBEq,t1]) (by simp only [SS,Nat.reduceBEq,t9]) (by simp only [SS,Nat.reduceBEq,t10]) (by simp only [SS,Nat.reduceBEq,t84])
 ·have d1:¬(i:Int)<=(j0:Int):=by omega
  simp only [qf,gj,SS,Nat.reduceBEq,reduceEqDiff,reduceAdd,reduceIte,reduceMul,t0,t1,t9,t10,t84,eb4,d1,aI,bC,bD,aH,aY,ax,au]
  refine hE2 _ _ _ (by simp) ?_
  simp only [SS,Nat.reduceBEq,reduceEqDiff,reduceAdd,reduceIte,reduceMul]
  exact go (.inl c1) _ (by simp only [SS,Nat.reduceBEq,t0]) (by simp only [SS,Nat.reduceBEq,t1]) (by simp only [SS,Nat.reduceBEq,t9]) (by simp only [SS,Nat.reduceBEq,t10]) (by simp only [SS,Nat.reduceBEq,t84])
end Go.Proofs.YtboobbebilegnaaGreat
namespace Go.Proofs.YtboobbebilegnaaGreat
open Go.Am Go.Sort
set_option maxRecDepth 10000
theorem pu1 {m:Nat} (hm:2<=m) {X:Px} (hN:X.N<=40000) {h:ac} {cur:Array El} (hA:X.At h cur) {a i0 j0:Nat} (ha:a<i0) (hij:i0<=j0+1) (hj:j0<X.N) {K:List Wt} {Q:XQ} {tm:Tr AV}
  (ht:tm.gt 0=some X.sv/\tm.gt 1=some (I a)/\tm.gt 10=some (I i0)/\tm.gt 11=some (I j0)/\tm.gt 168=none)
  (hK:∀ i tm2 h2,i0<=i->i<=j0+1->scanUp (fun x=>bE x cur[a]!) cur j0 i0=i->(¬i<=j0∨(bE cur[i]! cur[a]!)=false)->X.At h2 cur->dB X h h2->tm2.gt 0=some X.sv/\tm2.gt 1=some (I a)/\tm2.gt 10=some (I i)/\tm2.gt 11=some (I j0)/\tm2.gt 168=none->ret (SC m) 100000 168 175 none (.exit 0) K tm2 h2 Q) :
  run (SC m) 100000 168 175 none Pb K tm h Q:=by
 refine aF (c:=Ba) (I:=fun m' tm h'=>∃ i,i0<=i/\i<=j0+1/\m'=j0+1 - i/\X.At h' cur/\dB X h h'/\scanUp (fun x=>bE x cur[a]!) cur j0 i0=scanUp (fun x=>bE x cur[a]!) cur j0 i/\tm.gt 0=some X.sv/\tm.gt 1=some (I a)/\tm.gt 10=some (I i)/\tm.gt 11=some (I j0)/\tm.gt 168=none) (n:=j0+1 - i0)
  ⟨i0,by omega,by omega,rfl,hA,Sm.refl _ _,rfl,ht⟩ (by omega) ?_
 rintro _ tm h4 ⟨i,hi,hij,rfl,hA4,hS4,hU,t0,t1,ti,tj,tn⟩ Q2 hN2 hE2
 obtain ⟨hb4,eb4,sb4,_,_⟩:=Sm.bump h4 14
 have hAb4:=hA4.sm sb4
 have hSb4:=hS4.tr (dB.no sb4)
 have xa:=aB (k:=.i64) (b:=X.b) (o:=0) (n:=X.N) (c:=X.cap) (g:=X.g) (show a<X.N by omega)
 have la:=hAb4.ld (i:=a) (by omega)
 by_cases c1:i<=j0
 ·have d1:(i:Int)<=(j0:Int):=by omega
  have xi:=aB (k:=.i64) (b:=X.b) (o:=0) (n:=X.N) (c:=X.cap) (g:=X.g) (show i<X.N by omega)
  have li:=hAb4.ld (i:=i) (by omega)
  have e8:=dX (n:=m) (by omega) cur[i]! cur[a]! hb4
  cases hl:bE cur[i]! cur[a]! with
  | true =>
   rw [hl] at e8
   simp only [iV,SS,Nat.reduceBEq,reduceEqDiff,reduceAdd,reduceIte,reduceMul,t0,t1,ti,tj,tn,eb4,d1,xa,xi,la,li,e8,aI,bC,bD,aH,aY,ax,au,bG (show i<=1000000 by omega)]
   exact hN2 _ _ (j0+1 - (i+1)) (by omega) ⟨i+1,by omega,by omega,rfl,hAb4,hSb4,by rw [hU];exact mN (p:=fun x=>bE x cur[a]!) c1 (show (bE cur[i]! cur[a]!)=true by simp [hl]),by simp only [SS,Nat.reduceBEq,reduceEqDiff,reduceAdd,reduceIte,reduceMul,t0,t1,ti,tj,tn,and_self]⟩
  | false =>
   rw [hl] at e8
   simp only [iV,SS,Nat.reduceBEq,reduceEqDiff,reduceAdd,reduceIte,reduceMul,t0,t1,ti,tj,tn,eb4,d1,xa,xi,la,li,e8,aI,bC,bD,aH,aY,ax,au]
   have hst:¬i<=j0∨(bE cur[i]! cur[a]!)=false:=.inr (by simp [hl])
   rw [iA (p:=fun x=>bE x cur[a]!) hst] at hU
   exact hE2 _ _ _ (by simp) (hK i _ _ hi hij hU hst hAb4 hSb4 (by simp only [SS,Nat.reduceBEq,reduceEqDiff,reduceAdd,reduceIte,reduceMul,t0,t1,ti,tj,tn,and_self]))
 ·have d1:¬(i:Int)<=(j0:Int):=by omega
  simp only [iV,SS,Nat.reduceBEq,reduceEqDiff,reduceAdd,reduceIte,reduceMul,t0,t1,ti,tj,tn,eb4,d1,aI,bC,bD,aH,aY,ax,au]
  have hst:¬i<=j0∨(bE cur[i]! cur[a]!)=false:=.inl c1
  rw [iA (p:=fun x=>bE x cur[a]!) hst] at hU
  exact hE2 _ _ _ (by simp) (hK i _ _ hi hij hU hst hAb4 hSb4 (by simp only [SS,Nat.reduceBEq,reduceEqDiff,reduceAdd,reduceIte,reduceMul,t0,t1,ti,tj,tn,and_self]))
theorem pd1 {m:Nat} (hm:2<=m) {X:Px} (hN:X.N<=40000) {h:ac} {cur:Array El} (hA:X.At h cur) {a i j0:Nat} (ha:a<i) (hij:i<=j0+1) (hj:j0<X.N) {K:List Wt} {Q:XQ} {tm:Tr AV}
  (ht:tm.gt 0=some X.sv/\tm.gt 1=some (I a)/\tm.gt 10=some (I i)/\tm.gt 11=some (I j0)/\tm.gt 168=none)
  (hK:∀ j tm2 h2,i<=j+1->j<=j0->scanDown (fun x=>!bE x cur[a]!) cur i j0=j->(¬i<=j∨(!bE cur[j]! cur[a]!)=false)->X.At h2 cur->dB X h h2->tm2.gt 0=some X.sv/\tm2.gt 1=some (I a)/\tm2.gt 10=some (I i)/\tm2.gt 11=some (I j)/\tm2.gt 168=none->ret (SC m) 100000 168 175 none (.exit 2) K tm2 h2 Q) :
  run (SC m) 100000 168 175 none G3 K tm h Q:=by
 refine aF (c:=vU) (I:=fun m' tm h'=>∃ j,i<=j+1/\j<=j0/\m'=j/\X.At h' cur/\dB X h h'/\scanDown (fun x=>!bE x cur[a]!) cur i j0=scanDown (fun x=>!bE x cur[a]!) cur i j/\tm.gt 0=some X.sv/\tm.gt 1=some (I a)/\tm.gt 10=some (I i)/\tm.gt 11=some (I j)/\tm.gt 168=none) (n:=j0)
  ⟨j0,by omega,by omega,rfl,hA,Sm.refl _ _,rfl,ht⟩ (by omega) ?_
 rintro j tm h4 ⟨_,hij,hj,rfl,hA4,hS4,hD,t0,t1,ti,tj,tn⟩ Q2 hN2 hE2
 obtain ⟨hb4,eb4,sb4,_,_⟩:=Sm.bump h4 15
 have hAb4:=hA4.sm sb4
 have hSb4:=hS4.tr (dB.no sb4)
 have xa:=aB (k:=.i64) (b:=X.b) (o:=0) (n:=X.N) (c:=X.cap) (g:=X.g) (show a<X.N by omega)
 have la:=hAb4.ld (i:=a) (by omega)
 by_cases c1:i<=j
 ·have d1:(i:Int)<=(j:Int):=by omega
  have xi:=aB (k:=.i64) (b:=X.b) (o:=0) (n:=X.N) (c:=X.cap) (g:=X.g) (show j<X.N by omega)
  have li:=hAb4.ld (i:=j) (by omega)
  have e8:=dX (n:=m) (by omega) cur[j]! cur[a]! hb4
  cases hl:bE cur[j]! cur[a]! with
  | false =>
   rw [hl] at e8
   obtain ⟨j,rfl⟩:∃ j',j=j'+1:=⟨j - 1,by omega⟩
   simp only [iV,SS,Nat.reduceBEq,reduceEqDiff,reduceAdd,reduceIte,reduceMul,t0,t1,ti,tj,tn,eb4,d1,xa,xi,la,li,e8,aI,bC,bD,aH,aY,ax,au,eZ (show 1<=j+1 by omega) (show j+1<=1000000 by omega),Nat.add_sub_cancel]
   exact hN2 _ _ j (by omega) ⟨j,by omega,by omega,rfl,hAb4,hSb4,by rw [hD];exact mM (p:=fun x=>!bE x cur[a]!) c1 (show (!bE cur[j+1]! cur[a]!)=true by simp [hl]),by simp only [SS,Nat.reduceBEq,reduceEqDiff,reduceAdd,reduceIte,reduceMul,t0,t1,ti,tj,tn,and_self]⟩
  | true =>
   rw [hl] at e8
   simp only [iV,SS,Nat.reduceBEq,reduceEqDiff,reduceAdd,reduceIte,reduceMul,t0,t1,ti,tj,tn,eb4,d1,xa,xi,la,li,e8,aI,bC,bD,aH,aY,ax,au]
   have hst:¬i<=j∨(!bE cur[j]! cur[a]!)=false:=.inr (by simp [hl])
   rw [iz (p:=fun x=>!bE x cur[a]!) (by omega) hst] at hD
   exact hE2 _ _ _ (by simp) (hK j _ _ hij hj hD hst hAb4 hSb4 (by simp only [SS,Nat.reduceBEq,reduceEqDiff,reduceAdd,reduceIte,reduceMul,t0,t1,ti,tj,tn,and_self]))
 ·have d1:¬(i:Int)<=(j:Int):=by omega
  simp only [iV,SS,Nat.reduceBEq,reduceEqDiff,reduceAdd,reduceIte,reduceMul,t0,t1,ti,tj,tn,eb4,d1,aI,bC,bD,aH,aY,ax,au]
  have hst:¬i<=j∨(!bE cur[j]! cur[a]!)=false:=.inl c1
  rw [iz (p:=fun x=>!bE x cur[a]!) (by omega) hst] at hD
  exact hE2 _ _ _ (by simp) (hK j _ _ hij hj hD hst hAb4 hSb4 (by simp only [SS,Nat.reduceBEq,reduceEqDiff,reduceAdd,reduceIte,reduceMul,t0,t1,ti,tj,tn,and_self]))
theorem pu2 {m:Nat} (hm:2<=m) {X:Px} (hN:X.N<=40000) {h:ac} {cur:Array El} (hA:X.At h cur) {a i0 j0:Nat} (ha:a<i0) (hij:i0<=j0+1) (hj:j0<X.N) {K:List Wt} {Q:XQ} {tm:Tr AV}
  (ht:tm.gt 0=some X.sv/\tm.gt 1=some (I a)/\tm.gt 10=some (I i0)/\tm.gt 11=some (I j0)/\tm.gt 168=none)
  (hK:∀ i tm2 h2,i0<=i->i<=j0+1->scanUp (fun x=>bE x cur[a]!) cur j0 i0=i->(¬i<=j0∨(bE cur[i]! cur[a]!)=false)->X.At h2 cur->dB X h h2->tm2.gt 0=some X.sv/\tm2.gt 1=some (I a)/\tm2.gt 10=some (I i)/\tm2.gt 11=some (I j0)/\tm2.gt 168=none->ret (SC m) 100000 168 175 none (.exit 6) K tm2 h2 Q) :
  run (SC m) 100000 168 175 none Hg K tm h Q:=by
 refine aF (c:=vW) (I:=fun m' tm h'=>∃ i,i0<=i/\i<=j0+1/\m'=j0+1 - i/\X.At h' cur/\dB X h h'/\scanUp (fun x=>bE x cur[a]!) cur j0 i0=scanUp (fun x=>bE x cur[a]!) cur j0 i/\tm.gt 0=some X.sv/\tm.gt 1=some (I a)/\tm.gt 10=some (I i)/\tm.gt 11=some (I j0)/\tm.gt 168=none) (n:=j0+1 - i0)
  ⟨i0,by omega,by omega,rfl,hA,Sm.refl _ _,rfl,ht⟩ (by omega) ?_
 rintro _ tm h4 ⟨i,hi,hij,rfl,hA4,hS4,hU,t0,t1,ti,tj,tn⟩ Q2 hN2 hE2
 obtain ⟨hb4,eb4,sb4,_,_⟩:=Sm.bump h4 14
 have hAb4:=hA4.sm sb4
 have hSb4:=hS4.tr (dB.no sb4)
 have xa:=aB (k:=.i64) (b:=X.b) (o:=0) (n:=X.N) (c:=X.cap) (g:=X.g) (show a<X.N by omega)
 have la:=hAb4.ld (i:=a) (by omega)
 by_cases c1:i<=j0
 ·have d1:(i:Int)<=(j0:Int):=by omega
  have xi:=aB (k:=.i64) (b:=X.b) (o:=0) (n:=X.N) (c:=X.cap) (g:=X.g) (show i<X.N by omega)
  have li:=hAb4.ld (i:=i) (by omega)
  have e8:=dX (n:=m) (by omega) cur[i]! cur[a]! hb4
  cases hl:bE cur[i]! cur[a]! with
  | true =>
   rw [hl] at e8
   simp only [iV,SS,Nat.reduceBEq,reduceEqDiff,reduceAdd,reduceIte,reduceMul,t0,t1,ti,tj,tn,eb4,d1,xa,xi,la,li,e8,aI,bC,bD,aH,aY,ax,au,bG (show i<=1000000 by omega)]
   exact hN2 _ _ (j0+1 - (i+1)) (by omega) ⟨i+1,by omega,by omega,rfl,hAb4,hSb4,by rw [hU];exact mN (p:=fun x=>bE x cur[a]!) c1 (show (bE cur[i]! cur[a]!)=true by simp [hl]),by simp only [SS,Nat.reduceBEq,reduceEqDiff,reduceAdd,reduceIte,reduceMul,t0,t1,ti,tj,tn,and_self]⟩
  | false =>
   rw [hl] at e8
   simp only [iV,SS,Nat.reduceBEq,reduceEqDiff,reduceAdd,reduceIte,reduceMul,t0,t1,ti,tj,tn,eb4,d1,xa,xi,la,li,e8,aI,bC,bD,aH,aY,ax,au]
   have hst:¬i<=j0∨(bE cur[i]! cur[a]!)=false:=.inr (by simp [hl])
   rw [iA (p:=fun x=>bE x cur[a]!) hst] at hU
   exact hE2 _ _ _ (by simp) (hK i _ _ hi hij hU hst hAb4 hSb4 (by simp only [SS,Nat.reduceBEq,reduceEqDiff,reduceAdd,reduceIte,reduceMul,t0,t1,ti,tj,tn,and_self]))
 ·have d1:¬(i:Int)<=(j0:Int):=by omega
  simp only [iV,SS,Nat.reduceBEq,reduceEqDiff,reduceAdd,reduceIte,reduceMul,t0,t1,ti,tj,tn,eb4,d1,aI,bC,bD,aH,aY,ax,au]
  have hst:¬i<=j0∨(bE cur[i]! cur[a]!)=false:=.inl c1
  rw [iA (p:=fun x=>bE x cur[a]!) hst] at hU
  exact hE2 _ _ _ (by simp) (hK i _ _ hi hij hU hst hAb4 hSb4 (by simp only [SS,Nat.reduceBEq,reduceEqDiff,reduceAdd,reduceIte,reduceMul,t0,t1,ti,tj,tn,and_self]))
theorem pd2 {m:Nat} (hm:2<=m) {X:Px} (hN:X.N<=40000) {h:ac} {cur:Array El} (hA:X.At h cur) {a i j0:Nat} (ha:a<i) (hij:i<=j0+1) (hj:j0<X.N) {K:List Wt} {Q:XQ} {tm:Tr AV}
  (ht:tm.gt 0=some X.sv/\tm.gt 1=some (I a)/\tm.gt 10=some (I i)/\tm.gt 11=some (I j0)/\tm.gt 168=none)
  (hK:∀ j tm2 h2,i<=j+1->j<=j0->scanDown (fun x=>!bE x cur[a]!) cur i j0=j->(¬i<=j∨(!bE cur[j]! cur[a]!)=false)->X.At h2 cur->dB X h h2->tm2.gt 0=some X.sv/\tm2.gt 1=some (I a)/\tm2.gt 10=some (I i)/\tm2.gt 11=some (I j)/\tm2.gt 168=none->ret (SC m) 100000 168 175 none (.exit 8) K tm2 h2 Q) :
  run (SC m) 100000 168 175 none Hj K tm h Q:=by
 refine aF (c:=vX) (I:=fun m' tm h'=>∃ j,i<=j+1/\j<=j0/\m'=j/\X.At h' cur/\dB X h h'/\scanDown (fun x=>!bE x cur[a]!) cur i j0=scanDown (fun x=>!bE x cur[a]!) cur i j/\tm.gt 0=some X.sv/\tm.gt 1=some (I a)/\tm.gt 10=some (I i)/\tm.gt 11=some (I j)/\tm.gt 168=none) (n:=j0)
  ⟨j0,by omega,by omega,rfl,hA,Sm.refl _ _,rfl,ht⟩ (by omega) ?_
 rintro j tm h4 ⟨_,hij,hj,rfl,hA4,hS4,hD,t0,t1,ti,tj,tn⟩ Q2 hN2 hE2
 obtain ⟨hb4,eb4,sb4,_,_⟩:=Sm.bump h4 15
 have hAb4:=hA4.sm sb4
 have hSb4:=hS4.tr (dB.no sb4)
 have xa:=aB (k:=.i64) (b:=X.b) (o:=0) (n:=X.N) (c:=X.cap) (g:=X.g) (show a<X.N by omega)
 have la:=hAb4.ld (i:=a) (by omega)
 by_cases c1:i<=j
 ·have d1:(i:Int)<=(j:Int):=by omega
  have xi:=aB (k:=.i64) (b:=X.b) (o:=0) (n:=X.N) (c:=X.cap) (g:=X.g) (show j<X.N by omega)
  have li:=hAb4.ld (i:=j) (by omega)
  have e8:=dX (n:=m) (by omega) cur[j]! cur[a]! hb4
  cases hl:bE cur[j]! cur[a]! with
  | false =>
   rw [hl] at e8
   obtain ⟨j,rfl⟩:∃ j',j=j'+1:=⟨j - 1,by omega⟩
   simp only [iV,SS,Nat.reduceBEq,reduceEqDiff,reduceAdd,reduceIte,reduceMul,t0,t1,ti,tj,tn,eb4,d1,xa,xi,la,li,e8,aI,bC,bD,aH,aY,ax,au,eZ (show 1<=j+1 by omega) (show j+1<=1000000 by omega),Nat.add_sub_cancel]
   exact hN2 _ _ j (by omega) ⟨j,by omega,by omega,rfl,hAb4,hSb4,by rw [hD];exact mM (p:=fun x=>!bE x cur[a]!) c1 (show (!bE cur[j+1]! cur[a]!)=true by simp [hl]),by simp only [SS,Nat.reduceBEq,reduceEqDiff,reduceAdd,reduceIte,reduceMul,t0,t1,ti,tj,tn,and_self]⟩
  | true =>
   rw [hl] at e8
   simp only [iV,SS,Nat.reduceBEq,reduceEqDiff,reduceAdd,reduceIte,reduceMul,t0,t1,ti,tj,tn,eb4,d1,xa,xi,la,li,e8,aI,bC,bD,aH,aY,ax,au]
   have hst:¬i<=j∨(!bE cur[j]! cur[a]!)=false:=.inr (by simp [hl])
   rw [iz (p:=fun x=>!bE x cur[a]!) (by omega) hst] at hD
   exact hE2 _ _ _ (by simp) (hK j _ _ hij hj hD hst hAb4 hSb4 (by simp only [SS,Nat.reduceBEq,reduceEqDiff,reduceAdd,reduceIte,reduceMul,t0,t1,ti,tj,tn,and_self]))
 ·have d1:¬(i:Int)<=(j:Int):=by omega
  simp only [iV,SS,Nat.reduceBEq,reduceEqDiff,reduceAdd,reduceIte,reduceMul,t0,t1,ti,tj,tn,eb4,d1,aI,bC,bD,aH,aY,ax,au]
  have hst:¬i<=j∨(!bE cur[j]! cur[a]!)=false:=.inl c1
  rw [iz (p:=fun x=>!bE x cur[a]!) (by omega) hst] at hD
  exact hE2 _ _ _ (by simp) (hK j _ _ hij hj hD hst hAb4 hSb4 (by simp only [SS,Nat.reduceBEq,reduceEqDiff,reduceAdd,reduceIte,reduceMul,t0,t1,ti,tj,tn,and_self]))
theorem iT {X:Px} {h:ac} {D:Array El} (hA:X.At h D) {i j:Nat} (n:Nat) (hi:i<X.N) (hj:j<X.N) :
  ∃ hb h1 h2,ac.mk h.bs (h.next+n)=hb/\hb.ld1 X.b i=some (en D[i]!)/\hb.ld1 X.b j=some (en D[j]!)/\hb.st1 X.b i (en D[j]!)=some h1/\h1.st1 X.b j (en D[i]!)=some h2/\X.At h2 (swp D i j)/\dB X h h2:=by
 obtain ⟨hb,eb,sb,_,_⟩:=Sm.bump h n
 have hAb:=hA.sm sb
 obtain ⟨h1,h2,e1,e2,a2,s2⟩:=hAb.swap hi hj
 exact ⟨hb,h1,h2,eb,hAb.ld hi,hAb.ld hj,e1,e2,a2,(dB.no sb).tr s2⟩
theorem VG {n:Nat} (hn:3<=n) {X:Px} (hN:X.N<=40000) {h:ac} {D:Array El} (hA:X.At h D) {a e p:Nat} (hap:a<=p) (hpe:p<e) (he:e<=X.N) :
  WC (SC n (.fn 175) [X.sv,I a,I e,I p] h) fun r h'=>r=.tuple [I (partition bE D a e p).1,.bool (partition bE D a e p).2.1]/\X.At h' (partition bE D a e p).2.2/\dB X h h':=by
 obtain ⟨m,rfl⟩:∃ m,n=m+1:=⟨n - 1,by omega⟩
 refine ak _ zez rfl (by simp [IH]) fun QQ hQ=>?_
 simp only [IH] at hQ
 simp only [IH,ah,ai,Nat.zero_add,reduceAdd]
 obtain ⟨hb,h1,h2,eb,l1,l2,e1,e2,a2,s2⟩:=iT hA 16 (i:=a) (j:=p) (by omega) (by omega)
 have xa:=aB (k:=.i64) (b:=X.b) (o:=0) (n:=X.N) (c:=X.cap) (g:=X.g) (show a<X.N by omega)
 have xp:=aB (k:=.i64) (b:=X.b) (o:=0) (n:=X.N) (c:=X.cap) (g:=X.g) (show p<X.N by omega)
 simp only [iV,SS,Nat.reduceBEq,reduceEqDiff,reduceAdd,reduceIte,reduceMul,eb,xa,xp,l1,l2,e1,e2,bC,bD,aH,aY,ax,au,bG (show a<=1000000 by omega),eZ (show 1<=e by omega) (show e<=1000000 by omega)]
 obtain ⟨cur,hcur⟩:∃ cur,swp D a p=cur:=⟨_,rfl⟩
 rw [hcur] at a2
 refine pu1 (m:=m) (by omega) hN a2 (a:=a) (i0:=a+1) (j0:=e - 1) (by omega) (by omega) (by omega) (by simp only [SS,Nat.reduceBEq,reduceEqDiff,reduceAdd,reduceIte,reduceMul,and_self]) ?_
 intro i tm h3 hi1 hi2 hU hst3 A3 s3 ⟨t0,t1,t10,t11,tn⟩
 simp only [iV,SS,Nat.reduceBEq,reduceEqDiff,reduceAdd,reduceIte,reduceMul,t0,t1,t10,t11,tn]
 refine pd1 (m:=m) (by omega) hN A3 (a:=a) (i:=i) (j0:=e - 1) (by omega) (by omega) (by omega) (by simp only [SS,Nat.reduceBEq,reduceEqDiff,reduceAdd,reduceIte,reduceMul,t0,t1,t10,t11,tn,and_self]) ?_
 intro j tm h4 hj1 hj2 hD hst4 A4 s4 ⟨t0,t1,t10,t11,tn⟩
 have s04:dB X h h4:=(s2.tr s3).tr s4
 have hdef:partition bE D a e p=if i > j then (j,true,swp cur j a) else ((partLoop bE a (i+1) (j - 1) (swp cur i j)).1,false,swp (partLoop bE a (i+1) (j - 1) (swp cur i j)).2 (partLoop bE a (i+1) (j - 1) (swp cur i j)).1 a):=by
  unfold partition
  simp only [hcur,hU,hD]
 rw [hdef] at hQ
 have xj:=aB (k:=.i64) (b:=X.b) (o:=0) (n:=X.N) (c:=X.cap) (g:=X.g) (show j<X.N by omega)
 by_cases c1:j<i
 ·rw [if_pos c1] at hQ
  obtain ⟨hb5,h5,h6,eb5,l5,l6,e5,e6,a6,s6⟩:=iT A4 16 (i:=j) (j:=a) (by omega) (by omega)
  simp only [iV,SS,Nat.reduceBEq,reduceEqDiff,reduceAdd,reduceIte,reduceMul,t0,t1,t10,t11,tn,Int.ofNat_lt,c1,eb5,xa,xj,l5,l6,e5,e6,bC,bD,aH,aY,ax,au]
  refine hQ _ _ _ _ (.inr rfl) (by simp only [SS,Nat.reduceBEq,reduceEqDiff,reduceAdd,reduceIte,reduceMul,tn]) (by simp only [SS,Nat.reduceBEq,reduceEqDiff,reduceAdd,reduceIte,reduceMul];rfl) ?_
  exact ⟨rfl,a6,s04.tr s6⟩
 ·rw [if_neg c1] at hQ
  have hne:i≠j:=by
   intro e
   subst e
   rcases hst3 with h | h
   ·omega
   ·rcases hst4 with h' | h'
    ·omega
    ·rw [h] at h';cases h'
  obtain ⟨hb5,h5,h6,eb5,l5,l6,e5,e6,a6,s6⟩:=iT A4 16 (i:=i) (j:=j) (by omega) (by omega)
  have xi:=aB (k:=.i64) (b:=X.b) (o:=0) (n:=X.N) (c:=X.cap) (g:=X.g) (show i<X.N by omega)
  simp only [iV,SS,Nat.reduceBEq,reduceEqDiff,reduceAdd,reduceIte,reduceMul,t0,t1,t10,t11,tn,Int.ofNat_lt,c1,eb5,xi,xj,l5,l6,e5,e6,bC,bD,aH,aY,ax,au,bG (show i<=1000000 by omega),eZ (show 1<=j by omega) (show j<=1000000 by omega)]
  obtain ⟨R,hR⟩:∃ R,partLoop bE a (i+1) (j - 1) (swp cur i j)=R:=⟨_,rfl⟩
  rw [hR] at hQ
  refine aF (c:=vV) (I:=fun m' tm' h'=>∃ i j cur,a<i/\i<=j+1/\j<e/\m'=j+1 - i/\X.At h' cur/\dB X h h'/\partLoop bE a i j cur=R/\tm'.gt 0=some X.sv/\tm'.gt 1=some (I a)/\tm'.gt 10=some (I i)/\tm'.gt 11=some (I j)/\tm'.gt 168=none) (n:=j - 1+1 - (i+1))
   ⟨i+1,j - 1,_,by omega,by omega,by omega,rfl,a6,s04.tr s6,hR,by simp only [SS,Nat.reduceBEq,reduceEqDiff,reduceAdd,reduceIte,reduceMul,t0,t1,tn,and_self]⟩ (by omega) ?_
  clear hdef hU hD hR hst3 hst4 c1 hcur
  rintro _ tm h7 ⟨i0,j0,cur,hi0,hij0,hj0,rfl,A7,s7,hE0,t0,t1,t10,t11,tn⟩ Q1 hN1 hE
  rw [partLoop_eq] at hE0
  simp only [iV,SS,Nat.reduceBEq,reduceEqDiff,reduceAdd,reduceIte,reduceMul,t0,t1,t10,t11,tn]
  refine pu2 (m:=m) (by omega) hN A7 (a:=a) (i0:=i0) (j0:=j0) (by omega) (by omega) (by omega) (by simp only [SS,Nat.reduceBEq,reduceEqDiff,reduceAdd,reduceIte,reduceMul,t0,t1,t10,t11,tn,and_self]) ?_
  intro i tm h8 hi1 hi2 hU hst8 A8 s8 ⟨t0,t1,t10,t11,tn⟩
  simp only [iV,SS,Nat.reduceBEq,reduceEqDiff,reduceAdd,reduceIte,reduceMul,t0,t1,t10,t11,tn]
  refine pd2 (m:=m) (by omega) hN A8 (a:=a) (i:=i) (j0:=j0) (by omega) (by omega) (by omega) (by simp only [SS,Nat.reduceBEq,reduceEqDiff,reduceAdd,reduceIte,reduceMul,t0,t1,t10,t11,tn,and_self]) ?_
  intro j tm h9 hj1 hj2 hD hst9 A9 s9 ⟨t0,t1,t10,t11,tn⟩
  have s09:dB X h h9:=(s7.tr s8).tr s9
  simp only [hU,hD] at hE0
  by_cases c1:j<i
  ·rw [if_pos c1] at hE0
   simp only [iV,SS,Nat.reduceBEq,reduceEqDiff,reduceAdd,reduceIte,reduceMul,t0,t1,t10,t11,tn,Int.ofNat_lt,c1]
   refine hE _ _ _ (by simp) ?_
   obtain ⟨hb5,h5,h6,eb5,l5,l6,e5,e6,a6,s6⟩:=iT A9 16 (i:=j) (j:=a) (by omega) (by omega)
   have xj:=aB (k:=.i64) (b:=X.b) (o:=0) (n:=X.N) (c:=X.cap) (g:=X.g) (show j<X.N by omega)
   simp only [iV,SS,Nat.reduceBEq,reduceEqDiff,reduceAdd,reduceIte,reduceMul,t0,t1,t10,t11,tn,eb5,xa,xj,l5,l6,e5,e6,bC,bD,aH,aY,ax,au]
   refine hQ _ _ _ _ (.inr rfl) (by simp only [SS,Nat.reduceBEq,reduceEqDiff,reduceAdd,reduceIte,reduceMul,tn]) (by simp only [SS,Nat.reduceBEq,reduceEqDiff,reduceAdd,reduceIte,reduceMul];rfl) ?_
   rw [← hE0]
   exact ⟨rfl,a6,s09.tr s6⟩
  ·rw [if_neg c1] at hE0
   have hne:i≠j:=by
    intro e
    subst e
    rcases hst8 with h | h
    ·omega
    ·rcases hst9 with h' | h'
     ·omega
     ·rw [h] at h';cases h'
   obtain ⟨hb5,h5,h6,eb5,l5,l6,e5,e6,a6,s6⟩:=iT A9 16 (i:=i) (j:=j) (by omega) (by omega)
   have xi:=aB (k:=.i64) (b:=X.b) (o:=0) (n:=X.N) (c:=X.cap) (g:=X.g) (show i<X.N by omega)
   have xj:=aB (k:=.i64) (b:=X.b) (o:=0) (n:=X.N) (c:=X.cap) (g:=X.g) (show j<X.N by omega)
   simp only [iV,SS,Nat.reduceBEq,reduceEqDiff,reduceAdd,reduceIte,reduceMul,t0,t1,t10,t11,tn,Int.ofNat_lt,c1,eb5,xi,xj,l5,l6,e5,e6,bC,bD,aH,aY,ax,au,bG (show i<=1000000 by omega),eZ (show 1<=j by omega) (show j<=1000000 by omega)]
   exact hN1 _ _ (j - 1+1 - (i+1)) (by omega) ⟨i+1,j - 1,_,by omega,by omega,by omega,rfl,a6,s09.tr s6,hE0,by simp only [SS,Nat.reduceBEq,reduceEqDiff,reduceAdd,reduceIte,reduceMul,t0,t1,tn,and_self]⟩
end Go.Proofs.YtboobbebilegnaaGreat
namespace Go.Proofs.YtboobbebilegnaaGreat
open Go.Am Go.Sort
set_option maxRecDepth 10000
theorem VK {m:Nat} (hm:2<=m) {X:Px} (hN:X.N<=40000) {h:ac} {cur:Array El} (hA:X.At h cur) {e i0:Nat} {J:Int} (h1:1<=i0) (hie:i0<=e) (he:e<=X.N) {a:Nat} {K:List Wt} {Q:XQ} {tm:Tr AV}
  (ht:tm.gt 0=some X.sv/\tm.gt 1=some (I a)/\tm.gt 2=some (I e)/\tm.gt 7=some (I i0)/\tm.gt 8=some (.int .i64 J)/\tm.gt 133=none)
  (hK:∀ i tm2 h2,i0<=i->i<=e->scanSorted bE cur e i0=i->X.At h2 cur->dB X h h2->tm2.gt 0=some X.sv/\tm2.gt 1=some (I a)/\tm2.gt 2=some (I e)/\tm2.gt 7=some (I i)/\tm2.gt 8=some (.int .i64 J)/\tm2.gt 133=none->ret (SC m) 100000 133 172 none (.exit 2) K tm2 h2 Q) :
  run (SC m) 100000 133 172 none Gn K tm h Q:=by
 refine aF (c:=vP) (I:=fun m' tm h'=>∃ i,i0<=i/\i<=e/\m'=e - i/\X.At h' cur/\dB X h h'/\scanSorted bE cur e i0=scanSorted bE cur e i/\tm.gt 0=some X.sv/\tm.gt 1=some (I a)/\tm.gt 2=some (I e)/\tm.gt 7=some (I i)/\tm.gt 8=some (.int .i64 J)/\tm.gt 133=none) (n:=e - i0)
  ⟨i0,by omega,by omega,rfl,hA,Sm.refl _ _,rfl,ht⟩ (by omega) ?_
 rintro _ tm h4 ⟨i,hi,hie,rfl,hA4,hS4,hU,t0,t1,t2,t7,t8,tn⟩ Q2 hN2 hE2
 obtain ⟨hb4,eb4,sb4,_,_⟩:=Sm.bump h4 16
 have hAb4:=hA4.sm sb4
 have hSb4:=hS4.tr (dB.no sb4)
 by_cases c1:i<e
 ·have xa:=aB (k:=.i64) (b:=X.b) (o:=0) (n:=X.N) (c:=X.cap) (g:=X.g) (show i<X.N by omega)
  have xb:=aB (k:=.i64) (b:=X.b) (o:=0) (n:=X.N) (c:=X.cap) (g:=X.g) (show i - 1<X.N by omega)
  have la:=hAb4.ld (i:=i) (by omega)
  have lb:=hAb4.ld (i:=i - 1) (by omega)
  have e8:=dX (n:=m) (by omega) cur[i]! cur[i - 1]! hb4
  cases hl:bE cur[i]! cur[i - 1]! with
  | false =>
   rw [hl] at e8
   simp only [jb,cT,cU,SS,Nat.reduceBEq,reduceEqDiff,reduceAdd,reduceIte,reduceMul,t0,t1,t2,t7,t8,tn,eb4,Int.ofNat_lt,c1,xa,xb,la,lb,eZ (show 1<=i by omega) (show i<=1000000 by omega),e8,aI,bC,bD,aH,aY,ax,au,bG (show i<=1000000 by omega)]
   exact hN2 _ _ (e - (i+1)) (by omega) ⟨i+1,by omega,by omega,rfl,hAb4,hSb4,by rw [hU,scanSorted,if_pos];simp [c1,hl],by simp only [SS,Nat.reduceBEq,reduceEqDiff,reduceAdd,reduceIte,reduceMul,t0,t1,t2,t7,t8,tn,and_self]⟩
  | true =>
   rw [hl] at e8
   simp only [jb,cT,cU,SS,Nat.reduceBEq,reduceEqDiff,reduceAdd,reduceIte,reduceMul,t0,t1,t2,t7,t8,tn,eb4,Int.ofNat_lt,c1,xa,xb,la,lb,eZ (show 1<=i by omega) (show i<=1000000 by omega),e8,aI,bC,bD,aH,aY,ax,au]
   exact hE2 _ _ _ (by simp) (hK i _ _ hi hie (by rw [hU,scanSorted,if_neg];simp [hl]) hAb4 hSb4 (by simp only [SS,Nat.reduceBEq,reduceEqDiff,reduceAdd,reduceIte,reduceMul,t0,t1,t2,t7,t8,tn,and_self]))
 ·simp only [jb,cT,cU,SS,Nat.reduceBEq,reduceEqDiff,reduceAdd,reduceIte,reduceMul,t0,t1,t2,t7,t8,tn,eb4,Int.ofNat_lt,c1,aI,bC,bD,aH,aY,ax,au]
  exact hE2 _ _ _ (by simp) (hK i _ _ hi hie (by rw [hU,scanSorted,if_neg];simp [c1]) hAb4 hSb4 (by simp only [SS,Nat.reduceBEq,reduceEqDiff,reduceAdd,reduceIte,reduceMul,t0,t1,t2,t7,t8,tn,and_self]))
theorem VJ {m:Nat} (hm:2<=m) {X:Px} (hN:X.N<=40000) {h:ac} {D:Array El} (hA:X.At h D) {e i a j0:Nat} {J:Int} (hj:j0<X.N) {K:List Wt} {Q:XQ} {tm:Tr AV}
  (ht:tm.gt 0=some X.sv/\tm.gt 1=some (I a)/\tm.gt 2=some (I e)/\tm.gt 7=some (I i)/\tm.gt 8=some (.int .i64 J)/\tm.gt 9=some (I j0)/\tm.gt 133=none)
  (hK:∀ tm2 h2,X.At h2 (shiftDown bE j0 D)->dB X h h2->tm2.gt 0=some X.sv/\tm2.gt 1=some (I a)/\tm2.gt 2=some (I e)/\tm2.gt 7=some (I i)/\tm2.gt 8=some (.int .i64 J)/\tm2.gt 133=none->ret (SC m) 100000 133 172 none (.exit 4) K tm2 h2 Q) :
  run (SC m) 100000 133 172 none GB K tm h Q:=by
 refine aF (c:=vQ) (I:=fun m' tm h'=>∃ j cur,j<=j0/\m'=j/\X.At h' cur/\dB X h h'/\shiftDown bE j cur=shiftDown bE j0 D/\tm.gt 0=some X.sv/\tm.gt 1=some (I a)/\tm.gt 2=some (I e)/\tm.gt 7=some (I i)/\tm.gt 8=some (.int .i64 J)/\tm.gt 9=some (I j)/\tm.gt 133=none) (n:=j0)
  ⟨j0,D,by omega,rfl,hA,Sm.refl _ _,rfl,ht⟩ (by omega) ?_
 rintro j tm h4 ⟨_,cur,hjj,rfl,hA4,hS4,hU,t0,t1,t2,t7,t8,t9,tn⟩ Q2 hN2 hE2
 cases j with
 | zero =>
  have d1:¬(1:Int)<=((0:Nat):Int):=by decide
  simp only [jb,cT,cU,SS,Nat.reduceBEq,reduceEqDiff,reduceAdd,reduceIte,reduceMul,t0,t1,t2,t7,t8,t9,tn,d1]
  exact hE2 _ _ _ (by simp) (hK _ _ (by rw [← hU];exact hA4) hS4 (by simp only [SS,Nat.reduceBEq,reduceEqDiff,reduceAdd,reduceIte,reduceMul,t0,t1,t2,t7,t8,tn,and_self]))
 | succ j =>
  have d1:(1:Int)<=((j+1:Nat):Int):=by omega
  obtain ⟨hb4,eb4,sb4,_,_⟩:=Sm.bump h4 11
  have hAb4:=hA4.sm sb4
  have hSb4:=hS4.tr (dB.no sb4)
  have xa:=aB (k:=.i64) (b:=X.b) (o:=0) (n:=X.N) (c:=X.cap) (g:=X.g) (show j+1<X.N by omega)
  have xb:=aB (k:=.i64) (b:=X.b) (o:=0) (n:=X.N) (c:=X.cap) (g:=X.g) (show j<X.N by omega)
  have la:=hAb4.ld (i:=j+1) (by omega)
  have lb:=hAb4.ld (i:=j) (by omega)
  have ew:IntKind.i64.wrap (((j+1:Nat):Int) - 1)=(j:Int):=by rw [wrap_i64 (by omega) (by omega)];omega
  have e8:=dX (n:=m) (by omega) cur[j+1]! cur[j]! hb4
  cases hl:bE cur[j+1]! cur[j]! with
  | true =>
   rw [hl] at e8
   obtain ⟨hb5,h5,h6,eb5,l5,l6,e5,e6,a6,s6⟩:=iT hAb4 18 (i:=j+1) (j:=j) (by omega) (by omega)
   simp only [jb,cT,cU,SS,Nat.reduceBEq,reduceEqDiff,reduceAdd,reduceIte,reduceMul,t0,t1,t2,t7,t8,t9,tn,d1,eb4,xa,xb,la,lb,ew,e8,eb5,l5,l6,e5,e6,aI,bC,bD,aH,aY,ax,au]
   exact hN2 _ _ j (by omega) ⟨j,_,by omega,rfl,a6,hSb4.tr s6,by rw [← hU,shiftDown,if_neg];simp [hl],by simp only [SS,Nat.reduceBEq,reduceEqDiff,reduceAdd,reduceIte,reduceMul,t0,t1,t2,t7,t8,tn,and_self]⟩
  | false =>
   rw [hl] at e8
   simp only [jb,cT,cU,SS,Nat.reduceBEq,reduceEqDiff,reduceAdd,reduceIte,reduceMul,t0,t1,t2,t7,t8,t9,tn,d1,eb4,xa,xb,la,lb,ew,e8,aI,bC,bD,aH,aY,ax,au]
   exact hE2 _ _ _ (by simp) (hK _ _ (by rw [← hU,shiftDown,if_pos (by simp [hl])];exact hAb4) hSb4 (by simp only [SS,Nat.reduceBEq,reduceEqDiff,reduceAdd,reduceIte,reduceMul,t0,t1,t2,t7,t8,tn,and_self]))
theorem ze7 {m:Nat} (hm:2<=m) {X:Px} (hN:X.N<=40000) {h:ac} {D:Array El} (hA:X.At h D) {e i a j0:Nat} {J:Int} (hj1:1<=j0) (hj:j0<=e) (he:e<=X.N) {K:List Wt} {Q:XQ} {tm:Tr AV}
  (ht:tm.gt 0=some X.sv/\tm.gt 1=some (I a)/\tm.gt 2=some (I e)/\tm.gt 7=some (I i)/\tm.gt 8=some (.int .i64 J)/\tm.gt 10=some (I j0)/\tm.gt 133=none)
  (hK:∀ tm2 h2,X.At h2 (shiftUp bE e j0 D)->dB X h h2->tm2.gt 0=some X.sv/\tm2.gt 1=some (I a)/\tm2.gt 2=some (I e)/\tm2.gt 7=some (I i)/\tm2.gt 8=some (.int .i64 J)/\tm2.gt 133=none->ret (SC m) 100000 133 172 none (.exit 6) K tm2 h2 Q) :
  run (SC m) 100000 133 172 none GJ K tm h Q:=by
 refine aF (c:=vR) (I:=fun m' tm h'=>∃ j cur,j0<=j/\j<=e/\m'=e - j/\X.At h' cur/\dB X h h'/\shiftUp bE e j cur=shiftUp bE e j0 D/\tm.gt 0=some X.sv/\tm.gt 1=some (I a)/\tm.gt 2=some (I e)/\tm.gt 7=some (I i)/\tm.gt 8=some (.int .i64 J)/\tm.gt 10=some (I j)/\tm.gt 133=none) (n:=e - j0)
  ⟨j0,D,by omega,by omega,rfl,hA,Sm.refl _ _,rfl,ht⟩ (by omega) ?_
 rintro _ tm h4 ⟨j,cur,hjj,hje,rfl,hA4,hS4,hU,t0,t1,t2,t7,t8,t10,tn⟩ Q2 hN2 hE2
 by_cases c1:j<e
 ·obtain ⟨hb4,eb4,sb4,_,_⟩:=Sm.bump h4 11
  have hAb4:=hA4.sm sb4
  have hSb4:=hS4.tr (dB.no sb4)
  have xa:=aB (k:=.i64) (b:=X.b) (o:=0) (n:=X.N) (c:=X.cap) (g:=X.g) (show j<X.N by omega)
  have xb:=aB (k:=.i64) (b:=X.b) (o:=0) (n:=X.N) (c:=X.cap) (g:=X.g) (show j - 1<X.N by omega)
  have la:=hAb4.ld (i:=j) (by omega)
  have lb:=hAb4.ld (i:=j - 1) (by omega)
  have ew:=eZ (show 1<=j by omega) (show j<=1000000 by omega)
  have e8:=dX (n:=m) (by omega) cur[j]! cur[j - 1]! hb4
  cases hl:bE cur[j]! cur[j - 1]! with
  | true =>
   rw [hl] at e8
   obtain ⟨hb5,h5,h6,eb5,l5,l6,e5,e6,a6,s6⟩:=iT hAb4 18 (i:=j) (j:=j - 1) (by omega) (by omega)
   simp only [jb,cT,cU,SS,Nat.reduceBEq,reduceEqDiff,reduceAdd,reduceIte,reduceMul,t0,t1,t2,t7,t8,t10,tn,Int.ofNat_lt,c1,eb4,xa,xb,la,lb,ew,e8,eb5,l5,l6,e5,e6,aI,bC,bD,aH,aY,ax,au,bG (show j<=1000000 by omega)]
   exact hN2 _ _ (e - (j+1)) (by omega) ⟨j+1,_,by omega,by omega,rfl,a6,hSb4.tr s6,by rw [← hU];conv=>rhs;rw [shiftUp,if_pos c1,if_neg (by simp [hl])],by simp only [SS,Nat.reduceBEq,reduceEqDiff,reduceAdd,reduceIte,reduceMul,t0,t1,t2,t7,t8,tn,and_self]⟩
  | false =>
   rw [hl] at e8
   simp only [jb,cT,cU,SS,Nat.reduceBEq,reduceEqDiff,reduceAdd,reduceIte,reduceMul,t0,t1,t2,t7,t8,t10,tn,Int.ofNat_lt,c1,eb4,xa,xb,la,lb,ew,e8,aI,bC,bD,aH,aY,ax,au]
   exact hE2 _ _ _ (by simp) (hK _ _ (by rw [← hU,shiftUp,if_pos c1,if_pos (by simp [hl])];exact hAb4) hSb4 (by simp only [SS,Nat.reduceBEq,reduceEqDiff,reduceAdd,reduceIte,reduceMul,t0,t1,t2,t7,t8,tn,and_self]))
 ·simp only [jb,cT,cU,SS,Nat.reduceBEq,reduceEqDiff,reduceAdd,reduceIte,reduceMul,t0,t1,t2,t7,t8,t10,tn,Int.ofNat_lt,c1]
  exact hE2 _ _ _ (by simp) (hK _ _ (by rw [← hU,shiftUp,if_neg c1];exact hA4) hS4 (by simp only [SS,Nat.reduceBEq,reduceEqDiff,reduceAdd,reduceIte,reduceMul,t0,t1,t2,t7,t8,tn,and_self]))
theorem VL {n:Nat} (hn:3<=n) {X:Px} (hN:X.N<=40000) {h:ac} {D:Array El} (hA:X.At h D) {a e:Nat} (hae:a<e) (he:e<=X.N) :
  WC (SC n (.fn 172) [X.sv,I a,I e] h) fun r h'=>r=.bool (partialInsertionSort bE D a e).2/\X.At h' (partialInsertionSort bE D a e).1/\dB X h h':=by
 obtain ⟨m,rfl⟩:∃ m,n=m+1:=⟨n - 1,by omega⟩
 refine ak _ zew rfl (by simp [IE]) fun QQ hQ=>?_
 simp only [IE] at hQ
 simp only [IE,ah,ai,Nat.zero_add,reduceAdd]
 obtain ⟨R,hR⟩:∃ R,partialInsertionSort bE D a e=R:=⟨_,rfl⟩
 rw [hR] at hQ
 have hR:partialIns bE a e 5 (a+1) D=R:=hR
 simp only [jb,cT,cU,SS,Nat.reduceBEq,reduceEqDiff,reduceAdd,reduceIte,reduceMul,bG (show a<=1000000 by omega)]
 refine aF (c:=AZ) (I:=fun m' tm' h'=>∃ s i cur,s<=5/\m'=s/\a+1<=i/\i<=e/\X.At h' cur/\dB X h h'/\partialIns bE a e s i cur=R/\tm'.gt 0=some X.sv/\tm'.gt 1=some (I a)/\tm'.gt 2=some (I e)/\tm'.gt 7=some (I i)/\tm'.gt 8=some (I (5 - s))/\tm'.gt 133=none) (n:=5)
  ⟨5,a+1,D,by omega,rfl,by omega,by omega,hA,Sm.refl _ _,hR,by simp [fe,dN,gt_leaf]⟩ (by omega) ?_
 rintro s tm h1 ⟨_,i0,cur,hs,rfl,hi1,hi2,A1,s1,hE0,t0,t1,t2,t7,t8,tn⟩ Q1 hN1 hE
 cases s with
 | zero =>
  have d1:¬((5 - 0:Nat):Int)<5:=by decide
  simp only [jb,cT,cU,SS,Nat.reduceBEq,reduceEqDiff,reduceAdd,reduceIte,reduceMul,t0,t1,t2,t7,t8,tn,d1]
  refine hE _ _ _ (by simp) ?_
  simp only [jb,cT,cU,SS,Nat.reduceBEq,reduceEqDiff,reduceAdd,reduceIte,reduceMul,tn]
  refine hQ _ _ _ _ (.inr rfl) (by simp only [SS,Nat.reduceBEq,reduceEqDiff,reduceAdd,reduceIte,reduceMul,tn]) (by simp only [SS,Nat.reduceBEq,reduceEqDiff,reduceAdd,reduceIte,reduceMul];rfl) ?_
  rw [← hE0];exact ⟨rfl,A1,s1⟩
 | succ s =>
  rw [partialIns_succ] at hE0
  unfold fixUp fixDown at hE0
  have d1:((5 - (s+1):Nat):Int)<5:=by omega
  simp only [jb,cT,cU,SS,Nat.reduceBEq,reduceEqDiff,reduceAdd,reduceIte,reduceMul,t0,t1,t2,t7,t8,tn,d1]
  refine VK (J:=((5 - (s+1):Nat):Int)) (m:=m) (by omega) hN A1 (e:=e) (i0:=i0) (a:=a) (by omega) hi2 he (by simp only [SS,Nat.reduceBEq,reduceEqDiff,reduceAdd,reduceIte,reduceMul,t0,t1,t2,t7,t8,tn,and_self]) ?_
  rintro i tm h2 hi3 hi4 hU A2 s2 ⟨t0,t1,t2,t7,t8,tn⟩
  rw [hU] at hE0
  have s02:=s1.tr s2
  by_cases c1:i=e
  ·rw [if_pos c1] at hE0
   subst c1
   simp only [jb,cT,cU,SS,Nat.reduceBEq,reduceEqDiff,reduceAdd,reduceIte,reduceMul,t0,t1,t2,t7,t8,tn]
   refine hE _ _ _ (by simp) ?_
   simp only [SS,Nat.reduceBEq,reduceEqDiff,reduceAdd,reduceIte,reduceMul]
   refine hQ _ _ _ _ (.inr rfl) (by simp only [SS,Nat.reduceBEq,reduceEqDiff,reduceAdd,reduceIte,reduceMul,tn]) (by simp only [SS,Nat.reduceBEq,reduceEqDiff,reduceAdd,reduceIte,reduceMul];rfl) ?_
   rw [← hE0];exact ⟨rfl,A2,s02⟩
  ·rw [if_neg c1] at hE0
   have c1':¬(i:Int)=(e:Int):=by omega
   have w0:=ph (show a<=e by omega) (show e<=1000000 by omega)
   by_cases c2:e - a<50
   ·rw [if_pos c2] at hE0
    have d2:((e - a:Nat):Int)<50:=by omega
    simp only [jb,cT,cU,SS,Nat.reduceBEq,reduceEqDiff,reduceAdd,reduceIte,reduceMul,t0,t1,t2,t7,t8,tn,c1',w0,d2]
    refine hE _ _ _ (by simp) ?_
    simp only [SS,Nat.reduceBEq,reduceEqDiff,reduceAdd,reduceIte,reduceMul]
    refine hQ _ _ _ _ (.inr rfl) (by simp only [SS,Nat.reduceBEq,reduceEqDiff,reduceAdd,reduceIte,reduceMul,tn]) (by simp only [SS,Nat.reduceBEq,reduceEqDiff,reduceAdd,reduceIte,reduceMul];rfl) ?_
    rw [← hE0];exact ⟨rfl,A2,s02⟩
   ·rw [if_neg c2] at hE0
    have d2:¬((e - a:Nat):Int)<50:=by omega
    obtain ⟨hb5,h5,h6,eb5,l5,l6,e5,e6,a6,s6⟩:=iT A2 18 (i:=i) (j:=i - 1) (by omega) (by omega)
    have xa:=aB (k:=.i64) (b:=X.b) (o:=0) (n:=X.N) (c:=X.cap) (g:=X.g) (show i<X.N by omega)
    have xb:=aB (k:=.i64) (b:=X.b) (o:=0) (n:=X.N) (c:=X.cap) (g:=X.g) (show i - 1<X.N by omega)
    have w1:=eZ (show 1<=i by omega) (show i<=1000000 by omega)
    have w2:=ph (show a<=i by omega) (show i<=1000000 by omega)
    have w3:=ph (show i<=e by omega) (show e<=1000000 by omega)
    
    have nx:∀ tm h7 cur7,X.At h7 cur7->dB X h h7->partialIns bE a e s i cur7=R->tm.gt 0=some X.sv->tm.gt 1=some (I a)->tm.gt 2=some (I e)->tm.gt 7=some (I i)->tm.gt 8=some (I (5 - (s+1)))->tm.gt 133=none->run (SC m) 100000 133 172 none nr [] tm h7 Q1:=by
     intro tm h7 cur7 A7 s7 hE7 t0 t1 t2 t7 t8 tn
     have w9:=bG (show 5 - (s+1)<=1000000 by omega)
     simp only [jb,cT,cU,SS,Nat.reduceBEq,reduceEqDiff,reduceAdd,reduceIte,reduceMul,t0,t1,t2,t7,t8,tn,w9]
     exact hN1 _ _ s (by omega) ⟨s,i,cur7,by omega,rfl,by omega,by omega,A7,s7,hE7,by simp only [SS,Nat.reduceBEq,reduceEqDiff,reduceAdd,reduceIte,reduceMul,t0,t1,t2,t7,tn,true_and,and_true];rw [show 5 - (s+1)+1=5 - s by omega]⟩
    
    have up:∀ tm h7 cur7,X.At h7 cur7->dB X h h7->partialIns bE a e s i (if e - i≥2 then shiftUp bE e (i+1) cur7 else cur7)=R->tm.gt 0=some X.sv->tm.gt 1=some (I a)->tm.gt 2=some (I e)->tm.gt 7=some (I i)->tm.gt 8=some (I (5 - (s+1)))->tm.gt 133=none->run (SC m) 100000 133 172 none qs [.blk 1,.seq nr] tm h7 Q1:=by
     intro tm h7 cur7 A7 s7 hE7 t0 t1 t2 t7 t8 tn
     by_cases c4:2<=e - i
     ·rw [if_pos c4] at hE7
      have d4:(2:Int)<=((e - i:Nat):Int):=by omega
      simp only [jb,cT,SS,Nat.reduceBEq,reduceEqDiff,reduceAdd,reduceIte,reduceMul,t0,t1,t2,t7,t8,tn,w3,d4,bG (show i<=1000000 by omega)]
      refine ze7 (J:=((5 - (s+1):Nat):Int)) (m:=m) (by omega) hN A7 (e:=e) (i:=i) (a:=a) (j0:=i+1) (by omega) (by omega) he (by simp only [SS,Nat.reduceBEq,reduceEqDiff,reduceAdd,reduceIte,reduceMul,t0,t1,t2,t7,t8,tn,and_self]) ?_
      rintro tm h8 A8 s8 ⟨t0,t1,t2,t7,t8,tn⟩
      simp only [SS,Nat.reduceBEq,reduceEqDiff,reduceAdd,reduceIte,reduceMul]
      exact nx _ _ _ A8 (s7.tr s8) hE7 t0 t1 t2 t7 t8 tn
     ·rw [if_neg c4] at hE7
      have d4:¬(2:Int)<=((e - i:Nat):Int):=by omega
      simp only [jb,cT,SS,Nat.reduceBEq,reduceEqDiff,reduceAdd,reduceIte,reduceMul,t0,t1,t2,t7,t8,tn,w3,d4]
      exact nx _ _ _ A7 s7 hE7 (by simp only [SS,Nat.reduceBEq,t0]) (by simp only [SS,Nat.reduceBEq,t1]) (by simp only [SS,Nat.reduceBEq,t2]) (by simp only [SS,Nat.reduceBEq,t7]) (by simp only [SS,Nat.reduceBEq,t8]) (by simp only [SS,Nat.reduceBEq,reduceEqDiff,reduceAdd,reduceIte,reduceMul,tn])
    by_cases c3:2<=i - a
    ·rw [if_pos (show i - a≥2 from c3)] at hE0
     have d3:(2:Int)<=((i - a:Nat):Int):=by omega
     simp only [jb,cU,SS,Nat.reduceBEq,reduceEqDiff,reduceAdd,reduceIte,reduceMul,t0,t1,t2,t7,t8,tn,c1',w0,d2,eb5,xa,xb,w1,l5,l6,e5,e6,w2,d3,bC,bD,aH,aY,ax,au]
     refine VJ (J:=((5 - (s+1):Nat):Int)) (m:=m) (by omega) hN a6 (e:=e) (i:=i) (a:=a) (j0:=i - 1) (by omega) (by simp only [SS,Nat.reduceBEq,reduceEqDiff,reduceAdd,reduceIte,reduceMul,t0,t1,t2,t7,t8,tn,and_self]) ?_
     rintro tm h8 A8 s8 ⟨t0,t1,t2,t7,t8,tn⟩
     simp only [SS,Nat.reduceBEq,reduceEqDiff,reduceAdd,reduceIte,reduceMul]
     exact up _ _ _ A8 ((s02.tr s6).tr s8) hE0 t0 t1 t2 t7 t8 tn
    ·rw [if_neg (show ¬i - a≥2 from c3)] at hE0
     have d3:¬(2:Int)<=((i - a:Nat):Int):=by omega
     simp only [jb,cU,SS,Nat.reduceBEq,reduceEqDiff,reduceAdd,reduceIte,reduceMul,t0,t1,t2,t7,t8,tn,c1',w0,d2,eb5,xa,xb,w1,l5,l6,e5,e6,w2,d3,bC,bD,aH,aY,ax,au]
     exact up _ _ _ a6 (s02.tr s6) hE0 (by simp only [SS,Nat.reduceBEq,t0]) (by simp only [SS,Nat.reduceBEq,t1]) (by simp only [SS,Nat.reduceBEq,t2]) (by simp only [SS,Nat.reduceBEq,t7]) (by simp only [SS,Nat.reduceBEq,t8]) (by simp only [SS,Nat.reduceBEq,reduceEqDiff,reduceAdd,reduceIte,reduceMul,tn])
end Go.Proofs.YtboobbebilegnaaGreat
namespace Go.Proofs.YtboobbebilegnaaGreat
open Go.Am Go.Sort
set_option maxRecDepth 10000
theorem KQ:SWO bE:=swo_ltInt
def CH (X:Px) (L:Nat):Prop:=∀ {n:Nat} {h:ac} {D:Array El} {a e lim:Nat},L+7<=n->bitsLen (e - a)<=L->X.At h D->a<=e->e<=X.N->lim<=1000->Below bE a e D ->
  WC (SC n (.fn 143) [X.sv,I a,I e,I lim] h) fun r h'=>∃ D',X.At h' D'/\PermIn a e D D'/\SortedIn bE a e D'/\dB X h h'
theorem SY {X:Px} (hN:X.N<=40000):CH X 0:=by
 intro n h D a e lim hn hL hA hae he hlim hB
 have h0:e - a<2^0:=(bitsLen_le_iff _ _).1 hL
 have h12:((e - a:Nat):Int)<=12:=by omega
 obtain ⟨m,rfl⟩:∃ m,n=m+1:=⟨n - 1,by omega⟩
 refine ak _ zaC rfl (by simp [rI]) fun QQ hQ=>?_
 simp only [rI] at hQ
 simp only [rI,ah,ai,Nat.zero_add,reduceAdd]
 obtain ⟨_,h1,e1,a1,s1⟩:=IV (n:=m) (by omega) hN hA hae he
 obtain ⟨p1,p2⟩:=insertionSort_holds KQ D a e hae (by rw [hA.sz];exact he)
 have w0:=ph hae (show e<=1000000 by omega)
 simp only [jy,dk,dZ,da,c9,SS,Nat.reduceBEq,reduceEqDiff,reduceAdd,reduceIte,reduceMul]
 refine aF (c:=vG) (I:=fun m' tm' h'=>m'=0/\h'=h/\tm'.gt 0=some X.sv/\tm'.gt 1=some (I a)/\tm'.gt 2=some (I e)/\tm'.gt 134=none) (n:=0) ⟨rfl,rfl,by simp [fe,dN,gt_leaf]⟩ (by omega) ?_
 rintro _ tm h' ⟨rfl,rfl,t0,t1,t2,tn⟩ Q1 hN1 hE
 simp only [jy,dk,dZ,da,c9,SS,Nat.reduceBEq,reduceEqDiff,reduceAdd,reduceIte,reduceMul,t0,t1,t2,tn,w0,h12,e1]
 refine hE _ _ _ (by simp) ?_
 simp only [SS,Nat.reduceBEq,reduceEqDiff,reduceAdd,reduceIte,reduceMul]
 exact hQ _ _ _ _ (.inr rfl) (by simp only [SS,Nat.reduceBEq,reduceEqDiff,reduceAdd,reduceIte,reduceMul,tn]) (by simp only [SS,Nat.reduceBEq,reduceEqDiff,reduceAdd,reduceIte,reduceMul];rfl) ⟨_,a1,p1,p2,s1⟩
set_option maxHeartbeats 1000000 in
theorem SX {X:Px} (hN:X.N<=40000) {L:Nat} (ih:CH X L):CH X (L+1):=by
 intro n h D a e lim hn hL hA hae he hlim hB
 obtain ⟨m,rfl⟩:∃ m,n=m+1:=⟨n - 1,by omega⟩
 refine ak _ zaC rfl (by simp [rI]) fun QQ hQ=>?_
 simp only [rI] at hQ
 simp only [rI,ah,ai,Nat.zero_add,reduceAdd]
 simp only [jy,dk,dZ,da,c9,SS,Nat.reduceBEq,reduceEqDiff,reduceAdd,reduceIte,reduceMul]
 have hsz:=hA.sz
 refine aF (c:=vG) (I:=fun m' tm' h'=>∃ a' e' lim wb wp cur,m'=e' - a'/\a<=a'/\a'<=e'/\e'<=e/\lim<=1000/\X.At h' cur/\dB X h h'/\Below bE a' e' cur/\(∀ R,PermIn a' e' cur R->SortedIn bE a' e' R->PermIn a e D R/\SortedIn bE a e R)/\tm'.gt 0=some X.sv/\tm'.gt 1=some (I a')/\tm'.gt 2=some (I e')/\tm'.gt 3=some (I lim)/\tm'.gt 8=some (.bool wb)/\tm'.gt 9=some (.bool wp)/\tm'.gt 134=none) (n:=e - a)
  ⟨a,e,lim,true,true,D,rfl,by omega,hae,by omega,hlim,hA,Sm.refl _ _,hB,fun R h1 h2=>⟨h1,h2⟩,by simp [fe,dN,gt_leaf]⟩ (by omega) ?_
 rintro _ tm h1 ⟨x,y,lim,wb,wp,cur,rfl,hx1,hxy,hy,hlim,A1,s1,B1,fin,t0,t1,t2,t3,t8,t9,tn⟩ Q1 hN1 hE
 have hyN:y<=X.N:=by omega
 have hszc:cur.size=X.N:=A1.sz
 have w0:=ph hxy (show y<=1000000 by omega)
 by_cases c12:y - x<=12
 ·have d12:((y - x:Nat):Int)<=12:=by omega
  obtain ⟨_,h2,e2,A2,s2⟩:=IV (n:=m) (by omega) hN A1 hxy hyN
  obtain ⟨p1,p2⟩:=insertionSort_holds KQ cur x y hxy (by omega)
  obtain ⟨f1,f2⟩:=fin _ p1 p2
  simp only [jy,dk,dZ,da,c9,SS,Nat.reduceBEq,reduceEqDiff,reduceAdd,reduceIte,reduceMul,t0,t1,t2,t3,t8,t9,tn,w0,d12,e2]
  refine hE _ _ _ (by simp) ?_
  simp only [SS,Nat.reduceBEq,reduceEqDiff,reduceAdd,reduceIte,reduceMul]
  exact hQ _ _ _ _ (.inr rfl) (by simp only [SS,Nat.reduceBEq,reduceEqDiff,reduceAdd,reduceIte,reduceMul,tn]) (by simp only [SS,Nat.reduceBEq,reduceEqDiff,reduceAdd,reduceIte,reduceMul];rfl) ⟨_,A2,f1,f2,s1.tr s2⟩
 have d12:¬((y - x:Nat):Int)<=12:=by omega
 by_cases cl:lim=0
 ·subst cl
  obtain ⟨_,h2,e2,A2,s2⟩:=Vp (n:=m) (by omega) hN A1 (show x<y by omega) hyN
  obtain ⟨p1,p2⟩:=heapSort_holds KQ cur x y hxy (by omega)
  obtain ⟨f1,f2⟩:=fin _ p1 p2
  have dl:((0:Nat):Int)=0:=rfl
  simp only [jy,dk,dZ,da,c9,SS,Nat.reduceBEq,reduceEqDiff,reduceAdd,reduceIte,reduceMul,t0,t1,t2,t3,t8,t9,tn,w0,d12,dl,e2]
  refine hE _ _ _ (by simp) ?_
  simp only [SS,Nat.reduceBEq,reduceEqDiff,reduceAdd,reduceIte,reduceMul]
  exact hQ _ _ _ _ (.inr rfl) (by simp only [SS,Nat.reduceBEq,reduceEqDiff,reduceAdd,reduceIte,reduceMul,tn]) (by simp only [SS,Nat.reduceBEq,reduceEqDiff,reduceAdd,reduceIte,reduceMul];rfl) ⟨_,A2,f1,f2,s1.tr s2⟩
 have dl:¬(lim:Int)=0:=by omega
 have hbl:bitsLen (y - x)<=L+1:=Nat.le_trans (bitsLen_mono (by omega)) hL
 
 have k3:∀ tm h2 D2 p lim wb wp,lim<=1000->x<=p->p<y->X.At h2 D2->dB X h h2->PermIn x y cur D2->tm.gt 0=some X.sv->tm.gt 1=some (I x)->tm.gt 2=some (I y)->tm.gt 3=some (I lim)->tm.gt 8=some (.bool wb)->tm.gt 9=some (.bool wp)->tm.gt 10=some (I (y - x))->tm.gt 11=some (I p)->tm.gt 134=none ->
   run (SC m) 100000 134 143 none nk [.blk 1] tm h2 Q1:=by
  intro tm h2 D2 p lim wb wp hlim hp1 hp2 A2 s2 P2 t0 t1 t2 t3 t8 t9 t10 t11 tn
  have hsz2:D2.size=X.N:=A2.sz
  have B2:Below bE x y D2:=B1.perm (by omega) P2
  obtain ⟨hb,eb,sb,_,_⟩:=Sm.bump h2 15
  have Ab:=A2.sm sb
  have sB:=s2.tr (dB.no sb)
  
  have kp:∀ tm,tm.gt 0=some X.sv->tm.gt 1=some (I x)->tm.gt 2=some (I y)->tm.gt 3=some (I lim)->tm.gt 8=some (.bool wb)->tm.gt 9=some (.bool wp)->tm.gt 10=some (I (y - x))->tm.gt 11=some (I p)->tm.gt 134=none ->
    run (SC m) 100000 134 143 none qq [.blk 1] tm hb Q1:=by
   intro tm t0 t1 t2 t3 t8 t9 t10 t11 tn
   obtain ⟨_,h3,e3,rfl,A3,s3⟩:=VG (n:=m) (by omega) hN Ab hp1 hp2 hyN
   obtain ⟨mid,ap,D4,hpt⟩:∃ mid ap D4,partition bE D2 x y p=(mid,ap,D4):=⟨_,_,_,rfl⟩
   rw [hpt] at e3 A3
   simp only at e3 A3
   obtain ⟨g1,g2,g3,g4,g5,g6,g7⟩:=round_part KQ (partition_holds bE) hp1 hp2 (by omega) B2 hpt
   have w1:=ph (show x<=mid by omega) (show mid<=1000000 by omega)
   have w2:=ph (show mid<=y by omega) (show y<=1000000 by omega)
   have w3:=bG (show mid<=1000000 by omega)
   have s23:=sB.tr s3
   have q8':=q8 (t:=3) (show y - x<=1000000 by omega)
   by_cases cm:mid - x<y - mid
   ·have dm:((mid - x:Nat):Int)<((y - mid:Nat):Int):=by omega
    have hb2:bitsLen (mid - x)<=L:=by have:=bitsLen_half (x:=mid - x) (y:=y - x) (by omega) (by omega);omega
    obtain ⟨_,h5,e5,D5,A5,P5,S5,s5⟩:=ih (n:=m) (lim:=lim) (by omega) hb2 A3 (show x<=mid by omega) (by omega) hlim g4
    obtain ⟨B6,f6⟩:=g6 D5 P5 S5
    simp only [jy,dk,dZ,da,c9,SS,Nat.reduceBEq,reduceEqDiff,reduceAdd,reduceIte,reduceMul,t0,t1,t2,t3,t8,t9,t10,t11,tn,e3,w1,w2,w3,q8',dm,e5]
    refine hN1 _ _ (y - (mid+1)) (by omega) ⟨mid+1,y,lim,_,ap,D5,rfl,by omega,by omega,hy,hlim,A5,s23.tr s5,B6,fun R r1 r2=>?_,by simp only [SS,Nat.reduceBEq,t0],by simp only [SS,Nat.reduceBEq],by simp only [SS,Nat.reduceBEq,t2],by simp only [SS,Nat.reduceBEq,t3],by simp only [SS,Nat.reduceBEq,reduceEqDiff,reduceAdd,reduceIte,reduceMul];rfl,by simp only [SS,Nat.reduceBEq],by simp only [SS,Nat.reduceBEq,reduceEqDiff,reduceAdd,reduceIte,reduceMul,tn]⟩
    obtain ⟨f7,f8⟩:=f6 R r1 r2
    exact fin R (permIn_trans _ _ _ _ _ P2 f7) f8
   ·have dm:¬((mid - x:Nat):Int)<((y - mid:Nat):Int):=by omega
    have hb2:bitsLen (y - (mid+1))<=L:=by have:=bitsLen_half (x:=y - (mid+1)) (y:=y - x) (by omega) (by omega);omega
    obtain ⟨_,h5,e5,D5,A5,P5,S5,s5⟩:=ih (n:=m) (lim:=lim) (by omega) hb2 A3 (show mid+1<=y by omega) hyN hlim g5
    obtain ⟨B6,f6⟩:=g7 D5 P5 S5
    simp only [jy,dk,dZ,da,c9,SS,Nat.reduceBEq,reduceEqDiff,reduceAdd,reduceIte,reduceMul,t0,t1,t2,t3,t8,t9,t10,t11,tn,e3,w1,w2,w3,q8',dm,e5]
    refine hN1 _ _ (mid - x) (by omega) ⟨x,mid,lim,_,ap,D5,rfl,hx1,by omega,by omega,hlim,A5,s23.tr s5,B6,fun R r1 r2=>?_,by simp only [SS,Nat.reduceBEq,t0],by simp only [SS,Nat.reduceBEq,t1],by simp only [SS,Nat.reduceBEq],by simp only [SS,Nat.reduceBEq,t3],by simp only [SS,Nat.reduceBEq,reduceEqDiff,reduceAdd,reduceIte,reduceMul];rfl,by simp only [SS,Nat.reduceBEq],by simp only [SS,Nat.reduceBEq,reduceEqDiff,reduceAdd,reduceIte,reduceMul,tn]⟩
    obtain ⟨f7,f8⟩:=f6 R r1 r2
    exact fin R (permIn_trans _ _ _ _ _ P2 f7) f8
  by_cases cx:0<x
  ·have dx:(0:Int)<(x:Int):=by omega
   have xa:=aB (k:=.i64) (b:=X.b) (o:=0) (n:=X.N) (c:=X.cap) (g:=X.g) (show x - 1<X.N by omega)
   have xb:=aB (k:=.i64) (b:=X.b) (o:=0) (n:=X.N) (c:=X.cap) (g:=X.g) (show p<X.N by omega)
   have la:=Ab.ld (i:=x - 1) (by omega)
   have lb:=Ab.ld (i:=p) (by omega)
   have e8:=dX (n:=m) (by omega) D2[x - 1]! D2[p]! hb
   cases hl:bE D2[x - 1]! D2[p]! with
   | true =>
    rw [hl] at e8
    simp only [jy,dZ,da,c9,SS,Nat.reduceBEq,reduceEqDiff,reduceAdd,reduceIte,reduceMul,t0,t1,t2,t3,t8,t9,t10,t11,tn,eb,dx,xa,xb,la,lb,eZ (show 1<=x by omega) (show x<=1000000 by omega),e8,aI,bC,bD,aH,aY,ax,au]
    exact kp _ (by simp only [SS,Nat.reduceBEq,t0]) (by simp only [SS,Nat.reduceBEq,t1]) (by simp only [SS,Nat.reduceBEq,t2]) (by simp only [SS,Nat.reduceBEq,t3]) (by simp only [SS,Nat.reduceBEq,t8]) (by simp only [SS,Nat.reduceBEq,t9]) (by simp only [SS,Nat.reduceBEq,t10]) (by simp only [SS,Nat.reduceBEq,t11]) (by simp only [SS,Nat.reduceBEq,reduceEqDiff,reduceAdd,reduceIte,reduceMul,tn])
   | false =>
    rw [hl] at e8
    obtain ⟨_,h3,e3,rfl,A3,s3⟩:=Ke (n:=m) (by omega) hN Ab hp1 hp2 hyN
    obtain ⟨mid,D4,hpt⟩:∃ mid D4,partitionEqual bE D2 x y p=(mid,D4):=⟨_,_,rfl⟩
    rw [hpt] at e3 A3
    simp only at e3 A3
    obtain ⟨g1,g2,g3,g4,g5⟩:=round_eq KQ (partitionEqual_holds bE) cx hp1 hp2 (by omega) B2 hl hpt
    simp only [jy,dZ,da,c9,SS,Nat.reduceBEq,reduceEqDiff,reduceAdd,reduceIte,reduceMul,t0,t1,t2,t3,t8,t9,t10,t11,tn,eb,dx,xa,xb,la,lb,eZ (show 1<=x by omega) (show x<=1000000 by omega),e8,e3,aI,bC,bD,aH,aY,ax,au]
    refine hN1 _ _ (y - mid) (by omega) ⟨mid,y,lim,wb,wp,D4,rfl,by omega,g2,hy,hlim,A3,sB.tr s3,g4,fun R r1 r2=>?_,by simp only [SS,Nat.reduceBEq,t0],by simp only [SS,Nat.reduceBEq],by simp only [SS,Nat.reduceBEq,t2],by simp only [SS,Nat.reduceBEq,t3],by simp only [SS,Nat.reduceBEq,t8],by simp only [SS,Nat.reduceBEq,t9],by simp only [SS,Nat.reduceBEq,reduceEqDiff,reduceAdd,reduceIte,reduceMul,tn]⟩
    obtain ⟨f7,f8⟩:=g5 R r1 r2
    exact fin R (permIn_trans _ _ _ _ _ P2 f7) f8
  ·have dx:¬(0:Int)<(x:Int):=by omega
   simp only [jy,dZ,da,c9,SS,Nat.reduceBEq,reduceEqDiff,reduceAdd,reduceIte,reduceMul,t0,t1,t2,t3,t8,t9,t10,t11,tn,eb,dx,aI,bC,bD,aH,aY,ax,au]
   exact kp _ (by simp only [SS,Nat.reduceBEq,t0]) (by simp only [SS,Nat.reduceBEq,t1]) (by simp only [SS,Nat.reduceBEq,t2]) (by simp only [SS,Nat.reduceBEq,t3]) (by simp only [SS,Nat.reduceBEq,t8]) (by simp only [SS,Nat.reduceBEq,t9]) (by simp only [SS,Nat.reduceBEq,t10]) (by simp only [SS,Nat.reduceBEq,t11]) (by simp only [SS,Nat.reduceBEq,reduceEqDiff,reduceAdd,reduceIte,reduceMul,tn])
 
 have k2:∀ tm h2 D2 p (hint:Int) lim wb wp,lim<=1000->x<=p->p<y->X.At h2 D2->dB X h h2->PermIn x y cur D2->tm.gt 0=some X.sv->tm.gt 1=some (I x)->tm.gt 2=some (I y)->tm.gt 3=some (I lim)->tm.gt 8=some (.bool wb)->tm.gt 9=some (.bool wp)->tm.gt 10=some (I (y - x))->tm.gt 11=some (I p)->tm.gt 12=some (.int .i64 hint)->tm.gt 134=none ->
   run (SC m) 100000 134 143 none qp [.blk 1] tm h2 Q1:=by
  intro tm h2 D2 p hint lim wb wp hlim hp1 hp2 A2 s2 P2 t0 t1 t2 t3 t8 t9 t10 t11 t12 tn
  have hsz2:D2.size=X.N:=A2.sz
  have B2:Below bE x y D2:=B1.perm (by omega) P2
  have no:∀ tm,tm.gt 0=some X.sv->tm.gt 1=some (I x)->tm.gt 2=some (I y)->tm.gt 3=some (I lim)->tm.gt 8=some (.bool wb)->tm.gt 9=some (.bool wp)->tm.gt 10=some (I (y - x))->tm.gt 11=some (I p)->tm.gt 134=none ->
    run (SC m) 100000 134 143 none nk [.blk 1] tm h2 Q1:=fun tm t0 t1 t2 t3 t8 t9 t10 t11 tn=>k3 tm h2 D2 p lim wb wp hlim hp1 hp2 A2 s2 P2 t0 t1 t2 t3 t8 t9 t10 t11 tn
  cases wb with
  | false =>
   simp only [jy,dk,da,c9,SS,Nat.reduceBEq,reduceEqDiff,reduceAdd,reduceIte,reduceMul,t0,t1,t2,t3,t8,t9,t10,t11,t12,tn,aI]
   exact no _ (by simp only [SS,Nat.reduceBEq,t0]) (by simp only [SS,Nat.reduceBEq,t1]) (by simp only [SS,Nat.reduceBEq,t2]) (by simp only [SS,Nat.reduceBEq,t3]) (by simp only [SS,Nat.reduceBEq,t8]) (by simp only [SS,Nat.reduceBEq,t9]) (by simp only [SS,Nat.reduceBEq,t10]) (by simp only [SS,Nat.reduceBEq,t11]) (by simp only [SS,Nat.reduceBEq,reduceEqDiff,reduceAdd,reduceIte,reduceMul,tn])
  | true =>
  cases wp with
  | false =>
   simp only [jy,dk,da,c9,SS,Nat.reduceBEq,reduceEqDiff,reduceAdd,reduceIte,reduceMul,t0,t1,t2,t3,t8,t9,t10,t11,t12,tn,aI]
   exact no _ (by simp only [SS,Nat.reduceBEq,t0]) (by simp only [SS,Nat.reduceBEq,t1]) (by simp only [SS,Nat.reduceBEq,t2]) (by simp only [SS,Nat.reduceBEq,t3]) (by simp only [SS,Nat.reduceBEq,t8]) (by simp only [SS,Nat.reduceBEq,t9]) (by simp only [SS,Nat.reduceBEq,t10]) (by simp only [SS,Nat.reduceBEq,t11]) (by simp only [SS,Nat.reduceBEq,reduceEqDiff,reduceAdd,reduceIte,reduceMul,tn])
  | true =>
  by_cases ch:hint=1
  ·obtain ⟨_,h3,e3,rfl,A3,s3⟩:=VL (n:=m) (by omega) hN A2 (show x<y by omega) hyN
   obtain ⟨q1,q2⟩:=partialInsertionSort_holds KQ D2 x y (by omega) (by omega) B2
   cases hb:(partialInsertionSort bE D2 x y).2 with
   | true =>
    rw [hb] at e3
    obtain ⟨f1,f2⟩:=fin _ (permIn_trans _ _ _ _ _ P2 q1) (q2 hb)
    simp only [jy,dk,da,c9,SS,Nat.reduceBEq,reduceEqDiff,reduceAdd,reduceIte,reduceMul,t0,t1,t2,t3,t8,t9,t10,t11,t12,tn,ch,e3,aI]
    refine hE _ _ _ (by simp) ?_
    simp only [SS,Nat.reduceBEq,reduceEqDiff,reduceAdd,reduceIte,reduceMul]
    exact hQ _ _ _ _ (.inr rfl) (by simp only [SS,Nat.reduceBEq,reduceEqDiff,reduceAdd,reduceIte,reduceMul,tn]) (by simp only [SS,Nat.reduceBEq,reduceEqDiff,reduceAdd,reduceIte,reduceMul];rfl) ⟨_,A3,f1,f2,s2.tr s3⟩
   | false =>
    rw [hb] at e3
    simp only [jy,dk,da,c9,SS,Nat.reduceBEq,reduceEqDiff,reduceAdd,reduceIte,reduceMul,t0,t1,t2,t3,t8,t9,t10,t11,t12,tn,ch,e3,aI]
    exact k3 _ h3 _ p lim true true hlim hp1 hp2 A3 (s2.tr s3) (permIn_trans _ _ _ _ _ P2 q1) (by simp only [SS,Nat.reduceBEq,t0]) (by simp only [SS,Nat.reduceBEq,t1]) (by simp only [SS,Nat.reduceBEq,t2]) (by simp only [SS,Nat.reduceBEq,t3]) (by simp only [SS,Nat.reduceBEq,t8]) (by simp only [SS,Nat.reduceBEq,t9]) (by simp only [SS,Nat.reduceBEq,t10]) (by simp only [SS,Nat.reduceBEq,t11]) (by simp only [SS,Nat.reduceBEq,reduceEqDiff,reduceAdd,reduceIte,reduceMul,tn])
  ·simp only [jy,dk,da,c9,SS,Nat.reduceBEq,reduceEqDiff,reduceAdd,reduceIte,reduceMul,t0,t1,t2,t3,t8,t9,t10,t11,t12,tn,ch,aI]
   exact no _ (by simp only [SS,Nat.reduceBEq,t0]) (by simp only [SS,Nat.reduceBEq,t1]) (by simp only [SS,Nat.reduceBEq,t2]) (by simp only [SS,Nat.reduceBEq,t3]) (by simp only [SS,Nat.reduceBEq,t8]) (by simp only [SS,Nat.reduceBEq,t9]) (by simp only [SS,Nat.reduceBEq,t10]) (by simp only [SS,Nat.reduceBEq,t11]) (by simp only [SS,Nat.reduceBEq,reduceEqDiff,reduceAdd,reduceIte,reduceMul,tn])
 
 have k1:∀ tm h2 D2 lim wb wp,lim<=1000->X.At h2 D2->dB X h h2->PermIn x y cur D2->tm.gt 0=some X.sv->tm.gt 1=some (I x)->tm.gt 2=some (I y)->tm.gt 3=some (I lim)->tm.gt 8=some (.bool wb)->tm.gt 9=some (.bool wp)->tm.gt 10=some (I (y - x))->tm.gt 134=none ->
   run (SC m) 100000 134 143 none qo [.blk 1] tm h2 Q1:=by
  intro tm h2 D2 lim wb wp hlim A2 s2 P2 t0 t1 t2 t3 t8 t9 t10 tn
  obtain ⟨_,h3,e3,p,hint,rfl,hp1,hp2,A3,s3⟩:=S0 (n:=m) (by omega) hN A2 (show x+12<y by omega) hyN
  have s23:=s2.tr (dB.no s3)
  by_cases ch:hint=2
  ·obtain ⟨_,h4,e4,D4,A4,P4,s4⟩:=zcE (n:=m) (by omega) hN A3 (show x<y by omega) hyN
   have w1:=eZ (show 1<=y by omega) (show y<=1000000 by omega)
   have w2:=ph (show x<=p by omega) (show p<=1000000 by omega)
   have w3:=ph (show p - x<=y - 1 by omega) (show y - 1<=1000000 by omega)
   simp only [jy,dk,dZ,c9,SS,Nat.reduceBEq,reduceEqDiff,reduceAdd,reduceIte,reduceMul,t0,t1,t2,t3,t8,t9,t10,tn,e3,ch,e4,w1,w2,w3]
   exact k2 _ h4 D4 (y - 1 - (p - x)) 1 lim wb wp hlim (by omega) (by omega) A4 (s23.tr s4) (permIn_trans _ _ _ _ _ P2 P4) (by simp only [SS,Nat.reduceBEq,t0]) (by simp only [SS,Nat.reduceBEq,t1]) (by simp only [SS,Nat.reduceBEq,t2]) (by simp only [SS,Nat.reduceBEq,t3]) (by simp only [SS,Nat.reduceBEq,t8]) (by simp only [SS,Nat.reduceBEq,t9]) (by simp only [SS,Nat.reduceBEq,t10]) (by simp only [SS,Nat.reduceBEq]) (by simp only [SS,Nat.reduceBEq]) (by simp only [SS,Nat.reduceBEq,reduceEqDiff,reduceAdd,reduceIte,reduceMul,tn])
  ·simp only [jy,dk,dZ,c9,SS,Nat.reduceBEq,reduceEqDiff,reduceAdd,reduceIte,reduceMul,t0,t1,t2,t3,t8,t9,t10,tn,e3,ch]
   exact k2 _ h3 D2 p hint lim wb wp hlim hp1 hp2 A3 s23 P2 (by simp only [SS,Nat.reduceBEq,t0]) (by simp only [SS,Nat.reduceBEq,t1]) (by simp only [SS,Nat.reduceBEq,t2]) (by simp only [SS,Nat.reduceBEq,t3]) (by simp only [SS,Nat.reduceBEq,t8]) (by simp only [SS,Nat.reduceBEq,t9]) (by simp only [SS,Nat.reduceBEq,t10]) (by simp only [SS,Nat.reduceBEq]) (by simp only [SS,Nat.reduceBEq]) (by simp only [SS,Nat.reduceBEq,reduceEqDiff,reduceAdd,reduceIte,reduceMul,tn])
 cases wb with
 | true =>
  simp only [jy,dk,dZ,da,SS,Nat.reduceBEq,reduceEqDiff,reduceAdd,reduceIte,reduceMul,t0,t1,t2,t3,t8,t9,tn,w0,d12,dl]
  exact k1 _ h1 cur lim true wp hlim A1 s1 (permIn_refl _ _ _) (by simp only [SS,Nat.reduceBEq,t0]) (by simp only [SS,Nat.reduceBEq,t1]) (by simp only [SS,Nat.reduceBEq,t2]) (by simp only [SS,Nat.reduceBEq,t3]) (by simp only [SS,Nat.reduceBEq,t8]) (by simp only [SS,Nat.reduceBEq,t9]) (by simp only [SS,Nat.reduceBEq]) (by simp only [SS,Nat.reduceBEq,reduceEqDiff,reduceAdd,reduceIte,reduceMul,tn])
 | false =>
  obtain ⟨_,h2,e2,D2,A2,P2,s2⟩:=Lw (n:=m) (by omega) hN A1 (show x+12<y by omega) hyN
  simp only [jy,dk,dZ,da,SS,Nat.reduceBEq,reduceEqDiff,reduceAdd,reduceIte,reduceMul,t0,t1,t2,t3,t8,t9,tn,w0,d12,dl,e2,eZ (show 1<=lim by omega) (show lim<=1000000 by omega)]
  exact k1 _ h2 D2 (lim - 1) false wp (by omega) A2 (s1.tr s2) P2 (by simp only [SS,Nat.reduceBEq,t0]) (by simp only [SS,Nat.reduceBEq,t1]) (by simp only [SS,Nat.reduceBEq,t2]) (by simp only [SS,Nat.reduceBEq]) (by simp only [SS,Nat.reduceBEq,t8]) (by simp only [SS,Nat.reduceBEq,t9]) (by simp only [SS,Nat.reduceBEq]) (by simp only [SS,Nat.reduceBEq,reduceEqDiff,reduceAdd,reduceIte,reduceMul,tn])
theorem SW {X:Px} (hN:X.N<=40000):∀ (L:Nat),CH X L
 | 0=>SY hN
 | L+1=>SX hN (SW hN L)
theorem WL {X:Px} (hN:X.N<=40000) {n:Nat} (hn:30<=n) {h:ac} {D:Array El} (hA:X.At h D) :
  WC (SC n (.fn 95) [X.sv] h) fun r h'=>∃ D',X.At h' D'/\PermIn 0 D.size D D'/\SortedIn bE 0 D.size D'/\dB X h h':=by
 obtain ⟨m,rfl⟩:∃ m,n=m+1:=⟨n - 1,by omega⟩
 refine ak _ zgR rfl (by simp [Vn]) fun QQ hQ=>?_
 simp only [Vn] at hQ
 simp only [Vn,ah,ai,Nat.zero_add,reduceAdd]
 have hsz:=hA.sz
 obtain ⟨_,h0,e1,rfl,L,rfl,l1,_⟩:=SB (n:=m) (by omega) (x:=X.N) (by omega) h
 have hb:bitsLen (X.N - 0)<=16:=(bitsLen_le_iff _ _).2 (by omega)
 obtain ⟨_,h2,e2,D2,A2,P2,S2,s2⟩:=SW hN 16 (n:=m) (lim:=L) (by omega) hb hA (Nat.zero_le _) (Nat.le_refl _) (by omega) (.inl rfl)
 have e2':SC m (.fn 143) [X.sv,.int .i64 0,I X.N,I L] h0=some (_,h2):=e2
 simp only [F95,SS,Nat.reduceBEq,reduceEqDiff,reduceAdd,reduceIte,reduceMul,eJ,tF,TJ (show X.N<=1000000 by omega),e1,e2']
 exact hQ _ _ _ _ (.inl rfl) (by simp only [SS,Nat.reduceBEq]) (by simp only [SS,Nat.reduceBEq,reduceEqDiff,reduceAdd,reduceIte,reduceMul];rfl) ⟨D2,A2,by rw [hsz];exact P2,by rw [hsz];exact S2,s2⟩
end Go.Proofs.YtboobbebilegnaaGreat
namespace Go.Proofs.YtboobbebilegnaaGreat
open Go.Am Go.Sort
set_option maxRecDepth 10000
noncomputable def SI (x y:AV):Option Bool:=match x,y with | .int _ a,.int _ b=>some (Go.Am.ltI a b) | _,_=>none
def wF (x:Int):List Int->List Int
 | []=>[x]
 | y::l=>if x<y then x::y::l else y::wF x l
def eu:List Int->List Int
 | []=>[]
 | x::l=>wF x (eu l)
theorem oM (x:Int):∀ l,(wF x l).Perm (x::l)
 | []=>List.Perm.refl _
 | y::l=>by
  unfold wF
  split
  ·exact List.Perm.refl _
  ·exact ((oM x l).cons y).trans (List.Perm.swap x y l)
theorem mE:∀ l,(eu l).Perm l
 | []=>List.Perm.refl _
 | x::l=>(oM x _).trans ((mE l).cons x)
theorem pJ {x:Int}:∀ {l:List Int},l.Pairwise (·<= ·)->(wF x l).Pairwise (·<= ·)
 | [],_=>List.pairwise_singleton _ _
 | y::l,h=>by
  obtain ⟨h1,h2⟩:=List.pairwise_cons.1 h
  unfold wF
  split
  ·refine List.pairwise_cons.2 ⟨fun z hz=>?_,h⟩
   rcases List.mem_cons.1 hz with rfl | hz
   ·omega
   ·have:=h1 z hz;omega
  ·refine List.pairwise_cons.2 ⟨fun z hz=>?_,pJ h2⟩
   rcases List.mem_cons.1 ((oM x l).mem_iff.1 hz) with rfl | hz
   ·omega
   ·exact h1 z hz
theorem jJ:∀ l,(eu l).Pairwise (·<= ·)
 | []=>List.Pairwise.nil
 | _::l=>pJ (jJ l)
theorem oY:∀ {l m:List Int},l.Perm m->l.Pairwise (·<= ·)->m.Pairwise (·<= ·)->l=m
 | [],m,h,_,_=>(List.nil_perm.1 h).symm
 | x::l,[],h,_,_=>by cases List.perm_nil.1 h
 | x::l,y::m,h,hl,hm=>by
  obtain ⟨l1,l2⟩:=List.pairwise_cons.1 hl
  obtain ⟨m1,m2⟩:=List.pairwise_cons.1 hm
  have e:x=y:=by
   have hx:x∈y::m:=h.mem_iff.1 (List.mem_cons_self ..)
   have hy:y∈x::l:=h.mem_iff.2 (List.mem_cons_self ..)
   rcases List.mem_cons.1 hx with e | hx
   ·exact e
   ·rcases List.mem_cons.1 hy with e | hy
    ·exact e.symm
    ·have:=m1 x hx;have:=l1 y hy;omega
  subst e
  rw [oY ((List.perm_cons x).1 h) l2 m2]
theorem Bq (l:List Int):(dr (l.map en))=l.map en:=by
 rw [ji]
 induction l with
 | nil=>rfl
 | cons x l ih=>rw [List.map_cons,List.flatMap_cons,ih];rfl
theorem IW (x:Int):∀ l:List Int,wG SI (en x) (l.map en)=some ((wF x l).map en)
 | []=>rfl
 | y::l=>by
  have ih:=IW x l
  have e:Go.Am.ltI x y=decide (x<y):=Go.Am.ltI_eq x y
  show ob (SI (en x) (en y)) (fun b=>Bool.rec (motive:=fun _=>Option (List AV)) (ob (wG SI (en x) (l.map en)) fun l=>some (en y::l)) (some (en x::en y::l.map en)) b)=_
  show (Bool.rec (motive:=fun _=>Option (List AV)) (ob (wG SI (en x) (l.map en)) fun l=>some (en y::l)) (some (en x::en y::l.map en)) (Go.Am.ltI x y):Option (List AV))=_
  rw [e,ih]
  rw [show wF x (y::l)=if x<y then x::y::l else y::wF x l from rfl]
  by_cases h:x<y
  ·rw [if_pos h,decide_eq_true h];rfl
  ·rw [if_neg h,decide_eq_false h];rfl
theorem zU:∀ l:List Int,uW SI (l.map en)=some ((eu l).map en)
 | []=>rfl
 | x::l=>by
  show ob (uW SI (l.map en)) (fun l=>wG SI (en x) l)=_
  rw [zU l]
  exact IW x (eu l)
theorem uC {x:AV}:∀ {l m:List AV},m∈y8 x l->m.Perm (x::l)
 | [],m,h=>by rw [y8,List.mem_singleton] at h;rw [h]
 | y::l,m,h=>by
  rw [y8,List.mem_cons] at h
  rcases h with rfl | h
  ·exact List.Perm.refl _
  ·obtain ⟨q,hq,rfl⟩:=List.mem_map.1 h
   exact ((uC hq).cons y).trans (List.Perm.swap x y l)
theorem pP:∀ {l m:List AV},m∈i5 l->m.Perm l
 | [],m,h=>by rw [i5,List.mem_singleton] at h;rw [h]
 | x::l,m,h=>by
  rw [i5] at h
  obtain ⟨q,hq,hm⟩:=List.mem_flatMap.1 h
  exact (uC hm).trans ((pP hq).cons x)
theorem xG {call:an} {T:FuncId} {sz n:Nat} {ds:List AV}:∀ {πs:List (List AV)},(∀ π∈πs,iS call T sz n ds π=true)->pw call T sz n ds πs=true
 | [],_=>rfl
 | x::xs,h=>by
  show bT (iS call T sz n ds x) (pw call T sz n ds xs)=true
  rw [ax,h x (List.mem_cons_self ..),xG fun π hp=>h π (List.mem_cons_of_mem _ hp)];rfl
def unE:AV->Int
 | .int _ n=>n
 | _=>0
theorem VI {l:List Int} {π : List AV} (h:π.Perm (l.map en)):∃ m:List Int,π=m.map en/\m.Perm l:=by
 refine ⟨π.map unE,?_,?_⟩
 ·rw [List.map_map]
  symm
  rw [List.map_congr_left (g:=id)]
  ·exact List.map_id _
  ·intro a ha
   obtain ⟨x,_,rfl⟩:=List.mem_map.1 (h.mem_iff.1 ha)
   rfl
 ·have:=h.map unE
  rw [List.map_map] at this
  rwa [show (unE∘en)=id from rfl,List.map_id] at this
theorem KL {D:Array Int} (h:SortedIn bE 0 D.size D):D.toList.Pairwise (·<= ·):=by
 rw [List.pairwise_iff_getElem]
 intro i j hi hj hij
 have hi':i<D.size:=by simpa using hi
 have hj':j<D.size:=by simpa using hj
 have:=h i j (Nat.zero_le _) hij hj'
 rw [getElem!_pos D i hi',getElem!_pos D j hj'] at this
 have this:decide (D[j]<D[i])=false:=this
 rw [decide_eq_false_iff_not] at this
 rw [Array.getElem_toList,Array.getElem_toList]
 omega
theorem sP:∀ l:List Int,AV.sames (l.map en) (l.map en)=true
 | []=>by simp [AV.sames]
 | x::l=>by
  show AV.sames (en x::l.map en) (en x::l.map en)=true
  unfold AV.sames
  rw [bC,sP l];rfl
theorem B7 {l m:List Int} (hp:m.Perm l) (hl:l.length<=40000) {n:Nat} (hn:30<=n):iS (SC n) 95 1 l.length (dr ((eu l).map en)) (m.map en)=true:=by
 have hml:m.length=l.length:=hp.length_eq
 let X:Px:=⟨0,l.length,l.length,some 1,[],[]⟩
 have hA:X.At (tV (m.map en)) m.toArray:=by
  refine ⟨by simp [X,hml],⟨az (m.map en) .leaf 0,?_,?_⟩,?_⟩
  ·show (tV (m.map en)).bs.gt 0=_
   rw [nJ,if_pos rfl]
   show some (cX.cells _ [] (m.map en).length false)=some (cX.cells _ [] ((m.toArray.toList.map en++[]).length) false)
   simp
  ·intro i hi
   have hi':i<(m.map en).length:=by simpa [X] using hi
   rw [em _ _ _ hi']
   simp [X]
  ·show (0:Nat)<1;decide
 obtain ⟨r,h',e,D',A',P',S',_⟩:=WL (X:=X) (show l.length<=40000 from hl) hn hA
 unfold iS
 rw [Bq,Bq]
 have e':SC n (.fn 95) [.slice (some (0,0)) l.length l.length (some 1)] (tV (m.map en))=some (r,h'):=e
 rw [e']
 show uT h' ((eu l).map en)=true
 have hsz:D'.size=m.toArray.size:=P'.1
 have hperm:D'.toList.Perm l:=by
  have:=P'.2.2
  have e1:D'.extract 0 m.toArray.size=D':=by rw [← hsz];exact Array.extract_size
  have e2:m.toArray.extract 0 m.toArray.size=m.toArray:=Array.extract_size
  rw [e1,e2] at this
  exact this.trans hp
 rw [← hsz] at S'
 have hD:D'.toList=eu l:=oY (hperm.trans (mE l).symm) (KL S') (jJ l)
 obtain ⟨t,g1,g2⟩:=A'.rw
 have g1':h'.bs.gt 0=some (.cells t [] ((eu l).map en).length false):=by
  have:=g1
  rw [hD] at this
  simpa [X] using this
 have g2':∀ i,i<((eu l).map en).length->aR t [] i=((eu l).map en)[i]?:=by
  intro i hi
  have:=g2 i (by rw [hD];simpa [X] using hi)
  rw [hD] at this
  simpa [X] using this
 have hlc:gQ t [] ((eu l).map en).length 0=some ((eu l).map en):=Go.Am.loadC_of (vs:=(eu l).map en) (i:=0) (fun j hj=>by rw [Nat.zero_add];exact g2' j hj)
 unfold uT
 rw [kG g1',aO]
 show (Option.rec (motive:=fun _=>Bool) false (fun l'=>AV.sames l' ((eu l).map en)) (aV (bT (fM false) (Nat.beq ((eu l).map en).length ((eu l).map en).length)) (gQ t [] ((eu l).map en).length 0)):Bool)=true
 rw [Nat.beq_refl,hlc]
 exact sP _
theorem B4 {n:Nat} (hn:30<=n) {gs:List FuncId} {bs:Nat} {fine:AV->Bool} {g cb mb clock:Nat} {h:ac} {es:List aG} {l:List Int} (hg:gs.contains g=true) (hc:h.ld1 cb 0=some (.map (some mb))) (hm:h.bs.gt mb=some (.map es clock)) (hk:es.map (·.key)=l.map en) (hb:py clock es=true)
  (hf:pG fine es=true) (hr:gy bs l.length=true) (hl:l.length<=40000) (hnil:∃ r,SC n (.fn 95) [.slice none 0 0 none] ⟨.leaf,0⟩=some r) :
  lZ (SC n) 95 gs 1 bs SI fine (.func (.func g) [] [.ptr (some (cb,0))]) h =
   some (if l=[] then (.slice none 0 0 none,h) else (.slice (some (h.next,0)) l.length l.length (some 1),h.new h.next (.cells (az ((eu l).map en) .leaf 0) [] ((eu l).map en).length false))):=by
 have hel:es.length=l.length:=by have:=congrArg List.length hk;simpa using this
 have hkl:rQ es=l.map en:=by rw [rR];exact hk
 have hall:pw (SC n) 95 1 es.length (dr ((eu l).map en)) (i5 (l.map en))=true:=by
  refine xG fun π hp=>?_
  obtain ⟨m,rfl,hm⟩:=VI (pP hp)
  rw [hel]
  exact B7 hm hl hn
 show aV (gs.contains g) (ob (h.ld1 cb 0) fun m=>SJ m fun mb=>h.theMap mb fun es clock =>
  aV (bT (py clock es) (bT (pG fine es) (gy bs (bp es)))) (ob (uW SI (rQ es)) fun ks =>
   aV (pw (SC n) 95 1 (bp es) (dr ks) (i5 (rQ es)))
    (Nat.rec (motive:=fun _=>dA) (ob (SC n (.fn 95) [.slice none 0 0 none] ⟨.leaf,0⟩) fun _=>some (.slice none 0 0 none,h))
     (fun _ _=>some (.slice (some (h.next,0)) (bp es) (bp es) (some 1),h.new h.next (.cells (az (dr ks) .leaf 0) [] (dr ks).length false))) (bp es))))=_
 rw [hg,hc]
 show h.theMap mb _=_
 unfold ac.theMap
 rw [hm]
 show aV (bT (py clock es) (bT (pG fine es) (gy bs (bp es)))) _=_
 rw [hb,hf,aO,hel,hr,hkl,zU]
 show aV (pw (SC n) 95 1 l.length (dr ((eu l).map en)) (i5 (l.map en))) _=_
 rw [← hel,hall,hel]
 cases l with
 | nil =>
  obtain ⟨r,hr⟩:=hnil
  show (ob (SC n (.fn 95) [.slice none 0 0 none] ⟨.leaf,0⟩) fun _=>some (.slice none 0 0 none,h):dA)=_
  rw [hr];rfl
 | cons x l =>
  rw [if_neg (by simp),Bq]
  rfl
end Go.Proofs.YtboobbebilegnaaGreat
namespace Go.Proofs.YtboobbebilegnaaGreat
open Go.Am
theorem BK:Am.NamesOk Tryz.prog:=by unfold Am.NamesOk;kernel_rfl
theorem mixed:Tryz.prog.follows .mixedOrders=true:=by kernel_rfl
noncomputable def zfu:Am.AppCode Tryz.prog (Am.keepF Tryz.prog) 93 51 0 (Am.buildSliceN Tryz.prog 51 1 [0]) :=
 ⟨Tryz.f93,_,_,_,_,_,_,_,_,Tryz.func93,rfl,rfl,by kernel_rfl,by decide,by kernel_rfl,by kernel_rfl,by kernel_rfl,rfl,by kernel_rfl,by kernel_rfl,by kernel_rfl,by kernel_rfl,by kernel_rfl⟩
theorem zfv:∃ fn c,Tryz.prog.funcs[(94:Nat)]?=some fn/\fn.body=some c/\Am.CollectCode 93 c/\fn.results=#[.tmp 2]/\5<=fn.ntmps :=
 ⟨Tryz.f94,_,Tryz.func94,rfl,⟨_,_,_,_,_,_,_,rfl,⟨rfl,rfl,rfl⟩,⟨rfl,rfl,rfl⟩,⟨rfl,rfl,rfl⟩,⟨rfl,rfl,rfl⟩⟩,rfl,by decide⟩
theorem zfx:∃ fn c,Tryz.prog.funcs[(113:Nat)]?=some fn/\fn.body=some c/\Am.SortedCode 94 95 c/\fn.results=#[.tmp 2]/\9<=fn.ntmps :=
 ⟨Tryz.f113,_,Tryz.func113,rfl,⟨_,_,_,_,_,_,_,_,_,_,_,_,_,_,rfl,⟨rfl,rfl,rfl⟩,⟨rfl,rfl,rfl⟩,⟨rfl,rfl,rfl⟩,⟨rfl,rfl,rfl⟩,⟨rfl,rfl,rfl⟩,⟨rfl,rfl,rfl⟩,⟨rfl,rfl,rfl⟩,⟨rfl,rfl,rfl⟩⟩,rfl,by decide⟩
theorem J0:Am.KeysFn Tryz.prog 152 :=
 ⟨Tryz.f152,_,173,_,_,Tryz.func152,rfl,⟨_,_,_,_,_,_,_,_,_,_,_,_,_,_,_,_,_,_,_,rfl,⟨rfl,rfl,rfl⟩,⟨rfl,rfl,rfl⟩,⟨rfl,rfl,rfl⟩,⟨rfl,rfl,rfl⟩,⟨rfl,rfl,rfl⟩,⟨rfl,rfl,rfl⟩,⟨rfl,rfl,rfl⟩,⟨rfl,rfl,rfl⟩,⟨rfl,rfl,rfl⟩,⟨rfl,rfl,rfl⟩,⟨rfl,rfl,rfl⟩⟩,rfl,by decide,Tryz.underlying173,by kernel_rfl⟩
def mR:Am.AV->Bool:=fun k=>match k with | .int .u32 _=>true | _=>false
theorem TE (k:Am.AV) (hk:mR k=true):Am.buildSliceN Tryz.prog 51 1 [0] [k]=some (Am.rowBlk k.cells,Am.sliceTo 1)/\k.cells.length=0+1/\∀ c∈k.cells,Am.plainCell c=true:=by
 cases k with
 | int kk n =>
  cases kk with
  | u32=>exact ⟨by kernel_rfl,rfl,fun c hc=>by obtain rfl:=List.mem_singleton.1 hc;rfl⟩
  | _=>cases hk
 | _=>cases hk
noncomputable def Ca:Am.Prims:=Am.sortedP (Am.callN Tryz.prog (Am.keepF Tryz.prog) Am.noPrims 100000 (40+1)) 113 95 [152] 1 4 SI mR
theorem zhd:∀ g∈([152]:List Nat),Am.KeysFn Tryz.prog g:=by
 intro g hg
 simp only [List.mem_cons,List.not_mem_nil,or_false] at hg
 rcases hg with rfl
 exact J0
theorem zfw:Am.PrimsOk Tryz.prog (Am.keepF Tryz.prog) Ca :=
 Am.sortedP_ok mixed BK zfu Tryz.underlying51 (by kernel_rfl) (by kernel_rfl) (by kernel_rfl) zfv ⟨_,_,Tryz.func95,rfl⟩ zfx zhd TE
end Go.Proofs.YtboobbebilegnaaGreat
namespace Go.Proofs.YtboobbebilegnaaGreat
open Go.Am
noncomputable abbrev prW:Prims:=(pureP 8 [] (.bool true)).or Ca
noncomputable abbrev C (n:Nat):an:=callN P (keepF P) prW 100000 n
theorem Ls {n:Nat} (hn:1<=n) (h:ac):C n (.fn 8) [] h=some (.bool true,h):=by
 obtain ⟨m,rfl⟩:∃ m,n=m+1:=⟨n - 1,by omega⟩
 rfl
def pz (s:List Nat) (i:Nat):Nat:=(s[i]?.getD 0)*(i%7*2+1)
def oy (s:List Nat):Nat->Nat
 | 0=>s.length
 | i+1=>oy s i+pz s i
def kr (s:List Nat):Prop:=∀ (i c:Nat),s[i]?=some c->c<256
theorem xP {s:List Nat} (hb:kr s) (i:Nat):pz s i<=3315:=by
 unfold pz
 have h3:i%7*2+1<=13:=by omega
 have h4:s[i]?.getD 0<=255:=by
  cases hc:s[i]? with
  | none=>simp
  | some c=>have:=hb i c hc;simp;omega
 exact Nat.mul_le_mul h4 h3
theorem vt {s:List Nat} (hb:kr s):∀ i,oy s i<=s.length+i*3315
 | 0=>by simp [oy]
 | i+1=>by
  have ih:=vt hb i
  have h2:=xP hb i
  show oy s i+pz s i<=_
  omega
theorem oz {n:Nat} (hn:1<=n) (s:List Nat) (h:ac) (hl:s.length<=1000) (hb:kr s):WC (C n (.fn 164) [.str s] h) fun v h'=>v=.int .u8 ((oy s s.length%16:Nat):Int)/\h'=h:=by
 obtain ⟨m,rfl⟩:∃ m,n=m+1:=⟨n - 1,by omega⟩
 refine ak _ zeo rfl (by simp [uB]) fun QQ hQ=>?_
 simp only [uB] at hQ
 simp only [uB,ah,ai,Nat.zero_add,reduceAdd]
 simp only [T7,dc,SS,Nat.reduceBEq,reduceEqDiff,reduceAdd,reduceIte,reduceMul]
 refine aF (c:=AS) (I:=fun m tm' h'=>∃ i,i<=s.length/\m=s.length - i/\h'=h/\tm'.gt 0=some (.str s)/\tm'.gt 9=some (.int .i64 (i:Int))/\tm'.gt 8=some (.int .i64 (s.length:Int))/\tm'.gt 3=some (.int .i64 (oy s i:Int))/\tm'.gt 27=none) (n:=s.length)
  ⟨0,by simp [fe,dN,gt_leaf,oy]⟩ (by omega) ?_
 rintro _ tm h ⟨i,hi,rfl,rfl,t0,t9,t8,t3,t27⟩ Q1 hN hE
 by_cases hlt:i<s.length
 ·have hbs:=vt hb i
  have hbt:=xP hb i
  have hc:=List.getElem?_eq_getElem hlt
  have hcb:=hb i _ hc
  simp only [T7,Cu,oi,t0,t9,t8,t3,SS,Nat.reduceBEq,reduceEqDiff,reduceAdd,reduceIte,reduceMul,Int.ofNat_lt,hlt,hc,xL (show (7:Int)≠0 by decide)]
  refine hN _ _ (s.length - (i+1)) (by omega) ⟨i+1,hlt,rfl,rfl,?_⟩
  have e1:IntKind.i64.wrap (s[i]:Int)=(s[i]:Int):=wrap_i64 (by omega) (by omega)
  have e2:((i:Int)).tmod 7=((i%7:Nat):Int):=rfl
  have e3:IntKind.i64.wrap (((i%7:Nat):Int)*2)=(((i%7)*2:Nat):Int):=by rw [wrap_i64 (by omega) (by omega)];simp
  have e4:IntKind.i64.wrap ((((i%7)*2:Nat):Int)+1)=(((i%7)*2+1:Nat):Int):=by rw [wrap_i64 (by omega) (by omega)];simp
  have hbe:pz s i=s[i]*(i%7*2+1):=by simp [pz,hc]
  have e5:IntKind.i64.wrap ((s[i]:Int)*(((i%7)*2+1:Nat):Int))=(pz s i:Int):=by
   rw [← Int.natCast_mul,← hbe,wrap_i64 (by omega) (by omega)]
  have e6:IntKind.i64.wrap ((oy s i:Int)+(pz s i:Int))=(oy s (i+1):Int):=by
   rw [wrap_i64 (by omega) (by omega)];simp [oy]
  have e7:IntKind.i64.wrap ((i:Int)+1)=((i+1:Nat):Int):=by rw [wrap_i64 (by omega) (by omega)];simp
  simp only [SS,Nat.reduceBEq,reduceEqDiff,reduceAdd,reduceIte,reduceMul,t0,t9,t8,t3,t27,e1,e2,e3,e4,e5,e6,e7,and_self]
 ·have hbs:=vt hb i
  obtain rfl:i=s.length:=by omega
  simp only [T7,t0,t9,t8,t3,SS,Nat.reduceBEq,reduceEqDiff,reduceAdd,reduceIte,reduceMul,Int.ofNat_lt,hlt]
  refine hE _ _ _ (by simp) ?_
  simp only [T7,t0,t9,t8,t3,SS,Nat.reduceBEq,reduceEqDiff,reduceAdd,reduceIte,reduceMul,xL (show (16:Int)≠0 by decide),TO]
  refine hQ _ _ _ _ (.inr rfl) ?_ (by simp only [SS,Nat.reduceBEq,reduceEqDiff,reduceAdd,reduceIte,reduceMul,uB];rfl) ?_
  ·simp only [SS,Nat.reduceBEq,reduceEqDiff,reduceAdd,reduceIte,reduceMul,uB,t27]
  ·simp only [SS,Nat.reduceBEq,reduceEqDiff,reduceAdd,reduceIte,reduceMul]
   have e2:((oy s s.length:Nat):Int).tmod 16=((oy s s.length%16:Nat):Int):=rfl
   rw [e2,Je (by omega) (by omega)];exact ⟨rfl,trivial⟩
end Go.Proofs.YtboobbebilegnaaGreat
namespace Go.Proofs.YtboobbebilegnaaGreat
open Go.Am
set_option maxRecDepth 10000
abbrev u (n:Int):AV:=.int .u32 n
def zc7 (ids:List Int) (x:Int) (r:AV):Prop :=
 (∃ i:Nat,ids[i]?=some x/\(∀ j,j<i->ids[j]?≠some x)/\r=.int .i64 (i:Int))∨((∀ j:Nat,ids[j]?≠some x)/\r=.int .i64 (-1))
theorem y7 {n:Nat} (hn:1<=n) {h:ac} {v:AV} {l:Nat} {ids:List Int} (x:Int) (hv:mg h v l 1 (ids.map u)) (hl:l<90000):WC (C n (.fn 165) [v,u x] h) fun r h'=>h'=h/\zc7 ids x r:=by
 obtain ⟨hlen,a,c,g,rfl,_⟩:=id hv
 rw [List.length_map,Nat.mul_one] at hlen
 obtain ⟨m,rfl⟩:∃ m,n=m+1:=⟨n - 1,by omega⟩
 refine ak _ zep rfl (by simp [Ix]) fun QQ hQ=>?_
 simp only [Ix] at hQ
 simp only [Ix,ah,ai,Nat.zero_add,reduceAdd]
 simp only [Le,eJ,SS,Nat.reduceBEq,reduceEqDiff,reduceAdd,reduceIte,reduceMul]
 refine aF (c:=AT) (I:=fun k tm' h'=>∃ i,i<=l/\k=l - i/\h'=h/\(∀ j,j<i->ids[j]?≠some x)/\tm'.gt 0=some (.slice a l c g)/\tm'.gt 1=some (u x)/\tm'.gt 7=some (.int .i64 (l:Int))/\tm'.gt 8=some (.int .i64 (i:Int))/\tm'.gt 19=none) (n:=l)
  ⟨0,by simp [fe,dN,gt_leaf]⟩ (by omega) ?_
 rintro _ tm h0 ⟨i,hi,rfl,rfl,hno,t0,t1,t7,t8,t19⟩ Q1 hN hE
 by_cases hlt:i<l
 ·obtain ⟨b,o,rfl,hcell⟩:=hv.cell (by omega)
  have hc:=hcell i (by omega)
  have hx:ids[i]?=some ids[i]:=List.getElem?_eq_getElem (by omega)
  rw [List.getElem?_map,hx,Option.map_some] at hc
  by_cases he:x=ids[i]
  ·simp only [Le,aB hlt,Nat.mul_one,t0,t1,t7,t8,t19,SS,Nat.reduceBEq,reduceEqDiff,reduceAdd,reduceIte,reduceMul,Int.ofNat_lt,hlt,hc,← he]
   refine hE _ _ _ (by simp) ?_
   simp only [SS,Nat.reduceBEq,reduceEqDiff,reduceAdd,reduceIte,reduceMul]
   refine hQ _ _ _ _ (.inr rfl) (by simp only [SS,Nat.reduceBEq,t19]) (by simp only [SS,Nat.reduceBEq,reduceEqDiff,reduceAdd,reduceIte,reduceMul];rfl) ⟨rfl,.inl ⟨i,by rw [hx,he],hno,rfl⟩⟩
  ·simp only [Le,aB hlt,Nat.mul_one,t0,t1,t7,t8,t19,SS,Nat.reduceBEq,reduceEqDiff,reduceAdd,reduceIte,reduceMul,Int.ofNat_lt,hlt,hc,he]
   refine hN _ _ (l - (i+1)) (by omega) ⟨i+1,hlt,rfl,rfl,fun j hj=>?_,?_⟩
   ·by_cases e:j=i
    ·subst e;rw [hx];exact fun e=>he (Option.some.inj e).symm
    ·exact hno j (by omega)
   ·have e7:IntKind.i64.wrap ((i:Int)+1)=((i+1:Nat):Int):=by rw [wrap_i64 (by omega) (by omega)];simp
    simp only [SS,Nat.reduceBEq,reduceEqDiff,reduceAdd,reduceIte,reduceMul,t0,t1,t7,t8,t19,e7,and_self]
 ·obtain rfl:i=l:=by omega
  simp only [Le,t0,t1,t7,t8,t19,SS,Nat.reduceBEq,reduceEqDiff,reduceAdd,reduceIte,reduceMul,Int.ofNat_lt,hlt]
  refine hE _ _ _ (by simp) ?_
  simp only [Le,t0,t1,t7,t8,t19,SS,Nat.reduceBEq,reduceEqDiff,reduceAdd,reduceIte,reduceMul]
  refine hQ _ _ _ _ (.inr rfl) (by simp only [SS,Nat.reduceBEq,t19]) (by simp only [SS,Nat.reduceBEq,reduceEqDiff,reduceAdd,reduceIte,reduceMul];rfl) ⟨rfl,.inr ⟨fun j=>?_,rfl⟩⟩
  by_cases e:j<i
  ·exact hno j e
  ·rw [List.getElem?_eq_none (by omega)];simp
theorem yG {n:Nat} (hn:2<=n) {h:ac} {v:AV} {l:Nat} {ids:List Int} (x:Int) (hv:mg h v l 1 (ids.map u)) (hl:l<90000):WC (C n (.fn 179) [v,u x] h) fun r h'=>h'=h/\r=.bool (decide (x∈ids)):=by
 obtain ⟨m,rfl⟩:∃ m,n=m+1:=⟨n - 1,by omega⟩
 refine ak _ zeB rfl (by simp [IJ]) fun QQ hQ=>?_
 simp only [IJ] at hQ
 simp only [IJ,ah,ai,Nat.zero_add,reduceAdd]
 obtain ⟨r,h',e,rfl,hF⟩:=y7 (n:=m) (by omega) x hv hl
 rcases hF with ⟨i,h1,h2,rfl⟩|⟨h1,rfl⟩
 ·simp only [zc4,SS,Nat.reduceBEq,reduceEqDiff,reduceAdd,reduceIte,reduceMul,e]
  have hp:(0:Int)<=(i:Int):=by omega
  have hm:x∈ids:=List.mem_of_getElem? h1
  refine hQ _ _ _ _ (.inr rfl) (by simp only [SS,Nat.reduceBEq]) (by simp only [SS,Nat.reduceBEq,reduceEqDiff,reduceAdd,reduceIte,reduceMul];rfl) ⟨rfl,by simp [hp,hm,iD]⟩
 ·simp only [zc4,SS,Nat.reduceBEq,reduceEqDiff,reduceAdd,reduceIte,reduceMul,e]
  have hm:¬x∈ids:=fun h=>by obtain ⟨j,hj⟩:=List.getElem?_of_mem h;exact h1 j hj
  refine hQ _ _ _ _ (.inr rfl) (by simp only [SS,Nat.reduceBEq]) (by simp only [SS,Nat.reduceBEq,reduceEqDiff,reduceAdd,reduceIte,reduceMul];rfl) ⟨rfl,by simp [hm,iD]⟩
theorem wS (ids:List Int):(ids.map u).all AV.one=true:=by
 rw [List.all_eq_true];intro x hx;obtain ⟨i,_,rfl⟩:=List.mem_map.1 hx;rfl
theorem R6 {n:Nat} (hn:1<=n) {h:ac} {v:AV} {l:Nat} {ids:List Int} (hv:mg h v l 1 (ids.map u)) (hl:l<90000):WC (C n (.fn 180) [v] h) fun r h'=>mg h' r l 1 (ids.map u)/\Sm bm h h':=by
 obtain ⟨hlen,a,c,g,rfl,hnone,_⟩:=id hv
 obtain ⟨m,rfl⟩:∃ m,n=m+1:=⟨n - 1,by omega⟩
 refine ak _ zeC rfl (by simp [IK]) fun QQ hQ=>?_
 simp only [IK] at hQ
 simp only [IK,ah,ai,Nat.zero_add,reduceAdd]
 cases a with
 | none =>
  obtain rfl:=hnone rfl
  simp only [zc5,Jh,Option.isNone_none,SS,Nat.reduceBEq,reduceEqDiff,reduceAdd,reduceIte,reduceMul]
  exact hQ _ _ _ _ (.inr rfl) (by simp only [SS,Nat.reduceBEq]) (by simp only [SS,Nat.reduceBEq,reduceEqDiff,reduceAdd,reduceIte,reduceMul];rfl) ⟨⟨hlen,none,0,none,rfl,fun _=>rfl,(fun _ _ e=>by cases e)⟩,Sm.refl _ _⟩
 | some p =>
  obtain ⟨b,o⟩:=p
  obtain ⟨h1,e1,r1,n1,g1⟩:=Rw.alloc h (id:=h.next) (n:=0) (vs:=[]) (z:=[]) (ro:=false) (Nat.le_refl _) rfl
  have hbn:=hv.lt
  have hv1:=hv.same (h':=h1) (g1 b (by omega)) (by omega)
  have ha:=xJ (t:=51) (id:=h1.next) TH WG Um TZ rfl hv1.src hlen (wS ids) (eO (by omega) (by omega)) (b:=h.next) (by rw [r1.ld (Nat.le_refl _)];rfl)
  simp only [zc5,Jh,Option.isNone_some,K3,sliceTo,e1,ha,SS,Nat.reduceBEq,reduceEqDiff,reduceAdd,reduceIte,reduceMul]
  by_cases hl0:l=0
  ·subst hl0
   simp only [SS,Nat.reduceBEq,reduceEqDiff,reduceAdd,reduceIte,reduceMul]
   refine hQ _ _ _ _ (.inr rfl) (by simp only [SS,Nat.reduceBEq]) (by simp only [SS,Nat.reduceBEq,reduceEqDiff,reduceAdd,reduceIte,reduceMul];rfl) ⟨⟨hlen,_,_,_,rfl,(fun e=>by cases e),fun b' o' e=>?_⟩,?_⟩
   ·cases e
    refine ⟨by omega,?_⟩
    rw [r1.ld (Nat.le_refl _)]
    rw [List.eq_nil_of_length_eq_zero (show (ids.map u).length=0 by omega)];rfl
   ·exact ⟨by omega,fun c hc _=>g1 c (by omega)⟩
  ·obtain ⟨h2,e2,r2,n2,g2⟩:=Rw.alloc h1 (id:=h1.next) (vs:=ids.map u) (z:=ay 48 false) (ro:=false) (Nat.le_refl _) rfl
   simp only [hl0,e2,SS,Nat.reduceBEq,reduceEqDiff,reduceAdd,reduceIte,reduceMul]
   refine hQ _ _ _ _ (.inr rfl) (by simp only [SS,Nat.reduceBEq]) (by simp only [SS,Nat.reduceBEq,reduceEqDiff,reduceAdd,reduceIte,reduceMul];rfl) ⟨⟨hlen,_,_,_,rfl,(fun e=>by cases e),fun b' o' e=>?_⟩,?_⟩
   ·cases e
    refine ⟨by omega,?_⟩
    rw [r2.ld (by omega),List.drop_zero,List.take_of_length_le (by omega)]
   ·refine ⟨by omega,fun c hc _=>?_⟩
    rw [g2 c (by omega),g1 c (by omega)]
structure me (h:ac) (x:Nat) (B:Nat->List Int) (F:Nat->List Nat):Prop where
 ex:∃ S:List AV,S.length=16/\Rw h x (.bool true::S) [] false/\∀ i,i<16->∃ v,S[i]?=some v/\iF 48 1 h v (B i).length ((B i).map u) (F i)
 lt:x<h.next
 fx:∀ i,i<16->x∉F i
 ff:∀ i j,i<16->j<16->i≠j->∀ b,b∈F i->b∉F j
 sz:∀ i,i<16->(B i).length<10000
def Au (x:Nat) (F:Nat->List Nat):Nat->Prop:=fun b=>b=x∨∃ i,i<16/\b∈F i
theorem me.sm {h h':ac} {x:Nat} {B:Nat->List Int} {F:Nat->List Nat} {G:Nat->Prop} (hx:me h x B F) (hs:Sm G h h') (hG:∀ b,Au x F b->¬G b):me h' x B F:=by
 obtain ⟨S,h1,h2,h3⟩:=hx.ex
 refine ⟨⟨S,h1,h2.sm hs hx.lt (hG x (.inl rfl)),fun i hi=>?_⟩,Nat.lt_of_lt_of_le hx.lt hs.1,hx.fx,hx.ff,hx.sz⟩
 obtain ⟨v,g1,g2⟩:=h3 i hi
 exact ⟨v,g1,g2.sm hs fun b hb=>hG b (.inr ⟨i,hi,hb⟩)⟩
def bk (s:List Nat):Nat:=oy s s.length%16
theorem gO (s:List Nat):bk s<16:=Nat.mod_lt _ (by decide)
theorem wI {n:Nat} (hn:1<=n) {h:ac} {x:Nat} {B:Nat->List Int} {F:Nat->List Nat} (hx:me h x B F):WC (C n (.fn 163) [.ptr (some (x,0))] h) fun r h'=>h'=h/\r=.bool true:=by
 obtain ⟨S,h1,h2,h3⟩:=hx.ex
 obtain ⟨m,rfl⟩:∃ m,n=m+1:=⟨n - 1,by omega⟩
 refine ak _ zen rfl (by simp [Iw]) fun QQ hQ=>?_
 simp only [Iw] at hQ
 simp only [Iw,ah,ai,Nat.zero_add,reduceAdd]
 simp only [zfZ,TX,Ct,h2.ld1,Option.isSome_some,SS,Nat.reduceBEq,reduceEqDiff,reduceAdd,reduceIte,reduceMul]
 exact hQ _ _ _ _ (.inr rfl) (by simp only [SS,Nat.reduceBEq]) (by simp only [SS,Nat.reduceBEq,reduceEqDiff,reduceAdd,reduceIte,reduceMul];rfl) ⟨rfl,rfl⟩
theorem Ss {n:Nat} (hn:1<=n) {h:ac}:WC (C n (.fn 107) [] h) fun r h'=>∃ x,r=.ptr (some (x,0))/\me h' x (fun _=>[]) (fun _=>[])/\Sm bm h h'/\h.next<=x:=by
 obtain ⟨m,rfl⟩:∃ m,n=m+1:=⟨n - 1,by omega⟩
 refine ak _ zdV rfl (by simp [H4]) fun QQ hQ=>?_
 simp only [H4] at hQ
 simp only [H4,ah,ai,Nat.zero_add,reduceAdd]
 obtain ⟨h1,e1,r1,n1,g1⟩:=Rw.alloc h (id:=h.next) (n:=17) (vs:=.bool true::List.replicate 16 (.slice none 0 0 none)) (z:=[]) (ro:=false) (Nat.le_refl _) rfl
 simp only [List.replicate_succ,List.replicate_zero] at e1
 simp only [zfI,Cn,e1,SS,Nat.reduceBEq,reduceEqDiff,reduceAdd,reduceIte,reduceMul]
 refine hQ _ _ _ _ (.inr rfl) (by simp only [SS,Nat.reduceBEq]) (by simp only [SS,Nat.reduceBEq,reduceEqDiff,reduceAdd,reduceIte,reduceMul];rfl) ⟨h.next,rfl,⟨⟨_,by simp,r1,fun i hi=>⟨.slice none 0 0 none,?_,iF.nil⟩⟩,by omega,(fun _ _ h=>by cases h),(fun _ _ _ _ _ _ h=>by cases h),(fun _ _=>by simp)⟩,⟨by omega,fun c hc _=>g1 c (by omega)⟩,Nat.le_refl _⟩
 rw [List.getElem?_replicate,if_pos hi]
theorem JX {n:Nat} (hn:2<=n) {h:ac} {x:Nat} {B:Nat->List Int} {F:Nat->List Nat} (hx:me h x B F) {s:List Nat} (hl:s.length<=1000) (hb:kr s) :
  WC (C n (.fn 155) [.ptr (some (x,0)),.str s] h) fun r h'=>mg h' r (B (bk s)).length 1 ((B (bk s)).map u)/\Sm bm h h':=by
 obtain ⟨m,rfl⟩:∃ m,n=m+1:=⟨n - 1,by omega⟩
 refine ak _ zej rfl (by simp [Is]) fun QQ hQ=>?_
 simp only [Is] at hQ
 simp only [Is,ah,ai,Nat.zero_add,reduceAdd]
 obtain ⟨_,h0,ea,rfl,rfl⟩:=wI (n:=m) (by omega) hx
 obtain ⟨hm,eb,sb,_⟩:=Sm.bump h0 9
 have hx':=hx.sm sb (fun _ _ h=>h)
 obtain ⟨_,h1,ec,rfl,rfl⟩:=oz (n:=m) (by omega) s hm hl hb
 obtain ⟨S,h2,h3,h4⟩:=hx'.ex
 obtain ⟨v,g1,g2⟩:=h4 (bk s) (gO s)
 obtain ⟨r,h5,ed,f1,f2⟩:=R6 (n:=m) (by omega) g2.els (by have:=hx.sz _ (gO s);omega)
 have hv:h1.ld1 x (1+bk s)=some v:=by rw [h3.ld1,Nat.add_comm,List.getElem?_cons_succ];exact g1
 have ec':C m (.fn 164) [.str s] h1=some (.int .u8 ((bk s:Nat):Int),h1):=ec
 simp only [zfX,ea,eb,ec',mV,tL (gO s),Nat.mul_one,hv,ed,SS,Nat.reduceBEq,reduceEqDiff,reduceAdd,reduceIte,reduceMul]
 refine hQ _ _ _ _ (.inr rfl) (by simp only [SS,Nat.reduceBEq]) (by simp only [SS,Nat.reduceBEq,reduceEqDiff,reduceAdd,reduceIte,reduceMul];rfl) ?_
 exact ⟨f1,sb.trans f2 (fun _ _ h=>h) (fun _ _ h=>h)⟩
def oU {α : Type} (B:Nat->α) (i:Nat) (v:α):Nat->α:=fun j=>if j=i then v else B j
theorem cg {α : Type} (B:Nat->α) (i:Nat) (v:α):oU B i v i=v:=if_pos rfl
theorem bS {α : Type} (B:Nat->α) {i j:Nat} (v:α) (h:j≠i):oU B i v j=B j:=if_neg h
theorem me.put {h h':ac} {x:Nat} {B:Nat->List Int} {F:Nat->List Nat} (hx:me h x B F) {S:List AV} {i:Nat} {v:AV} {ids:List Int} {bs:List Nat} (hi:i<16) (hS:S.length=16) (hS2:∀ j,j<16->j≠i->∃ v,S[j]?=some v/\iF 48 1 h v (B j).length ((B j).map u) (F j))
  (hr:Rw h' x (.bool true::S.set i v) [] false) (ho:iF 48 1 h' v ids.length (ids.map u) bs) (hbs:∀ b,b∈bs->b∈F i∨h.next<=b) (hn:h.next<=h'.next) (hsm:∀ c,c<h.next->c≠x->c∉F i->h'.bs.gt c=h.bs.gt c) (hl:ids.length<10000) :
  me h' x (oU B i ids) (oU F i bs):=by
 have hff:∀ j,j<16->j≠i->∀ b,b∈F j->b∉bs/\b≠x/\b<h.next/\b∉F i:=by
  intro j hj hne b hb
  obtain ⟨v',_,g⟩:=hS2 j hj hne
  have hlt:=g.lt b hb
  refine ⟨fun hb2=>?_,fun e=>hx.fx j hj (e▸hb),hlt,hx.ff j i hj hi hne b hb⟩
  rcases hbs b hb2 with h1 | h1
  ·exact hx.ff j i hj hi hne b hb h1
  ·omega
 refine ⟨⟨S.set i v,by simpa using hS,hr,fun j hj=>?_⟩,Nat.lt_of_lt_of_le hx.lt hn,fun j hj=>?_,fun j k hj hk hne b hb=>?_,fun j hj=>?_⟩
 ·by_cases e:j=i
  ·subst e
   rw [cg,cg]
   exact ⟨v,by rw [List.getElem?_set_self (by omega)],ho⟩
  ·rw [bS _ _ e,bS _ _ e]
   obtain ⟨v',g1,g2⟩:=hS2 j hj e
   refine ⟨v',by rw [List.getElem?_set_ne (fun h=>e h.symm)];exact g1,g2.same (fun b hb=>?_) hn⟩
   obtain ⟨_,h2,h3,h4⟩:=hff j hj e b hb
   exact hsm b h3 h2 h4
 ·by_cases e:j=i
  ·subst e
   rw [cg]
   intro hb
   rcases hbs x hb with h1 | h1
   ·exact hx.fx j hj h1
   ·have:=hx.lt;omega
  ·rw [bS _ _ e];exact hx.fx j hj
 ·by_cases e:j=i
  ·subst e
   rw [cg] at hb
   rw [bS _ _ (fun h=>hne h.symm)]
   intro hb2
   exact (hff k hk (fun h=>hne h.symm) b hb2).1 hb
  ·rw [bS _ _ e] at hb
   by_cases e':k=i
   ·subst e'
    rw [cg];exact (hff j hj e b hb).1
   ·rw [bS _ _ e'];exact hx.ff j k hj hk hne b hb
 ·by_cases e:j=i
  ·subst e;rw [cg];exact hl
  ·rw [bS _ _ e];exact hx.sz j hj
theorem Sr {n:Nat} (hn:3<=n) {h:ac} {x:Nat} {B:Nat->List Int} {F:Nat->List Nat} (hx:me h x B F) {s:List Nat} (hl:s.length<=1000) (hb:kr s) (id:Int) (hid:id∉B (bk s)) (hlen:(B (bk s)).length<9999) :
  WC (C n (.fn 151) [.ptr (some (x,0)),.str s,u id] h) fun r h'=>r=.int .i64 0/\∃ bs,me h' x (oU B (bk s) (B (bk s)++[id])) (oU F (bk s) bs)/\Sm (Au x F) h h'/\∀ b,b∈bs->b∈F (bk s)∨h.next<=b:=by
 obtain ⟨m,rfl⟩:∃ m,n=m+1:=⟨n - 1,by omega⟩
 refine ak _ zeg rfl (by simp [Ip]) fun QQ hQ=>?_
 simp only [Ip] at hQ
 simp only [Ip,ah,ai,Nat.zero_add,reduceAdd]
 obtain ⟨_,h0,ea,rfl,rfl⟩:=wI (n:=m) (by omega) hx
 obtain ⟨hm,eb,sb,_⟩:=Sm.bump h0 7
 have hx':=hx.sm sb (fun _ _ h=>h)
 obtain ⟨_,h1,ec,rfl,rfl⟩:=oz (n:=m) (by omega) s hm hl hb
 obtain ⟨S,h2,h3,h4⟩:=hx'.ex
 obtain ⟨v,g1,g2⟩:=h4 (bk s) (gO s)
 have hv:h1.ld1 x (1+bk s)=some v:=by rw [h3.ld1,Nat.add_comm,List.getElem?_cons_succ];exact g1
 have ec':C m (.fn 164) [.str s] h1=some (.int .u8 ((bk s:Nat):Int),h1):=ec
 obtain ⟨_,h5,ed,e5,rfl⟩:=yG (n:=m) (by omega) id g2.els (by omega)
 subst e5
 obtain ⟨h6,e6,r6,n6,q6⟩:=Rw.alloc h5 (id:=h5.next) (n:=1) (vs:=[u id]) (z:=[]) (ro:=false) (Nat.le_refl _) rfl
 have g6:iF 48 1 h6 v (B (bk s)).length ((B (bk s)).map u) (F (bk s)):=g2.same (fun b hb=>q6 b (by have:=g2.lt b hb;omega)) (by omega)
 have hs6:cI 1 (fun n=>n) (.slice (some (h5.next,0)) 1 1 none) h6=some ([u id],1):=eS r6 (Nat.le_refl _)
 obtain ⟨v7,h7,bs,e7,o7,n7,q7,b7,_⟩:=CJ (t:=51) (id:=h6.next) TH WG Um TZ rfl g6 hs6 (by decide) rfl rfl (eO (by omega) (by omega)) (Nat.le_refl _)
 have r7:Rw h7 x (.bool true::S) [] false:=h3.same (by rw [q7 x (hx.fx _ (gO s)) (by have:=hx'.lt;omega),q6 x (by have:=hx'.lt;omega)])
 obtain ⟨w1,w2,w3,w4⟩:=r7.st1 (o:=1+bk s) (v:=v7) (by simp [h2];have:=gO s;omega) (by rcases o7 with ⟨rfl,_⟩|⟨_,_,_,_,rfl,_⟩ <;> rfl)
 simp only [zfV,ea,eb,ec',mV,tL (gO s),Nat.mul_one,hv,ed,hid,u0,e6,e7,w1,SS,Nat.reduceBEq,reduceEqDiff,reduceAdd,reduceIte,reduceMul]
 refine hQ _ _ _ _ (.inr rfl) (by simp only [SS,Nat.reduceBEq]) (by simp only [SS,Nat.reduceBEq,reduceEqDiff,reduceAdd,reduceIte,reduceMul];rfl) ?_
 have hbk:=gO s
 refine ⟨rfl,bs,?_,⟨by omega,fun c hc hF=>?_⟩,fun b hb'=>?_⟩
 ·refine hx'.put (h':=h7.wr x (1+bk s) [v7]) (v:=v7) (S:=S) hbk h2 (fun j hj _=>h4 j hj) ?_ ?_ ?_ (by omega) ?_ (by simp;omega)
  ·rw [show (AV.bool true::S).set (1+bk s) v7=.bool true::S.set (bk s) v7 from by rw [Nat.add_comm];rfl] at w2;exact w2
  ·have:=o7.same (h':=h7.wr x (1+bk s) [v7]) (fun b hb'=>w4 b ?_) (by omega)
   ·rw [List.length_append,List.map_append];exact this
   ·rintro rfl
    rcases b7 b hb' with h1 | h1
    ·exact hx.fx _ hbk h1
    ·have:=hx'.lt;omega
  ·intro b hb'
   rcases b7 b hb' with h1 | h1
   ·exact .inl h1
   ·exact .inr (by omega)
  ·intro c hc hcx hcF
   rw [w4 c hcx,q7 c hcF (by omega),q6 c (by omega)]
 ·have hcx:c≠x:=fun e=>hF (.inl e)
  have hcF:c∉F (bk s):=fun e=>hF (.inr ⟨_,hbk,e⟩)
  have hc5:c<h5.next:=Nat.lt_of_lt_of_le hc sb.1
  rw [w4 c hcx,q7 c hcF (by omega),q6 c (by omega),sb.2 c hc (fun h=>h)]
 ·have:=sb.1
  rcases b7 b hb' with h1 | h1
  ·exact .inl h1
  ·exact .inr (by omega)
theorem JL {n:Nat} (hn:1<=n) {h:ac} {v:AV} {l i:Nat} {ids:List Int} {bs:List Nat} (ho:iF 48 1 h v l (ids.map u) bs) (hi:i<l) (hl:l<90000) :
  WC (C n (.fn 166) [v,.int .i64 (i:Int),.int .i64 ((i+1:Nat):Int)] h) fun r h'=>iF 48 1 h' r (l - 1) ((ids.eraseIdx i).map u) bs/\h.next<=h'.next/\∀ c,c∉bs->c<h.next->h'.bs.gt c=h.bs.gt c:=by
 rcases ho with ⟨_,rfl,_,_⟩|⟨b,c,rest,z,rfl,h1,h2,h3,h4,h5,rfl,rfl,h8⟩
 ·omega
 rw [Nat.mul_one,List.length_map] at h1
 rw [Nat.mul_one,List.length_append,List.length_map] at h2
 obtain ⟨m,rfl⟩:∃ m,n=m+1:=⟨n - 1,by omega⟩
 refine ak _ zeq rfl (by simp [Iy]) fun QQ hQ=>?_
 simp only [Iy] at hQ
 simp only [Iy,ah,ai,Nat.zero_add,reduceAdd]
 obtain ⟨h9,e9,s9,b9,n9⟩:=Sm.bump h 8
 have r9:Rw h9 b (ids.map u++rest) (ay 48 false) false:=h4.same (by rw [b9])
 have hsrc:cI 1 (fun n=>n) (.slice (some (b,i+1)) (l - (i+1)) (c - (i+1)) (some 1)) h9=some ((ids.drop (i+1)).map u,l - (i+1)):=by
  rw [eS r9 (by rw [List.length_append,List.length_map];omega),Nat.mul_one,List.drop_append,← List.map_drop,List.take_append_of_le_length (by simp;omega),List.take_of_length_le (by simp;omega)]
 have hle:(ids.drop (i+1)).length=l - (i+1):=by simp;omega
 obtain ⟨ha,ea,ra,na,ga⟩:=za2 (t:=51) (id:=h.next+8) (len:=i) (cap:=c) (o:=0) (g:=some 1) TH WG Um TZ rfl hsrc (by rw [List.length_map,hle,Nat.mul_one]) (wS _) (eO (by omega) (by omega)) r9 (by omega) (by rw [List.length_append,List.length_map,List.length_map,hle];omega)
 have hlen:i+(l - (i+1))=l - 1:=by omega
 rw [hlen] at ea
 have hc1:eD (ids.map u++rest) (0+i*1) ((ids.drop (i+1)).map u)=(ids.eraseIdx i).map u++(ids.map u++rest).drop (l - 1):=by
  unfold eD
  rw [Nat.zero_add,Nat.mul_one,List.length_map,hle,hlen,← List.append_assoc,List.eraseIdx_eq_take_drop_succ,List.map_append,List.take_append_of_le_length (by simp;omega),List.map_take]
 rw [hc1] at ra
 have hce:(ids.eraseIdx i).length=l - 1:=by rw [List.length_eraseIdx];split <;> omega
 have hdl:((ids.map u++rest).drop (l - 1)).length=c - (l - 1):=by simp;omega
 obtain ⟨hb,eb,rb,nb,gb⟩:=R5 (t:=51) (o:=l - 1) (len:=l - (l - 1)) (cap:=c - (l - 1)) (g:=some 1) TH TZ ra (by rw [List.length_append,List.length_map,hce,hdl];simp [AV.cells];omega) rfl
 have hii:¬((i:Int)=((i+1:Nat):Int)):=by omega
 have q1:=Ap (a:=some (b,0)) (n:=l) (g:=some 1) (k:=.i64) (k':=.i64) (k'':=.i64) h3 (show i+1<=l by omega) (Nat.le_succ i)
 have q2:=Ak (a:=some (b,0)) (n:=l) (c:=c) (g:=some 1) (k:=.i64) rfl (show i<=c by omega)
 have q3:=Al (a:=some (b,0)) (n:=l) (c:=c) (g:=some 1) (k:=.i64) rfl (show i+1<=l by omega)
 have q4:=Ao (a:=some (b,0)) (n:=l - 1) (c:=c) (g:=some 1) (k:=.i64) (k':=.i64) rfl h3 (show l - 1<=l by omega)
 simp only [zf0,eJ,q1,q2,q3,q4,hii,e9,ea,eb,SS,Nat.reduceBEq,reduceEqDiff,reduceAdd,reduceIte,reduceMul]
 refine hQ _ _ _ _ (.inr rfl) (by simp only [SS,Nat.reduceBEq]) (by simp only [SS,Nat.reduceBEq,reduceEqDiff,reduceAdd,reduceIte,reduceMul];rfl) ?_
 refine ⟨.inr ⟨b,c,(ids.map u++rest).drop l |>.cons (u 0),_,rfl,by rw [List.length_map,hce,Nat.mul_one],?_,by omega,?_,by omega,rfl,rfl,wS _⟩,by omega,fun c' hc' hlt=>?_⟩
 ·simp [hce];omega
 ·have:eD ((ids.eraseIdx i).map u++(ids.map u++rest).drop (l - 1)) (l - 1) (List.replicate (l - (l - 1)) (AV.int IntKind.u32 0).cells).flatten=(ids.eraseIdx i).map u++(u 0::(ids.map u++rest).drop l):=by
   rw [show l - (l - 1)=1 by omega]
   unfold eD
   rw [List.take_append_of_le_length (by simp [hce]),List.take_of_length_le (by simp [hce])]
   congr 1
   show [u 0]++_=_
   rw [List.singleton_append]
   congr 1
   rw [show (List.replicate 1 (AV.int IntKind.u32 0).cells).flatten.length=1 from rfl,List.drop_append,List.drop_eq_nil_of_le (by simp [hce]),List.nil_append,List.drop_drop]
   congr 1
   first | omega | (simp [hce];omega) | simp [hce]
  rw [← this];exact rb
 ·rw [gb c' (fun e=>hc' (List.mem_singleton.2 e)),ga c' (fun e=>hc' (List.mem_singleton.2 e)),b9]
theorem JV {n:Nat} (hn:3<=n) {h:ac} {x:Nat} {B:Nat->List Int} {F:Nat->List Nat} (hx:me h x B F) {s:List Nat} (hl:s.length<=1000) (hb:kr s) (id:Int) (hid:id∈B (bk s)) :
  WC (C n (.fn 142) [.ptr (some (x,0)),.str s,u id] h) fun r h'=>r=.int .i64 0/\∃ bs i,(B (bk s))[i]?=some id/\me h' x (oU B (bk s) ((B (bk s)).eraseIdx i)) (oU F (bk s) bs)/\Sm (Au x F) h h'/\∀ b,b∈bs->b∈F (bk s):=by
 obtain ⟨m,rfl⟩:∃ m,n=m+1:=⟨n - 1,by omega⟩
 refine ak _ zee rfl (by simp [In]) fun QQ hQ=>?_
 simp only [In] at hQ
 simp only [In,ah,ai,Nat.zero_add,reduceAdd]
 obtain ⟨_,h0,ea,rfl,rfl⟩:=wI (n:=m) (by omega) hx
 obtain ⟨hm,eb,sb,_⟩:=Sm.bump h0 7
 have hx':=hx.sm sb (fun _ _ h=>h)
 obtain ⟨_,h1,ec,rfl,rfl⟩:=oz (n:=m) (by omega) s hm hl hb
 obtain ⟨S,h2,h3,h4⟩:=hx'.ex
 have hbk:=gO s
 obtain ⟨v,g1,g2⟩:=h4 (bk s) hbk
 have hsz:=hx.sz _ hbk
 have hv:h1.ld1 x (1+bk s)=some v:=by rw [h3.ld1,Nat.add_comm,List.getElem?_cons_succ];exact g1
 have ec':C m (.fn 164) [.str s] h1=some (.int .u8 ((bk s:Nat):Int),h1):=ec
 obtain ⟨_,h5,ed,e5,hF⟩:=y7 (n:=m) (by omega) id g2.els (by omega)
 subst e5
 rcases hF with ⟨i,i1,i2,rfl⟩|⟨i1,_⟩
 ·have hi:i<(B (bk s)).length:=(List.getElem?_eq_some_iff.1 i1).1
  obtain ⟨v7,h7,e7,o7,n7,q7⟩:=JL (n:=m) (by omega) g2 hi (by omega)
  have e8:IntKind.i64.wrap ((i:Int)+1)=((i+1:Nat):Int):=by rw [wrap_i64 (by omega) (by omega)];simp
  have hneg:¬((i:Int)<0):=by omega
  have r7:Rw h7 x (.bool true::S) [] false:=h3.same (by rw [q7 x (hx.fx _ hbk) hx'.lt])
  obtain ⟨w1,w2,w3,w4⟩:=r7.st1 (o:=1+bk s) (v:=v7) (by simp [h2];omega) (by rcases o7 with ⟨rfl,_⟩|⟨_,_,_,_,rfl,_⟩ <;> rfl)
  simp only [zfT,ea,eb,ec',mV,tL hbk,hv,ed,hneg,e8,e7,w1,SS,Nat.reduceBEq,reduceEqDiff,reduceAdd,reduceIte,reduceMul]
  refine hQ _ _ _ _ (.inr rfl) (by simp only [SS,Nat.reduceBEq]) (by simp only [SS,Nat.reduceBEq,reduceEqDiff,reduceAdd,reduceIte,reduceMul];rfl) ?_
  have hlen:((B (bk s)).eraseIdx i).length=(B (bk s)).length - 1:=by rw [List.length_eraseIdx];split <;> omega
  refine ⟨rfl,F (bk s),i,i1,?_,⟨by have:=sb.1;omega,fun c hc hF=>?_⟩,fun b hb'=>hb'⟩
  ·refine hx'.put (h':=h7.wr x (1+bk s) [v7]) (v:=v7) (S:=S) hbk h2 (fun j hj _=>h4 j hj) ?_ ?_ (fun b hb'=>.inl hb') (by omega) ?_ (by omega)
   ·rw [show (AV.bool true::S).set (1+bk s) v7=.bool true::S.set (bk s) v7 from by rw [Nat.add_comm];rfl] at w2;exact w2
   ·rw [hlen]
    exact o7.same (fun b hb'=>w4 b (fun e=>hx.fx _ hbk (e▸hb'))) (by omega)
   ·intro c hc hcx hcF
    rw [w4 c hcx,q7 c hcF hc]
  ·have hcx:c≠x:=fun e=>hF (.inl e)
   have hcF:c∉F (bk s):=fun e=>hF (.inr ⟨_,hbk,e⟩)
   rw [w4 c hcx,q7 c hcF (Nat.lt_of_lt_of_le hc sb.1),sb.2 c hc (fun h=>h)]
 ·obtain ⟨j,hj⟩:=List.getElem?_of_mem hid
  exact absurd hj (i1 j)
end Go.Proofs.YtboobbebilegnaaGreat
namespace Go.Proofs.YtboobbebilegnaaGreat
open Go.Am
set_option maxRecDepth 10000
structure Ch where
 id:Int
 data:List Nat
 block:Int
 refs:Int
def Ch.val (c:Ch):AV:=.agg [.str c.data,.int .i64 c.block,.int .i64 c.refs]
def d5 (es:List aG) (L:List Ch):Prop:=es.map (fun e=>(e.key,e.val))=L.map fun c=>(u c.id,c.val)
def fC (L:List Ch) (id:Int):Option Ch:=L.find? fun c=>c.id==id
def dU (c:Ch):List Ch->List Ch
 | []=>[c]
 | d::L=>if d.id==c.id then c::L else d::dU c L
def kJ (id:Int):List Ch->List Ch
 | []=>[]
 | d::L=>if d.id==id then L else d::kJ id L
theorem d5.nil {es:List aG}:d5 es []↔es=[]:=by unfold d5;simp
theorem d5.cons {es:List aG} {c:Ch} {L:List Ch} (h:d5 es (c::L)):∃ e es',es=e::es'/\e.key=u c.id/\e.val=c.val/\d5 es' L:=by
 cases es with
 | nil=>cases h
 | cons e es' =>
  unfold d5 at h
  simp only [List.map_cons,List.cons.injEq,Prod.mk.injEq] at h
  exact ⟨e,es',rfl,h.1.1,h.1.2,h.2⟩
theorem d5.mk {es:List aG} {e:aG} {c:Ch} {L:List Ch} (h:d5 es L) (h1:e.key=u c.id) (h2:e.val=c.val):d5 (e::es) (c::L):=by
 unfold d5 at h ⊢
 rw [List.map_cons,List.map_cons,h,h1,h2]
theorem d5.all:∀ {L:List Ch} {es:List aG},d5 es L->gD .u32 es
 | [],es,h=>by rw [d5.nil.1 h];intro e he;cases he
 | c::L,es,h=>by
  obtain ⟨e,es',rfl,h1,_,h3⟩:=h.cons
  intro x hx
  rcases List.mem_cons.1 hx with rfl | hx
  ·exact ⟨_,h1⟩
  ·exact h3.all x hx
theorem rP {e:aG} {n id:Int} (h:e.key=u n):d7 .u32 id e=(n==id):=by
 unfold d7;rw [h]
 show (IntKind.u32==IntKind.u32&&n==id)=_
 rw [show (IntKind.u32==IntKind.u32)=true from rfl,Bool.true_and]
theorem d5.find:∀ {L:List Ch} {es:List aG} (_:d5 es L) (id:Int),(es.find? (d7 .u32 id)).map (·.val)=(fC L id).map Ch.val
 | [],es,h,id=>by rw [d5.nil.1 h];rfl
 | c::L,es,h,id=>by
  obtain ⟨e,es',rfl,h1,h2,h3⟩:=h.cons
  unfold fC
  rw [List.find?_cons,List.find?_cons,rP h1]
  cases c.id==id with
  | true=>simp [h2]
  | false=>exact h3.find id
theorem d5.put:∀ {L:List Ch} {es:List aG} (_:d5 es L) (c:Ch) (k:Nat),d5 (gw .u32 c.id c.val k es) (dU c L)
 | [],es,h,c,k=>by rw [d5.nil.1 h];rfl
 | d::L,es,h,c,k=>by
  obtain ⟨e,es',rfl,h1,h2,h3⟩:=h.cons
  rw [gw,dU,rP h1]
  cases d.id==c.id with
  | true=>exact h3.mk rfl rfl
  | false=>exact (h3.put c k).mk h1 h2
theorem d5.cut:∀ {L:List Ch} {es:List aG} (_:d5 es L) (id:Int),d5 (qg .u32 id es) (kJ id L)
 | [],es,h,id=>by rw [d5.nil.1 h];rfl
 | d::L,es,h,id=>by
  obtain ⟨e,es',rfl,h1,h2,h3⟩:=h.cons
  rw [qg,kJ,rP h1]
  cases d.id==id with
  | true=>exact h3
  | false=>exact (h3.cut id).mk h1 h2
section
variable {h:ac} {mb k:Nat} {es:List aG} {L:List Ch} {id:Int} {c:Ch}
theorem d5.findS (h:d5 es L) (hg:fC L id=some c):∃ x,es.find? (d7 .u32 id)=some x/\x.val=c.val:=by
 have:=h.find id
 rw [hg] at this
 cases he:es.find? (d7 .u32 id) with
 | none=>rw [he] at this;cases this
 | some x=>rw [he] at this;exact ⟨x,rfl,Option.some.inj this⟩
theorem d5.findN (h:d5 es L) (hg:fC L id=none):es.find? (d7 .u32 id)=none:=by
 have:=h.find id
 rw [hg] at this
 cases he:es.find? (d7 .u32 id) with
 | none=>rfl
 | some x=>rw [he] at this;cases this
theorem SG (hb:h.bs.gt mb=some (.map es k)) (he:d5 es L) (hg:fC L id=some c):dY P 173 true (.map (some mb)) (u id) h=some (.tuple [c.val,.bool true]):=by
 obtain ⟨x,h1,h2⟩:=he.findS hg
 rw [mt hb he.all,h1]
 show some (AV.tuple [x.val,.bool true])=_
 rw [h2]
theorem zh (hb:h.bs.gt mb=some (.map es k)) (he:d5 es L) (hg:fC L id=some c):dY P 173 false (.map (some mb)) (u id) h=some c.val:=by
 obtain ⟨x,h1,h2⟩:=he.findS hg
 rw [tN hb he.all,h1]
 show some x.val=_
 rw [h2]
theorem SF (hb:h.bs.gt mb=some (.map es k)) (he:d5 es L) (hg:fC L id=none):dY P 173 true (.map (some mb)) (u id) h=some (.tuple [.agg [.str [],.int .i64 0,.int .i64 0],.bool false]):=by
 rw [mt hb he.all,he.findN hg];rfl
end
structure Xf (k:Nat) (es:List aG) (L:List Ch):Prop where
 e:d5 es L
 b:fh es k
theorem S4 {k n:Nat} {id:Int} {v:AV}:∀ {es:List aG},es.any (d7 .u32 id)=false->fh es k->n=k+1->fh (gw .u32 id v k es) n:=by
 intro es ha hb hn
 subst hn
 rw [sG ha]
 refine ⟨fun e he=>?_,?_⟩
 ·rcases List.mem_append.1 he with h | h
  ·have:=hb.1 e h;omega
  ·rw [List.mem_singleton.1 h];exact Nat.lt_succ_self _
 ·rw [List.pairwise_append]
  refine ⟨hb.2,List.pairwise_singleton _ _,fun a ha b hb'=>?_⟩
  have:=hb.1 a ha
  rw [List.mem_singleton.1 hb']
  show a.born≠k
  omega
theorem sE {c:Nat} {id:Int} {v:AV}:∀ {es:List aG},es.any (d7 .u32 id)=true->(gw .u32 id v c es).map (·.born)=es.map (·.born)
 | [],h=>by cases h
 | e::es,h=>by
  unfold gw
  cases hk:d7 .u32 id e with
  | true=>rfl
  | false =>
   rw [List.any_cons,hk,Bool.false_or] at h
   show e.born::_=e.born::_
   rw [sE h]
theorem Jt {k:Nat} {es es':List aG} (h:fh es k) (he:es'.map (·.born)=es.map (·.born)):fh es' k:=by
 refine ⟨fun e hm=>?_,?_⟩
 ·have:e.born∈es.map (·.born):=by rw [← he];exact List.mem_map.2 ⟨e,hm,rfl⟩
  obtain ⟨d,d1,d2⟩:=List.mem_map.1 this
  rw [← d2];exact h.1 d d1
 ·have h2:(es.map (·.born)).Pairwise (·≠ ·):=List.pairwise_map.2 h.2
  rw [← he] at h2
  exact List.pairwise_map.1 h2
theorem zC {k:Nat} {id:Int} {v:AV} {es:List aG} (ha:es.any (d7 .u32 id)=true) (hb:fh es k):fh (gw .u32 id v k es) k:=Jt hb (sE ha)
theorem rj (id:Int):∀ es:List aG,(qg .u32 id es).Sublist es
 | []=>List.Sublist.refl _
 | e::es=>by
  unfold qg
  split
  ·exact List.sublist_cons_self _ _
  ·exact (rj id es).cons_cons e
theorem JI {k:Nat} {id:Int} {es:List aG} (hb:fh es k):fh (qg .u32 id es) k :=
 ⟨fun e he=>hb.1 e ((rj id es).subset he),hb.2.sublist (rj id es)⟩
structure iH (L:List Ch) (next:Int) (B:Nat->List Int):Prop where
 ids:(L.map Ch.id).Nodup
 datas:(L.map Ch.data).Nodup
 ch:∀ c,c∈L->1<=c.id/\c.id<next/\1<=c.data.length/\c.data.length<=64/\kr c.data/\1<=c.refs/\c.refs<=65535
 next:1<=next/\next<=4294967295
 inB:∀ c,c∈L->c.id∈B (bk c.data)
 ofB:∀ i,i<16->∀ id,id∈B i->∃ c,c∈L/\c.id=id/\bk c.data=i
 ndB:∀ i,i<16->(B i).Nodup
 len:L.length<5000
structure bc (h:ac) (tb:Nat) (L:List Ch) (next:Int) (F:Nat->Prop):Prop where
 ex:∃ mb x es c B X,Rw h tb [.map (some mb),.ptr (some (x,0)),u next] [] false/\h.bs.gt mb=some (.map es c)/\Xf c es L/\me h x B X/\iH L next B/\mb<h.next/\tb≠mb/\¬Au x X tb/\¬Au x X mb/\F=fun b=>b=tb∨b=mb∨Au x X b
 lt:tb<h.next
theorem bc.sm {h h':ac} {tb:Nat} {L:List Ch} {next:Int} {F G:Nat->Prop} (ht:bc h tb L next F) (hs:Sm G h h') (hG:∀ b,F b->¬G b):bc h' tb L next F:=by
 obtain ⟨mb,x,es,c,B,X,h1,h2,h3,h4,h5,h6,h7,h8,h9,rfl⟩:=ht.ex
 exact ⟨⟨mb,x,es,c,B,X,h1.sm hs ht.lt (hG tb (.inl rfl)),(hs.2 mb h6 (hG mb (.inr (.inl rfl)))).trans h2,h3,h4.sm hs (fun b hb=>hG b (.inr (.inr hb))),h5,Nat.lt_of_lt_of_le h6 hs.1,h7,h8,h9,rfl⟩,Nat.lt_of_lt_of_le ht.lt hs.1⟩
theorem pa {n:Nat} (hn:1<=n) {h:ac} {tb:Nat} {L:List Ch} {next:Int} {F:Nat->Prop} (ht:bc h tb L next F):WC (C n (.fn 108) [.ptr (some (tb,0))] h) fun r h'=>h'=h/\r=.bool true:=by
 obtain ⟨mb,x,es,c,B,X,h1,_⟩:=ht.ex
 obtain ⟨m,rfl⟩:∃ m,n=m+1:=⟨n - 1,by omega⟩
 refine ak _ zdW rfl (by simp [H5]) fun QQ hQ=>?_
 simp only [H5] at hQ
 simp only [H5,ah,ai,Nat.zero_add,reduceAdd]
 simp only [zfJ,Jj,cQ,TV,h1.ld1,Option.isSome_some,SS,Nat.reduceBEq,reduceEqDiff,reduceAdd,reduceIte,reduceMul]
 refine hQ _ _ _ _ (.inr rfl) (by simp only [SS,Nat.reduceBEq]) (by simp only [SS,Nat.reduceBEq,reduceEqDiff,reduceAdd,reduceIte,reduceMul];rfl) ?_
 exact ⟨rfl,rfl⟩
def zCh:AV:=.agg [.str [],.int .i64 0,.int .i64 0]
theorem lB {n:Nat} (hn:2<=n) {h:ac} {tb:Nat} {L:List Ch} {next:Int} {F:Nat->Prop} (ht:bc h tb L next F) (id:Int):WC (C n (.fn 115) [.ptr (some (tb,0)),u id] h) fun r h'=>Sm bm h h'/\r=match fC L id with
  | some c=>.tuple [c.val,.int .i64 0]
  | none=>.tuple [zCh,.int .i64 5]:=by
 obtain ⟨mb,x,es,c,B,X,h1,h2,h3,_,_,hmb,_⟩:=ht.ex
 have h3:=h3.e
 obtain ⟨m,rfl⟩:∃ m,n=m+1:=⟨n - 1,by omega⟩
 refine ak _ zd2 rfl (by simp [Ib]) fun QQ hQ=>?_
 simp only [Ib] at hQ
 simp only [Ib,ah,ai,Nat.zero_add,reduceAdd]
 obtain ⟨h5,e5,r5,n5,g5⟩:=Rw.alloc h (id:=h.next) (n:=3) (vs:=[.str [],.int .i64 0,.int .i64 0]) (z:=ay 183 true) (ro:=false) (Nat.le_refl _) rfl
 have s5:Sm bm h h5:=⟨by omega,fun c hc _=>g5 c (by omega)⟩
 have ht5:=ht.sm s5 (fun _ _ h=>h)
 have h0':h5.bs.gt mb=some (.map es c):=(g5 mb (by omega)).trans h2
 have r1:Rw h5 tb [.map (some mb),.ptr (some (x,0)),u next] [] false:=h1.sm s5 ht.lt (fun h=>h)
 obtain ⟨_,h0,ea,rfl,rfl⟩:=pa (n:=m) (by omega) ht5
 obtain ⟨h6,e6,r6,n6,g6⟩:=Rw.alloc h0 (id:=h0.next) (n:=3) (vs:=[.str [],.int .i64 0,.int .i64 0]) (z:=ay 183 true) (ro:=false) (Nat.le_refl _) rfl
 have rc:nQ P 183=di 3:=by kernel_rfl
 have key:∀ us:List AV,us.length=3->us.all AV.one=true->∀ ws:List AV,ws.length=3->ws.all AV.one=true->∃ h7 h8,h6.sto h0.next 0 us=some h7/\h7.ld h0.next 0 3=some us/\h7.sto h.next 0 ws=some h8/\h8.ld h.next 0 3=some ws/\Sm bm h h8:=by
  intro us hu1 hu2 ws hw1 hw2
  obtain ⟨w1,w2,w3,w4⟩:=r6.sto (o:=0) (us:=us) (by simp [hu1]) hu2
  have r7:Rw (h6.wr h0.next 0 us) h.next [.str [],.int .i64 0,.int .i64 0] (ay 183 true) false:=r5.same (by rw [w4 _ (by omega),g6 _ (by omega)])
  obtain ⟨v1,v2,v3,v4⟩:=r7.sto (o:=0) (us:=ws) (by simp [hw1]) hw2
  have full:∀ (l us:List AV),l.length=3->us.length=3->eD l 0 us=us:=by
   intro l us h1 h2
   unfold eD
   rw [List.take_zero,List.nil_append,Nat.zero_add,h2,List.drop_eq_nil_of_le (by omega),List.append_nil]
  rw [full _ _ rfl hu1] at w2
  rw [full _ _ rfl hw1] at v2
  refine ⟨_,_,w1,?_,v1,?_,⟨by omega,fun c hc _=>?_⟩⟩
  ·rw [w2.ld (by omega),List.drop_zero,List.take_of_length_le (by omega)]
  ·rw [v2.ld (by omega),List.drop_zero,List.take_of_length_le (by omega)]
  ·rw [v4 c (by omega),w4 c (by omega),g6 c (by omega),g5 c (Nat.ne_of_lt hc)]
 cases hg:fC L id with
 | none =>
  obtain ⟨h7,h8,k1,k2,k3,k4,k5⟩:=key [.str [],.int .i64 0,.int .i64 0] rfl rfl [.str [],.int .i64 0,.int .i64 0] rfl rfl
  simp only [zc0,fc,e5,ea,cQ,r1.ld1,SF h0' h3 hg,e6,KZ,k1,k3,SS,Nat.reduceBEq,reduceEqDiff,reduceAdd,reduceIte,reduceMul]
  refine hQ _ _ _ _ (.inr rfl) (by simp only [SS,Nat.reduceBEq]) (by simp only [SS,Nat.reduceBEq,reduceEqDiff,reduceAdd,reduceIte,reduceMul,rc,k4];rfl) ?_
  exact ⟨k5,by rw [hg];rfl⟩
 | some ch =>
  obtain ⟨h7,h8,k1,k2,k3,k4,k5⟩:=key [.str ch.data,.int .i64 ch.block,.int .i64 ch.refs] rfl rfl [.str ch.data,.int .i64 ch.block,.int .i64 ch.refs] rfl rfl
  have hl:=SG h0' h3 hg
  unfold Ch.val at hl
  simp only [zc0,fc,e5,ea,cQ,r1.ld1,hl,e6,k1,k2,k3,SS,Nat.reduceBEq,reduceEqDiff,reduceAdd,reduceIte,reduceMul]
  refine hQ _ _ _ _ (.inr rfl) (by simp only [SS,Nat.reduceBEq]) (by simp only [SS,Nat.reduceBEq,reduceEqDiff,reduceAdd,reduceIte,reduceMul,rc,k4];rfl) ?_
  exact ⟨k5,by rw [hg];rfl⟩
def pE (L:List Ch) (d:List Nat):Option Ch:=L.find? fun c=>c.data==d
theorem jF {L:List Ch} {id:Int} {c:Ch} (h:fC L id=some c):c∈L/\c.id=id:=by
 have h1:=List.find?_some h
 exact ⟨List.mem_of_find?_eq_some h,by simpa using h1⟩
theorem jE {L:List Ch} {id:Int} (h:fC L id=none):∀ c,c∈L->c.id≠id:=by
 intro c hc e
 have:=List.find?_eq_none.1 h c hc
 simp [e] at this
theorem qx {L:List Ch} {d:List Nat} {c:Ch} (h:pE L d=some c):c∈L/\c.data=d:=by
 have h1:=List.find?_some h
 exact ⟨List.mem_of_find?_eq_some h,by simpa using h1⟩
theorem ny {L:List Ch} {d:List Nat} (h:pE L d=none):∀ c,c∈L->c.data≠d:=by
 intro c hc e
 have:=List.find?_eq_none.1 h c hc
 simp [e] at this
theorem lV {α β : Type} {f:α->β}:∀ {L:List α},(L.map f).Nodup->∀ {c d:α},c∈L->d∈L->f c=f d->c=d
 | [],_,c,d,hc,_,_=>by cases hc
 | a::L,hn,c,d,hc,hd,he=>by
  rw [List.map_cons,List.nodup_cons] at hn
  rcases List.mem_cons.1 hc with rfl | hc'
  ·rcases List.mem_cons.1 hd with rfl | hd'
   ·rfl
   ·exact absurd (List.mem_map.2 ⟨d,hd',he.symm⟩) hn.1
  ·rcases List.mem_cons.1 hd with rfl | hd'
   ·exact absurd (List.mem_map.2 ⟨c,hc',he⟩) hn.1
   ·exact lV hn.2 hc' hd' he
theorem gH {L:List Ch} (hn:(L.map Ch.id).Nodup) {c:Ch} (hc:c∈L):fC L c.id=some c:=by
 cases hg:fC L c.id with
 | none=>exact absurd rfl (jE hg c hc)
 | some d =>
  obtain ⟨h1,h2⟩:=jF hg
  rw [lV hn h1 hc h2]
theorem rD {L:List Ch} (hn:(L.map Ch.data).Nodup) {c:Ch} (hc:c∈L):pE L c.data=some c:=by
 cases hg:pE L c.data with
 | none=>exact absurd rfl (ny hg c hc)
 | some d =>
  obtain ⟨h1,h2⟩:=qx hg
  rw [lV hn h1 hc h2]
theorem sY {n:Nat} (hn:4<=n) {h:ac} {tb:Nat} {L:List Ch} {next:Int} {F:Nat->Prop} (ht:bc h tb L next F) {s:List Nat} (hl:s.length<=1000) (hb:kr s):WC (C n (.fn 120) [.ptr (some (tb,0)),.str s] h) fun r h'=>Sm bm h h'/\r=match pE L s with
  | some c=>.tuple [u c.id,.bool true]
  | none=>.tuple [u 0,.bool false]:=by
 obtain ⟨mb,x,es,c,B,X,h1,h2,h3,h4,h5,hmb,_⟩:=ht.ex
 have h3:=h3.e
 obtain ⟨m,rfl⟩:∃ m,n=m+1:=⟨n - 1,by omega⟩
 refine ak _ zd7 rfl (by simp [Ig]) fun QQ hQ=>?_
 simp only [Ig] at hQ
 simp only [Ig,ah,ai,Nat.zero_add,reduceAdd]
 obtain ⟨_,h0,ea,rfl,rfl⟩:=pa (n:=m) (by omega) ht
 obtain ⟨v,h6,eb,hv,s6⟩:=JX (n:=m) (by omega) h4 hl hb
 have hbk:=gO s
 have hsz:=h4.sz _ hbk
 obtain ⟨hlen,a,cp,g,rfl,_⟩:=id hv
 have h2':h6.bs.gt mb=some (.map es c):=(s6.2 mb hmb (fun h=>h)).trans h2
 have r1:Rw h6 tb [.map (some mb),.ptr (some (x,0)),u next] [] false:=h1.sm s6 ht.lt (fun h=>h)
 simp only [K9,ea,mU,h1.ld1,eb,eJ,SS,Nat.reduceBEq,reduceEqDiff,reduceAdd,reduceIte,reduceMul]
 refine aF (c:=vD) (I:=fun k tm' h'=>∃ i,i<=(B (bk s)).length/\k=(B (bk s)).length - i/\h'=h6/\(∀ (j:Nat) id c,j<i->(B (bk s))[j]?=some id->fC L id=some c->c.data≠s)/\tm'.gt 0=some (.ptr (some (tb,0)))/\tm'.gt 1=some (.str s)/\tm'.gt 16=some (.slice a (B (bk s)).length cp g)/\tm'.gt 17=some (.int .i64 ((B (bk s)).length:Int))/\tm'.gt 18=some (.int .i64 (i:Int))/\tm'.gt 33=none) (n:=(B (bk s)).length)
  ⟨0,by simp [fe,dN,gt_leaf]⟩ (by omega) ?_
 rintro _ tm h9 ⟨i,hi,rfl,rfl,hno,t0,t1,t16,t17,t18,t33⟩ Q1 hN hE
 by_cases hlt:i<(B (bk s)).length
 ·obtain ⟨b,o,rfl,hcell⟩:=hv.cell (by omega)
  have hc:=hcell i (by omega)
  have hx:(B (bk s))[i]?=some (B (bk s))[i]:=List.getElem?_eq_getElem (by omega)
  rw [List.getElem?_map,hx,Option.map_some] at hc
  obtain ⟨ch,c1,c2,c3⟩:=h5.ofB _ hbk _ (List.mem_of_getElem? hx)
  have hg:=gH h5.ids c1
  rw [c2] at hg
  have hlk:=zh h2' h3 hg
  unfold Ch.val at hlk
  by_cases he:ch.data=s
  ·simp only [K9,aB hlt,cQ,r1.ld1,hlk,tK,t0,t1,t16,t17,t18,t33,SS,Nat.reduceBEq,reduceEqDiff,reduceAdd,reduceIte,reduceMul,Int.ofNat_lt,hlt,hc,he]
   refine hE _ _ _ (by simp) ?_
   simp only [SS,Nat.reduceBEq,reduceEqDiff,reduceAdd,reduceIte,reduceMul]
   refine hQ _ _ _ _ (.inr rfl) (by simp only [SS,Nat.reduceBEq,t33]) (by simp only [SS,Nat.reduceBEq,reduceEqDiff,reduceAdd,reduceIte,reduceMul];rfl) ?_
   refine ⟨s6,?_⟩
   have hf:=rD h5.datas c1
   rw [he] at hf
   rw [hf,← c2];rfl
  ·simp only [K9,aB hlt,cQ,r1.ld1,hlk,tK,t0,t1,t16,t17,t18,t33,SS,Nat.reduceBEq,reduceEqDiff,reduceAdd,reduceIte,reduceMul,Int.ofNat_lt,hlt,hc,he]
   refine hN _ _ ((B (bk s)).length - (i+1)) (by omega) ⟨i+1,hlt,rfl,rfl,fun j id c' hj h1' h2'=>?_,?_⟩
   ·by_cases e:j=i
    ·subst e;rw [hx] at h1';cases h1';rw [hg] at h2';cases h2';exact he
    ·exact hno j id c' (by omega) h1' h2'
   ·have e7:IntKind.i64.wrap ((i:Int)+1)=((i+1:Nat):Int):=by rw [wrap_i64 (by omega) (by omega)];simp
    simp only [SS,Nat.reduceBEq,reduceEqDiff,reduceAdd,reduceIte,reduceMul,t0,t1,t16,t17,t18,t33,e7,and_self]
 ·obtain rfl:i=(B (bk s)).length:=by omega
  simp only [K9,t0,t1,t16,t17,t18,t33,SS,Nat.reduceBEq,reduceEqDiff,reduceAdd,reduceIte,reduceMul,Int.ofNat_lt,hlt]
  refine hE _ _ _ (by simp) ?_
  simp only [K9,t0,t1,t16,t17,t18,t33,SS,Nat.reduceBEq,reduceEqDiff,reduceAdd,reduceIte,reduceMul]
  refine hQ _ _ _ _ (.inr rfl) (by simp only [SS,Nat.reduceBEq,t33]) (by simp only [SS,Nat.reduceBEq,reduceEqDiff,reduceAdd,reduceIte,reduceMul];rfl) ?_
  refine ⟨s6,?_⟩
  cases hf:pE L s with
  | none=>rfl
  | some c' =>
   obtain ⟨f1,f2⟩:=qx hf
   have hin:=h5.inB c' f1
   rw [f2] at hin
   obtain ⟨j,hj⟩:=List.getElem?_of_mem hin
   exact absurd f2 (hno j _ c' (List.getElem?_eq_some_iff.1 hj).1 hj (gH h5.ids f1))
theorem zB {c:Ch}:∀ {L:List Ch},(∀ d,d∈L->d.id≠c.id)->dU c L=L++[c]
 | [],_=>rfl
 | d::L,h=>by
  rw [dU,show (d.id==c.id)=false from by simpa using h d (List.mem_cons_self ..),zB fun e he=>h e (List.mem_cons_of_mem _ he)];rfl
theorem Ln {es:List aG} {id:Int} (h:es.find? (d7 .u32 id)=none):es.any (d7 .u32 id)=false:=by
 rw [List.any_eq_false]
 intro e he
 have:=List.find?_eq_none.1 h e he
 simpa using this
theorem ij {α : Type} {L:List α} {a:α} (h:L.Nodup) (ha:a∉L):(L++[a]).Nodup:=by
 rw [List.nodup_append]
 refine ⟨h,List.nodup_cons.2 ⟨List.not_mem_nil,List.nodup_nil⟩,fun x hx y hy e=>?_⟩
 rw [List.mem_singleton] at hy
 exact ha (hy▸e▸hx)
theorem iH.add {L:List Ch} {next:Int} {B:Nat->List Int} (h:iH L next B) {c:Ch} (h1:1<=c.id) (h2:c.id<4294967295) (hid:fC L c.id=none) (hd:pE L c.data=none) (hl1:1<=c.data.length) (hl2:c.data.length<=64) (hb:kr c.data) (hr1:1<=c.refs) (hr2:c.refs<=65535) (hlen:L.length<4999) :
  iH (L++[c]) (max next (c.id+1)) (oU B (bk c.data) (B (bk c.data)++[c.id])):=by
 have hbk:=gO c.data
 refine ⟨?_,?_,fun d hd'=>?_,⟨by have:=h.next;omega,by have:=h.next;omega⟩,fun d hd'=>?_,fun i hi id hid'=>?_,fun i hi=>?_,by simp;omega⟩
 ·rw [List.map_append]
  exact ij h.ids fun hm=>by obtain ⟨d,d1,d2⟩:=List.mem_map.1 hm;exact jE hid d d1 d2
 ·rw [List.map_append]
  exact ij h.datas fun hm=>by obtain ⟨d,d1,d2⟩:=List.mem_map.1 hm;exact ny hd d d1 d2
 ·rcases List.mem_append.1 hd' with hd' | hd'
  ·obtain ⟨a1,a2,a3⟩:=h.ch d hd'
   exact ⟨a1,by omega,a3⟩
  ·rw [List.mem_singleton] at hd'
   subst hd'
   exact ⟨h1,by omega,hl1,hl2,hb,hr1,hr2⟩
 ·rcases List.mem_append.1 hd' with hd' | hd'
  ·have:=h.inB d hd'
   by_cases e:bk d.data=bk c.data
   ·rw [e,cg];rw [e] at this;exact List.mem_append_left _ this
   ·rw [bS _ _ e];exact this
  ·rw [List.mem_singleton] at hd'
   subst hd'
   rw [cg];exact List.mem_append_right _ (List.mem_singleton.2 rfl)
 ·by_cases e:i=bk c.data
  ·subst e
   rw [cg] at hid'
   rcases List.mem_append.1 hid' with h3 | h3
   ·obtain ⟨d,d1,d2,d3⟩:=h.ofB _ hi id h3
    exact ⟨d,List.mem_append_left _ d1,d2,d3⟩
   ·exact ⟨c,List.mem_append_right _ (List.mem_singleton.2 rfl),(List.mem_singleton.1 h3).symm,rfl⟩
  ·rw [bS _ _ e] at hid'
   obtain ⟨d,d1,d2,d3⟩:=h.ofB _ hi id hid'
   exact ⟨d,List.mem_append_left _ d1,d2,d3⟩
 ·by_cases e:i=bk c.data
  ·subst e
   rw [cg]
   refine ij (h.ndB _ hi) fun hm=>?_
   obtain ⟨d,d1,d2,d3⟩:=h.ofB _ hi _ hm
   exact jE hid d d1 d2
  ·rw [bS _ _ e];exact h.ndB i hi
theorem uJ:∀ {l m:List Int},l.Nodup->(∀ x,x∈l->x∈m)->l.length<=m.length
 | [],_,_,_=>Nat.zero_le _
 | x::l,m,hn,h=>by
  rw [List.nodup_cons] at hn
  have hx:=h x (List.mem_cons_self ..)
  have:=uJ (m:=m.erase x) hn.2 fun y hy=>(List.mem_erase_of_ne (fun e=>hn.1 (by rw [← e];exact hy))).2 (h y (List.mem_cons_of_mem _ hy))
  rw [List.length_erase_of_mem hx] at this
  have hp:0<m.length:=List.length_pos_of_mem hx
  simp only [List.length_cons];omega
theorem iH.szB {L:List Ch} {next:Int} {B:Nat->List Int} (h:iH L next B) {i:Nat} (hi:i<16):(B i).length<=L.length:=by
 have:=uJ (m:=L.map Ch.id) (h.ndB i hi) fun x hx=>by obtain ⟨d,d1,d2,_⟩:=h.ofB i hi x hx;exact List.mem_map.2 ⟨d,d1,d2⟩
 simpa using this
theorem Jd {n:Nat} (hn:4<=n) {h:ac} {tb:Nat} {L:List Ch} {next:Int} {F:Nat->Prop} (ht:bc h tb L next F) (c:Ch) (h1:1<=c.id) (h2:c.id<4294967295) (hid:fC L c.id=none) (hd:pE L c.data=none) (hl1:1<=c.data.length) (hl2:c.data.length<=64) (hb:kr c.data) (hr1:1<=c.refs) (hr2:c.refs<=65535) (hlen:L.length<4999) :
  WC (C n (.fn 109) [.ptr (some (tb,0)),u c.id,c.val] h) fun r h'=>r=.tuple []/\∃ F',bc h' tb (L++[c]) (max next (c.id+1)) F'/\Sm F h h'/\∀ b,F' b->F b∨h.next<=b:=by
 obtain ⟨mb,x,es,k,B,X,t1,t2,t3,t4,t5,hmb,hne,hx1,hx2,rfl⟩:=ht.ex
 have t3b:=t3.b
 have t3:=t3.e
 unfold Ch.val
 obtain ⟨m,rfl⟩:∃ m,n=m+1:=⟨n - 1,by omega⟩
 refine ak _ zdX rfl (by simp [H6]) fun QQ hQ=>?_
 simp only [H6] at hQ
 simp only [H6,ah,ai,Nat.zero_add,reduceAdd]
 obtain ⟨h3,e3,r3,n3,g3⟩:=Rw.alloc h (id:=h.next) (n:=3) (vs:=[.str c.data,.int .i64 c.block,.int .i64 c.refs]) (z:=[]) (ro:=false) (Nat.le_refl _) rfl
 obtain ⟨h4,e4,s4,b4,n4⟩:=Sm.bump h3 7
 have htb:=ht.lt
 have s3:Sm bm h h3:=⟨by omega,fun c hc _=>g3 c (by omega)⟩
 have s34:Sm bm h h4:=s3.trans s4 (fun _ _ h=>h) (fun _ _ h=>h)
 have r4:Rw h4 tb [.map (some mb),.ptr (some (x,0)),u next] [] false:=t1.sm s34 ht.lt (fun h=>h)
 have rv:Rw h4 h.next [.str c.data,.int .i64 c.block,.int .i64 c.refs] [] false:=r3.same (by rw [b4])
 have m4:h4.bs.gt mb=some (.map es k):=(s34.2 mb hmb (fun h=>h)).trans t2
 have hany:=Ln (t3.findN hid)
 have hmu:=tO m4 t3.all c.id (.agg [.str c.data,.int .i64 c.block,.int .i64 c.refs])
 rw [hany] at hmu
 have hent:=t3.put c k
 unfold Ch.val at hent
 rw [zB (fun d hd'=>jE hid d hd')] at hent
 obtain ⟨h5,e5,p5⟩:∃ h5,h4.put mb (.map (gw .u32 c.id (.agg [.str c.data,.int .i64 c.block,.int .i64 c.refs]) k es) (k+1))=h5/\(∀ b,h5.bs.gt b=if b=mb then some (.map (gw .u32 c.id (.agg [.str c.data,.int .i64 c.block,.int .i64 c.refs]) k es) (k+1)) else h4.bs.gt b)/\h5.next=h4.next:=⟨_,rfl,fun b=>bA _ _ _ _,rfl⟩
 rw [show (if false=true then k else k+1)=k+1 from rfl,e5] at hmu
 obtain ⟨h6,e6,s6,b6,n6⟩:=Sm.bump h5 8
 have ix6:me h6 x B X:=(t4.sm s34 (fun _ _ h=>h)).sm (G:=fun b=>b=mb) (h':=h6) ⟨by omega,fun c hc hF=>by rw [b6,p5.1,if_neg hF]⟩ (fun b hb e=>hx2 (e▸hb))
 have r6:Rw h6 tb [.map (some mb),.ptr (some (x,0)),u next] [] false:=r4.same (by rw [b6,p5.1,if_neg hne])
 have rv6:Rw h6 h.next [.str c.data,.int .i64 c.block,.int .i64 c.refs] [] false:=rv.same (by rw [b6,p5.1,if_neg (by omega)])
 have hidB:c.id∉B (bk c.data):=fun hm=>by obtain ⟨d,d1,d2,d3⟩:=t5.ofB _ (gO _) _ hm;exact jE hid d d1 d2
 obtain ⟨_,h7,e7,rfl,bs,ix7,s7,f7⟩:=Sr (n:=m) (by omega) ix6 (s:=c.data) (by omega) hb c.id hidB (by have:=t5.szB (gO c.data);omega)
 have hixx:∀ b,b<h6.next->¬Au x X b->h7.bs.gt b=h6.bs.gt b:=fun b hb hF=>s7.2 b hb hF
 have r7:Rw h7 tb [.map (some mb),.ptr (some (x,0)),u next] [] false:=r6.same (hixx tb (by omega) hx1)
 obtain ⟨w1,w2,w3,w4⟩:=r7.st1 (o:=2) (v:=u (max next (c.id+1))) (by simp) rfl
 have ew:IntKind.u32.wrap (c.id+1)=c.id+1:=TK (by omega) (by omega)
 have ldv:h4.ld h.next 0 3=some [.str c.data,.int .i64 c.block,.int .i64 c.refs]:=by rw [rv.ld (i:=0) (n:=3) (by simp)];rfl
 simp only [zfK,jB,e3,e4,cQ,mU,jW,jX,r4.ld1,r6.ld1,r7.ld1,ldv,rv6.ld1,hmu,e6,e7,ew,w1,SS,Nat.reduceBEq,reduceEqDiff,reduceAdd,reduceIte,reduceMul]
 refine hQ _ _ _ _ (.inl rfl) (by simp only [SS,Nat.reduceBEq]) (by simp only [SS,Nat.reduceBEq,reduceEqDiff,reduceAdd,reduceIte,reduceMul];rfl) ?_
 have hbk:=gO c.data
 have hnew:∀ b,Au x (oU X (bk c.data) bs) b->Au x X b∨h6.next<=b:=by
  rintro b (rfl|⟨i,hi,hb⟩)
  ·exact .inl (.inl rfl)
  ·by_cases e:i=bk c.data
   ·subst e;rw [cg] at hb
    rcases f7 b hb with h9 | h9
    ·exact .inl (.inr ⟨_,hbk,h9⟩)
    ·exact .inr h9
   ·rw [bS _ _ e] at hb;exact .inl (.inr ⟨i,hi,hb⟩)
 have hmb6:h7.bs.gt mb=h6.bs.gt mb:=hixx mb (by omega) hx2
 have htn:¬Au x (oU X (bk c.data) bs) tb:=fun h9=>by rcases hnew _ h9 with h9 | h9;exact hx1 h9;omega
 refine ⟨rfl,_,⟨⟨mb,x,_,k+1,_,_,by simpa using w2,?_,⟨hent,S4 hany t3b rfl⟩,ix7.sm (G:=fun b=>b=tb) ⟨by omega,fun c hc hF=>w4 c hF⟩ (fun b hb e=>htn (e▸hb)),t5.add h1 h2 hid hd hl1 hl2 hb hr1 hr2 hlen,by have:=s7.1;omega,hne,htn,fun h9=>by rcases hnew _ h9 with h9 | h9;exact hx2 h9;omega,rfl⟩,by have:=s7.1;omega⟩,⟨by have:=s7.1;omega,fun b hb hF=>?_⟩,fun b hF=>?_⟩
 ·rw [w4 mb (fun e=>hne e.symm),hmb6,b6,p5.1,if_pos rfl]
 ·have hF1:b≠tb:=fun e=>hF (.inl e)
  have hF2:b≠mb:=fun e=>hF (.inr (.inl e))
  have hF3:¬Au x X b:=fun e=>hF (.inr (.inr e))
  rw [w4 b hF1,hixx b (by omega) hF3,b6,p5.1,if_neg hF2,s34.2 b hb (fun h=>h)]
 ·rcases hF with rfl | rfl | hF
  ·exact .inl (.inl rfl)
  ·exact .inl (.inr (.inl rfl))
  ·rcases hnew b hF with h9 | h9
   ·exact .inl (.inr (.inr h9))
   ·exact .inr (by omega)
end Go.Proofs.YtboobbebilegnaaGreat
namespace Go.Proofs.YtboobbebilegnaaGreat
open Go.Am
set_option maxRecDepth 10000
theorem WS {n:Nat} (hn:5<=n) {h:ac} {tb:Nat} {L:List Ch} {next:Int} {F:Nat->Prop} (ht:bc h tb L next F) {s:List Nat} (hl1:1<=s.length) (hl2:s.length<=64) (hb:kr s) (hd:pE L s=none) :
  WC (C n (.fn 156) [.ptr (some (tb,0)),.str s] h) fun r h'=>Sm bm h h'/\r=.int .i64 0:=by
 obtain ⟨m,rfl⟩:∃ m,n=m+1:=⟨n - 1,by omega⟩
 refine ak _ zaD rfl (by simp [rJ]) fun QQ hQ=>?_
 simp only [rJ] at hQ
 simp only [rJ,ah,ai,Nat.zero_add,reduceAdd]
 obtain ⟨_,h1,ea,s1,rfl⟩:=sY (n:=m) (by omega) ht (s:=s) (by omega) hb
 rw [hd] at ea
 have hne:¬s=[]:=fun e=>by subst e;simp at hl1
 have hgt:¬(64:Int)<(s.length:Int):=by omega
 simp only [Ld,dc,hne,hgt,ea,SS,Nat.reduceBEq,reduceEqDiff,reduceAdd,reduceIte,reduceMul]
 refine hQ _ _ _ _ (.inr rfl) (by simp only [SS,Nat.reduceBEq]) (by simp only [SS,Nat.reduceBEq,reduceEqDiff,reduceAdd,reduceIte,reduceMul];rfl) ?_
 exact ⟨s1,rfl⟩
theorem WR {n:Nat} (hn:6<=n) {h:ac} {tb:Nat} {L:List Ch} {next:Int} {F:Nat->Prop} (ht:bc h tb L next F) {s:List Nat} (block:Int) (hl1:1<=s.length) (hl2:s.length<=64) (hb:kr s) (hd:pE L s=none) (hnx:next≠4294967295) (hlen:L.length<4999) :
  WC (C n (.fn 122) [.ptr (some (tb,0)),.str s,.int .i64 block] h) fun r h'=>r=.tuple [u next,.int .i64 0]/\∃ F',bc h' tb (L++[⟨next,s,block,1⟩]) (next+1) F'/\Sm F h h'/\∀ b,F' b->F b∨h.next<=b:=by
 obtain ⟨m,rfl⟩:∃ m,n=m+1:=⟨n - 1,by omega⟩
 refine ak _ zaB rfl (by simp [rH]) fun QQ hQ=>?_
 simp only [rH] at hQ
 simp only [rH,ah,ai,Nat.zero_add,reduceAdd]
 have t5:∃ B,iH L next B:=by obtain ⟨_,_,_,_,B,_,_,_,_,_,t5,_⟩:=ht.ex;exact ⟨B,t5⟩
 obtain ⟨B,t5⟩:=t5
 have hnext:=t5.next
 obtain ⟨_,h0,ea,rfl,rfl⟩:=pa (n:=m) (by omega) ht
 obtain ⟨_,h1,eb,s1,rfl⟩:=WS (n:=m) (by omega) ht hl1 hl2 hb hd
 have ht1:=ht.sm s1 (fun _ _ h=>h)
 have hid:fC L next=none:=by
  cases hg:fC L next with
  | none=>rfl
  | some c=>obtain ⟨g1,g2⟩:=jF hg;have:=(t5.ch c g1).2.1;omega
 obtain ⟨_,h2,ec,rfl,F',ht2,s2,f2⟩:=Jd (n:=m) (by omega) ht1 ⟨next,s,block,1⟩ hnext.1 (by show next<_;omega) hid hd hl1 hl2 hb (Int.le_refl _) (show (1:Int)<=65535 by decide) hlen
 obtain ⟨mb,x,es,k,B',X,t1,_⟩:=ht1.ex
 unfold Ch.val at ec
 simp only at ec
 simp only [T6,ea,eb,ec,jW,t1.ld1,hnx,tC,SS,Nat.reduceBEq,reduceEqDiff,reduceAdd,reduceIte,reduceMul]
 refine hQ _ _ _ _ (.inr rfl) (by simp only [SS,Nat.reduceBEq]) (by simp only [SS,Nat.reduceBEq,reduceEqDiff,reduceAdd,reduceIte,reduceMul];rfl) ?_
 refine ⟨rfl,F',?_,s1.trans s2 (fun _ _ h=>h.elim) (fun _ _ h=>h),fun b hb=>(f2 b hb).imp id fun h9=>Nat.le_trans s1.1 h9⟩
 have:max next (next+1)=next+1:=by omega
 rw [← this];exact ht2
theorem Jc {n:Nat} (hn:2<=n) {h:ac}:WC (C n (.fn 50) [] h) fun r h'=>∃ tb F,r=.ptr (some (tb,0))/\bc h' tb [] 1 F/\Sm bm h h'/\(∀ b,F b->h.next<=b):=by
 obtain ⟨m,rfl⟩:∃ m,n=m+1:=⟨n - 1,by omega⟩
 refine ak _ zgu rfl (by simp [U0]) fun QQ hQ=>?_
 simp only [U0] at hQ
 simp only [U0,ah,ai,Nat.zero_add,reduceAdd]
 obtain ⟨h1,e1,p1⟩:∃ h1,h.new h.next (.map [] 0)=h1/\(∀ b,h1.bs.gt b=if b=h.next then some (.map [] 0) else h.bs.gt b)/\h1.next=h.next+1:=⟨_,rfl,fun b=>bX (Nat.le_refl _) _ _,cM (Nat.le_refl _) _⟩
 obtain ⟨_,h2,e2,x,rfl,ix2,s2,x2⟩:=Ss (n:=m) (by omega) (h:=h1)
 obtain ⟨h3,e3,r3,n3,g3⟩:=Rw.alloc h2 (id:=h2.next) (n:=3) (vs:=[.map (some h.next),.ptr (some (x,0)),.int .u32 1]) (z:=[]) (ro:=false) (Nat.le_refl _) rfl
 have hx:=ix2.lt
 simp only [F50,TU,e1,e2,tB,jB,e3,SS,Nat.reduceBEq,reduceEqDiff,reduceAdd,reduceIte,reduceMul]
 refine hQ _ _ _ _ (.inr rfl) (by simp only [SS,Nat.reduceBEq]) (by simp only [SS,Nat.reduceBEq,reduceEqDiff,reduceAdd,reduceIte,reduceMul];rfl) ?_
 have hix:∀ b,Au x (fun _=>[]) b->b=x:=by
  rintro b (rfl|⟨_,_,hb⟩)
  ·rfl
  ·cases hb
 have hm2:h2.bs.gt h.next=some (.map [] 0):=by rw [s2.2 _ (by omega) (fun h=>h),p1.1,if_pos rfl]
 refine ⟨h2.next,_,rfl,⟨⟨h.next,x,[],0,_,_,r3,by rw [g3 _ (by have:=s2.1;omega),hm2],⟨d5.nil.2 rfl,⟨(fun e he=>by cases he),List.Pairwise.nil⟩⟩,ix2.sm (G:=fun b=>b=h2.next) ⟨by omega,fun c hc hF=>g3 c hF⟩ (fun b hb e=>by have:=hix b hb;omega),?_,by have:=s2.1;omega,by have:=s2.1;omega,fun h9=>by have:=hix _ h9;omega,fun h9=>by have:=hix _ h9;omega,rfl⟩,by omega⟩,⟨by have:=s2.1;omega,fun c hc _=>?_⟩,fun b hb=>?_⟩
 ·exact ⟨by simp,by simp,by simp,⟨by decide,by decide⟩,by simp,by simp,by simp,by simp⟩
 ·rw [g3 c (by have:=s2.1;omega),s2.2 c (by omega) (fun h=>h),p1.1,if_neg (by omega)]
 ·rcases hb with rfl | rfl | hb
  ·have:=s2.1;omega
  ·exact Nat.le_refl _
  ·have:=hix b hb;omega
theorem IU (l us:List AV) (h1:l.length=3) (h2:us.length=3):eD l 0 us=us:=by
 unfold eD
 rw [List.take_zero,List.nil_append,Nat.zero_add,h2,List.drop_eq_nil_of_le (by omega),List.append_nil]
theorem xu {n:Nat} (hn:3<=n) {h:ac} {tb:Nat} {L:List Ch} {next:Int} {F:Nat->Prop} (ht:bc h tb L next F) (id:Int):WC (C n (.fn 58) [.ptr (some (tb,0)),u id] h) fun r h'=>Sm bm h h'/\r=match fC L id with
  | some c=>.tuple [.str c.data,.int .i64 c.block,.int .i64 c.refs,.bool true]
  | none=>.tuple [.str [],.int .i64 0,.int .i64 0,.bool false]:=by
 obtain ⟨m,rfl⟩:∃ m,n=m+1:=⟨n - 1,by omega⟩
 refine ak _ zgC rfl (by simp [U8]) fun QQ hQ=>?_
 simp only [U8] at hQ
 simp only [U8,ah,ai,Nat.zero_add,reduceAdd]
 obtain ⟨_,h1,ea,s1,rfl⟩:=lB (n:=m) (by omega) ht id
 obtain ⟨h2,e2,r2,n2,g2⟩:=Rw.alloc h1 (id:=h1.next) (n:=3) (vs:=[.str [],.int .i64 0,.int .i64 0]) (z:=ay 183 true) (ro:=false) (Nat.le_refl _) rfl
 have key:∀ us:List AV,us.length=3->us.all AV.one=true->∃ h3 h4,h2.sto h1.next 0 us=some h3/\ac.mk h3.bs (h3.next+12)=h4/\(∀ i,h4.ld1 h1.next i=us[i]?)/\Sm bm h h4:=by
  intro us hu1 hu2
  obtain ⟨w1,w2,w3,w4⟩:=r2.sto (o:=0) (us:=us) (by simp [hu1]) hu2
  rw [IU _ _ rfl hu1] at w2
  obtain ⟨h4,e4,s4,b4,n4⟩:=Sm.bump (h2.wr h1.next 0 us) 12
  refine ⟨_,_,w1,e4,fun i=>?_,⟨by have:=s1.1;omega,fun c hc _=>?_⟩⟩
  ·exact (w2.same (h':=h4) (by rw [b4])).ld1 i
  ·have:=s1.1
   rw [b4,w4 c (by omega),g2 c (by omega),s1.2 c hc (fun h=>h)]
 cases hg:fC L id with
 | none =>
  rw [hg] at ea
  unfold zCh at ea
  obtain ⟨h3,h4,k1,k2,k3,k4⟩:=key [.str [],.int .i64 0,.int .i64 0] rfl rfl
  simp only [F58,ea,fc,e2,k1,k2,k3,jX,tI,fX,SS,Nat.reduceBEq,reduceEqDiff,reduceAdd,reduceIte,reduceMul]
  refine hQ _ _ _ _ (.inr rfl) (by simp only [SS,Nat.reduceBEq]) (by simp only [SS,Nat.reduceBEq,reduceEqDiff,reduceAdd,reduceIte,reduceMul];rfl) ?_
  exact ⟨k4,by rw [hg];rfl⟩
 | some ch =>
  rw [hg] at ea
  unfold Ch.val at ea
  obtain ⟨h3,h4,k1,k2,k3,k4⟩:=key [.str ch.data,.int .i64 ch.block,.int .i64 ch.refs] rfl rfl
  simp only [F58,ea,fc,e2,k1,k2,k3,jX,tI,fX,SS,Nat.reduceBEq,reduceEqDiff,reduceAdd,reduceIte,reduceMul]
  refine hQ _ _ _ _ (.inr rfl) (by simp only [SS,Nat.reduceBEq]) (by simp only [SS,Nat.reduceBEq,reduceEqDiff,reduceAdd,reduceIte,reduceMul];rfl) ?_
  exact ⟨k4,by rw [hg];rfl⟩
theorem sD {c0:Ch}:∀ {L:List Ch} (c:Ch),fC L c.id=some c0->c0.data=c.data->(dU c L).map Ch.id=L.map Ch.id/\(dU c L).map Ch.data=L.map Ch.data/\(dU c L).length=L.length/\∀ d,d∈dU c L->d=c∨d∈L
 | [],c,h,_=>by cases h
 | d::L,c,h,hd=>by
  unfold fC at h
  rw [List.find?_cons] at h
  rw [dU]
  cases hk:d.id==c.id with
  | true =>
   rw [hk] at h
   cases h
   have hid:c0.id=c.id:=by simpa using hk
   simp only [if_true,List.map_cons,hd,hid,List.length_cons,true_and]
   intro e he
   rcases List.mem_cons.1 he with rfl | he
   ·exact .inl rfl
   ·exact .inr (List.mem_cons_of_mem _ he)
  | false =>
   rw [hk] at h
   obtain ⟨a1,a2,a3,a4⟩:=sD c h hd
   simp only [Bool.false_eq_true,if_false,List.map_cons,a1,a2,a3,List.length_cons,true_and]
   intro e he
   rcases List.mem_cons.1 he with rfl | he
   ·exact .inr (List.mem_cons_self ..)
   ·exact (a4 e he).imp id (List.mem_cons_of_mem _)
theorem zk {L M:List Ch} (h1:M.map Ch.id=L.map Ch.id) (h2:M.map Ch.data=L.map Ch.data):∀ d,d∈M->∃ e,e∈L/\e.id=d.id/\e.data=d.data:=by
 intro d hd
 obtain ⟨i,hi⟩:=List.getElem?_of_mem hd
 have hlt:=(List.getElem?_eq_some_iff.1 hi).1
 have hl:M.length=L.length:=by have:=congrArg List.length h1;simpa using this
 have he:L[i]?=some L[i]:=List.getElem?_eq_getElem (by omega)
 have q1:(M.map Ch.id)[i]?=(L.map Ch.id)[i]?:=by rw [h1]
 have q2:(M.map Ch.data)[i]?=(L.map Ch.data)[i]?:=by rw [h2]
 rw [List.getElem?_map,List.getElem?_map,hi,he] at q1 q2
 exact ⟨L[i],List.getElem_mem _,(Option.some.inj q1).symm,(Option.some.inj q2).symm⟩
theorem iH.upd {L:List Ch} {next:Int} {B:Nat->List Int} (h:iH L next B) {c c0:Ch} (hg:fC L c.id=some c0) (hd:c0.data=c.data) (hr1:1<=c.refs) (hr2:c.refs<=65535):iH (dU c L) next B:=by
 obtain ⟨a1,a2,a3,a4⟩:=sD c hg hd
 obtain ⟨g1,g2⟩:=jF hg
 have m1:=zk a1 a2
 have m2:=zk a1.symm a2.symm
 refine ⟨by rw [a1];exact h.ids,by rw [a2];exact h.datas,fun d hd'=>?_,h.next,fun d hd'=>?_,fun i hi id hid=>?_,h.ndB,by rw [a3];exact h.len⟩
 ·rcases a4 d hd' with rfl | hd'
  ·obtain ⟨q1,q2,q3,q4,q5,_⟩:=h.ch c0 g1
   rw [g2] at q1 q2
   rw [hd] at q3 q4 q5
   exact ⟨q1,q2,q3,q4,q5,hr1,hr2⟩
  ·exact h.ch d hd'
 ·obtain ⟨e,e1,e2,e3⟩:=m1 d hd'
  have:=h.inB e e1
  rw [e2,e3] at this;exact this
 ·obtain ⟨d,d1,d2,d3⟩:=h.ofB i hi id hid
  obtain ⟨e,e1,e2,e3⟩:=m2 d d1
  exact ⟨e,e1,e2.trans d2,by rw [e3];exact d3⟩
theorem nf {es:List aG} {id:Int} {x:aG} (h:es.find? (d7 .u32 id)=some x):es.any (d7 .u32 id)=true:=by
 rw [List.any_eq_true]
 exact ⟨x,List.mem_of_find?_eq_some h,List.find?_some h⟩
theorem Vq {n:Nat} (hn:3<=n) {h:ac} {tb:Nat} {L:List Ch} {next:Int} {F:Nat->Prop} (ht:bc h tb L next F) {id:Int} {c:Ch} (hg:fC L id=some c) (hr:c.refs<65535) :
  WC (C n (.fn 98) [.ptr (some (tb,0)),u id] h) fun r h'=>r=.int .i64 0/\bc h' tb (dU {c with refs:=c.refs+1 } L) next F/\Sm F h h':=by
 obtain ⟨m,rfl⟩:∃ m,n=m+1:=⟨n - 1,by omega⟩
 refine ak _ zeL rfl (by simp [Bu]) fun QQ hQ=>?_
 simp only [Bu] at hQ
 simp only [Bu,ah,ai,Nat.zero_add,reduceAdd]
 obtain ⟨_,h1,ea,s1,rfl⟩:=lB (n:=m) (by omega) ht id
 rw [hg] at ea
 unfold Ch.val at ea
 obtain ⟨mb,x,es,k,B,X,t1,t2,t3,t4,t5,hmb,hne,hx1,hx2,rfl⟩:=(ht.sm s1 (fun _ _ h=>h)).ex
 have t3b:=t3.b
 have t3:=t3.e
 have htb:=ht.lt
 have hgs:=jF hg
 have hrb:=(t5.ch c hgs.1)
 obtain ⟨h2,e2,r2,n2,g2⟩:=Rw.alloc h1 (id:=h1.next) (n:=3) (vs:=[.str [],.int .i64 0,.int .i64 0]) (z:=ay 183 true) (ro:=false) (Nat.le_refl _) rfl
 obtain ⟨w1,w2,w3,w4⟩:=r2.sto (o:=0) (us:=[.str c.data,.int .i64 c.block,.int .i64 c.refs]) (by simp) rfl
 rw [IU _ _ rfl rfl] at w2
 obtain ⟨v1,v2,v3,v4⟩:=w2.st1 (o:=2) (v:=.int .i64 (c.refs+1)) (by simp) rfl
 obtain ⟨h5,e5,s5,b5,n5⟩:=Sm.bump ((h2.wr h1.next 0 [.str c.data,.int .i64 c.block,.int .i64 c.refs]).wr h1.next 2 [.int .i64 (c.refs+1)]) 7
 have hsame:∀ b,b<h1.next->h5.bs.gt b=h1.bs.gt b:=fun b hb=>by rw [b5,v4 b (by omega),w4 b (by omega),g2 b (by omega)]
 have hlt1:=s1.1
 have r5:Rw h5 tb [.map (some mb),.ptr (some (x,0)),u next] [] false:=t1.same (hsame tb (by omega))
 have m5:h5.bs.gt mb=some (.map es k):=(hsame mb hmb).trans t2
 have ldv:h5.ld h1.next 0 3=some [.str c.data,.int .i64 c.block,.int .i64 (c.refs+1)]:=by
  rw [(v2.same (h':=h5) (by rw [b5])).ld (i:=0) (n:=3) (by simp)];rfl
 have hmu:=tO m5 t3.all id (.agg [.str c.data,.int .i64 c.block,.int .i64 (c.refs+1)])
 obtain ⟨xe,f1,f2⟩:=t3.findS hg
 rw [nf f1,if_pos rfl] at hmu
 have hent:=t3.put {c with refs:=c.refs+1 } k
 unfold Ch.val at hent
 simp only [hgs.2] at hent
 obtain ⟨h6,e6,p6⟩:∃ h6,h5.put mb (.map (gw .u32 id (.agg [.str c.data,.int .i64 c.block,.int .i64 (c.refs+1)]) k es) k)=h6/\(∀ b,h6.bs.gt b=if b=mb then some (.map (gw .u32 id (.agg [.str c.data,.int .i64 c.block,.int .i64 (c.refs+1)]) k es) k) else h5.bs.gt b)/\h6.next=h5.next:=⟨_,rfl,fun b=>bA _ _ _ _,rfl⟩
 rw [e6] at hmu
 have ew:IntKind.i64.wrap (c.refs+1)=c.refs+1:=wrap_i64 (by omega) (by omega)
 have hr':¬c.refs=65535:=by omega
 simp only [F98,ea,fc,e2,w1,fX,w2.ld1,hr',ew,v1,e5,cQ,r5.ld1,ldv,hmu,SS,Nat.reduceBEq,reduceEqDiff,reduceAdd,reduceIte,reduceMul]
 refine hQ _ _ _ _ (.inr rfl) (by simp only [SS,Nat.reduceBEq]) (by simp only [SS,Nat.reduceBEq,reduceEqDiff,reduceAdd,reduceIte,reduceMul];rfl) ?_
 have g6:∀ b,b<h1.next->b≠mb->h6.bs.gt b=h1.bs.gt b:=fun b hb hne=>by rw [p6.1,if_neg hne,hsame b hb]
 refine ⟨rfl,⟨⟨mb,x,_,k,B,X,t1.same (g6 tb (by omega) hne),by rw [p6.1,if_pos rfl],⟨(by rw [hgs.2];exact hent),(zC (nf f1) t3b)⟩,t4.sm (G:=fun b=>b=mb) ⟨by omega,fun b hb hF=>g6 b hb hF⟩ (fun b hb e=>hx2 (e▸hb)),t5.upd (c:={c with refs:=c.refs+1 }) (c0:=c) (by show fC L c.id=_;rw [hgs.2];exact hg) rfl (by show 1<=c.refs+1;omega) (by show c.refs+1<=65535;omega),by omega,hne,hx1,hx2,rfl⟩,by omega⟩,⟨by omega,fun b hb hF=>?_⟩⟩
 rw [g6 b (by omega) (fun e=>hF (.inr (.inl e))),s1.2 b hb (fun h=>h)]
theorem nw (id:Int):∀ L:List Ch,(kJ id L).Sublist L
 | []=>List.Sublist.slnil
 | d::L=>by
  rw [kJ]
  cases d.id==id with
  | true=>exact List.sublist_cons_self d L
  | false=>exact (nw id L).cons_cons d
theorem rh {id:Int}:∀ {L:List Ch},(L.map Ch.id).Nodup->∀ d,d∈kJ id L↔d∈L/\d.id≠id
 | [],_,d=>by simp [kJ]
 | e::L,hn,d=>by
  rw [List.map_cons,List.nodup_cons] at hn
  rw [kJ]
  cases hk:e.id==id with
  | true =>
   have hk:e.id=id:=by simpa using hk
   simp only [if_true,List.mem_cons]
   constructor
   ·intro hd
    refine ⟨.inr hd,fun h=>hn.1 (List.mem_map.2 ⟨d,hd,by rw [h,hk]⟩)⟩
   ·rintro ⟨rfl | hd,hne⟩
    ·exact absurd hk hne
    ·exact hd
  | false =>
   have hk:e.id≠id:=by simpa using hk
   simp only [Bool.false_eq_true,if_false,List.mem_cons,rh hn.2 d]
   constructor
   ·rintro (rfl|⟨h1,h2⟩)
    ·exact ⟨.inl rfl,hk⟩
    ·exact ⟨.inr h1,h2⟩
   ·rintro ⟨rfl | h1,h2⟩
    ·exact .inl rfl
    ·exact .inr ⟨h1,h2⟩
theorem yJ {id:Int} {c:Ch}:∀ {L:List Ch},fC L id=some c->(kJ id L).length+1=L.length
 | [],h=>by cases h
 | d::L,h=>by
  unfold fC at h
  rw [List.find?_cons] at h
  rw [kJ]
  cases hk:d.id==id with
  | true=>simp
  | false =>
   rw [hk] at h
   have:=yJ h
   simp only [Bool.false_eq_true,if_false,List.length_cons];omega
theorem ig:∀ {l:List Int} {i:Nat} {a:Int},l.Nodup->l[i]?=some a->∀ x,x∈l.eraseIdx i↔x∈l/\x≠a
 | [],_,_,_,h,_=>by simp at h
 | b::l,0,a,hn,h,x=>by
  rw [List.nodup_cons] at hn
  cases h
  simp only [List.eraseIdx_cons_zero,List.mem_cons]
  constructor
  ·intro hx;exact ⟨.inr hx,fun e=>hn.1 (e▸hx)⟩
  ·rintro ⟨rfl | h1,h2⟩
   ·exact absurd rfl h2
   ·exact h1
 | b::l,i+1,a,hn,h,x=>by
  rw [List.nodup_cons] at hn
  rw [List.getElem?_cons_succ] at h
  have hne:b≠a:=fun e=>hn.1 (e▸List.mem_of_getElem? h)
  simp only [List.eraseIdx_cons_succ,List.mem_cons,ig hn.2 h x]
  constructor
  ·rintro (rfl|⟨h1,h2⟩)
   ·exact ⟨.inl rfl,hne⟩
   ·exact ⟨.inr h1,h2⟩
  ·rintro ⟨rfl | h1,h2⟩
   ·exact .inl rfl
   ·exact .inr ⟨h1,h2⟩
theorem iH.cut {L:List Ch} {next:Int} {B:Nat->List Int} (h:iH L next B) {id:Int} {c:Ch} (hg:fC L id=some c) {i:Nat} (hi:(B (bk c.data))[i]?=some id) :
  iH (kJ id L) next (oU B (bk c.data) ((B (bk c.data)).eraseIdx i)):=by
 obtain ⟨g1,g2⟩:=jF hg
 have hbk:=gO c.data
 have hm:=rh (id:=id) h.ids
 have he:=ig (h.ndB _ hbk) hi
 have hl:=yJ hg
 refine ⟨h.ids.sublist ((nw id L).map _),h.datas.sublist ((nw id L).map _),fun d hd=>h.ch d ((hm d).1 hd).1,h.next,fun d hd=>?_,fun j hj x hx=>?_,fun j hj=>?_,by have:=h.len;omega⟩
 ·obtain ⟨d1,d2⟩:=(hm d).1 hd
  have:=h.inB d d1
  by_cases e:bk d.data=bk c.data
  ·rw [e,cg,he];rw [e] at this;exact ⟨this,d2⟩
  ·rw [bS _ _ e];exact this
 ·by_cases e:j=bk c.data
  ·subst e
   rw [cg,he] at hx
   obtain ⟨d,d1,d2,d3⟩:=h.ofB _ hj x hx.1
   exact ⟨d,(hm d).2 ⟨d1,by rw [d2];exact hx.2⟩,d2,d3⟩
  ·rw [bS _ _ e] at hx
   obtain ⟨d,d1,d2,d3⟩:=h.ofB _ hj x hx
   refine ⟨d,(hm d).2 ⟨d1,fun h9=>e ?_⟩,d2,d3⟩
   have:=lV h.ids d1 g1 (by rw [h9,g2])
   rw [← d3,this]
 ·by_cases e:j=bk c.data
  ·subst e
   rw [cg];exact (h.ndB _ hj).sublist (List.eraseIdx_sublist ..)
  ·rw [bS _ _ e];exact h.ndB j hj
end Go.Proofs.YtboobbebilegnaaGreat
namespace Go.Proofs.YtboobbebilegnaaGreat
open Go.Am
set_option maxRecDepth 10000
theorem BT {n:Nat} (hn:4<=n) {h:ac} {tb:Nat} {L:List Ch} {next:Int} {F:Nat->Prop} (ht:bc h tb L next F) {id:Int} {c:Ch} (hg:fC L id=some c) :
  WC (C n (.fn 92) [.ptr (some (tb,0)),u id] h) fun r h'=>Sm F h h'/\if 1<c.refs then r=.tuple [.bool false,.int .i64 0]/\bc h' tb (dU {c with refs:=c.refs - 1 } L) next F
   else r=.tuple [.bool true,.int .i64 0]/\∃ F',bc h' tb (kJ id L) next F'/\∀ b,F' b->F b:=by
 obtain ⟨m,rfl⟩:∃ m,n=m+1:=⟨n - 1,by omega⟩
 refine ak _ zeK rfl (by simp [Bt]) fun QQ hQ=>?_
 simp only [Bt] at hQ
 simp only [Bt,ah,ai,Nat.zero_add,reduceAdd]
 obtain ⟨_,h1,ea,s1,rfl⟩:=lB (n:=m) (by omega) ht id
 rw [hg] at ea
 unfold Ch.val at ea
 obtain ⟨mb,x,es,k,B,X,t1,t2,t3,t4,t5,hmb,hne,hx1,hx2,rfl⟩:=(ht.sm s1 (fun _ _ h=>h)).ex
 have t3b:=t3.b
 have t3:=t3.e
 have htb:=ht.lt
 have hgs:=jF hg
 have hrb:=(t5.ch c hgs.1)
 obtain ⟨h2,e2,r2,n2,g2⟩:=Rw.alloc h1 (id:=h1.next) (n:=3) (vs:=[.str [],.int .i64 0,.int .i64 0]) (z:=ay 183 true) (ro:=false) (Nat.le_refl _) rfl
 obtain ⟨w1,w2,w3,w4⟩:=r2.sto (o:=0) (us:=[.str c.data,.int .i64 c.block,.int .i64 c.refs]) (by simp) rfl
 rw [IU _ _ rfl rfl] at w2
 obtain ⟨v1,v2,v3,v4⟩:=w2.st1 (o:=2) (v:=.int .i64 (c.refs - 1)) (by simp) rfl
 obtain ⟨h4,e4⟩:∃ h4,(h2.wr h1.next 0 [.str c.data,.int .i64 c.block,.int .i64 c.refs]).wr h1.next 2 [.int .i64 (c.refs - 1)]=h4:=⟨_,rfl⟩
 rw [e4] at v1 v2 v3 v4
 have v2:Rw h4 h1.next [.str c.data,.int .i64 c.block,.int .i64 (c.refs - 1)] (ay 183 true) false:=v2
 have hsame4:∀ b,b<h1.next->h4.bs.gt b=h1.bs.gt b:=fun b hb=>by rw [v4 b (by omega),w4 b (by omega),g2 b (by omega)]
 have hlt1:=s1.1
 have r4:Rw h4 tb [.map (some mb),.ptr (some (x,0)),u next] [] false:=t1.same (hsame4 tb (by omega))
 have ew:IntKind.i64.wrap (c.refs - 1)=c.refs - 1:=wrap_i64 (by omega) (by omega)
 by_cases hr:1<c.refs
 ·obtain ⟨h5,e5,s5,b5,n5⟩:=Sm.bump h4 7
  have r5:Rw h5 tb [.map (some mb),.ptr (some (x,0)),u next] [] false:=r4.same (by rw [b5])
  have m5:h5.bs.gt mb=some (.map es k):=by rw [b5,hsame4 mb hmb];exact t2
  have ldv:h5.ld h1.next 0 3=some [.str c.data,.int .i64 c.block,.int .i64 (c.refs - 1)]:=by
   rw [(v2.same (h':=h5) (by rw [b5])).ld (i:=0) (n:=3) (by simp)];rfl
  have hmu:=tO m5 t3.all id (.agg [.str c.data,.int .i64 c.block,.int .i64 (c.refs - 1)])
  obtain ⟨xe,f1,f2⟩:=t3.findS hg
  rw [nf f1,if_pos rfl] at hmu
  have hent:=t3.put {c with refs:=c.refs - 1 } k
  unfold Ch.val at hent
  obtain ⟨h6,e6,p6⟩:∃ h6,h5.put mb (.map (gw .u32 id (.agg [.str c.data,.int .i64 c.block,.int .i64 (c.refs - 1)]) k es) k)=h6/\(∀ b,h6.bs.gt b=if b=mb then some (.map (gw .u32 id (.agg [.str c.data,.int .i64 c.block,.int .i64 (c.refs - 1)]) k es) k) else h5.bs.gt b)/\h6.next=h5.next:=⟨_,rfl,fun b=>bA _ _ _ _,rfl⟩
  rw [e6] at hmu
  have hpos:(0:Int)<c.refs - 1:=by omega
  simp only [F92,ea,fc,e2,w1,fX,w2.ld1,v2.ld1,hpos,ew,v1,e5,cQ,r5.ld1,ldv,hmu,SS,Nat.reduceBEq,reduceEqDiff,reduceAdd,reduceIte,reduceMul]
  refine hQ _ _ _ _ (.inr rfl) (by simp only [SS,Nat.reduceBEq]) (by simp only [SS,Nat.reduceBEq,reduceEqDiff,reduceAdd,reduceIte,reduceMul];rfl) ?_
  have g6:∀ b,b<h1.next->b≠mb->h6.bs.gt b=h1.bs.gt b:=fun b hb hne=>by rw [p6.1,if_neg hne,b5,hsame4 b hb]
  refine ⟨⟨by omega,fun b hb hF=>?_⟩,?_⟩
  ·rw [g6 b (by omega) (fun e=>hF (.inr (.inl e))),s1.2 b hb (fun h=>h)]
  ·rw [if_pos hr]
   refine ⟨rfl,⟨mb,x,_,k,B,X,t1.same (g6 tb (by omega) hne),by rw [p6.1,if_pos rfl],?_,t4.sm (G:=fun b=>b=mb) ⟨by omega,fun b hb hF=>g6 b hb hF⟩ (fun b hb e=>hx2 (e▸hb)),t5.upd (c:={c with refs:=c.refs - 1 }) (c0:=c) (by show fC L c.id=_;rw [hgs.2];exact hg) rfl (by show 1<=c.refs - 1;omega) (by show c.refs - 1<=65535;omega),by omega,hne,hx1,hx2,rfl⟩,by omega⟩
   refine ⟨?_,zC (nf f1) t3b⟩
   simp only [hgs.2] at hent ⊢
   exact hent
 ·have hr1:c.refs=1:=by omega
  have m4:h4.bs.gt mb=some (.map es k):=(hsame4 mb hmb).trans t2
  have hmd:=TT m4 t3.all id
  obtain ⟨h5,e5,p5⟩:∃ h5,h4.put mb (.map (qg .u32 id es) k)=h5/\(∀ b,h5.bs.gt b=if b=mb then some (.map (qg .u32 id es) k) else h4.bs.gt b)/\h5.next=h4.next:=⟨_,rfl,fun b=>bA _ _ _ _,rfl⟩
  rw [e5] at hmd
  obtain ⟨h6,e6,s6,b6,n6⟩:=Sm.bump h5 8
  have g6:∀ b,b<h1.next->b≠mb->h6.bs.gt b=h1.bs.gt b:=fun b hb hne=>by rw [b6,p5.1,if_neg hne,hsame4 b hb]
  have r6:Rw h6 tb [.map (some mb),.ptr (some (x,0)),u next] [] false:=t1.same (g6 tb (by omega) hne)
  have v6:Rw h6 h1.next [.str c.data,.int .i64 c.block,.int .i64 (c.refs - 1)] (ay 183 true) false:=v2.same (by rw [b6,p5.1,if_neg (by omega)])
  have ix6:me h6 x B X:=t4.sm (G:=fun b=>b=mb) ⟨by omega,fun b hb hF=>g6 b hb hF⟩ (fun b hb e=>hx2 (e▸hb))
  have hin:id∈B (bk c.data):=by have:=t5.inB c hgs.1;rw [hgs.2] at this;exact this
  obtain ⟨_,h7,e7,rfl,bs,i,i1,ix7,s7,f7⟩:=JV (n:=m) (by omega) ix6 (s:=c.data) (by omega) hrb.2.2.2.2.1 id hin
  have hpos:¬(0:Int)<c.refs - 1:=by omega
  simp only [F92,ea,fc,e2,w1,fX,w2.ld1,v2.ld1,hpos,ew,v1,cQ,mU,jX,r4.ld1,hmd,e6,r6.ld1,v6.ld1,e7,SS,Nat.reduceBEq,reduceEqDiff,reduceAdd,reduceIte,reduceMul]
  refine hQ _ _ _ _ (.inr rfl) (by simp only [SS,Nat.reduceBEq]) (by simp only [SS,Nat.reduceBEq,reduceEqDiff,reduceAdd,reduceIte,reduceMul];rfl) ?_
  have hbk:=gO c.data
  have hnew:∀ b,Au x (oU X (bk c.data) bs) b->Au x X b:=by
   rintro b (rfl|⟨j,hj,hb⟩)
   ·exact .inl rfl
   ·by_cases e:j=bk c.data
    ·subst e;rw [cg] at hb;exact .inr ⟨_,hbk,f7 b hb⟩
    ·rw [bS _ _ e] at hb;exact .inr ⟨j,hj,hb⟩
  have g7:∀ b,b<h1.next->b≠mb->¬Au x X b->h7.bs.gt b=h1.bs.gt b:=fun b hb hne hF=>by rw [s7.2 b (by omega) hF,g6 b hb hne]
  have hn7:=s7.1
  refine ⟨⟨by omega,fun b hb hF=>?_⟩,?_⟩
  ·rw [g7 b (by omega) (fun e=>hF (.inr (.inl e))) (fun e=>hF (.inr (.inr e))),s1.2 b hb (fun h=>h)]
  ·rw [if_neg hr]
   refine ⟨rfl,_,⟨⟨mb,x,_,k,_,_,t1.same (g7 tb (by omega) hne hx1),by rw [s7.2 mb (by omega) hx2,b6,p5.1,if_pos rfl],⟨t3.cut id,JI t3b⟩,ix7,t5.cut hg i1,by omega,hne,fun h9=>hx1 (hnew _ h9),fun h9=>hx2 (hnew _ h9),rfl⟩,by omega⟩,fun b hb=>?_⟩
   rcases hb with rfl | rfl | hb
   ·exact .inl rfl
   ·exact .inr (.inl rfl)
   ·exact .inr (.inr (hnew b hb))
end Go.Proofs.YtboobbebilegnaaGreat
namespace Go.Proofs.YtboobbebilegnaaGreat
open Go.Am
set_option maxRecDepth 10000
theorem wT {α : Type}:∀ {l m:List α},l.Nodup->m.Nodup->(∀ x,x∈l↔x∈m)->l.Perm m
 | [],m,_,_,h=>by
  cases m with
  | nil=>exact List.Perm.refl _
  | cons y m=>exact absurd ((h y).2 (List.mem_cons_self ..)) (by simp)
 | x::l,m,hl,hm,h=>by
  obtain ⟨a,b,rfl⟩:=List.append_of_mem ((h x).1 (List.mem_cons_self ..))
  obtain ⟨h1,h2⟩:=List.nodup_cons.1 hl
  have hp:(x::(a++b)).Nodup:=(List.perm_middle (a:=x) (l₁:=a) (l₂:=b)).nodup_iff.1 hm
  obtain ⟨h3,h4⟩:=List.nodup_cons.1 hp
  refine ((wT h2 h4 fun y=>?_).cons x).trans List.perm_middle.symm
  have hy:=h y
  rw [List.mem_cons,List.perm_middle.mem_iff,List.mem_cons] at hy
  constructor
  ·intro h5
   rcases hy.1 (.inr h5) with rfl | h6
   ·exact absurd h5 h1
   ·exact h6
  ·intro h5
   rcases hy.2 (.inr h5) with rfl | h6
   ·exact absurd h5 h3
   ·exact h6
structure j8 (L R:List Ch):Prop where
 mem:∀ c,c∈R↔c∈L
 up:R.Pairwise (fun a b=>a.id<b.id)
 nd:(L.map Ch.id).Nodup
 dd:(L.map Ch.data).Nodup
theorem nL {α β : Type} {f:α->β} {l:List α} (h:(l.map f).Nodup):l.Nodup:=List.Pairwise.of_map f (fun _ _ hne e=>hne (by rw [e])) h
section
variable {L R:List Ch}
theorem j8.ndR (h:j8 L R):(R.map Ch.id).Nodup:=by
 rw [List.Nodup,List.pairwise_map]
 exact h.up.imp fun hlt e=>by omega
theorem j8.perm (h:j8 L R):R.Perm L:=wT (nL h.ndR) (nL h.nd) h.mem
theorem j8.len (h:j8 L R):R.length=L.length:=h.perm.length_eq
theorem j8.ddR (h:j8 L R):(R.map Ch.data).Nodup:=(h.perm.map Ch.data).nodup_iff.2 h.dd
theorem j8.nil:j8 [] []:=⟨fun _=>Iff.rfl,List.Pairwise.nil,List.nodup_nil,List.nodup_nil⟩
theorem j8.sortIds (h:j8 L R):eu (L.map Ch.id)=R.map Ch.id:=by
 refine oY ((mE _).trans (h.perm.map Ch.id).symm) (jJ _) ?_
 rw [List.pairwise_map]
 exact h.up.imp fun hlt=>by omega
def Kh (id:Int):List Ch->Nat
 | []=>0
 | c::R=>if c.id<id then Kh id R+1 else 0
def JU (x:Ch) (R:List Ch):List Ch:=R.take (Kh x.id R)++x::R.drop (Kh x.id R)
theorem ze {x:Ch} {R:List Ch} (c:Ch):c∈JU x R↔c=x∨c∈R:=by
 unfold JU
 rw [List.mem_append,List.mem_cons]
 have:c∈R↔c∈R.take (Kh x.id R)∨c∈R.drop (Kh x.id R):=by
  rw [← List.mem_append,List.take_append_drop]
 rw [this]
 constructor
 ·rintro (h | h | h)
  ·exact .inr (.inl h)
  ·exact .inl h
  ·exact .inr (.inr h)
 ·rintro (h | h | h)
  ·exact .inr (.inl h)
  ·exact .inl h
  ·exact .inr (.inr h)
theorem IX {x:Ch}:∀ {R:List Ch},R.Pairwise (fun a b=>a.id<b.id)->(∀ c,c∈R->c.id≠x.id)->(JU x R).Pairwise (fun a b=>a.id<b.id)
 | [],_,_=>List.pairwise_singleton _ _
 | d::R,h,hx=>by
  obtain ⟨h1,h2⟩:=List.pairwise_cons.1 h
  have hd:=hx d (List.mem_cons_self ..)
  unfold JU Kh
  by_cases hc:d.id<x.id
  ·rw [if_pos hc]
   show (d::JU x R).Pairwise _
   refine List.pairwise_cons.2 ⟨fun c hcm=>?_,IX h2 fun c hc=>hx c (List.mem_cons_of_mem _ hc)⟩
   rcases (ze c).1 hcm with rfl | hcm
   ·exact hc
   ·exact h1 c hcm
  ·rw [if_neg hc]
   show (x::d::R).Pairwise _
   refine List.pairwise_cons.2 ⟨fun c hcm=>?_,h⟩
   rcases List.mem_cons.1 hcm with rfl | hcm
   ·omega
   ·have:=h1 c hcm;omega
theorem j8.add (h:j8 L R) {x:Ch} (hi:fC L x.id=.none) (hd:pE L x.data=.none):j8 (L++[x]) (JU x R):=by
 refine ⟨fun c=>?_,IX h.up fun c hc=>jE hi c ((h.mem c).1 hc),?_,?_⟩
 ·rw [ze,List.mem_append,List.mem_singleton,h.mem];exact Or.comm
 ·rw [List.map_append]
  exact ij h.nd fun hm=>by obtain ⟨c,c1,c2⟩:=List.mem_map.1 hm;exact jE hi c c1 c2
 ·rw [List.map_append]
  exact ij h.dd fun hm=>by obtain ⟨c,c1,c2⟩:=List.mem_map.1 hm;exact ny hd c c1 c2
theorem sC {c0:Ch}:∀ {L:List Ch} (c:Ch),(L.map Ch.id).Nodup->fC L c.id=some c0->∀ d,d∈dU c L↔d=c∨(d∈L/\d.id≠c.id)
 | [],c,_,hg,_=>by cases hg
 | e::L,c,hn,hg,d=>by
  obtain ⟨n1,n2⟩:=List.nodup_cons.1 hn
  unfold dU
  by_cases he:e.id=c.id
  ·have:(e.id==c.id)=true:=by simpa using he
   first | rw [if_pos he] | rw [if_pos this] | simp only [he,if_true,this]
   rw [List.mem_cons,List.mem_cons]
   constructor
   ·rintro (h | h)
    ·exact .inl h
    ·refine .inr ⟨.inr h,fun e'=>n1 ?_⟩
     rw [he,← e'];exact List.mem_map.2 ⟨d,h,rfl⟩
   ·rintro (h|⟨h | h,h'⟩)
    ·exact .inl h
    ·exact absurd (h▸he) h'
    ·exact .inr h
  ·have hb:(e.id==c.id)=false:=by simpa using he
   have hg':fC L c.id=some c0:=by
    unfold fC at hg ⊢
    rw [List.find?_cons] at hg
    simpa [hb] using hg
   first | rw [if_neg he] | rw [if_neg (by simpa using he)]
   rw [List.mem_cons,List.mem_cons,sC c n2 hg' d]
   constructor
   ·rintro (h | h|⟨h,h'⟩)
    ·exact .inr ⟨.inl h,h▸he⟩
    ·exact .inl h
    ·exact .inr ⟨.inr h,h'⟩
   ·rintro (h|⟨h | h,h'⟩)
    ·exact .inr (.inl h)
    ·exact .inl h
    ·exact .inr (.inr ⟨h,h'⟩)
end
end Go.Proofs.YtboobbebilegnaaGreat
namespace Go.Proofs.YtboobbebilegnaaGreat
open Go.Am
set_option maxRecDepth 10000
def ky:AV->Nat->Prop
 | .slice (some (b,_)) _ _ _,c=>b=c
 | _,_=>False
theorem wK {h:ac} {b o n:Nat} {vs:List AV} (hl:h.ld b o n=some vs) {i k:Nat} (hi:i+k<=n):h.ld b (o+i) k=some ((vs.drop i).take k):=by
 obtain ⟨t,z,m,ro,h1,h2,h3,h4⟩:=lT hl
 unfold ac.ld ac.cells
 rw [h1]
 show (Bool.rec (motive:=fun _=>Option (List AV)) none (gQ t z k (o+i)) (Nat.ble (o+i+k) m):Option (List AV))=_
 rw [show Nat.ble (o+i+k) m=true from Nat.ble_eq_true_of_le (by omega)]
 have hlen:((vs.drop i).take k).length=k:=by simp;omega
 have:=Go.Am.loadC_of (t:=t) (z:=z) (vs:=(vs.drop i).take k) (i:=o+i) fun j hj=>by
  rw [hlen] at hj
  rw [show o+i+j=o+(i+j) by omega,h4 _ (by omega),List.getElem?_take_of_lt hj,List.getElem?_drop]
 rw [hlen] at this
 exact this
theorem lP {F:Nat->Prop} {h h':ac} {v:AV} {n s:Nat} {cs:List AV} (hi:mX h v n s cs) (hs:Sm F h h') (hF:∀ b,ky v b->¬F b):mX h' v n s cs:=by
 obtain ⟨h0,a,c,g,rfl,h1,h2⟩:=hi
 refine ⟨h0,a,c,g,rfl,h1,fun b o e=>?_⟩
 subst e
 obtain ⟨g1,g2⟩:=h2 b o rfl
 refine ⟨Nat.lt_of_lt_of_le g1 hs.1,fun hn=>?_⟩
 rw [← g2 hn]
 unfold ac.ld ac.cells
 rw [hs.2 b g1 (hF b rfl)]
theorem gG {F:Nat->Prop} {h h':ac} {v:AV} {n s:Nat} {cs:List AV} (hi:mg h v n s cs) (hs:Sm F h h') (hF:∀ b,ky v b->¬F b):mg h' v n s cs:=by
 obtain ⟨h0,a,c,g,rfl,h1,h2⟩:=hi
 refine ⟨h0,a,c,g,rfl,h1,fun b o e=>?_⟩
 subst e
 obtain ⟨g1,g2⟩:=h2 b o rfl
 refine ⟨Nat.lt_of_lt_of_le g1 hs.1,?_⟩
 rw [← g2]
 unfold ac.ld ac.cells
 rw [hs.2 b g1 (hF b rfl)]
theorem zdT {h:ac} {v:AV} {n s:Nat} {cs:List AV} (hv:mg h v n s cs):mX h v n s cs:=by
 obtain ⟨h0,a,c,g,rfl,h1,h2⟩:=hv
 exact ⟨h0,a,c,g,rfl,h1,fun b o e=>⟨(h2 b o e).1,fun _=>(h2 b o e).2⟩⟩
theorem WJ {e s:Nat} {h:ac} {v:AV} {n:Nat} {cs:List AV} {bs:List Nat} (ho:iF e s h v n cs bs) {b:Nat} (hb:ky v b):b∈bs:=by
 rcases ho with ⟨rfl,_⟩|⟨b',c,_,_,rfl,_,_,_,_,_,rfl,_⟩
 ·exact hb.elim
 ·have:b'=b:=hb;rw [this];exact List.mem_singleton.2 rfl
def Ch.rc (x:Ch):List AV:=[.int .u32 x.id,.str x.data,.int .i64 x.block,.int .i64 x.refs]
abbrev csR (L:List Ch):List AV:=L.flatMap Ch.rc
def Rz:Ch:=⟨0,[],0,0⟩
def Ri (L:List Ch) (i:Nat):Ch:=L.getD i Rz
theorem qM {L:List Ch} {i:Nat} (h:i<L.length):Ri L i=L[i]:=by simp [Ri,List.getD_eq_getElem?_getD,List.getElem?_eq_getElem h]
section
variable {h h':ac} {v:AV} {L:List Ch}
end
structure zda (h:ac) (rb:Nat) (R:List Ch) (next:Int) (bs:List Nat):Prop where
 ex:∃ v,Rw h rb [v,u next] [] false/\iF 143 4 h v R.length (csR R) bs
 lt:rb<h.next
 nb:rb∉bs
def zf8 (rb:Nat) (bs:List Nat):Nat->Prop:=fun b=>b=rb∨b∈bs
end Go.Proofs.YtboobbebilegnaaGreat
namespace Go.Proofs.YtboobbebilegnaaGreat
open Go.Am
set_option maxRecDepth 10000
section
variable {L R:List Ch}
end
end Go.Proofs.YtboobbebilegnaaGreat
namespace Go.Proofs.YtboobbebilegnaaGreat
open Go.Am
set_option maxRecDepth 10000
section
variable {h:ac} {rb:Nat} {R L:List Ch} {next:Int} {bs:List Nat}
end
end Go.Proofs.YtboobbebilegnaaGreat
namespace Go.Proofs.YtboobbebilegnaaGreat
open Go.Am
set_option maxRecDepth 10000
theorem Jx {P:Program} {keep:aK} {prims:Prims} {lf n:Nat} {f:FuncId} {args:List AV} {h:ac} {r:dA} (hp:prims.fn f args h=some r):callN P keep prims lf (n+1) (.fn f) args h=r:=by
 show (Option.rec (motive:=fun _=>dA) _ (fun r=>r) (prims.fn f args h):dA)=r
 rw [hp]
theorem xN {clock:Nat}:∀ {es:List aG},fh es clock->py clock es=true
 | [],_=>rfl
 | e::es,h=>by
  obtain ⟨p1,p2⟩:=List.pairwise_cons.1 h.2
  have hin:∀ l:List aG,(∀ d,d∈l->e.born≠d.born)->mz e.born l=true:=by
   intro l
   induction l with
   | nil=>intro _;rfl
   | cons d l ih =>
    intro hd
    show bT (fM (Nat.beq e.born d.born)) (mz e.born l)=true
    have h1:=hd d (List.mem_cons_self ..)
    have h2:Nat.beq e.born d.born=false:=by
     cases hb:Nat.beq e.born d.born with
     | false=>rfl
     | true=>exact absurd (Nat.eq_of_beq_eq_true hb) h1
    rw [h2,ax,ih fun x hx=>hd x (List.mem_cons_of_mem _ hx)];rfl
  show bT (bT (Nat.ble (e.born+1) clock) (mz e.born es)) (py clock es)=true
  rw [show Nat.ble (e.born+1) clock=true from Nat.ble_eq_true_of_le (h.1 e (List.mem_cons_self ..)),hin es p1,xN ⟨fun x hx=>h.1 x (List.mem_cons_of_mem _ hx),p2⟩];rfl
theorem zbC {es:List aG} (h:gD .u32 es):pG mR es=true:=by
 induction es with
 | nil=>rfl
 | cons e es ih =>
  obtain ⟨n,hn⟩:=h e (List.mem_cons_self ..)
  show bT (mR e.key) (pG mR es)=true
  rw [hn,ih fun x hx=>h x (List.mem_cons_of_mem _ hx)];rfl
theorem KM:∃ r,SC 41 (.fn 95) [.slice none 0 0 none] ⟨.leaf,0⟩=some r:=⟨(.tuple [],⟨.leaf,0⟩),by kernel_rfl⟩
theorem d5.keys {es:List aG} {L:List Ch} (h:d5 es L):es.map (·.key)=(L.map Ch.id).map en:=by
 have:=congrArg (List.map Prod.fst) h
 simp only [List.map_map] at this
 rw [List.map_map]
 exact this
theorem Tv {m:Nat} (hm:1<=m) {h:ac} {cb mb k:Nat} {es:List aG} {L R:List Ch} (hc:h.ld1 cb 0=some (.map (some mb))) (hmb:h.bs.gt mb=some (.map es k)) (he:Xf k es L) (hr:j8 L R) (hl:L.length<=1000) :
  C m (.fn 113) [.func (.func 152) [] [.ptr (some (cb,0))]] h=some (if R=[] then (.slice none 0 0 none,h) else (.slice (some (h.next,0)) R.length R.length (some 1),h.new h.next (.cells (az ((R.map Ch.id).map u) .leaf 0) [] ((R.map Ch.id).map u).length false))):=by
 obtain ⟨m,rfl⟩:∃ m',m=m'+1:=⟨m - 1,by omega⟩
 have hsr:=B4 (n:=41) (by decide) (gs:=[152]) (bs:=4) (fine:=mR) (g:=152) (l:=L.map Ch.id) rfl hc hmb he.e.keys (xN he.b) (zbC he.e.all) (eO (by rw [List.length_map];omega) (by rw [List.length_map];omega)) (by rw [List.length_map];omega) KM
 rw [hr.sortIds] at hsr
 have hp:prW.fn 113 [.func (.func 152) [] [.ptr (some (cb,0))]] h=some (lZ (SC 41) 95 [152] 1 4 SI mR (.func (.func 152) [] [.ptr (some (cb,0))]) h):=rfl
 refine (Jx (P:=P) (keep:=keepF P) (lf:=100000) hp).trans ?_
 rw [hsr]
 congr 1
 have hlen:(L.map Ch.id).length=R.length:=by rw [List.length_map,hr.len]
 by_cases e:R=[]
 ·have eL:L.map Ch.id=[]:=by rw [List.eq_nil_iff_length_eq_zero,hlen,e];rfl
  rw [if_pos e,if_pos eL]
 ·have eL:¬L.map Ch.id=[]:=fun h'=>e (List.eq_nil_of_length_eq_zero (by rw [← hlen,h'];rfl))
  rw [if_neg e,if_neg eL,hlen]
section
variable {h:ac} {tb:Nat} {L R:List Ch} {next:Int} {F:Nat->Prop}
theorem bc.ok (ht:bc h tb L next F):∃ B,iH L next B:=by obtain ⟨_,_,_,_,B,_,_,_,_,_,t5,_⟩:=ht.ex;exact ⟨B,t5⟩
theorem bc.nxt (ht:bc h tb L next F):h.ld1 tb 2=some (u next):=by
 obtain ⟨mb,x,es,k,B,X,t1,_⟩:=ht.ex
 rw [t1.ld1];rfl
theorem KS {n:Nat} (hn:5<=n) (ht:bc h tb L next F) {s:List Nat} (hl:s.length<=1000) (hb:kr s) :
  WC (C n (.fn 156) [.ptr (some (tb,0)),.str s] h) fun r h'=>Sm bm h h'/\((s.length<1∨64<s.length)/\r=.int .i64 4∨¬(s.length<1∨64<s.length)/\((∃ c,pE L s=some c)/\r=.int .i64 6∨pE L s=none/\r=.int .i64 0)):=by
 obtain ⟨m,rfl⟩:∃ m,n=m+1:=⟨n - 1,by omega⟩
 refine ak _ zaD rfl (by simp [rJ]) fun QQ hQ=>?_
 simp only [rJ] at hQ
 simp only [rJ,ah,ai,Nat.zero_add,reduceAdd]
 by_cases c0:s=[]
 ·subst c0
  simp only [Ld,SS,Nat.reduceBEq,reduceEqDiff,reduceAdd,reduceIte,reduceMul,aI]
  refine hQ _ _ _ _ (.inr rfl) (by simp only [SS,Nat.reduceBEq]) (by simp only [SS,Nat.reduceBEq,reduceEqDiff,reduceAdd,reduceIte,reduceMul];rfl) ?_
  exact ⟨Sm.refl _ _,.inl ⟨.inl (by simp),rfl⟩⟩
 have hpos:1<=s.length:=by cases s with | nil=>exact absurd rfl c0 | cons _ _=>simp
 by_cases c1:64<s.length
 ·have d1:(64:Int)<(s.length:Int):=by omega
  simp only [Ld,dc,c0,d1,SS,Nat.reduceBEq,reduceEqDiff,reduceAdd,reduceIte,reduceMul,aI]
  refine hQ _ _ _ _ (.inr rfl) (by simp only [SS,Nat.reduceBEq]) (by simp only [SS,Nat.reduceBEq,reduceEqDiff,reduceAdd,reduceIte,reduceMul];rfl) ?_
  exact ⟨Sm.refl _ _,.inl ⟨.inr c1,rfl⟩⟩
 have d1:¬(64:Int)<(s.length:Int):=by omega
 obtain ⟨_,h1,ea,s1,rfl⟩:=sY (n:=m) (by omega) ht (s:=s) hl hb
 cases hd:pE L s with
 | some c =>
  rw [hd] at ea
  simp only [Ld,dc,c0,d1,ea,SS,Nat.reduceBEq,reduceEqDiff,reduceAdd,reduceIte,reduceMul,aI]
  refine hQ _ _ _ _ (.inr rfl) (by simp only [SS,Nat.reduceBEq]) (by simp only [SS,Nat.reduceBEq,reduceEqDiff,reduceAdd,reduceIte,reduceMul];rfl) ?_
  exact ⟨s1,.inr ⟨by omega,.inl ⟨⟨c,hd⟩,rfl⟩⟩⟩
 | none =>
  rw [hd] at ea
  simp only [Ld,dc,c0,d1,ea,SS,Nat.reduceBEq,reduceEqDiff,reduceAdd,reduceIte,reduceMul,aI]
  refine hQ _ _ _ _ (.inr rfl) (by simp only [SS,Nat.reduceBEq]) (by simp only [SS,Nat.reduceBEq,reduceEqDiff,reduceAdd,reduceIte,reduceMul];rfl) ?_
  exact ⟨s1,.inr ⟨by omega,.inr ⟨hd,rfl⟩⟩⟩
theorem KR {n:Nat} (hn:6<=n) (ht:bc h tb L next F) {s:List Nat} (block:Int) (hl:s.length<=1000) (hb:kr s) (hlen:L.length<=1000) :
  WC (C n (.fn 122) [.ptr (some (tb,0)),.str s,.int .i64 block] h) fun r h' =>
   (s.length<1∨64<s.length)/\r=.tuple [u 0,.int .i64 4]/\Sm bm h h'∨¬(s.length<1∨64<s.length)/\((∃ c,pE L s=some c)/\r=.tuple [u 0,.int .i64 6]/\Sm bm h h'∨pE L s=none/\(next=4294967295/\r=.tuple [u 0,.int .i64 12]/\Sm bm h h' ∨
    next≠4294967295/\r=.tuple [u next,.int .i64 0]/\∃ F',bc h' tb (L++[⟨next,s,block,1⟩]) (next+1) F'/\Sm F h h'/\∀ b,F' b->F b∨h.next<=b)):=by
 by_cases good:¬(s.length<1∨64<s.length)/\pE L s=none/\next≠4294967295
 ·obtain ⟨c1,c2,c3⟩:=good
  obtain ⟨r,h',e,rfl,F',t1,t2,t3⟩:=WR hn ht block (by omega) (by omega) hb c2 c3 (by omega)
  exact ⟨_,h',e,.inr ⟨c1,.inr ⟨c2,.inr ⟨c3,rfl,F',t1,t2,t3⟩⟩⟩⟩
 obtain ⟨m,rfl⟩:∃ m,n=m+1:=⟨n - 1,by omega⟩
 refine ak _ zaB rfl (by simp [rH]) fun QQ hQ=>?_
 simp only [rH] at hQ
 simp only [rH,ah,ai,Nat.zero_add,reduceAdd]
 obtain ⟨_,h1,eb,s1,hcase⟩:=KS (n:=m) (by omega) ht hl hb
 obtain ⟨_,h0,ea,e0,rfl⟩:=pa (n:=m) (by omega) ht
 subst e0
 have ht1:=ht.sm s1 (fun _ _ h=>h)
 rcases hcase with ⟨c1,rfl⟩|⟨c1,⟨c2,rfl⟩|⟨c2,rfl⟩⟩
 ·simp only [T6,ea,eb,SS,Nat.reduceBEq,reduceEqDiff,reduceAdd,reduceIte,reduceMul]
  refine hQ _ _ _ _ (.inr rfl) (by simp only [SS,Nat.reduceBEq]) (by simp only [SS,Nat.reduceBEq,reduceEqDiff,reduceAdd,reduceIte,reduceMul];rfl) ?_
  exact .inl ⟨c1,rfl,s1⟩
 ·simp only [T6,ea,eb,SS,Nat.reduceBEq,reduceEqDiff,reduceAdd,reduceIte,reduceMul]
  refine hQ _ _ _ _ (.inr rfl) (by simp only [SS,Nat.reduceBEq]) (by simp only [SS,Nat.reduceBEq,reduceEqDiff,reduceAdd,reduceIte,reduceMul];rfl) ?_
  exact .inr ⟨c1,.inl ⟨c2,rfl,s1⟩⟩
 ·by_cases c3:next=4294967295
  ·have l2:=ht1.nxt
   simp only [T6,ea,eb,jW,l2,c3,SS,Nat.reduceBEq,reduceEqDiff,reduceAdd,reduceIte,reduceMul]
   refine hQ _ _ _ _ (.inr rfl) (by simp only [SS,Nat.reduceBEq]) (by simp only [SS,Nat.reduceBEq,reduceEqDiff,reduceAdd,reduceIte,reduceMul];rfl) ?_
   exact .inr ⟨c1,.inr ⟨c2,.inl ⟨c3,rfl,s1⟩⟩⟩
  ·exact absurd ⟨c1,c2,c3⟩ good
end
end Go.Proofs.YtboobbebilegnaaGreat
namespace Go.Proofs.YtboobbebilegnaaGreat
open Go.Am
set_option maxRecDepth 10000
section
variable {h:ac} {tb:Nat} {L R:List Ch} {next:Int} {F:Nat->Prop}
theorem JS {n:Nat} (hn:3<=n) (ht:bc h tb L next F) (id:Int) :
  WC (C n (.fn 98) [.ptr (some (tb,0)),u id] h) fun r h'=>fC L id=none/\r=.int .i64 5/\Sm bm h h'∨∃ c,fC L id=some c/\(c.refs=65535/\r=.int .i64 12/\Sm bm h h' ∨
   c.refs≠65535/\r=.int .i64 0/\bc h' tb (dU {c with refs:=c.refs+1 } L) next F/\Sm F h h'):=by
 obtain ⟨B,t5⟩:=ht.ok
 by_cases good:∃ c,fC L id=some c/\c.refs≠65535
 ·obtain ⟨c,hg,hr⟩:=good
  have:=(t5.ch c (jF hg).1)
  obtain ⟨r,h',e,rfl,t1,t2⟩:=Vq hn ht hg (by omega)
  exact ⟨_,h',e,.inr ⟨c,hg,.inr ⟨hr,rfl,t1,t2⟩⟩⟩
 obtain ⟨m,rfl⟩:∃ m,n=m+1:=⟨n - 1,by omega⟩
 refine ak _ zeL rfl (by simp [Bu]) fun QQ hQ=>?_
 simp only [Bu] at hQ
 simp only [Bu,ah,ai,Nat.zero_add,reduceAdd]
 obtain ⟨_,h1,ea,s1,rfl⟩:=lB (n:=m) (by omega) ht id
 obtain ⟨h2,e2,r2,n2,g2⟩:=Rw.alloc h1 (id:=h1.next) (n:=3) (vs:=[.str [],.int .i64 0,.int .i64 0]) (z:=ay 183 true) (ro:=false) (Nat.le_refl _) rfl
 cases hg:fC L id with
 | none =>
  rw [hg] at ea
  unfold zCh at ea
  obtain ⟨w1,w2,w3,w4⟩:=r2.sto (o:=0) (us:=[.str [],.int .i64 0,.int .i64 0]) (by simp) rfl
  simp only [F98,ea,fc,e2,w1,SS,Nat.reduceBEq,reduceEqDiff,reduceAdd,reduceIte,reduceMul]
  refine hQ _ _ _ _ (.inr rfl) (by simp only [SS,Nat.reduceBEq]) (by simp only [SS,Nat.reduceBEq,reduceEqDiff,reduceAdd,reduceIte,reduceMul];rfl) ?_
  have:=s1.1
  exact .inl ⟨hg,rfl,⟨by omega,fun b hb hF=>by rw [w4 b (by omega),g2 b (by omega),s1.2 b hb hF]⟩⟩
 | some c =>
  rw [hg] at ea
  unfold Ch.val at ea
  have hr:c.refs=65535:=Classical.byContradiction fun h9=>good ⟨c,hg,h9⟩
  obtain ⟨w1,w2,w3,w4⟩:=r2.sto (o:=0) (us:=[.str c.data,.int .i64 c.block,.int .i64 65535]) (by simp) rfl
  rw [IU _ _ rfl rfl] at w2
  simp only [hr] at ea
  simp only [F98,ea,fc,e2,w1,fX,w2.ld1,SS,Nat.reduceBEq,reduceEqDiff,reduceAdd,reduceIte,reduceMul]
  refine hQ _ _ _ _ (.inr rfl) (by simp only [SS,Nat.reduceBEq]) (by simp only [SS,Nat.reduceBEq,reduceEqDiff,reduceAdd,reduceIte,reduceMul];rfl) ?_
  have:=s1.1
  exact .inr ⟨c,hg,.inl ⟨hr,rfl,⟨by omega,fun b hb hF=>by rw [w4 b (by omega),g2 b (by omega),s1.2 b hb hF]⟩⟩⟩
theorem wZ {n:Nat} (hn:4<=n) (ht:bc h tb L next F) (id:Int) :
  WC (C n (.fn 92) [.ptr (some (tb,0)),u id] h) fun r h'=>fC L id=none/\r=.tuple [.bool false,.int .i64 5]/\Sm bm h h'∨∃ c,fC L id=some c/\Sm F h h'/\(1<c.refs/\r=.tuple [.bool false,.int .i64 0]/\bc h' tb (dU {c with refs:=c.refs - 1 } L) next F ∨
   ¬1<c.refs/\r=.tuple [.bool true,.int .i64 0]/\∃ F',bc h' tb (kJ id L) next F'/\∀ b,F' b->F b):=by
 by_cases good:∃ c,fC L id=some c
 ·obtain ⟨c,hg⟩:=good
  obtain ⟨r,h',e,s1,hc⟩:=BT hn ht hg
  by_cases c1:1<c.refs
  ·rw [if_pos c1] at hc
   exact ⟨_,h',e,.inr ⟨c,hg,s1,.inl ⟨c1,hc⟩⟩⟩
  ·rw [if_neg c1] at hc
   exact ⟨_,h',e,.inr ⟨c,hg,s1,.inr ⟨c1,hc⟩⟩⟩
 obtain ⟨m,rfl⟩:∃ m,n=m+1:=⟨n - 1,by omega⟩
 refine ak _ zeK rfl (by simp [Bt]) fun QQ hQ=>?_
 simp only [Bt] at hQ
 simp only [Bt,ah,ai,Nat.zero_add,reduceAdd]
 obtain ⟨_,h1,ea,s1,rfl⟩:=lB (n:=m) (by omega) ht id
 obtain ⟨h2,e2,r2,n2,g2⟩:=Rw.alloc h1 (id:=h1.next) (n:=3) (vs:=[.str [],.int .i64 0,.int .i64 0]) (z:=ay 183 true) (ro:=false) (Nat.le_refl _) rfl
 cases hg:fC L id with
 | none =>
  rw [hg] at ea
  unfold zCh at ea
  obtain ⟨w1,w2,w3,w4⟩:=r2.sto (o:=0) (us:=[.str [],.int .i64 0,.int .i64 0]) (by simp) rfl
  simp only [F92,ea,fc,e2,w1,SS,Nat.reduceBEq,reduceEqDiff,reduceAdd,reduceIte,reduceMul]
  refine hQ _ _ _ _ (.inr rfl) (by simp only [SS,Nat.reduceBEq]) (by simp only [SS,Nat.reduceBEq,reduceEqDiff,reduceAdd,reduceIte,reduceMul];rfl) ?_
  have:=s1.1
  exact .inl ⟨hg,rfl,⟨by omega,fun b hb hF=>by rw [w4 b (by omega),g2 b (by omega),s1.2 b hb hF]⟩⟩
 | some c=>exact absurd ⟨c,hg⟩ good
end
end Go.Proofs.YtboobbebilegnaaGreat
namespace Go.Proofs.YtboobbebilegnaaGreat
open Go.Am
set_option maxRecDepth 10000
section
variable {h:ac} {rb:Nat} {R L:List Ch} {next:Int} {bs:List Nat}
end
end Go.Proofs.YtboobbebilegnaaGreat
namespace Go.Proofs.YtboobbebilegnaaGreat
open Go.Am
set_option maxRecDepth 10000
theorem bc.flt {h:ac} {tb:Nat} {L:List Ch} {next:Int} {F:Nat->Prop} (ht:bc h tb L next F):∀ b,F b->b<h.next:=by
 obtain ⟨mb,x,es,c,B,X,h1,h2,h3,h4,h5,h6,h7,h8,h9,rfl⟩:=ht.ex
 rintro b (rfl | rfl | rfl|⟨i,hi,hb⟩)
 ·exact ht.lt
 ·exact h6
 ·exact h4.lt
 ·obtain ⟨S,_,_,h3⟩:=h4.ex
  obtain ⟨v,_,o⟩:=h3 i hi
  exact o.lt b hb
structure St (h:ac) (tb rb:Nat) (L R:List Ch) (next:Int) (F:Nat->Prop) (bs:List Nat):Prop where
 t:bc h tb L next F
 r:zda h rb R next bs
 rel:j8 L R
 dj:∀ b,F b->¬zf8 rb bs b
section
variable {h h1 h2 h3:ac} {tb rb:Nat} {L R L' R':List Ch} {next next':Int} {F F':Nat->Prop} {bs bs':List Nat}
end
end Go.Proofs.YtboobbebilegnaaGreat
namespace Go.Proofs.YtboobbebilegnaaGreat
open Go.Am
set_option maxRecDepth 10000
section
variable {h h1 h3:ac} {tb rb:Nat} {L R:List Ch} {next:Int} {F:Nat->Prop} {bs:List Nat}
theorem Vu {n:Nat} (hn:1<=n) {mb:Nat}:WC (C n (.fn 114) [.map (some mb)] h) fun r h'=>∃ cb,r=.func (.func 152) [] [.ptr (some (cb,0))]/\h'.ld1 cb 0=some (.map (some mb))/\Sm bm h h':=by
 obtain ⟨m,rfl⟩:∃ m,n=m+1:=⟨n - 1,by omega⟩
 refine ak _ zd1 rfl (by simp [Ia]) fun QQ hQ=>?_
 simp only [Ia] at hQ
 simp only [Ia,ah,ai,Nat.zero_add,reduceAdd]
 obtain ⟨h1,e1,rx,n1,g1⟩:=Rw.alloc h (id:=h.next) (n:=1) (vs:=[.map (some mb)]) (z:=[]) (ro:=false) (Nat.le_refl _) rfl
 have eb:cV (.map (some mb))=some (.cells (az [.map (some mb)] .leaf 0) [] 1 false,dy):=rfl
 have ef:∀ b,dH (Fn.func 152) 0 [.ptr (some (b,0))]=some (.func (.func 152) [] [.ptr (some (b,0))]):=fun b=>rfl
 simp only [zfN,SS,Nat.reduceBEq,reduceEqDiff,reduceAdd,reduceIte,reduceMul,eb,e1,ef]
 refine hQ _ _ _ _ (.inr rfl) (by simp only [SS,Nat.reduceBEq]) (by simp only [SS,Nat.reduceBEq,reduceEqDiff,reduceAdd,reduceIte,reduceMul];rfl) ?_
 exact ⟨h.next,rfl,rx.ld1 0,⟨by omega,fun c hc _=>g1 c (by omega)⟩⟩
theorem vi {n:Nat} (hn:1<=n):WC (C n (.fn 57) [.ptr (some (tb,0))] h) fun r h'=>∃ bx,r=.func (.func 112) [] [.ptr (some (bx,0))]/\Rw h' bx [.ptr (some (tb,0))] [] false/\bx<h'.next/\Sm bm h h'/\h.next<=bx:=by
 obtain ⟨m,rfl⟩:∃ m,n=m+1:=⟨n - 1,by omega⟩
 refine ak _ zgB rfl (by simp [U7]) fun QQ hQ=>?_
 simp only [U7] at hQ
 simp only [U7,ah,ai,Nat.zero_add,reduceAdd]
 obtain ⟨h1,e1,rx,n1,g1⟩:=Rw.alloc h (id:=h.next) (n:=1) (vs:=[.ptr (some (tb,0))]) (z:=[]) (ro:=false) (Nat.le_refl _) rfl
 have eb:cV (.ptr (some (tb,0)))=some (.cells (az [.ptr (some (tb,0))] .leaf 0) [] 1 false,dy):=rfl
 have ef:∀ b,dH (Fn.func 112) 0 [.ptr (some (b,0))]=some (.func (.func 112) [] [.ptr (some (b,0))]):=fun b=>rfl
 simp only [F57,SS,Nat.reduceBEq,reduceEqDiff,reduceAdd,reduceIte,reduceMul,eb,e1,ef]
 refine hQ _ _ _ _ (.inr rfl) (by simp only [SS,Nat.reduceBEq]) (by simp only [SS,Nat.reduceBEq,reduceEqDiff,reduceAdd,reduceIte,reduceMul];rfl) ?_
 exact ⟨h.next,rfl,rx,by omega,⟨by omega,fun c hc _=>g1 c (by omega)⟩,Nat.le_refl _⟩
theorem mZ {n:Nat} (hn:3<=n) (ht:bc h tb L next F) (hrel:j8 L R) (hlen:L.length<=1000) {bx l:Nat} (hbx:Rw h bx [.ptr (some (tb,0))] [] false)
  (J:Nat->Nat->ac->Prop) (D:ac->Prop) (hJ0:∀ h1,Sm bm h h1->J h1.next 0 h1)
  (hround:∀ hi i h1 (_:i<R.length),J hi i h1->h.next<=hi->WC (C (n - 1) (.loop l) [u (Ri R i).id] h1) fun v h2=>(v=.bool true/\J hi (i+1) h2∨v=.bool false/\D h2)/\∀ b,h.next<=b->b<hi->h2.bs.gt b=h1.bs.gt b) :
  WC (C n (.fn 112) [.func (.yield l) [] [],.ptr (some (bx,0))] h) fun _ h'=>(∃ hi,J hi R.length h')∨D h':=by
 have hrl:=hrel.len
 obtain ⟨m,rfl⟩:∃ m,n=m+1:=⟨n - 1,by omega⟩
 refine ak _ zd0 rfl (by simp [H9]) fun QQ hQ=>?_
 simp only [H9] at hQ
 simp only [H9,ah,ai,Nat.zero_add,reduceAdd]
 simp only [Nat.add_sub_cancel] at hround
 have l0:=hbx.ld1 0
 rw [List.getElem?_cons_zero] at l0
 obtain ⟨_,h0,ea,e0,rfl⟩:=pa (n:=m) (by omega) ht
 subst e0
 obtain ⟨mb,x,es,k,B,X,t1,t2,t3,_,_,hmb,_⟩:=ht.ex
 obtain ⟨_,h1,eb,cb,rfl,hcb,s1⟩:=Vu (n:=m) (by omega) (h:=h0) (mb:=mb)
 have hsk:=Tv (m:=m) (by omega) hcb ((s1.2 mb hmb (fun h=>h)).trans t2) t3 hrel (by omega)
 obtain ⟨a,cc,gg,h2,ec,s2,hld⟩:∃ a cc gg h2,C m (.fn 113) [.func (.func 152) [] [.ptr (some (cb,0))]] h1=some (.slice a R.length cc gg,h2)/\Sm bm h1 h2/\(∀ i,i<R.length->∃ sb,a=some (sb,0)/\h0.next<=sb/\sb<h2.next/\∀ h':ac,h'.bs.gt sb=h2.bs.gt sb->h'.ld1 sb i=some (u (Ri R i).id)):=by
  by_cases hR:R=[]
  ·rw [if_pos hR] at hsk
   refine ⟨none,0,none,h1,?_,Sm.refl _ _,fun i hi=>?_⟩
   ·rw [hsk,hR];rfl
   ·rw [hR] at hi;cases hi
  ·rw [if_neg hR] at hsk
   obtain ⟨h2,e2,r2,n2,g2⟩:=Rw.alloc h1 (id:=h1.next) (n:=((R.map Ch.id).map u).length) (vs:=(R.map Ch.id).map u) (z:=[]) (ro:=false) (Nat.le_refl _) rfl
   rw [e2] at hsk
   have hs1:=s1.1
   refine ⟨_,_,_,h2,hsk,⟨by omega,fun c hc _=>g2 c (by omega)⟩,fun i hi=>⟨h1.next,rfl,by omega,by omega,fun h' e=>?_⟩⟩
   rw [(r2.same e).ld1,qM hi]
   simp [hi]
 have s02:Sm bm h0 h2:=s1.trans s2 (fun _ _ h=>h) (fun _ _ h=>h)
 simp only [T5,SS,Nat.reduceBEq,reduceEqDiff,reduceAdd,reduceIte,reduceMul,l0,ea,cQ,t1.ld1,eb,ec,eJ]
 refine aF (c:=vC) (I:=fun m' tm' h'=>∃ i,i<=R.length/\m'=R.length - i/\J h2.next i h'/\(∀ b,h0.next<=b->b<h2.next->h'.bs.gt b=h2.bs.gt b)/\tm'.gt 0=some (.func (.yield l) [] [])/\tm'.gt 13=some (.slice a R.length cc gg)/\tm'.gt 14=some (I R.length)/\tm'.gt 15=some (I i)/\tm'.gt 24=none) (n:=R.length)
  ⟨0,by omega,rfl,hJ0 h2 s02,fun _ _ _=>rfl,by simp only [SS,Nat.reduceBEq],by simp only [SS,Nat.reduceBEq],by simp only [SS,Nat.reduceBEq],by simp only [SS,Nat.reduceBEq,reduceEqDiff,reduceAdd,reduceIte,reduceMul];rfl,by simp only [SS,Nat.reduceBEq]⟩ (by omega) ?_
 rintro _ tm h3 ⟨i,hil,rfl,hJ,hk,t0,t13,t14,t15,t24⟩ Q1 hN1 hE
 by_cases hlt:i<R.length
 ·have hlt':(i:Int)<(R.length:Int):=by omega
  obtain ⟨sb,rfl,hsb1,hsb2,hl1⟩:=hld i hlt
  have hl1:=hl1 h3 (hk sb hsb1 hsb2)
  obtain ⟨v,h4,ey,hv,hk4⟩:=hround h2.next i h3 hlt hJ s02.1
  have x2:=aB (k:=.i64) (b:=sb) (o:=0) (c:=cc) (g:=gg) hlt
  rcases hv with ⟨rfl,hJ4⟩|⟨rfl,hD⟩
  ·simp only [T5,SS,Nat.reduceBEq,reduceEqDiff,reduceAdd,reduceIte,reduceMul,t0,t13,t14,t15,hlt',x2,hl1,ey,bG (show i<=1000000 by omega)]
   refine hN1 _ _ (R.length - (i+1)) (by omega) ⟨i+1,hlt,rfl,hJ4,fun b h8 h9=>(hk4 b h8 h9).trans (hk b h8 h9),by simp only [SS,Nat.reduceBEq,t0],by simp only [SS,Nat.reduceBEq,t13],by simp only [SS,Nat.reduceBEq,t14],by simp only [SS,Nat.reduceBEq],by simp only [SS,Nat.reduceBEq,t24]⟩
  ·simp only [T5,SS,Nat.reduceBEq,reduceEqDiff,reduceAdd,reduceIte,reduceMul,t0,t13,t14,t15,hlt',x2,hl1,ey]
   refine hE _ _ _ (by simp) ?_
   simp only [SS,Nat.reduceBEq,reduceEqDiff,reduceAdd,reduceIte,reduceMul]
   refine hQ _ _ _ _ (.inr rfl) (by simp only [SS,Nat.reduceBEq,t24]) (by simp only [SS,Nat.reduceBEq,reduceEqDiff,reduceAdd,reduceIte,reduceMul];rfl) (.inr hD)
 ·obtain rfl:i=R.length:=by omega
  have hlt':¬(R.length:Int)<(R.length:Int):=by omega
  simp only [T5,SS,Nat.reduceBEq,reduceEqDiff,reduceAdd,reduceIte,reduceMul,t0,t13,t14,t15,hlt']
  refine hE _ _ _ (by simp) ?_
  simp only [SS,Nat.reduceBEq,reduceEqDiff,reduceAdd,reduceIte,reduceMul]
  refine hQ _ _ _ _ (.inl rfl) (by simp only [SS,Nat.reduceBEq,t24]) (by simp only [SS,Nat.reduceBEq,reduceEqDiff,reduceAdd,reduceIte,reduceMul];rfl) (.inl ⟨_,hJ⟩)
end
end Go.Proofs.YtboobbebilegnaaGreat
namespace Go.Proofs.YtboobbebilegnaaGreat
open Go.Am
set_option maxRecDepth 10000
section
variable {α : Type} {f:α->List AV} {k:Nat}
theorem jD:∀ {D:List α},(∀ x,x∈D->(f x).length=k)->(D.flatMap f).length=D.length*k
 | [],_=>by simp
 | x::D,h=>by
  show (f x++D.flatMap f).length=_
  rw [List.length_append,h x (List.mem_cons_self ..),jD fun y hy=>h y (List.mem_cons_of_mem _ hy),List.length_cons,Nat.succ_mul];omega
theorem kN {D:List α} {i:Nat} (hi:i<D.length):D.flatMap f=(D.take i).flatMap f++(f D[i]++(D.drop (i+1)).flatMap f):=by
 conv=>lhs;rw [← List.take_append_drop i D,List.drop_eq_getElem_cons hi]
 rw [List.flatMap_append];rfl
theorem Sk {D:List α} {i:Nat} (hi:i<D.length) (y:α):(D.set i y).flatMap f=(D.take i).flatMap f++(f y++(D.drop (i+1)).flatMap f):=by
 rw [List.set_eq_take_append_cons_drop,if_pos hi,List.flatMap_append];rfl
theorem qy {D:List α} (h:∀ x,x∈D->(f x).length=k) {i:Nat} (hi:i<=D.length):((D.take i).flatMap f).length=i*k:=by
 rw [jD fun x hx=>h x (List.mem_of_mem_take hx),List.length_take,Nat.min_eq_left hi]
theorem wz {D:List α} (h:∀ x,x∈D->(f x).length=k) {i o m:Nat} (hi:i<D.length) (ho:o+m<=k):((D.flatMap f).drop (i*k+o)).take m=((f D[i]).drop o).take m:=by
 have h1:=qy h (Nat.le_of_lt hi)
 have h2:=h _ (List.getElem_mem hi)
 rw [kN hi,← List.drop_drop,← h1,List.drop_left,List.drop_append_of_le_length (by omega),List.take_append_of_le_length (by rw [List.length_drop];omega)]
theorem zbD {D:List α} (h:∀ x,x∈D->(f x).length=k) {i o:Nat} (hi:i<D.length) (ho:o<k):(D.flatMap f)[i*k+o]?=(f D[i])[o]?:=by
 have h1:=qy h (Nat.le_of_lt hi)
 have h2:=h _ (List.getElem_mem hi)
 rw [kN hi,List.getElem?_append_right (by omega),h1,Nat.add_sub_cancel_left,List.getElem?_append_left (by omega)]
theorem zbE {D:List α} (h:∀ x,x∈D->(f x).length=k) {i o:Nat} (hi:i<D.length) {us:List AV} (ho:o+us.length<=k) {y:α} (hy:f y=eD (f D[i]) o us):eD (D.flatMap f) (i*k+o) us=(D.set i y).flatMap f:=by
 have h1:=qy h (Nat.le_of_lt hi)
 have h2:=h _ (List.getElem_mem hi)
 rw [Sk hi,hy]
 unfold eD
 have ht:(D.flatMap f).take (i*k+o)=(D.take i).flatMap f++(f D[i]).take o:=by
  rw [kN hi,← h1,List.take_length_add_append,List.take_append_of_le_length (by omega)]
 have hd:(D.flatMap f).drop (i*k+o+us.length)=(f D[i]).drop (o+us.length)++(D.drop (i+1)).flatMap f:=by
  rw [kN hi,Nat.add_assoc,← List.drop_drop,← h1,List.drop_left,List.drop_append_of_le_length (by omega)]
 rw [ht,hd]
 simp only [List.append_assoc]
end
structure Sl where
 firm:List Nat
 read:List Nat
 fresh:Bool
def B64 (s:List Nat):Prop:=s.length=64/\∀ c,c∈s->c<256
def Sl.Ok (x:Sl):Prop:=B64 x.firm/\B64 x.read
def Sl.c (x:Sl):List AV:=x.firm.map aQ++(x.read.map aQ++[.bool x.fresh])
def Sz:Sl:=⟨List.replicate 64 0,List.replicate 64 0,false⟩
def Si (D:List Sl) (i:Nat):Sl:=D.getD i Sz
theorem qN {D:List Sl} {i:Nat} (h:i<D.length):Si D i=D[i]:=by simp [Si,List.getD_eq_getElem?_getD,List.getElem?_eq_getElem h]
abbrev csD (D:List Sl):List AV:=D.flatMap Sl.c
theorem Sl.Ok.len {x:Sl} (h:x.Ok):x.c.length=129:=by
 unfold Sl.c;simp only [List.length_append,List.length_map,h.1.1,h.2.1,List.length_cons,List.length_nil]
theorem Xk:Sz.Ok:=⟨⟨by simp [Sz],fun c hc=>by rw [(List.mem_replicate.1 hc).2];decide⟩,⟨by simp [Sz],fun c hc=>by rw [(List.mem_replicate.1 hc).2];decide⟩⟩
theorem Uy:((256:Nat):Int)=256:=rfl
structure bB (h:ac) (db sb:Nat) (D:List Sl):Prop where
 r:∃ z,Rw h db [.slice (some (sb,0)) 256 256 none] z false
 s:∃ z,Rw h sb (csD D) z false
 len:D.length=256
 ok:∀ x,x∈D->x.Ok
 lt:db<h.next/\sb<h.next
 ne:db≠sb
section
variable {h h':ac} {db sb:Nat} {D:List Sl}
theorem bB.lens (hd:bB h db sb D):∀ x,x∈D->x.c.length=129:=fun x hx=>(hd.ok x hx).len
theorem bB.sm {F:Nat->Prop} (hd:bB h db sb D) (hs:Sm F h h') (h1:¬F db) (h2:¬F sb):bB h' db sb D:=by
 obtain ⟨⟨z,r⟩,⟨z',s⟩,l,o,⟨lt1,lt2⟩,n⟩:=hd
 have:=hs.1
 exact ⟨⟨z,r.sm hs lt1 h1⟩,⟨z',s.sm hs lt2 h2⟩,l,o,⟨by omega,by omega⟩,n⟩
theorem bB.si (hd:bB h db sb D) {j:Nat} (hj:j<256):(Si D j).Ok:=by
 rw [qN (by rw [hd.len];exact hj)];exact hd.ok _ (List.getElem_mem _)
theorem Sa {n:Nat} (hn:1<=n) (hd:bB h db sb D) (k:Int):WC (C n (.fn 126) [.ptr (some (db,0)),.int .i64 k] h) fun r h'=>h'=h /\
  ((k<0∨256<=k)/\r=.tuple [.ptr none,.int .i64 2]∨∃ j:Nat,j<256/\k=(j:Int)/\r=.tuple [.ptr (some (sb,j*129)),.int .i64 0]):=by
 obtain ⟨z,r⟩:=hd.r
 have l0:=r.ld1 0
 rw [List.getElem?_cons_zero] at l0
 obtain ⟨m,rfl⟩:∃ m,n=m+1:=⟨n - 1,by omega⟩
 refine ak _ zea rfl (by simp [Ij]) fun QQ hQ=>?_
 simp only [Ij] at hQ
 simp only [Ij,ah,ai,Nat.zero_add,reduceAdd]
 have ne0:¬((256:Int)=0):=by decide
 by_cases h1:k<0
 ·simp only [zaW,SS,Nat.reduceBEq,reduceEqDiff,reduceAdd,reduceIte,reduceMul,l7,Option.isNone_some,eI,l0,jv,Uy,ne0,h1]
  refine hQ _ _ _ _ (.inr rfl) (by simp only [SS,Nat.reduceBEq]) (by simp only [SS,Nat.reduceBEq,reduceEqDiff,reduceAdd,reduceIte,reduceMul];rfl) ?_
  exact ⟨rfl,.inl ⟨.inl h1,rfl⟩⟩
 ·by_cases h2:256<=k
  ·simp only [zaW,SS,Nat.reduceBEq,reduceEqDiff,reduceAdd,reduceIte,reduceMul,l7,Option.isNone_some,eI,l0,jv,Uy,ne0,h1,h2]
   refine hQ _ _ _ _ (.inr rfl) (by simp only [SS,Nat.reduceBEq]) (by simp only [SS,Nat.reduceBEq,reduceEqDiff,reduceAdd,reduceIte,reduceMul];rfl) ?_
   exact ⟨rfl,.inl ⟨.inr h2,rfl⟩⟩
  ·obtain ⟨j,rfl⟩:∃ j:Nat,k=(j:Int):=⟨k.toNat,by omega⟩
   have hj:j<256:=by omega
   simp only [zaW,SS,Nat.reduceBEq,reduceEqDiff,reduceAdd,reduceIte,reduceMul,l7,Option.isNone_some,eI,l0,jv,Uy,ne0,h1,h2,om hj]
   refine hQ _ _ _ _ (.inr rfl) (by simp only [SS,Nat.reduceBEq]) (by simp only [SS,Nat.reduceBEq,reduceEqDiff,reduceAdd,reduceIte,reduceMul];rfl) ?_
   exact ⟨rfl,.inr ⟨j,hj,rfl,rfl⟩⟩
end
end Go.Proofs.YtboobbebilegnaaGreat
namespace Go.Proofs.YtboobbebilegnaaGreat
open Go.Am
set_option maxRecDepth 10000
theorem js {A M B us:List AV} {o:Nat} (ho:o=A.length) (hu:us.length=M.length):eD (A++(M++B)) o us=A++(us++B):=by
 subst ho
 unfold eD
 rw [List.take_left,← List.drop_drop,List.drop_left,hu,List.drop_left]
theorem wU {A c B us:List AV} {n o:Nat} (hn:n=A.length+o) (ho:o+us.length<=c.length):eD (A++(c++B)) n us=A++(eD c o us++B):=by
 subst hn
 unfold eD
 rw [List.take_length_add_append,List.take_append_of_le_length (by omega),Nat.add_assoc,← List.drop_drop,List.drop_left,List.drop_append_of_le_length (by omega)]
 simp only [List.append_assoc]
section
variable {h h':ac} {db sb:Nat} {D:List Sl}
theorem tP (b o:Nat):aU P 207 false false false [.ptr (some (b,o))]=some (.slice (some (b,o)) 64 64 none):=zcO (e:=5) (s:=1) (by kernel_rfl) (by kernel_rfl)
theorem TN:bK P 207 [] []=some (.agg ((List.replicate 64 0).map aQ)):=by kernel_rfl
theorem zdR {n:Nat} (hn:2<=n) (hd:bB h db sb D) (k:Int):WC (C n (.fn 158) [.ptr (some (db,0)),.int .i64 k] h) fun r h'=>h'=h /\
  ((k<0∨256<=k)/\r=.tuple [.str [],.int .i64 2]∨∃ j:Nat,j<256/\k=(j:Int)/\r=.tuple [.str (Si D j).read,.int .i64 0]):=by
 obtain ⟨m,rfl⟩:∃ m,n=m+1:=⟨n - 1,by omega⟩
 refine ak _ zek rfl (by simp [It]) fun QQ hQ=>?_
 simp only [It] at hQ
 simp only [It,ah,ai,Nat.zero_add,reduceAdd]
 obtain ⟨_,h0,e1,e0,hr⟩:=Sa (n:=m) (by omega) hd k
 subst e0
 rcases hr with ⟨hk,rfl⟩|⟨j,hj,rfl,rfl⟩
 ·simp only [zc2,SS,Nat.reduceBEq,reduceEqDiff,reduceAdd,reduceIte,reduceMul,e1]
  refine hQ _ _ _ _ (.inr rfl) (by simp only [SS,Nat.reduceBEq]) (by simp only [SS,Nat.reduceBEq,reduceEqDiff,reduceAdd,reduceIte,reduceMul];rfl) ?_
  exact ⟨rfl,.inl ⟨hk,rfl⟩⟩
 ·obtain ⟨z,s⟩:=hd.s
  have hjl:j<D.length:=by rw [hd.len];exact hj
  have ok:=hd.si hj
  have hld:h0.ld sb (j*129+64) 64=some ((Si D j).read.map aQ):=by
   rw [s.ld (by rw [jD hd.lens,hd.len];omega),wz hd.lens hjl (by decide),← qN hjl]
   unfold Sl.c
   rw [List.drop_append_of_le_length (by rw [List.length_map,ok.1.1];exact Nat.le_refl _),List.drop_of_length_le (by rw [List.length_map,ok.1.1];exact Nat.le_refl _),List.nil_append,List.take_append_of_le_length (by rw [List.length_map,ok.2.1];exact Nat.le_refl _),List.take_of_length_le (by rw [List.length_map,ok.2.1];exact Nat.le_refl _)]
  have eb:=fun (c:Nat) (g:Option Nat)=>SQ (e:=5) u_5 (n:=64) (c:=c) (g:=g) ok.2.2 hld
  simp only [zc2,SS,Nat.reduceBEq,reduceEqDiff,reduceAdd,reduceIte,reduceMul,e1,jY,tP,eb]
  refine hQ _ _ _ _ (.inr rfl) (by simp only [SS,Nat.reduceBEq]) (by simp only [SS,Nat.reduceBEq,reduceEqDiff,reduceAdd,reduceIte,reduceMul];rfl) ?_
  exact ⟨rfl,.inr ⟨j,hj,rfl,rfl⟩⟩
def VF (s:List Nat):List Nat:=s++List.replicate (64 - s.length) 0
theorem zb7 {s:List Nat} (h1:s.length<=64) (h2:∀ c,c∈s->c<256):B64 (VF s):=by
 refine ⟨by unfold VF;simp;omega,fun c hc=>?_⟩
 rcases List.mem_append.1 hc with h | h
 ·exact h2 c h
 ·rw [(List.mem_replicate.1 h).2];decide
theorem JQ {n:Nat} (hn:2<=n) (hd:bB h db sb D) (k:Int) {s:List Nat} (hs:∀ c,c∈s->c<256):WC (C n (.fn 68) [.ptr (some (db,0)),.int .i64 k,.str s] h) fun r h' =>
  (h'=h/\((k<0∨256<=k)/\r=.int .i64 2∨(0<=k/\k<256)/\64<s.length/\r=.int .i64 3))∨∃ j:Nat,j<256/\k=(j:Int)/\s.length<=64/\r=.int .i64 0/\bB h' db sb (D.set j ⟨(Si D j).firm,VF s,true⟩)/\Sm (·= sb) h h':=by
 obtain ⟨m,rfl⟩:∃ m,n=m+1:=⟨n - 1,by omega⟩
 refine ak _ zgM rfl (by simp [Vi]) fun QQ hQ=>?_
 simp only [Vi] at hQ
 simp only [Vi,ah,ai,Nat.zero_add,reduceAdd]
 obtain ⟨_,h0,e1,e0,hr⟩:=Sa (n:=m) (by omega) hd k
 subst e0
 rcases hr with ⟨hk,rfl⟩|⟨j,hj,rfl,rfl⟩
 ·simp only [F68,SS,Nat.reduceBEq,reduceEqDiff,reduceAdd,reduceIte,reduceMul,e1]
  refine hQ _ _ _ _ (.inr rfl) (by simp only [SS,Nat.reduceBEq]) (by simp only [SS,Nat.reduceBEq,reduceEqDiff,reduceAdd,reduceIte,reduceMul];rfl) ?_
  exact .inl ⟨rfl,.inl ⟨hk,rfl⟩⟩
 ·by_cases hl:64<s.length
  ·have hl':(64:Int)<(s.length:Int):=by omega
   simp only [F68,SS,Nat.reduceBEq,reduceEqDiff,reduceAdd,reduceIte,reduceMul,e1,dc,hl']
   refine hQ _ _ _ _ (.inr rfl) (by simp only [SS,Nat.reduceBEq]) (by simp only [SS,Nat.reduceBEq,reduceEqDiff,reduceAdd,reduceIte,reduceMul];rfl) ?_
   exact .inl ⟨rfl,.inr ⟨by omega,hl,rfl⟩⟩
  ·have hl':¬(64:Int)<(s.length:Int):=by omega
   obtain ⟨z,sw⟩:=hd.s
   have hjl:j<D.length:=by rw [hd.len];exact hj
   have ok:=hd.si hj
   have hlen:=jD hd.lens
   rw [hd.len] at hlen
   rw [show csD D=_ from kN hjl] at sw
   have hA:((D.take j).flatMap Sl.c).length=j*129:=qy hd.lens (by omega)
   have hc:(D[j]).c=(Si D j).firm.map aQ++((Si D j).read.map aQ++[.bool (Si D j).fresh]):=by rw [qN hjl];rfl
   rw [hc] at sw
   have hF:((Si D j).firm.map aQ).length=64:=by rw [List.length_map];exact ok.1.1
   have hR:((Si D j).read.map aQ).length=64:=by rw [List.length_map];exact ok.2.1
   have hZ:((List.replicate 64 0).map aQ).length=64:=by simp
   have hS:(s.map aQ).length=s.length:=List.length_map _
   have hZ2:((List.replicate (64 - s.length) 0).map aQ).length=64 - s.length:=by simp
   obtain ⟨a1,a2,a3,a4⟩:=sw.sto (o:=j*129+64) (us:=(List.replicate 64 0).map aQ) (by simp only [List.length_append,hA,hF,hR,hZ,List.length_cons];omega) (lJ _)
   obtain ⟨h1,eh⟩:∃ h1,h0.wr sb (j*129+64) ((List.replicate 64 0).map aQ)=h1:=⟨_,rfl⟩
   rw [eh] at a1 a2 a3 a4
   rw [wU (by rw [hA]) (by simp only [List.length_append,hF,hR,hZ];omega),js hF.symm (by rw [hZ,hR])] at a2
   have hz:(List.replicate 64 0).map aQ=(List.replicate s.length 0).map aQ++(List.replicate (64 - s.length) 0).map aQ:=by
    rw [← List.map_append,List.replicate_append_replicate,show s.length+(64 - s.length)=64 by omega]
   rw [hz,List.append_assoc ((List.replicate s.length 0).map aQ)] at a2
   obtain ⟨h2,b1,b2,b3,b4⟩:=R9 (t:=42) (e:=5) zfB s_5 (o:=j*129+64) (n:=64) (c:=64) (g:=none) (m:=s) a2 (by omega) (by simp only [List.length_append,hA,hF,List.length_map,List.length_replicate,List.length_cons];omega)
   rw [wU (by rw [hA]) (by simp only [List.length_append,hF,hS,hZ2,List.length_map,List.length_replicate];omega),js hF.symm (by simp)] at b2
   obtain ⟨d1,d2,d3,d4⟩:=b2.sto (o:=j*129+128) (us:=[.bool true]) (by simp only [List.length_append,hA,hF,hS,hZ2,List.length_cons,List.length_nil];omega) rfl
   have d1:=(mP h2 sb (j*129+128) (.bool true)).trans d1
   rw [wU (o:=128) (by rw [hA]) (by simp only [List.length_append,hF,hS,hZ2,List.length_cons,List.length_nil];omega),
    show (Si D j).firm.map aQ++(s.map aQ++((List.replicate (64 - s.length) 0).map aQ++[AV.bool (Si D j).fresh]))=((Si D j).firm.map aQ++(s.map aQ++(List.replicate (64 - s.length) 0).map aQ))++([AV.bool (Si D j).fresh]++[]) by simp only [List.append_assoc,List.append_nil],
    js (us:=[AV.bool true]) (M:=[AV.bool (Si D j).fresh]) (by simp only [List.length_append,hF,hS,hZ2];omega) rfl] at d2
   have hst:=lA (n:=64) (h:=h0) (b:=sb) (o:=j*129+64) (cs:=(List.replicate 64 0).map aQ) (by simp)
   simp only [F68,SS,Nat.reduceBEq,reduceEqDiff,reduceAdd,reduceIte,reduceMul,e1,dc,hl',TN,jY,hst,a1,tP,b1,jZ,d1]
   refine hQ _ _ _ _ (.inr rfl) (by simp only [SS,Nat.reduceBEq]) (by simp only [SS,Nat.reduceBEq,reduceEqDiff,reduceAdd,reduceIte,reduceMul];rfl) ?_
   refine .inr ⟨j,hj,rfl,by omega,rfl,?_,⟨by omega,fun c _ hc=>by rw [d4 c hc,b4 c hc,a4 c hc]⟩⟩
   have hok:Sl.Ok ⟨(Si D j).firm,VF s,true⟩:=⟨ok.1,zb7 (by omega) hs⟩
   obtain ⟨z',r'⟩:=hd.r
   have lt:=hd.lt
   refine ⟨⟨z',r'.same (by rw [d4 db hd.ne,b4 db hd.ne,a4 db hd.ne])⟩,⟨z,?_⟩,by rw [List.length_set];exact hd.len,fun x hx=>?_,by omega,hd.ne⟩
   ·rw [show csD (D.set j ⟨(Si D j).firm,VF s,true⟩)=_ from Sk hjl _]
    have:Sl.c ⟨(Si D j).firm,VF s,true⟩=(Si D j).firm.map aQ++(s.map aQ++(List.replicate (64 - s.length) 0).map aQ)++([AV.bool true]++[]):=by
     unfold Sl.c VF;simp only [List.map_append,List.append_assoc,List.append_nil]
    rw [this];exact d2
   ·rcases List.mem_or_eq_of_mem_set hx with h1 | rfl
    ·exact hd.ok x h1
    ·exact hok
end
end Go.Proofs.YtboobbebilegnaaGreat
namespace Go.Proofs.YtboobbebilegnaaGreat
open Go.Am
set_option maxRecDepth 10000
theorem hO (p:Option (Nat×Nat)):cV (.ptr p)=some (.cells (az [.ptr p] .leaf 0) [] 1 false,dy):=rfl
theorem za9 (k:IntKind) (i:Int):cV (.int k i)=some (.cells (az [.int k i] .leaf 0) [] 1 false,dy):=rfl
theorem AK (s:List Nat):cV (.str s)=some (.cells (az [.str s] .leaf 0) [] 1 false,dy):=rfl
theorem zdu (a:Option (Nat×Nat)) (n c:Nat) (g:Option Nat):cV (.slice a n c g)=some (.cells (az [.slice a n c g] .leaf 0) [] 1 false,dy):=rfl
theorem VC (f:Nat) (a:AV):dH (Fn.func f) 0 [a]=some (.func (.func f) [] [a]):=rfl
theorem zeZ (f:Nat) (a b:AV):dH (Fn.func f) 0 [a,b]=some (.func (.func f) [] [a,b]):=rfl
theorem zbW (f:Nat) (a b c:AV):dH (Fn.func f) 0 [a,b,c]=some (.func (.func f) [] [a,b,c]):=rfl
theorem zhB:cd P 209=some (.agg Sz.c):=by kernel_rfl
theorem Lk:Sz.c.length=129:=Xk.len
theorem Af (a:Option (Nat×Nat)) (n c:Nat) (g:Option Nat):bK P 120 [0] [.slice a n c g]=some (.agg [.slice a n c g]):=by kernel_rfl
theorem UF (n:Nat):csD (List.replicate n Sz)=(List.replicate n Sz.c).flatten:=by
 show (List.replicate n Sz).flatMap Sl.c=_
 rw [List.flatMap_def,List.map_replicate]
theorem UG {n:Nat} (hn:1<=n) {h:ac}:WC (C n (.fn 11) [.int .i64 256] h) fun r h'=>∃ db sb,r=.ptr (some (db,0))/\bB h' db sb (List.replicate 256 Sz)/\Sm bm h h'/\h.next<=db/\h.next<=sb:=by
 obtain ⟨m,rfl⟩:∃ m,n=m+1:=⟨n - 1,by omega⟩
 refine ak _ zgg rfl (by simp [UM]) fun QQ hQ=>?_
 simp only [UM] at hQ
 simp only [UM,ah,ai,Nat.zero_add,reduceAdd]
 obtain ⟨h1,e1,r1,n1,g1⟩:=Rw.zeros h (id:=h.next) (n:=256) (s:=129) (z:=Sz.c) (ro:=false) (Nat.le_refl _) Lk (by decide)
 have ms:dE P 118 (.int .i64 256) (.int .i64 256)=some (.cells .leaf Sz.c (256*129) false,fun b=>.slice (some (b,0)) 256 256 none):=IZ (n:=256) zfz zfr zhB zdf Lk (by unfold Sl.c Sz;decide) (by decide) (by decide)
 obtain ⟨h2,e2,r2,n2,g2⟩:=Rw.alloc h1 (id:=h1.next) (n:=1) (vs:=[.slice (some (h.next,0)) 256 256 none]) (z:=[]) (ro:=false) (Nat.le_refl _) rfl
 have lt1:¬((256:Int)<256):=by decide
 have lt2:¬((2048:Int)<256):=by decide
 simp only [F11,SS,Nat.reduceBEq,reduceEqDiff,reduceAdd,reduceIte,reduceMul,lt1,lt2,ms,e1,Af,e2]
 refine hQ _ _ _ _ (.inr rfl) (by simp only [SS,Nat.reduceBEq]) (by simp only [SS,Nat.reduceBEq,reduceEqDiff,reduceAdd,reduceIte,reduceMul];rfl) ?_
 refine ⟨h1.next,h.next,rfl,⟨⟨_,r2⟩,⟨_,by rw [UF];exact r1.same (g2 h.next (by omega))⟩,by simp,fun x hx=>by rw [(List.mem_replicate.1 hx).2];exact Xk,by omega,by omega⟩,⟨by omega,fun c hc _=>by rw [g2 c (by omega),g1 c (by omega)]⟩,by omega,by omega⟩
section
variable {h h':ac} {db sb:Nat} {D:List Sl}
theorem mA {n:Nat} (hn:1<=n) (hd:bB h db sb D):WC (C n (.fn 49) [.ptr (some (db,0))] h) fun r h'=>h'=h/\r=.int .i64 256:=by
 obtain ⟨z,r⟩:=hd.r
 have l0:=r.ld1 0
 rw [List.getElem?_cons_zero] at l0
 obtain ⟨m,rfl⟩:∃ m,n=m+1:=⟨n - 1,by omega⟩
 refine ak _ zgt rfl (by simp [UZ]) fun QQ hQ=>?_
 simp only [UZ] at hQ
 simp only [UZ,ah,ai,Nat.zero_add,reduceAdd]
 simp only [F49,SS,Nat.reduceBEq,reduceEqDiff,reduceAdd,reduceIte,reduceMul,l7,Option.isNone_some,eI,l0,jv,Uy]
 refine hQ _ _ _ _ (.inr rfl) (by simp only [SS,Nat.reduceBEq]) (by simp only [SS,Nat.reduceBEq,reduceEqDiff,reduceAdd,reduceIte,reduceMul];rfl) ?_
 exact ⟨rfl,rfl⟩
end
structure gE (h:ac) (lb db:Nat) (cut:Int) (chv:AV) (acts:Nat) (down:Bool):Prop where
 r:∃ z,Rw h lb [.ptr (some (db,0)),.int .i64 cut,chv,.int .i64 (acts:Int),.bool down] z false
 lt:lb<h.next
section
variable {h h':ac} {lb db sb:Nat} {D:List Sl} {cut:Int} {chv:AV} {acts:Nat} {down:Bool}
theorem gE.sm {F:Nat->Prop} (hl:gE h lb db cut chv acts down) (hs:Sm F h h') (h1:¬F lb):gE h' lb db cut chv acts down:=by
 obtain ⟨⟨z,r⟩,lt⟩:=hl
 have:=hs.1
 exact ⟨⟨z,r.sm hs lt h1⟩,by omega⟩
theorem JE {n:Nat} (hn:1<=n):WC (C n (.fn 52) [.slice none 0 0 none] h) fun r h'=>h'=h/\r=.slice none 0 0 none:=by
 obtain ⟨m,rfl⟩:∃ m,n=m+1:=⟨n - 1,by omega⟩
 refine ak _ zgw rfl (by simp [U2]) fun QQ hQ=>?_
 simp only [U2] at hQ
 simp only [U2,ah,ai,Nat.zero_add,reduceAdd]
 simp only [F52,SS,Nat.reduceBEq,reduceEqDiff,reduceAdd,reduceIte,reduceMul,W5,Option.isNone_none]
 refine hQ _ _ _ _ (.inr rfl) (by simp only [SS,Nat.reduceBEq]) (by simp only [SS,Nat.reduceBEq,reduceEqDiff,reduceAdd,reduceIte,reduceMul];rfl) ?_
 exact ⟨rfl,rfl⟩
theorem Vy {n:Nat} (hn:2<=n) (hd:bB h db sb D) (cut:Int):WC (C n (.fn 10) [.ptr (some (db,0)),.int .i64 cut,.slice none 0 0 none] h) fun r h'=>∃ lb,r=.ptr (some (lb,0))/\gE h' lb db cut (.slice none 0 0 none) 0 false/\Sm bm h h'/\h.next<=lb:=by
 obtain ⟨m,rfl⟩:∃ m,n=m+1:=⟨n - 1,by omega⟩
 refine ak _ zgf rfl (by simp [UL]) fun QQ hQ=>?_
 simp only [UL] at hQ
 simp only [UL,ah,ai,Nat.zero_add,reduceAdd]
 obtain ⟨_,h0,e1,e0,rfl⟩:=mA (n:=m) (by omega) hd
 subst e0
 obtain ⟨_,h1,ec,e0,rfl⟩:=JE (n:=m) (by omega) (h:=h0)
 subst e0
 have ne0:¬((256:Int)=0):=by decide
 obtain ⟨h2,e2,r2,n2,g2⟩:=Rw.alloc h1 (id:=h1.next) (n:=5) (vs:=[.ptr (some (db,0)),.int .i64 cut,.slice none 0 0 none,.int .i64 0,.bool false]) (z:=[]) (ro:=false) (Nat.le_refl _) rfl
 simp only [F10,SS,Nat.reduceBEq,reduceEqDiff,reduceAdd,reduceIte,reduceMul,e1,ne0,ec,tA,e2]
 refine hQ _ _ _ _ (.inr rfl) (by simp only [SS,Nat.reduceBEq]) (by simp only [SS,Nat.reduceBEq,reduceEqDiff,reduceAdd,reduceIte,reduceMul];rfl) ?_
 exact ⟨h1.next,rfl,⟨⟨_,r2⟩,by omega⟩,⟨by omega,fun c hc _=>g2 c (by omega)⟩,Nat.le_refl _⟩
theorem SE {n:Nat} (hn:1<=n) (hl:gE h lb db cut chv acts down):WC (C n (.fn 106) [.ptr (some (lb,0))] h) fun r h'=>h'=h/\r=.bool true:=by
 obtain ⟨z,r⟩:=hl.r
 have l0:=r.ld1 0
 rw [List.getElem?_cons_zero] at l0
 obtain ⟨m,rfl⟩:∃ m,n=m+1:=⟨n - 1,by omega⟩
 refine ak _ zdU rfl (by simp [H3]) fun QQ hQ=>?_
 simp only [H3] at hQ
 simp only [H3,ah,ai,Nat.zero_add,reduceAdd]
 simp only [zfH,SS,Nat.reduceBEq,reduceEqDiff,reduceAdd,reduceIte,reduceMul,Xa,Option.isSome_some,jV,l0,Xb]
 refine hQ _ _ _ _ (.inr rfl) (by simp only [SS,Nat.reduceBEq]) (by simp only [SS,Nat.reduceBEq,reduceEqDiff,reduceAdd,reduceIte,reduceMul];rfl) ?_
 exact ⟨rfl,rfl⟩
theorem J4 {n:Nat} (hn:2<=n) (hl:gE h lb db cut chv acts down):WC (C n (.fn 123) [.ptr (some (lb,0))] h) fun r h'=>h'=h/\r=.int .i64 (if down then 8 else 0):=by
 obtain ⟨z,r⟩:=hl.r
 have l4:=r.ld1 4
 simp only [List.getElem?_cons_zero,List.getElem?_cons_succ] at l4
 obtain ⟨m,rfl⟩:∃ m,n=m+1:=⟨n - 1,by omega⟩
 refine ak _ zd9 rfl (by simp [Ii]) fun QQ hQ=>?_
 simp only [Ii] at hQ
 simp only [Ii,ah,ai,Nat.zero_add,reduceAdd]
 obtain ⟨_,h0,e1,e0,rfl⟩:=SE (n:=m) (by omega) hl
 subst e0
 cases down with
 | true =>
  simp only [zc1,SS,Nat.reduceBEq,reduceEqDiff,reduceAdd,reduceIte,reduceMul,e1,tG,l4]
  refine hQ _ _ _ _ (.inr rfl) (by simp only [SS,Nat.reduceBEq]) (by simp only [SS,Nat.reduceBEq,reduceEqDiff,reduceAdd,reduceIte,reduceMul];rfl) ?_
  exact ⟨rfl,rfl⟩
 | false =>
  simp only [zc1,SS,Nat.reduceBEq,reduceEqDiff,reduceAdd,reduceIte,reduceMul,e1,tG,l4]
  refine hQ _ _ _ _ (.inr rfl) (by simp only [SS,Nat.reduceBEq]) (by simp only [SS,Nat.reduceBEq,reduceEqDiff,reduceAdd,reduceIte,reduceMul];rfl) ?_
  exact ⟨rfl,rfl⟩
theorem rS {n:Nat} (hn:2<=n) (hl:gE h lb db cut chv acts down):WC (C n (.fn 48) [.ptr (some (lb,0))] h) fun r h'=>h'=h/\r=.ptr (some (db,0)):=by
 obtain ⟨z,r⟩:=hl.r
 have l0:=r.ld1 0
 rw [List.getElem?_cons_zero] at l0
 obtain ⟨m,rfl⟩:∃ m,n=m+1:=⟨n - 1,by omega⟩
 refine ak _ zgs rfl (by simp [UY]) fun QQ hQ=>?_
 simp only [UY] at hQ
 simp only [UY,ah,ai,Nat.zero_add,reduceAdd]
 obtain ⟨_,h0,e1,e0,rfl⟩:=SE (n:=m) (by omega) hl
 subst e0
 simp only [F48,SS,Nat.reduceBEq,reduceEqDiff,reduceAdd,reduceIte,reduceMul,e1,jV,l0]
 refine hQ _ _ _ _ (.inr rfl) (by simp only [SS,Nat.reduceBEq]) (by simp only [SS,Nat.reduceBEq,reduceEqDiff,reduceAdd,reduceIte,reduceMul];rfl) ?_
 exact ⟨rfl,rfl⟩
theorem Ll {n:Nat} (hn:3<=n) (hl:gE h lb db cut chv acts false) (ha:acts<1000000) (hc:(acts:Int)≠cut) (f:Nat) (caps:List AV) (Q:AV->ac->Prop)
  (hf:∀ h1,gE h1 lb db cut chv (acts+1) false->Sm (·= lb) h h1->WC (C (n - 1) (.fn f) caps h1) Q):WC (C n (.fn 66) [.ptr (some (lb,0)),.func (.func f) [] caps] h) Q:=by
 obtain ⟨z,r⟩:=hl.r
 have l3:=r.ld1 3
 simp only [List.getElem?_cons_zero,List.getElem?_cons_succ] at l3
 obtain ⟨m,rfl⟩:∃ m,n=m+1:=⟨n - 1,by omega⟩
 refine ak _ zgK rfl (by simp [Vg]) fun QQ hQ=>?_
 simp only [Vg] at hQ
 simp only [Vg,ah,ai,Nat.zero_add,reduceAdd]
 rw [Nat.add_sub_cancel] at hf
 obtain ⟨_,h0,e1,e0,rfl⟩:=J4 (n:=m) (by omega) hl
 subst e0
 have e1:C m (.fn 123) [.ptr (some (lb,0))] h0=some (.int .i64 0,h0):=e1
 obtain ⟨w1,w2,w3,w4⟩:=r.st1 (o:=3) (v:=I (acts+1)) (by simp) rfl
 simp only [List.set_cons_succ,List.set_cons_zero] at w2
 have l1:=w2.ld1 1
 simp only [List.getElem?_cons_zero,List.getElem?_cons_succ] at l1
 have s1:Sm (·= lb) h0 (h0.wr lb 3 [I (acts+1)]):=⟨by omega,fun c _ hc=>w4 c hc⟩
 obtain ⟨v,h2,e2,hq⟩:=hf _ ⟨⟨z,w2⟩,by have:=hl.lt;omega⟩ s1
 simp only [F66,SS,Nat.reduceBEq,reduceEqDiff,reduceAdd,reduceIte,reduceMul,e1,Cr,l3,bG (show acts<=1000000 by omega),w1,Cq,l1,hc,e2]
 refine hQ _ _ _ _ (.inr rfl) (by simp only [SS,Nat.reduceBEq]) (by simp only [SS,Nat.reduceBEq,reduceEqDiff,reduceAdd,reduceIte,reduceMul];rfl) ?_
 exact hq
theorem J8 {n:Nat} (hn:5<=n) (hl:gE h lb db cut chv acts false) (hd:bB h db sb D) (hlb:lb≠db/\lb≠sb) (ha:acts<1000000) (hc:(acts:Int)≠cut) (k:Int) {s:List Nat} (hs:∀ c,c∈s->c<256) :
  WC (C n (.fn 21) [.ptr (some (lb,0)),.int .i64 k,.str s] h) fun r h'=>gE h' lb db cut chv (acts+1) false/\Sm (fun b=>b=lb∨b=sb) h h' /\
  ((bB h' db sb D/\((k<0∨256<=k)/\r=.int .i64 2∨(0<=k/\k<256)/\64<s.length/\r=.int .i64 3))∨∃ j:Nat,j<256/\k=(j:Int)/\s.length<=64/\r=.int .i64 0/\bB h' db sb (D.set j ⟨(Si D j).firm,VF s,true⟩)):=by
 have lt:=hl.lt
 have dlt:=hd.lt
 obtain ⟨m,rfl⟩:∃ m,n=m+1:=⟨n - 1,by omega⟩
 refine ak _ zgp rfl (by simp [UV]) fun QQ hQ=>?_
 simp only [UV] at hQ
 simp only [UV,ah,ai,Nat.zero_add,reduceAdd]
 obtain ⟨h1,e1,r1,n1,g1⟩:=Rw.alloc h (id:=h.next) (n:=1) (vs:=[.ptr (some (lb,0))]) (z:=[]) (ro:=false) (Nat.le_refl _) rfl
 obtain ⟨h2,e2,r2,n2,g2⟩:=Rw.alloc h1 (id:=h1.next) (n:=1) (vs:=[.int .i64 k]) (z:=[]) (ro:=false) (Nat.le_refl _) rfl
 obtain ⟨h3,e3,r3,n3,g3⟩:=Rw.alloc h2 (id:=h2.next) (n:=1) (vs:=[.str s]) (z:=[]) (ro:=false) (Nat.le_refl _) rfl
 have s3:Sm bm h h3:=⟨by omega,fun c hc _=>by rw [g3 c (by omega),g2 c (by omega),g1 c (by omega)]⟩
 have r1:Rw h3 h.next [.ptr (some (lb,0))] [] false:=r1.same (by rw [g3 _ (by omega),g2 _ (by omega)])
 have r2:Rw h3 h1.next [.int .i64 k] [] false:=r2.same (by rw [g3 _ (by omega)])
 have la:=r1.ld1 0
 rw [List.getElem?_cons_zero] at la
 have hl3:=hl.sm s3 (fun h=>h)
 have hd3:=hd.sm s3 (fun h=>h) (fun h=>h)
 obtain ⟨v,h4,e4,hv⟩:=Ll (n:=m) (by omega) hl3 ha hc 67 [.ptr (some (h.next,0)),.ptr (some (h1.next,0)),.ptr (some (h2.next,0))] (fun r h'=>gE h' lb db cut chv (acts+1) false/\Sm (fun b=>b=lb∨b=sb) h3 h' /\
  ((bB h' db sb D/\((k<0∨256<=k)/\r=.int .i64 2∨(0<=k/\k<256)/\64<s.length/\r=.int .i64 3))∨∃ j:Nat,j<256/\k=(j:Int)/\s.length<=64/\r=.int .i64 0/\bB h' db sb (D.set j ⟨(Si D j).firm,VF s,true⟩))) (fun h5 hl5 s5=>by
   have hd5:=hd3.sm s5 (fun e=>hlb.1 e.symm) (fun e=>hlb.2 e.symm)
   have q1:=r1.sm s5 (by omega) (by omega)
   have q2:=r2.sm s5 (by omega) (by omega)
   have q3:=r3.sm s5 (by omega) (by omega)
   obtain ⟨hb6,e6,s6,b6,n6⟩:=Sm.bump h5 8
   have k1:=(q1.same (h':=hb6) (by rw [b6])).ld1 0
   have k2:=(q2.same (h':=hb6) (by rw [b6])).ld1 0
   have k3:=(q3.same (h':=hb6) (by rw [b6])).ld1 0
   rw [List.getElem?_cons_zero] at k1 k2 k3
   have hl6:=hl5.sm s6 (fun h=>h)
   have hd6:=hd5.sm s6 (fun h=>h) (fun h=>h)
   obtain ⟨z,rl⟩:=hl6.r
   have l0:=rl.ld1 0
   rw [List.getElem?_cons_zero] at l0
   have hm:m - 1=(m - 2)+1:=by omega
   have hm2:2<=m - 2:=by omega
   rw [hm]
   clear hn
   generalize hN:(m - 2)=m' at *
   refine ak _ zgL rfl (by simp [Vh]) fun QQ hQ=>?_
   simp only [Vh] at hQ
   simp only [Vh,ah,ai,Nat.zero_add,reduceAdd]
   obtain ⟨v,h7,e7,hv⟩:=JQ (n:=m') (by omega) hd6 k hs
   simp only [F67,SS,Nat.reduceBEq,reduceEqDiff,reduceAdd,reduceIte,reduceMul,e6,k1,k2,k3,jV,l0,e7]
   have s67:Sm (·= lb) h3 hb6:=s5.trans s6 (fun _ _ h=>h) (fun _ _ h=>h.elim)
   refine hQ _ _ _ _ (.inr rfl) (by simp only [SS,Nat.reduceBEq]) (by simp only [SS,Nat.reduceBEq,reduceEqDiff,reduceAdd,reduceIte,reduceMul];rfl) ?_
   rcases hv with ⟨rfl,hv⟩|⟨j,hj,hk,hsl,hr,hd7,s7⟩
   ·exact ⟨hl6,s67.mono (fun c _ hc=>.inl hc),.inl ⟨hd6,hv⟩⟩
   ·exact ⟨hl6.sm s7 hlb.2,s67.trans s7 (fun c _ hc=>.inl hc) (fun c _ hc=>.inr hc),.inr ⟨j,hj,hk,hsl,hr,hd7⟩⟩)
 simp only [F21,SS,Nat.reduceBEq,reduceEqDiff,reduceAdd,reduceIte,reduceMul,hO,za9,AK,e1,e2,e3,la,zbW,e4]
 refine hQ _ _ _ _ (.inr rfl) (by simp only [SS,Nat.reduceBEq]) (by simp only [SS,Nat.reduceBEq,reduceEqDiff,reduceAdd,reduceIte,reduceMul];rfl) ?_
 exact ⟨hv.1,s3.trans hv.2.1 (fun _ _ h=>h.elim) (fun _ _ h=>h),hv.2.2⟩
end
end Go.Proofs.YtboobbebilegnaaGreat
/- A part of the proof of the law PoolShares. -/
import Derived.Test.YtboobbebilegnaaGreatSrWalkA
open Nat (reduceEqDiff reduceAdd reduceMul)
set_option linter.unusedVariables false
set_option linter.unusedSimpArgs false
set_option linter.constructorNameAsVariable false
set_option linter.defProp false
set_option maxRecDepth 20000

namespace Go.Proofs.YtboobbebilegnaaGreat
open Go.Am
set_option maxRecDepth 10000
abbrev pe (w:Nat):AV:=.int .u64 (w:Int)
structure fB (h:ac) (sp wb:Nat) (U:Nat->Bool):Prop where
 r:∃ z g,Rw h sp [.int .i64 128,.int .i64 256,.slice (some (wb,0)) 1 1 g] z false
 w:∃ z W,Rw h wb (W.map pe) z false/\qI W U
 lt:sp<h.next/\wb<h.next
 ne:sp≠wb
theorem zhA:cd P 187=some (.agg ([0,0,0,0].map pe)):=zaT
section
variable {h h':ac} {sp wb:Nat} {U:Nat->Bool}
theorem fB.sm {F:Nat->Prop} (hs:fB h sp wb U) (s:Sm F h h') (h1:¬F sp) (h2:¬F wb):fB h' sp wb U:=by
 obtain ⟨⟨z,g,r⟩,⟨z',W,w,bb⟩,⟨l1,l2⟩,n⟩:=hs
 have:=s.1
 exact ⟨⟨z,g,r.sm s l1 h1⟩,⟨z',W,w.sm s l2 h2,bb⟩,⟨by omega,by omega⟩,n⟩
theorem zY {n:Nat} (hn:1<=n) {h:ac}:WC (C n (.fn 51) [.int .i64 128,.int .i64 256] h) fun r h'=>∃ sp wb,r=.ptr (some (sp,0))/\fB h' sp wb (fun _=>false)/\Sm bm h h'/\h.next<=sp/\h.next<=wb:=by
 obtain ⟨m,rfl⟩:∃ m,n=m+1:=⟨n - 1,by omega⟩
 refine ak _ zgv rfl (by simp [U1]) fun QQ hQ=>?_
 simp only [U1] at hQ
 simp only [U1,ah,ai,Nat.zero_add,reduceAdd]
 obtain ⟨h1,e1,r1,n1,g1⟩:=Rw.zeros h (id:=h.next) (n:=1) (s:=4) (z:=[0,0,0,0].map pe) (ro:=false) (Nat.le_refl _) rfl (by decide)
 have ms:dE P 178 (.int .i64 1) (.int .i64 1)=some (.cells .leaf ([0,0,0,0].map pe) (1*4) false,fun b=>.slice (some (b,0)) 1 1 none):=IZ (n:=1) zaR zaM zhA Xm rfl rfl (by decide) (by decide)
 rw [show (1:Nat)*4=4 from rfl] at e1 ms
 obtain ⟨h2,e2,r2,n2,g2⟩:=Rw.alloc h1 (id:=h1.next) (n:=3) (vs:=[.int .i64 128,.int .i64 256,.slice (some (h.next,0)) 1 1 none]) (z:=[]) (ro:=false) (Nat.le_refl _) rfl
 have w1:IntKind.i64.wrap ((256:Int) - 1)=255:=by decide
 have w2:IntKind.i64.wrap ((255:Int).tdiv 256)=0:=by decide
 have w3:IntKind.i64.wrap ((0:Int)+1)=1:=by decide
 have c1:¬((128:Int)<0):=by decide
 have c2:¬((256:Int)<=128):=by decide
 have c3:¬((2048:Int)<256):=by decide
 simp only [F51,SS,Nat.reduceBEq,reduceEqDiff,reduceAdd,reduceIte,reduceMul,c1,c2,c3,w1,un (show (256:Int)≠0 by decide),w2,w3,ms,e1,lD,e2]
 refine hQ _ _ _ _ (.inr rfl) (by simp only [SS,Nat.reduceBEq]) (by simp only [SS,Nat.reduceBEq,reduceEqDiff,reduceAdd,reduceIte,reduceMul];rfl) ?_
 have r1:Rw h2 h.next ([0,0,0,0].map pe) ([0,0,0,0].map pe) false:=r1.same (g2 h.next (by omega))
 refine ⟨h1.next,h.next,rfl,⟨⟨_,_,r2⟩,⟨_,[0,0,0,0],r1,qI.zero⟩,by omega,by omega⟩,⟨by omega,fun c hc _=>by rw [g2 c (by omega),g1 c (by omega)]⟩,by omega,by omega⟩
theorem qD {n:Nat} (hn:1<=n) (hs:fB h sp wb U):WC (C n (.fn 110) [.ptr (some (sp,0))] h) fun r h'=>h'=h/\r=.bool true:=by
 obtain ⟨z,g,r⟩:=hs.r
 have l1:=r.ld1 1
 simp only [List.getElem?_cons_zero,List.getElem?_cons_succ] at l1
 have c1:(0:Int)<256:=by decide
 obtain ⟨m,rfl⟩:∃ m,n=m+1:=⟨n - 1,by omega⟩
 refine ak _ zdY rfl (by simp [H7]) fun QQ hQ=>?_
 simp only [H7] at hQ
 simp only [H7,ah,ai,Nat.zero_add,reduceAdd]
 simp only [zfL,SS,Nat.reduceBEq,reduceEqDiff,reduceAdd,reduceIte,reduceMul,Xc,Option.isSome_some,dL,l1,c1]
 refine hQ _ _ _ _ (.inr rfl) (by simp only [SS,Nat.reduceBEq]) (by simp only [SS,Nat.reduceBEq,reduceEqDiff,reduceAdd,reduceIte,reduceMul];rfl) ?_
 exact ⟨rfl,rfl⟩
theorem sU {n:Nat} (hn:2<=n) (hs:fB h sp wb U) (k:Int):WC (C n (.fn 116) [.ptr (some (sp,0)),.int .i64 k] h) fun r h'=>h'=h/\r=.int .i64 (if 128<=k/\k<256 then 0 else 2):=by
 obtain ⟨z,g,r⟩:=hs.r
 have l0:=r.ld1 0
 have l1:=r.ld1 1
 simp only [List.getElem?_cons_zero,List.getElem?_cons_succ] at l0 l1
 obtain ⟨m,rfl⟩:∃ m,n=m+1:=⟨n - 1,by omega⟩
 refine ak _ zd3 rfl (by simp [Ic]) fun QQ hQ=>?_
 simp only [Ic] at hQ
 simp only [Ic,ah,ai,Nat.zero_add,reduceAdd]
 obtain ⟨_,h0,e1,e0,rfl⟩:=qD (n:=m) (by omega) hs
 subst e0
 by_cases h1:k<128
 ·simp only [zaV,SS,Nat.reduceBEq,reduceEqDiff,reduceAdd,reduceIte,reduceMul,e1,iE,dL,l0,l1,h1]
  refine hQ _ _ _ _ (.inr rfl) (by simp only [SS,Nat.reduceBEq]) (by simp only [SS,Nat.reduceBEq,reduceEqDiff,reduceAdd,reduceIte,reduceMul];rfl) ?_
  rw [if_neg (by omega)]
  exact ⟨rfl,rfl⟩
 ·by_cases h2:256<=k
  ·simp only [zaV,SS,Nat.reduceBEq,reduceEqDiff,reduceAdd,reduceIte,reduceMul,e1,iE,dL,l0,l1,h1,h2]
   refine hQ _ _ _ _ (.inr rfl) (by simp only [SS,Nat.reduceBEq]) (by simp only [SS,Nat.reduceBEq,reduceEqDiff,reduceAdd,reduceIte,reduceMul];rfl) ?_
   rw [if_neg (by omega)]
   exact ⟨rfl,rfl⟩
  ·simp only [zaV,SS,Nat.reduceBEq,reduceEqDiff,reduceAdd,reduceIte,reduceMul,e1,iE,dL,l0,l1,h1,h2]
   refine hQ _ _ _ _ (.inr rfl) (by simp only [SS,Nat.reduceBEq]) (by simp only [SS,Nat.reduceBEq,reduceEqDiff,reduceAdd,reduceIte,reduceMul];rfl) ?_
   rw [if_pos (by omega)]
   exact ⟨rfl,rfl⟩
theorem zX {n:Nat} (hn:1<=n) (hs:fB h sp wb U) {k:Nat} (hk:k<256):WC (C n (.fn 117) [.ptr (some (sp,0)),.int .i64 (k:Int)] h) fun r h'=>Sm bm h h'/\r=.tuple [.ptr (some (wb,k / 64)),pe (2^(k%64))]:=by
 obtain ⟨h1,e1,s1,b1,n1⟩:=Sm.bump h 16
 obtain ⟨z,g,r⟩:=(hs.sm s1 (fun h=>h) (fun h=>h)).r
 have l2:=r.ld1 2
 simp only [List.getElem?_cons_zero,List.getElem?_cons_succ] at l2
 obtain ⟨m,rfl⟩:∃ m,n=m+1:=⟨n - 1,by omega⟩
 refine ak _ zd4 rfl (by simp [Id]) fun QQ hQ=>?_
 simp only [Id] at hQ
 simp only [Id,ah,ai,Nat.zero_add,reduceAdd]
 have w1:IntKind.i64.wrap ((k:Int).tdiv 256)=((0:Nat):Int):=by
  rw [show (k:Int).tdiv 256=((k / 256:Nat):Int) from rfl,show k / 256=0 by omega];rfl
 have w2:(k:Int).tmod 256=(k:Int):=by rw [show (k:Int).tmod 256=((k%256:Nat):Int) from rfl,Nat.mod_eq_of_lt hk]
 have w3:IntKind.i64.wrap ((k:Int).tdiv 64)=((k / 64:Nat):Int):=by
  rw [show (k:Int).tdiv 64=((k / 64:Nat):Int) from rfl,wrap_i64 (by omega) (by omega)]
 have w4:(k:Int).tmod 64=((k%64:Nat):Int):=rfl
 have w5:ag P .shl 185 (.int .u64 1) (.int .i64 ((k%64:Nat):Int))=some (pe (2^(k%64))):=by
  rw [zdp (show k%64<=IntKind.u64.bits by have:IntKind.u64.bits=64:=rfl;omega)]
  have:=zy (show k%64<64 by omega)
  rw [Int.one_mul,show (2:Int)^(k%64)=((2^(k%64):Nat):Int) from (Int.natCast_pow 2 (k%64)).symm]
  generalize 2^(k%64)=p at this
  rw [tz (by omega) (by omega)]
 have x1:=TQ (k:=.i64) (b:=wb) (o:=0) (n:=1) (c:=1) (g:=g) (i:=0) (by decide)
 have x2:=fun o=>TS (k:=.i64) (b:=wb) (o:=o) (i:=k / 64) (by omega)
 simp only [zfO,SS,Nat.reduceBEq,reduceEqDiff,reduceAdd,reduceIte,reduceMul,e1,tH,l2,un (show (256:Int)≠0 by decide),un (show (64:Int)≠0 by decide),xL (show (256:Int)≠0 by decide),xL (show (64:Int)≠0 by decide),w1,w2,w3,w4,x1,x2,w5]
 refine hQ _ _ _ _ (.inr rfl) (by simp only [SS,Nat.reduceBEq]) (by simp only [SS,Nat.reduceBEq,reduceEqDiff,reduceAdd,reduceIte,reduceMul];rfl) ?_
 exact ⟨s1,rfl⟩
theorem xA {w:Nat} (h:w<2^64):w<=dG .u64:=by
 have:dG .u64=2^64 - 1:=by rfl
 rw [this];exact Nat.le_sub_one_of_lt h
theorem S8 {k:Nat}:2^(k%64)<=dG .u64:=xA (Nat.pow_lt_pow_right (by decide) (Nat.mod_lt _ (by decide)))
theorem fB.and (hs:fB h sp wb U) {k:Nat} (hk:k<256):∃ w:Nat,h.ld1 wb (k / 64)=some (pe w)/\w<=dG .u64/\ag P .and 185 (pe w) (pe (2^(k%64)))=some (pe (if U k then 2^(k%64) else 0)):=by
 obtain ⟨z,W,r,bb⟩:=hs.w
 obtain ⟨q1,q2⟩:=bb.word hk
 refine ⟨W.getD (k / 64) 0,?_,xA q2,?_⟩
 ·rw [r.ld1,List.getElem?_map,q1];rfl
 ·rw [zdh (xA q2) S8,bb.ask hk]
  have:=zy (show k%64<64 by omega)
  rw [tz (by omega) (by split <;> omega)]
theorem S9 (k:Nat):((2^(k%64):Nat):Int)≠0:=by have:=Nat.two_pow_pos (k%64);omega
theorem KO {n:Nat} (hn:3<=n) (hs:fB h sp wb U) {k:Nat} (hk1:128<=k) (hk:k<256):WC (C n (.fn 154) [.ptr (some (sp,0)),.int .i64 (k:Int)] h) fun r h'=>Sm bm h h'/\r=.bool (!U k):=by
 obtain ⟨m,rfl⟩:∃ m,n=m+1:=⟨n - 1,by omega⟩
 refine ak _ zei rfl (by simp [Ir]) fun QQ hQ=>?_
 simp only [Ir] at hQ
 simp only [Ir,ah,ai,Nat.zero_add,reduceAdd]
 obtain ⟨_,h0,e1,e0,rfl⟩:=sU (n:=m) (by omega) hs (k:Int)
 subst e0
 rw [if_pos (by omega)] at e1
 obtain ⟨_,h2,e2,s2,rfl⟩:=zX (n:=m) (by omega) hs hk
 obtain ⟨w,l1,_,e3⟩:=(hs.sm s2 (fun h=>h) (fun h=>h)).and hk
 simp only [zfW,SS,Nat.reduceBEq,reduceEqDiff,reduceAdd,reduceIte,reduceMul,e1,e2,l1,e3]
 refine hQ _ _ _ _ (.inr rfl) (by simp only [SS,Nat.reduceBEq]) (by simp only [SS,Nat.reduceBEq,reduceEqDiff,reduceAdd,reduceIte,reduceMul];rfl) ?_
 refine ⟨s2,?_⟩
 cases U k with
 | true=>simp only [if_true,S9,decide_false,Bool.not_true];rfl
 | false=>rfl
theorem zZ {n:Nat} (hn:3<=n) (hs:fB h sp wb U) (k:Int):WC (C n (.fn 59) [.ptr (some (sp,0)),.int .i64 k] h) fun r h' =>
  ((k<128∨256<=k)/\r=.int .i64 2/\h'=h)∨∃ j:Nat,k=(j:Int)/\128<=j/\j<256/\(U j=true/\r=.int .i64 6/\Sm bm h h'∨U j=false/\r=.int .i64 0/\fB h' sp wb (fun i=>U i||decide (i=j))/\Sm (·= wb) h h'):=by
 obtain ⟨m,rfl⟩:∃ m,n=m+1:=⟨n - 1,by omega⟩
 refine ak _ zgD rfl (by simp [U9]) fun QQ hQ=>?_
 simp only [U9] at hQ
 simp only [U9,ah,ai,Nat.zero_add,reduceAdd]
 obtain ⟨_,h0,e1,e0,rfl⟩:=sU (n:=m) (by omega) hs k
 subst e0
 by_cases hin:128<=k/\k<256
 ·rw [if_pos hin] at e1
  obtain ⟨j,rfl⟩:∃ j:Nat,k=(j:Int):=⟨k.toNat,by omega⟩
  have hj:j<256:=by omega
  obtain ⟨_,h2,e2,s2,rfl⟩:=zX (n:=m) (by omega) hs hj
  have hs2:=hs.sm s2 (fun h=>h) (fun h=>h)
  obtain ⟨w,l1,hw,e3⟩:=hs2.and hj
  cases hu:U j with
  | true =>
   rw [hu,if_pos rfl] at e3
   have np:=S9 j
   simp only [F59,SS,Nat.reduceBEq,reduceEqDiff,reduceAdd,reduceIte,reduceMul,e1,e2,l1,e3,np]
   refine hQ _ _ _ _ (.inr rfl) (by simp only [SS,Nat.reduceBEq]) (by simp only [SS,Nat.reduceBEq,reduceEqDiff,reduceAdd,reduceIte,reduceMul];rfl) ?_
   exact .inr ⟨j,rfl,by omega,hj,.inl ⟨hu,rfl,s2⟩⟩
  | false =>
   rw [hu,if_neg (by decide)] at e3
   obtain ⟨z,W,r,bb⟩:=hs2.w
   have hwl:=bb.len
   obtain ⟨q1,q2⟩:=bb.word hj
   have hwe:w=W.getD (j / 64) 0:=by
    rw [r.ld1,List.getElem?_map,q1,Option.map_some] at l1
    have:=Option.some.inj l1
    injection this with _ h;omega
   have eo:ag P .or 185 (pe w) (pe (2^(j%64)))=some (pe (w|||2^(j%64))):=by
    rw [zgb hw S8]
    have:w|||2^(j%64)<2^64:=Nat.or_lt_two_pow (by rw [hwe];exact q2) (Nat.pow_lt_pow_right (by decide) (Nat.mod_lt _ (by decide)))
    rw [tz (by omega) (by omega)]
   obtain ⟨a1,a2,a3,a4⟩:=r.st1 (o:=j / 64) (v:=pe (w|||2^(j%64))) (by rw [List.length_map];omega) rfl
   have e00:((0:Nat):Int)=0:=rfl
   simp only [F59,SS,Nat.reduceBEq,reduceEqDiff,reduceAdd,reduceIte,reduceMul,e1,e2,l1,e3,e00,eo,a1]
   refine hQ _ _ _ _ (.inr rfl) (by simp only [SS,Nat.reduceBEq]) (by simp only [SS,Nat.reduceBEq,reduceEqDiff,reduceAdd,reduceIte,reduceMul];rfl) ?_
   have n2:=s2.1
   have lt:=hs2.lt
   have s3:Sm (·= wb) h2 (h2.wr wb (j / 64) [pe (w|||2^(j%64))]):=⟨by omega,fun c _ hc=>a4 c hc⟩
   refine .inr ⟨j,rfl,by omega,hj,.inr ⟨hu,rfl,?_,s2.trans s3 (fun _ _ h=>h.elim) (fun _ _ h=>h)⟩⟩
   obtain ⟨zr,g,rr⟩:=hs2.r
   refine ⟨⟨zr,g,rr.same (a4 sp hs.ne)⟩,⟨z,W.set (j / 64) (W.getD (j / 64) 0|||2^(j%64)),?_,bb.use hj⟩,⟨by omega,by omega⟩,hs.ne⟩
   rw [List.map_set,← hwe];exact a2
 ·rw [if_neg hin] at e1
  simp only [F59,SS,Nat.reduceBEq,reduceEqDiff,reduceAdd,reduceIte,reduceMul,e1]
  refine hQ _ _ _ _ (.inr rfl) (by simp only [SS,Nat.reduceBEq]) (by simp only [SS,Nat.reduceBEq,reduceEqDiff,reduceAdd,reduceIte,reduceMul];rfl) ?_
  exact .inl ⟨by omega,rfl,rfl⟩
theorem zW {n:Nat} (hn:1<=n):WC (C n (.fn 118) [.ptr (some (sp,0))] h) fun r h'=>∃ bx,r=.func (.func 153) [] [.ptr (some (bx,0))]/\Rw h' bx [.ptr (some (sp,0))] [] false/\bx<h'.next/\Sm bm h h'/\h.next<=bx:=by
 obtain ⟨m,rfl⟩:∃ m,n=m+1:=⟨n - 1,by omega⟩
 refine ak _ zd5 rfl (by simp [Ie]) fun QQ hQ=>?_
 simp only [Ie] at hQ
 simp only [Ie,ah,ai,Nat.zero_add,reduceAdd]
 obtain ⟨h1,e1,rx,n1,g1⟩:=Rw.alloc h (id:=h.next) (n:=1) (vs:=[.ptr (some (sp,0))]) (z:=[]) (ro:=false) (Nat.le_refl _) rfl
 simp only [zfP,SS,Nat.reduceBEq,reduceEqDiff,reduceAdd,reduceIte,reduceMul,hO,e1,VC]
 refine hQ _ _ _ _ (.inr rfl) (by simp only [SS,Nat.reduceBEq]) (by simp only [SS,Nat.reduceBEq,reduceEqDiff,reduceAdd,reduceIte,reduceMul];rfl) ?_
 exact ⟨h.next,rfl,rx,by omega,⟨by omega,fun c hc _=>g1 c (by omega)⟩,Nat.le_refl _⟩
theorem I6 {n:Nat} (hn:5<=n) {bx l:Nat} (J:Nat->ac->Prop) (D:ac->Prop) (hJ0:J 128 h)
  (hk:∀ k h',J k h'->fB h' sp wb U/\Rw h' bx [.ptr (some (sp,0))] [] false/\bx<h'.next) (hno:∀ k h1 h',J k h1->Sm bm h1 h'->J k h') (hskip:∀ k h',128<=k->k<256->U k=true->J k h'->J (k+1) h')
  (hround:∀ k h',128<=k->k<256->U k=false->J k h'->WC (C (n - 1) (.loop l) [.int .i64 (k:Int)] h') fun v h2=>v=.bool true/\J (k+1) h2∨v=.bool false/\D h2) :
  WC (C n (.fn 153) [.func (.yield l) [] [],.ptr (some (bx,0))] h) fun _ h'=>J 256 h'∨D h':=by
 obtain ⟨m,rfl⟩:∃ m,n=m+1:=⟨n - 1,by omega⟩
 refine ak _ zeh rfl (by simp [Iq]) fun QQ hQ=>?_
 simp only [Iq] at hQ
 simp only [Iq,ah,ai,Nat.zero_add,reduceAdd]
 rw [Nat.add_sub_cancel] at hround
 obtain ⟨hs,rx,_⟩:=hk _ _ hJ0
 have lx:=rx.ld1 0
 rw [List.getElem?_cons_zero] at lx
 obtain ⟨z,g,r⟩:=hs.r
 have l0:=r.ld1 0
 rw [List.getElem?_cons_zero] at l0
 obtain ⟨_,h0,e1,e0,rfl⟩:=qD (n:=m) (by omega) hs
 subst e0
 simp only [Lc,SS,Nat.reduceBEq,reduceEqDiff,reduceAdd,reduceIte,reduceMul,lx,e1,iE,l0]
 refine aF (c:=vH) (I:=fun m' tm' h'=>∃ k,128<=k/\k<=256/\m'=256 - k/\J k h'/\tm'.gt 0=some (.func (.yield l) [] [])/\tm'.gt 1=some (.ptr (some (bx,0)))/\tm'.gt 3=some (I k)/\tm'.gt 28=none) (n:=128)
  ⟨128,by omega,by omega,rfl,hJ0,by simp only [SS,Nat.reduceBEq],by simp only [SS,Nat.reduceBEq],by simp only [SS,Nat.reduceBEq,reduceEqDiff,reduceAdd,reduceIte,reduceMul];rfl,by simp only [SS,Nat.reduceBEq]⟩ (by omega) ?_
 clear hJ0 hs rx lx r l0 e1
 rintro _ tm h1 ⟨k,hk1,hk2,rfl,hJ,t0,t1,t3,t28⟩ Q1 hN1 hE
 obtain ⟨hs,rx,_⟩:=hk _ _ hJ
 have lx:=rx.ld1 0
 rw [List.getElem?_cons_zero] at lx
 obtain ⟨z,g,r⟩:=hs.r
 have l1:=r.ld1 1
 simp only [List.getElem?_cons_zero,List.getElem?_cons_succ] at l1
 by_cases hlt:k<256
 ·have hlt':(k:Int)<256:=by omega
  obtain ⟨_,h2,e2,s2,rfl⟩:=KO (n:=m) (by omega) hs hk1 hlt
  have hJ2:=hno _ _ _ hJ s2
  cases hu:U k with
  | true =>
   rw [hu] at e2
   simp only [Lc,SS,Nat.reduceBEq,reduceEqDiff,reduceAdd,reduceIte,reduceMul,t0,t1,t3,lx,dL,l1,hlt',e2,aI,bG (show k<=1000000 by omega)]
   refine hN1 _ _ (256 - (k+1)) (by omega) ⟨k+1,by omega,by omega,rfl,hskip _ _ hk1 hlt hu hJ2,by simp only [SS,Nat.reduceBEq,t0],by simp only [SS,Nat.reduceBEq,t1],by simp only [SS,Nat.reduceBEq],by simp only [SS,Nat.reduceBEq,t28]⟩
  | false =>
   rw [hu] at e2
   obtain ⟨v,h4,ey,hv⟩:=hround k h2 hk1 hlt hu hJ2
   rcases hv with ⟨rfl,hJ4⟩|⟨rfl,hD⟩
   ·simp only [Lc,SS,Nat.reduceBEq,reduceEqDiff,reduceAdd,reduceIte,reduceMul,t0,t1,t3,lx,dL,l1,hlt',e2,ey,aI,bG (show k<=1000000 by omega)]
    refine hN1 _ _ (256 - (k+1)) (by omega) ⟨k+1,by omega,by omega,rfl,hJ4,by simp only [SS,Nat.reduceBEq,t0],by simp only [SS,Nat.reduceBEq,t1],by simp only [SS,Nat.reduceBEq],by simp only [SS,Nat.reduceBEq,t28]⟩
   ·simp only [Lc,SS,Nat.reduceBEq,reduceEqDiff,reduceAdd,reduceIte,reduceMul,t0,t1,t3,lx,dL,l1,hlt',e2,ey,aI]
    refine hE _ _ _ (by simp) ?_
    simp only [SS,Nat.reduceBEq,reduceEqDiff,reduceAdd,reduceIte,reduceMul]
    refine hQ _ _ _ _ (.inr rfl) (by simp only [SS,Nat.reduceBEq,t28]) (by simp only [SS,Nat.reduceBEq,reduceEqDiff,reduceAdd,reduceIte,reduceMul];rfl) (.inr hD)
 ·obtain rfl:k=256:=by omega
  have hlt':¬((256:Nat):Int)<256:=by decide
  simp only [Lc,SS,Nat.reduceBEq,reduceEqDiff,reduceAdd,reduceIte,reduceMul,t0,t1,t3,lx,dL,l1,hlt']
  refine hE _ _ _ (by simp) ?_
  simp only [SS,Nat.reduceBEq,reduceEqDiff,reduceAdd,reduceIte,reduceMul]
  refine hQ _ _ _ _ (.inl rfl) (by simp only [SS,Nat.reduceBEq,t28]) (by simp only [SS,Nat.reduceBEq,reduceEqDiff,reduceAdd,reduceIte,reduceMul];rfl) (.inl hJ)
end
end Go.Proofs.YtboobbebilegnaaGreat
namespace Go.Proofs.YtboobbebilegnaaGreat
open Go.Am
set_option maxRecDepth 10000
theorem dK {h:ac} {b:Nat} {x:cX}:∃ h',h.put b x=h'/\h'.bs.gt b=some x/\h'.next=h.next/\Sm (·= b) h h' :=
 ⟨_,rfl,by rw [bA,if_pos rfl],rfl,⟨Nat.le_refl _,fun c _ hc=>by rw [bA,if_neg hc]⟩⟩
def Xg (l f nt:Nat) (ps:List Nat) (A B:Code) (T:Tr AV->Prop) (h:ac):Prop :=
 ∃ b:fE,h.bs.gt l=some (.loop b)/\b.st=.ready/\b.pending=none/\b.fn=f/\b.params=ps/\b.assign=A/\b.body=B/\b.tm.gt nt=none/\T b.tm
theorem Xg.sm {l f nt:Nat} {ps:List Nat} {A B:Code} {T:Tr AV->Prop} {h h':ac} {F:Nat->Prop} (hr:Xg l f nt ps A B T h) (s:Sm F h h') (hl:l<h.next) (hF:¬F l):Xg l f nt ps A B T h':=by
 obtain ⟨b,h1,r⟩:=hr
 exact ⟨b,(s.2 l hl hF).trans h1,r⟩
def iX (U:Nat->Bool) (k:Nat):Nat:=((List.range k).filter fun j=>decide (128<=j)&&!U j).length
theorem jj (U:Nat->Bool) (k:Nat):iX U (k+1)=iX U k+if 128<=k/\U k=false then 1 else 0:=by
 unfold iX
 rw [List.range_succ,List.filter_append,List.length_append]
 congr 1
 by_cases h1:128<=k <;> cases hu:U k <;> simp [h1,hu]
theorem UB (U:Nat->Bool) (k:Nat):iX U k<=k:=by
 unfold iX
 have:=List.length_filter_le (fun j=>decide (128<=j)&&!U j) (List.range k)
 rwa [List.length_range] at this
theorem yD (U:Nat->Bool):∀ k,k<=128->iX U k=0
 | 0,_=>rfl
 | k+1,h=>by rw [jj,yD U k (by omega),if_neg (by omega)]
theorem zbN:keepF P 61 10=false:=by kernel_rfl
theorem zg5:aD P 61=10:=by kernel_rfl
structure JC (h0:ac) (l cb bx sp wb:Nat) (U:Nat->Bool) (k:Nat) (h:ac):Prop where
 rc:Xg l 61 10 [6] qW qX (fun tm=>tm.gt 3=some (.ptr (some (cb,0)))) h
 ct:∃ z,Rw h cb [I (iX U k)] z false
 rx:Rw h bx [.ptr (some (sp,0))] [] false
 s:fB h sp wb U
 sm:Sm bm h0 h
 lt:cb<h.next/\l<h.next/\bx<h.next
 ge:h0.next<=cb/\h0.next<=l/\h0.next<=bx
 ne:l≠cb/\l≠bx/\cb≠bx
 old:sp<h0.next/\wb<h0.next
section
variable {h0 h:ac} {l cb bx sp wb:Nat} {U:Nat->Bool} {k:Nat}
theorem JC.no {h':ac} (hj:JC h0 l cb bx sp wb U k h) (hs:Sm bm h h'):JC h0 l cb bx sp wb U k h':=by
 obtain ⟨rc,⟨z,ct⟩,rx,s,sm,⟨l1,l2,l3⟩,ge,ne,old⟩:=hj
 have:=hs.1
 exact ⟨rc.sm hs l2 (fun h=>h),⟨z,ct.sm hs l1 (fun h=>h)⟩,rx.sm hs l3 (fun h=>h),s.sm hs (fun h=>h) (fun h=>h),sm.trans hs (fun _ _ h=>h) (fun _ _ h=>h),⟨by omega,by omega,by omega⟩,ge,ne,old⟩
theorem JG {m:Nat} (hm:1<=m) (hj:JC h0 l cb bx sp wb U k h) (hk:128<=k) (hk2:k<256) (hu:U k=false) :
  WC (C m (.loop l) [.int .i64 (k:Int)] h) fun v h2=>v=.bool true/\JC h0 l cb bx sp wb U (k+1) h2:=by
 obtain ⟨m,rfl⟩:∃ m',m=m'+1:=⟨m - 1,by omega⟩
 obtain ⟨⟨b,hat,hst,hpd,hfn,hps,has,hbo,t10,t3⟩,⟨z,ct⟩,rx,s,sm,⟨l1,l2,l3⟩,ge,ne,old⟩:=hj
 refine gU _ hat (nt:=10) (CA:=QK) (CB:=Bh) (tm':=b.tm.up (some (.int .i64 (k:Int))) 6) (by rw [hfn];exact zg5) (by rw [hps];rfl) (by rw [hfn];exact zbN) t10 (by rw [hfn,has];exact zcc) (by rw [hfn,hbo];exact zcd) fun QA hA=>?_
 rw [hfn] at hA ⊢
 simp only [F61,SS,Nat.reduceBEq,reduceEqDiff,reduceAdd,reduceIte,reduceMul]
 refine hA _ _ b hat hst fun QB hB=>?_
 obtain ⟨h3,e3,m3,n3,s3⟩:=dK (h:=h) (b:=l) (x:=.loop {b with st:=.busy })
 rw [e3]
 have c3:=ct.sm s3 l1 (fun e=>ne.1 e.symm)
 have k3:=c3.ld1 0
 rw [List.getElem?_cons_zero] at k3
 have hle:=UB U k
 obtain ⟨w1,w2,w3,w4⟩:=c3.st1 (o:=0) (v:=I (iX U k+1)) (by simp) rfl
 rw [show ([I (iX U k)]:List AV).set 0 (I (iX U k+1))=[I (iX U k+1)] from rfl] at w2
 simp only [F61,SS,Nat.reduceBEq,reduceEqDiff,reduceAdd,reduceIte,reduceMul,t3,k3,bG (show iX U k<=1000000 by omega),w1]
 refine hB _ _ _ _ ((w4 l ne.1).trans m3) rfl ?_
 obtain ⟨h6,e6,m6,n6,s6⟩:=dK (h:=h3.wr cb 0 [I (iX U k+1)]) (b:=l) (x:=.loop (oF .normal {b with st:=.busy }).2)
 rw [e6]
 have s36:Sm (fun c=>c=cb∨c=l) h3 h6:=(show Sm (·= cb) h3 (h3.wr cb 0 [I (iX U k+1)]) from ⟨by omega,fun c _ hc=>w4 c hc⟩).trans s6 (fun _ _ h=>.inl h) (fun _ _ h=>.inr h)
 have s06:Sm (fun c=>c=cb∨c=l) h h6:=s3.trans s36 (fun _ _ h=>.inr h) (fun _ _ h=>h)
 have hn:=s06.1
 have hn0:=sm.1
 refine ⟨rfl,⟨⟨_,m6,rfl,rfl,hfn,hps,has,hbo,t10,t3⟩,⟨z,?_⟩,rx.sm s06 l3 (by omega),s.sm s06 (by omega) (by omega),sm.trans s06 (fun _ _ h=>h) (fun c hc e=>by omega),⟨by omega,by omega,by omega⟩,ge,ne,old⟩⟩
 rw [jj,if_pos ⟨hk,hu⟩]
 exact w2.sm s6 (by omega) (fun e=>ne.1 e.symm)
theorem B8 {n:Nat} (hn:7<=n) (hs:fB h sp wb U):WC (C n (.fn 61) [.ptr (some (sp,0))] h) fun r h'=>Sm bm h h'/\r=I (iX U 256):=by
 have old:=hs.lt
 obtain ⟨m,rfl⟩:∃ m,n=m+1:=⟨n - 1,by omega⟩
 refine ak _ zgF rfl (by simp [Vb]) fun QQ hQ=>?_
 simp only [Vb] at hQ
 simp only [Vb,ah,ai,Nat.zero_add,reduceAdd]
 obtain ⟨h1,e1,r1,n1,g1⟩:=Rw.alloc h (id:=h.next) (n:=1) (vs:=[.int .i64 0]) (z:=ay 3 true) (ro:=false) (Nat.le_refl _) rfl
 obtain ⟨w1,w2,w3,w4⟩:=r1.st1 (o:=0) (v:=I 0) (by simp) rfl
 rw [show ([AV.int .i64 0]:List AV).set 0 (I 0)=[I 0] from rfl] at w2
 obtain ⟨h2,eh⟩:∃ h2,h1.wr h.next 0 [I 0]=h2:=⟨_,rfl⟩
 rw [eh] at w1 w2 w3 w4
 have w1:h1.st1 h.next 0 (.int .i64 0)=some h2:=w1
 have s2:Sm bm h h2:=⟨by omega,fun c hc _=>by rw [w4 c (by omega),g1 c (by omega)]⟩
 obtain ⟨_,h3,e3,bx,rfl,rx,lx,s3,gx⟩:=zW (n:=m) (by omega) (h:=h2) (sp:=sp)
 simp only [F61,SS,Nat.reduceBEq,reduceEqDiff,reduceAdd,reduceIte,reduceMul,xB,e1,w1,e3]
 refine fW (i:=153) (cap:=[.ptr (some (bx,0))]) (by simp only [SS,Nat.reduceBEq]) ?_
 have hid:h3.next<=h3.next:=Nat.le_refl _
 obtain ⟨tm0,htm⟩:∃ tm:Tr AV,tm=((((((Tr.leaf:Tr AV).up (some (.ptr (some (sp,0)))) 0).up (some (.int .i64 0)) 2).up (some (.ptr (some (h.next,0)))) 3).up (some (.func (.func 153) [] [.ptr (some (bx,0))])) 5)):=⟨_,rfl⟩
 rw [← htm]
 obtain ⟨h4,eh4⟩:∃ h4,h3.new h3.next (.loop ⟨.ready,none,61,tm0.up none 10,[6],qW,qX⟩)=h4:=⟨_,rfl⟩
 have g4:h4.bs.gt h3.next=some (.loop ⟨.ready,none,61,tm0.up none 10,[6],qW,qX⟩):=by rw [← eh4,bX hid,if_pos rfl]
 have n4:h4.next=h3.next+1:=by rw [← eh4,cM hid]
 have s4:Sm bm h3 h4:=⟨by omega,fun c hc _=>by rw [← eh4,bX hid,if_neg (by omega)]⟩
 rw [eh4]
 have n2:=s2.1
 have n3:=s3.1
 have s04:Sm bm h h4:=(s2.trans s3 (fun _ _ h=>h) (fun _ _ h=>h)).trans s4 (fun _ _ h=>h) (fun _ _ h=>h)
 have s24:Sm bm h2 h4:=s3.trans s4 (fun _ _ h=>h) (fun _ _ h=>h)
 have hJ0:JC h h3.next h.next bx sp wb U 128 h4:=⟨⟨_,g4,rfl,rfl,rfl,rfl,rfl,rfl,by simp only [SS,Nat.reduceBEq],by subst htm;simp only [SS,Nat.reduceBEq,reduceEqDiff,reduceAdd,reduceIte,reduceMul]⟩,⟨_,by rw [yD U 128 (Nat.le_refl _)];exact w2.sm s24 (by omega) (fun h=>h)⟩,rx.sm s4 lx (fun h=>h),hs.sm s04 (fun h=>h) (fun h=>h),s04,⟨by omega,by omega,by omega⟩,⟨by omega,by omega,by omega⟩,⟨by omega,by omega,by omega⟩,old⟩
 obtain ⟨v,h5,e5,hv⟩:=I6 (n:=m) (by omega) (U:=U) (wb:=wb) (sp:=sp) (bx:=bx) (l:=h3.next) (h:=h4) (JC h h3.next h.next bx sp wb U) (fun _=>False) hJ0
  (fun k h' hj=>⟨hj.s,hj.rx,hj.lt.2.2⟩) (fun k h1 h' hj s=>hj.no s)
  (fun k h' hk1 hk2 hu hj=>⟨hj.rc,by obtain ⟨z,c⟩:=hj.ct;exact ⟨z,by rw [jj,if_neg (by rw [hu];simp)];exact c⟩,hj.rx,hj.s,hj.sm,hj.lt,hj.ge,hj.ne,hj.old⟩)
  (fun k h' hk1 hk2 hu hj=>by obtain ⟨v,h2,e,hv,hj'⟩:=JG (m:=m - 1) (by omega) hj hk1 hk2 hu;exact ⟨v,h2,e,.inl ⟨hv,hj'⟩⟩)
 refine ⟨v,h5,e5,?_⟩
 rcases hv with hj | hf
 ·obtain ⟨⟨b,hat,hst,hpd,_⟩,⟨z,ct⟩,_,_,sm,⟨l1,l2,_⟩,_,ne,_⟩:=hj
  refine ⟨b,hat,by rw [hst];decide,?_⟩
  rw [hpd]
  obtain ⟨h6,e6,m6,n6,s6⟩:=dK (h:=h5) (b:=h3.next) (x:=.loop ⟨.exhausted,none,b.fn,b.tm,b.params,b.assign,b.body⟩)
  show ret _ _ _ _ _ .normal _ _ (h5.put h3.next (.loop ⟨.exhausted,none,b.fn,b.tm,b.params,b.assign,b.body⟩)) _
  rw [e6]
  have k6:=(ct.sm s6 l1 (fun e=>ne.1 e.symm)).ld1 0
  rw [List.getElem?_cons_zero] at k6
  subst htm
  simp only [F61,SS,Nat.reduceBEq,reduceEqDiff,reduceAdd,reduceIte,reduceMul,k6]
  refine hQ _ _ _ _ (.inr rfl) (by simp only [SS,Nat.reduceBEq]) (by simp only [SS,Nat.reduceBEq,reduceEqDiff,reduceAdd,reduceIte,reduceMul];rfl) ?_
  exact ⟨sm.trans s6 (fun _ _ h=>h) (fun c hc e=>by omega),rfl⟩
 ·exact hf.elim
end
end Go.Proofs.YtboobbebilegnaaGreat
namespace Go.Proofs.YtboobbebilegnaaGreat
open Go.Am
set_option maxRecDepth 10000
abbrev Fe:=Nat×List Nat
section
variable {h h':ac} {rd:Nat} {Fi:List (List Nat)} {E:List Fe} {b1 b2:List Nat}
theorem sT {e s n:Nat} {h:ac} {v:AV} {cs:List AV} {bs:List Nat} (ho:iF e s h v n cs bs):∃ a c g,v=.slice a n c g/\Aq g s=true/\n<=c:=by
 rcases ho with ⟨rfl,rfl,_,_⟩|⟨b,c,rest,z,rfl,_,_,h3,_⟩
 ·exact ⟨none,0,none,rfl,rfl,Nat.le_refl _⟩
 ·exact ⟨_,c,some s,rfl,Nat.beq_refl s,h3⟩
end
end Go.Proofs.YtboobbebilegnaaGreat
namespace Go.Proofs.YtboobbebilegnaaGreat
open Go.Am
set_option maxRecDepth 10000
section
variable {h h':ac} {rd:Nat} {Fi:List (List Nat)} {E:List Fe} {b1 b2:List Nat}
theorem jz {e s by' m id n:Nat} {t:TypeId} {h:ac} {v zv x:AV} {ys cs:List AV} {bs:List Nat} (hu:P.underlying t=some (.slice e)) (hs:aC P e=some (s+1)) (hb:cF P e=some by') (hz:cd P e=some zv) (hzl:zv.cells.length=s+1)
  (ho:iF e (s+1) h v n cs bs) (hsrc:cI (s+1) (fun n=>n) x h=some (ys,m)) (hyl:ys.length=m*(s+1)) (hy1:ys.all AV.one=true) (hr:gy by' (n+m)=true) (hid:h.next<=id) :
  ∃ v' h' bs',aS P t v x id h=some (v',h')/\iF e (s+1) h' v' (n+m) (cs++ys) bs'/\Sm (fun b=>b∈bs) h h'/\(∀ b,b∈bs'->b∈bs∨h.next<=b):=by
 by_cases hm:0<m
 ·obtain ⟨v',h',bs',q1,q2,q3,q4,q5,_⟩:=CJ hu hs hb hz hzl ho hsrc hm hyl hy1 hr hid
  exact ⟨v',h',bs',q1,q2,⟨q3,fun c hc hF=>q4 c hF (by omega)⟩,fun b hb=>(q5 b hb).imp_right (by omega)⟩
 ·obtain rfl:m=0:=by omega
  rw [Nat.zero_mul] at hyl
  obtain rfl:=List.eq_nil_of_length_eq_zero hyl
  obtain ⟨a,c,g,rfl,_,_⟩:=sT ho
  exact ⟨_,h,bs,by rw [jA hu hs hb hz hzl hsrc (by simp) hr,if_pos rfl],by rw [List.append_nil];exact ho,Sm.refl _ _,fun b hb=>.inl hb⟩
end
end Go.Proofs.YtboobbebilegnaaGreat
namespace Go.Proofs.YtboobbebilegnaaGreat
open Go.Am
set_option maxRecDepth 10000
section
variable {h h':ac} {rl rd:Nat} {Fi:List (List Nat)} {E:List Fe} {b1 b2:List Nat} {num:Int} {chv:AV} {acts:Nat} {cut:Bool}
end
end Go.Proofs.YtboobbebilegnaaGreat
namespace Go.Proofs.YtboobbebilegnaaGreat
open Go.Am
set_option maxRecDepth 10000
structure Pc where
 id:Int
 block:Int
 refs:Int
 size:Int
def Pc.c (x:Pc):List AV:=[.int .u32 x.id,.int .i64 x.block,.int .i64 x.refs,.int .i64 x.size]
abbrev JH (L:List Pc):List AV:=L.flatMap Pc.c
theorem lO:∀ (L:List Pc) (i:Nat) (h:i<L.length) (f:Nat),f<4->(JH L)[i*4+f]?=(L[i].c)[f]?
 | x::L,0,h,f,hf=>by show (Pc.c x++JH L)[0*4+f]?=_;rw [List.getElem?_append_left (by simp [Pc.c];omega),Nat.zero_mul,Nat.zero_add];rfl
 | x::L,i+1,h,f,hf=>by
  show (Pc.c x++JH L)[(i+1)*4+f]?=_
  rw [List.getElem?_append_right (by simp [Pc.c];omega),show (i+1)*4+f - (Pc.c x).length=i*4+f by simp [Pc.c];omega]
  exact lO L i (by simpa using h) f hf
def Cz:Pc:=⟨0,0,0,0⟩
def Ci (L:List Pc) (i:Nat):Pc:=L.getD i Cz
theorem um {L:List Pc} {i:Nat} (h:i<L.length):Ci L i=L[i]:=by simp [Ci,List.getD_eq_getElem?_getD,List.getElem?_eq_getElem h]
def Pcs (h:ac) (v:AV) (L:List Pc):Prop:=mX h v L.length 4 (JH L)
section
variable {h h':ac} {v:AV} {L:List Pc}
theorem Pcs.sl (hi:Pcs h v L):∃ a c g,v=.slice a L.length c g:=by
 obtain ⟨_,a,c,g,e,_⟩:=hi
 exact ⟨a,c,g,e⟩
theorem Pcs.at {a:Option (Nat×Nat)} {c:Nat} {g:Option Nat} (hi:Pcs h (.slice a L.length c g) L) {i:Nat} (hl:i<L.length) :
  ∃ b o,a=some (b,o)/\h.ld1 b (o+i*4)=some (.int .u32 (Ci L i).id)/\h.ld1 b (o+i*4+1)=some (.int .i64 (Ci L i).block)/\h.ld1 b (o+i*4+2)=some (.int .i64 (Ci L i).refs)/\h.ld1 b (o+i*4+3)=some (.int .i64 (Ci L i).size)/\h.ld b (o+i*4) 4=some (Ci L i).c:=by
 obtain ⟨h0,a',c',g',e,h1,h2⟩:=hi
 cases e
 cases a with
 | none=>have:=h1 rfl;omega
 | some p =>
  have hld:=(h2 p.1 p.2 rfl).2 (by omega)
  have hc:=(wJ hld).2
  have hp:=wK hld (i:=i*4) (k:=4) (by omega)
  refine ⟨p.1,p.2,rfl,?_,?_,?_,?_,?_⟩
  ·rw [hc _ (by omega)];rw [um hl];exact (lO L i hl 0 (by omega))
  ·rw [Nat.add_assoc];rw [hc _ (by omega)];rw [um hl];exact (lO L i hl 1 (by omega))
  ·rw [Nat.add_assoc];rw [hc _ (by omega)];rw [um hl];exact (lO L i hl 2 (by omega))
  ·rw [Nat.add_assoc];rw [hc _ (by omega)];rw [um hl];exact (lO L i hl 3 (by omega))
  ·rw [hp];congr 1
   apply List.ext_getElem?
   intro f
   rw [um hl]
   by_cases hf:f<4
   ·rw [List.getElem?_take_of_lt hf,List.getElem?_drop];exact lO L i hl f hf
   ·rw [List.getElem?_eq_none (by simp;omega),List.getElem?_eq_none (by simp [Pc.c];omega)]
end
structure mw (h:ac) (pb lb tb sp:Nat):Prop where
 r:∃ z,Rw h pb [.ptr (some (lb,0)),.ptr (some (tb,0)),.ptr (some (sp,0))] z false
 lt:pb<h.next
def fA (R:List Ch) (k:Nat):Bool:=R.any fun c=>c.block==(k:Int)
section
variable {h h':ac} {lb db sb pb tb sp wb rp rl rt rd:Nat} {D:List Sl} {cut num:Int} {chv chr:AV} {acts:Nat} {L R:List Ch} {next:Int} {F:Nat->Prop} {bs b1 b2:List Nat} {Fi:List (List Nat)} {E:List Fe} {cut':Bool}
theorem mw.sm {G:Nat->Prop} (hp:mw h pb lb tb sp) (hs:Sm G h h') (h1:¬G pb):mw h' pb lb tb sp:=by
 obtain ⟨⟨z,r⟩,lt⟩:=hp
 have:=hs.1
 exact ⟨⟨z,r.sm hs lt h1⟩,by omega⟩
theorem S1 {n:Nat} (hn:3<=n) (hl:gE h lb db cut chv acts false) (hd:bB h db sb D):WC (C n (.fn 9) [.ptr (some (lb,0))] h) fun r h'=>∃ pb tb sp wb F,r=.ptr (some (pb,0))/\mw h' pb lb tb sp/\bc h' tb [] 1 F/\fB h' sp wb (fun _=>false)/\Sm bm h h' /\
  (∀ b,F b->h.next<=b/\b≠sp/\b≠wb/\b≠pb)/\h.next<=pb/\h.next<=sp/\h.next<=wb/\pb≠sp/\pb≠wb:=by
 obtain ⟨m,rfl⟩:∃ m,n=m+1:=⟨n - 1,by omega⟩
 refine ak _ f9A rfl (by simp [fn9]) fun QQ hQ=>?_
 simp only [fn9] at hQ
 simp only [fn9,ah,ai,Nat.zero_add,reduceAdd]
 obtain ⟨_,h0,e1,e0,rfl⟩:=rS (n:=m) (by omega) hl
 subst e0
 obtain ⟨_,h1,e2,e0,rfl⟩:=mA (n:=m) (by omega) hd
 subst e0
 obtain ⟨_,h2,e3,tb,F,rfl,ht,s2,hF⟩:=Jc (n:=m) (by omega) (h:=h1)
 obtain ⟨_,h3,e4,sp,wb,rfl,hs,s3,g1,g2⟩:=zY (n:=m) (by omega) (h:=h2)
 obtain ⟨h4,e5,r5,n5,f5⟩:=Rw.alloc h3 (id:=h3.next) (n:=3) (vs:=[.ptr (some (lb,0)),.ptr (some (tb,0)),.ptr (some (sp,0))]) (z:=[]) (ro:=false) (Nat.le_refl _) rfl
 have s4:Sm bm h3 h4:=⟨by omega,fun c hc _=>f5 c (by omega)⟩
 have e1:C m (.fn 48) [.ptr (some (lb,0))] h1=some (.ptr (some (db,0)),h1):=e1
 have w2:IntKind.i64.wrap ((256:Int).tdiv 2)=128:=by decide
 simp only [F9,SS,Nat.reduceBEq,reduceEqDiff,reduceAdd,reduceIte,reduceMul,W6,Option.isNone_some,e1,l7,e2,e3,un (show (2:Int)≠0 by decide),w2,e4,uj,e5]
 refine hQ _ _ _ _ (.inr rfl) (by simp only [SS,Nat.reduceBEq]) (by simp only [SS,Nat.reduceBEq,reduceEqDiff,reduceAdd,reduceIte,reduceMul];rfl) ?_
 have q2:=s2.1
 have q3:=s3.1
 have hlt:=ht.flt
 have slt:=hs.lt
 refine ⟨h3.next,tb,sp,wb,F,rfl,⟨⟨_,r5⟩,by omega⟩,(ht.sm s3 (fun _ _ h=>h)).sm s4 (fun _ _ h=>h),hs.sm s4 (fun h=>h) (fun h=>h),(s2.trans s3 (fun _ _ h=>h) (fun _ _ h=>h)).trans s4 (fun _ _ h=>h) (fun _ _ h=>h),fun b hb=>?_,by omega,by omega,by omega,by omega,by omega⟩
 have:=hF b hb
 have:=hlt b hb
 omega
theorem BN {n:Nat} (hn:1<=n) (hp:mw h pb lb tb sp):WC (C n (.fn 53) [.ptr (some (pb,0))] h) fun r h'=>h'=h/\r=.bool true:=by
 obtain ⟨z,r⟩:=hp.r
 have l1:=r.ld1 1
 simp only [List.getElem?_cons_zero,List.getElem?_cons_succ] at l1
 obtain ⟨m,rfl⟩:∃ m,n=m+1:=⟨n - 1,by omega⟩
 refine ak _ zgx rfl (by simp [U3]) fun QQ hQ=>?_
 simp only [U3] at hQ
 simp only [U3,ah,ai,Nat.zero_add,reduceAdd]
 simp only [F53,SS,Nat.reduceBEq,reduceEqDiff,reduceAdd,reduceIte,reduceMul,W9,Option.isSome_some,fY,l1,Jj]
 refine hQ _ _ _ _ (.inr rfl) (by simp only [SS,Nat.reduceBEq]) (by simp only [SS,Nat.reduceBEq,reduceEqDiff,reduceAdd,reduceIte,reduceMul];rfl) ?_
 exact ⟨rfl,rfl⟩
theorem SZ {n:Nat} (hn:8<=n) {U:Nat->Bool} (hp:mw h pb lb tb sp) (hs:fB h sp wb U):WC (C n (.fn 17) [.ptr (some (pb,0))] h) fun r h'=>Sm bm h h'/\r=I (iX U 256):=by
 obtain ⟨z,r⟩:=hp.r
 have l2:=r.ld1 2
 simp only [List.getElem?_cons_zero,List.getElem?_cons_succ] at l2
 obtain ⟨m,rfl⟩:∃ m,n=m+1:=⟨n - 1,by omega⟩
 refine ak _ zgm rfl (by simp [US]) fun QQ hQ=>?_
 simp only [US] at hQ
 simp only [US,ah,ai,Nat.zero_add,reduceAdd]
 obtain ⟨_,h0,e1,e0,rfl⟩:=BN (n:=m) (by omega) hp
 subst e0
 obtain ⟨_,h1,e2,s1,rfl⟩:=B8 (n:=m) (by omega) hs
 simp only [F17,SS,Nat.reduceBEq,reduceEqDiff,reduceAdd,reduceIte,reduceMul,e1,pp,l2,e2]
 refine hQ _ _ _ _ (.inr rfl) (by simp only [SS,Nat.reduceBEq]) (by simp only [SS,Nat.reduceBEq,reduceEqDiff,reduceAdd,reduceIte,reduceMul];rfl) ?_
 exact ⟨s1,rfl⟩
end
end Go.Proofs.YtboobbebilegnaaGreat
namespace Go.Proofs.YtboobbebilegnaaGreat
open Go.Am
set_option maxRecDepth 10000
theorem Cl {L:List Ch} {x:Ch} {j:Nat} (hj:x.block=(j:Int)):fA (L++[x])=fun i=>fA L i||decide (i=j):=by
 funext i
 unfold fA
 rw [List.any_append,List.any_cons,List.any_nil,Bool.or_false,hj]
 congr 1
 by_cases e:i=j
 ·subst e;simp
 ·rw [decide_eq_false e];simpa using fun h=>e (by omega)
section
variable {h h':ac} {pb lb db sb tb sp wb:Nat} {D:List Sl} {cut:Int} {chv:AV} {acts:Nat} {L:List Ch} {next:Int} {F:Nat->Prop}
end
end Go.Proofs.YtboobbebilegnaaGreat
namespace Go.Proofs.YtboobbebilegnaaGreat
open Go.Am
set_option maxRecDepth 10000
section
variable {h h':ac} {lb db sb:Nat} {D:List Sl} {cut:Int} {chv:AV} {acts:Nat}
end
end Go.Proofs.YtboobbebilegnaaGreat
namespace Go.Proofs.YtboobbebilegnaaGreat
open Go.Am
set_option maxRecDepth 10000
section
variable {h h':ac} {rl rd:Nat} {D:List Sl} {num:Int} {chr:AV} {acts:Nat} {Fi:List (List Nat)} {E:List Fe} {b1 b2:List Nat}
end
end Go.Proofs.YtboobbebilegnaaGreat
namespace Go.Proofs.YtboobbebilegnaaGreat
open Go.Am
set_option maxRecDepth 10000
theorem nW {e s n:Nat} {h:ac} {v:AV} {cs:List AV} {bs:List Nat} (ho:iF e s h v n cs bs):v.one=true:=by
 obtain ⟨a,c,g,rfl,_⟩:=sT ho;rfl
section
variable {h h':ac} {bb:Nat} {s bs:List Nat}
end
section
variable {h h':ac} {pb lb tb sp rp rl rt:Nat} {L R:List Ch} {next:Int} {F:Nat->Prop} {bs:List Nat}
end
end Go.Proofs.YtboobbebilegnaaGreat
namespace Go.Proofs.YtboobbebilegnaaGreat
open Go.Am
set_option maxRecDepth 10000
def pk (c:Ch):Pc:=⟨c.id,c.block,c.refs,(c.data.length:Int)⟩
theorem UE (A B:List Pc):JH (A++B)=JH A++JH B:=List.flatMap_append
theorem Th:nQ P 50=di 4:=by kernel_rfl
theorem zcD:nQ P 46=am:=by kernel_rfl
theorem zds (h:ac) (t:Nat) (x:Pc):∃ h1 h2,h.new h.next (.cells (az [.int .u32 0,.int .i64 0,.int .i64 0,.int .i64 0] .leaf 0) (ay t true) 4 false)=h1/\h1.sto h.next 0 x.c=some h2/\h2.ld h.next 0 4=some x.c/\Sm bm h h2/\h.next<h2.next:=by
 obtain ⟨h3,e3,r3,n3,f3⟩:=Rw.alloc h (id:=h.next) (n:=4) (vs:=[.int .u32 0,.int .i64 0,.int .i64 0,.int .i64 0]) (z:=ay t true) (ro:=false) (Nat.le_refl _) rfl
 obtain ⟨w1,w2,w3,w4⟩:=r3.sto (o:=0) (us:=x.c) (by simp [Pc.c]) rfl
 refine ⟨h3,_,e3,w1,?_,⟨by omega,fun c hc _=>by rw [w4 c (by omega),f3 c (by omega)]⟩,by omega⟩
 exact w2.ld (i:=0) (n:=4) (Nat.le_refl _)
section
variable {h h':ac} {tb:Nat} {L R:List Ch} {next:Int} {F:Nat->Prop}
theorem yC {n:Nat} (hn:4<=n) (ht:bc h tb L next F) (id:Int):WC (C n (.fn 60) [.ptr (some (tb,0)),u id] h) fun r h'=>Sm bm h h'/\r=match fC L id with
  | some c=>.tuple [.agg (Pc.c ⟨id,c.block,c.refs,(c.data.length:Int)⟩),.bool true]
  | none=>.tuple [.agg (Pc.c ⟨id,0,0,0⟩),.bool false]:=by
 obtain ⟨m,rfl⟩:∃ m,n=m+1:=⟨n - 1,by omega⟩
 refine ak _ zgE rfl (by simp [Va]) fun QQ hQ=>?_
 simp only [Va] at hQ
 simp only [Va,ah,ai,Nat.zero_add,reduceAdd]
 obtain ⟨h1,e1,r1,n1,f1⟩:=Rw.alloc h (id:=h.next) (n:=4) (vs:=[.int .u32 0,.int .i64 0,.int .i64 0,.int .i64 0]) (z:=ay 50 true) (ro:=false) (Nat.le_refl _) rfl
 have s1:Sm bm h h1:=⟨by omega,fun c hc _=>f1 c (by omega)⟩
 obtain ⟨_,h2,e2,s2,rfl⟩:=xu (n:=m) (by omega) (ht.sm s1 (fun _ _ h=>h)) id
 have r2:=r1.sm s2 (by omega) (fun h=>h)
 have key:∀ x:Pc,∃ h3,h2.sto h.next 0 x.c=some h3/\di 4 h3 (.ptr (some (h.next,0)))=some (.agg x.c)/\Sm bm h h3:=by
  intro x
  obtain ⟨w1,w2,w3,w4⟩:=r2.sto (o:=0) (us:=x.c) (by simp [Pc.c]) rfl
  have q2:=s2.1
  refine ⟨_,w1,?_,⟨by omega,fun c hc _=>by rw [w4 c (by omega),s2.2 c (by omega) (fun h=>h),f1 c (by omega)]⟩⟩
  rw [qz,w2.ld (i:=0) (n:=4) (Nat.le_refl _)];rfl
 cases hg:fC L id with
 | none =>
  rw [hg] at e2
  simp only at e2
  obtain ⟨h3,e3,l3,s3⟩:=key ⟨id,0,0,0⟩
  have e3:h2.sto h.next 0 [.int .u32 id,.int .i64 0,.int .i64 0,.int .i64 0]=some h3:=e3
  have z0:((([]:List Nat).length:Nat):Int)=0:=rfl
  have hst:=lA (n:=4) (h:=h2) (b:=h.next) (o:=0) (cs:=[.int .u32 id,.int .i64 0,.int .i64 0,.int .i64 0]) rfl
  have ln0:bL P 9 (.str [])=some (.int .i64 0):=dc []
  simp only [F60,SS,Nat.reduceBEq,reduceEqDiff,reduceAdd,reduceIte,reduceMul,oh,e1,e2,ln0,kj,hst,e3]
  refine hQ _ _ _ _ (.inr rfl) (by simp only [SS,Nat.reduceBEq]) (by simp only [SS,Nat.reduceBEq,reduceEqDiff,reduceAdd,reduceIte,reduceMul,Th,l3];rfl) ?_
  exact ⟨s3,by rw [hg];rfl⟩
 | some c =>
  rw [hg] at e2
  simp only at e2
  obtain ⟨h3,e3,l3,s3⟩:=key ⟨id,c.block,c.refs,(c.data.length:Int)⟩
  have e3:h2.sto h.next 0 [.int .u32 id,.int .i64 c.block,.int .i64 c.refs,.int .i64 (c.data.length:Int)]=some h3:=e3
  have hst:=lA (n:=4) (h:=h2) (b:=h.next) (o:=0) (cs:=[.int .u32 id,.int .i64 c.block,.int .i64 c.refs,.int .i64 (c.data.length:Int)]) rfl
  simp only [F60,SS,Nat.reduceBEq,reduceEqDiff,reduceAdd,reduceIte,reduceMul,oh,e1,e2,dc,kj,hst,e3]
  refine hQ _ _ _ _ (.inr rfl) (by simp only [SS,Nat.reduceBEq]) (by simp only [SS,Nat.reduceBEq,reduceEqDiff,reduceAdd,reduceIte,reduceMul,Th,l3];rfl) ?_
  exact ⟨s3,by rw [hg];rfl⟩
end
theorem zbL:keepF P 15 29=false:=by kernel_rfl
theorem zg3:aD P 15=29:=by kernel_rfl
structure JK (h0:ac) (l b1 b2 pb lb tb sp:Nat) (L R:List Ch) (next:Int) (F:Nat->Prop) (hi i:Nat) (h:ac):Prop where
 rc:Xg l 15 29 [14] nn nq (fun tm=>tm.gt 1=some (.ptr (some (b1,0)))/\tm.gt 2=some (.ptr (some (b2,0)))) h
 r1:∃ z,Rw h b1 [.ptr (some (pb,0))] z false
 r2:∃ z v bs,Rw h b2 [v] z false/\iF 50 4 h v i (JH ((R.take i).map pk)) bs/\∀ b,b∈bs->hi<=b
 p:mw h pb lb tb sp
 t:bc h tb L next F
 lt:b1<hi/\b2<hi/\l<hi
 hin:hi<=h.next
 ge:h0.next<=b1/\h0.next<=b2/\h0.next<=l
 ne:l≠b1/\l≠b2/\b1≠b2
 sm:Sm bm h0 h
 old:pb<h0.next/\∀ b,F b->b<h0.next
section
variable {h0 h:ac} {l b1 b2 pb lb tb sp:Nat} {L R:List Ch} {next:Int} {F:Nat->Prop} {hi i:Nat}
theorem J1 {m:Nat} (hm:5<=m) (hj:JK h0 l b1 b2 pb lb tb sp L R next F hi i h) (hrel:j8 L R) (hR:R.length<=1000) (hiR:i<R.length) :
  WC (C m (.loop l) [u (Ri R i).id] h) fun v h2=>v=.bool true/\JK h0 l b1 b2 pb lb tb sp L R next F hi (i+1) h2/\Sm (fun b=>b=b2∨b=l∨hi<=b) h h2:=by
 obtain ⟨m,rfl⟩:∃ m',m=m'+1:=⟨m - 1,by omega⟩
 obtain ⟨⟨b,hat,hst,hpd,hfn,hps,has,hbo,t29,t1,t2⟩,⟨z1,r1⟩,⟨z2,v,bs,r2,o,hbs⟩,hp,ht,⟨l1,l2,ll⟩,hin,ge,ne,sm,old⟩:=hj
 refine gU _ hat (nt:=29) (CA:=AQ) (CB:=AR) (tm':=b.tm.up (some (u (Ri R i).id)) 14) (by rw [hfn];exact zg3) (by rw [hps];rfl) (by rw [hfn];exact zbL) t29 (by rw [hfn,has];exact VS) (by rw [hfn,hbo];exact VT) fun QA hA=>?_
 rw [hfn] at hA ⊢
 simp only [F15,SS,Nat.reduceBEq,reduceEqDiff,reduceAdd,reduceIte,reduceMul]
 refine hA _ _ b hat hst fun QB hB=>?_
 obtain ⟨h3,e3,m3,n3,s3⟩:=dK (h:=h) (b:=l) (x:=.loop {b with st:=.busy })
 rw [e3]
 have c1:=r1.sm s3 (by omega) (fun e=>ne.1 e.symm)
 have c2:=r2.sm s3 (by omega) (fun e=>ne.2.1 e.symm)
 have o3:=o.sm s3 (fun b hb e=>by have:=hbs b hb;omega)
 have p3:=hp.sm s3 (by omega)
 have t3:=ht.sm s3 (fun b hb e=>by have:=old.2 b hb;omega)
 have k1:=c1.ld1 0
 have k2:=c2.ld1 0
 rw [List.getElem?_cons_zero] at k1 k2
 obtain ⟨zp,rp⟩:=p3.r
 have kp:=rp.ld1 1
 simp only [List.getElem?_cons_zero,List.getElem?_cons_succ] at kp
 have hgm:fC L (Ri R i).id=some (Ri R i):=gH hrel.nd ((hrel.mem _).1 (by rw [qM hiR];exact List.getElem_mem _))
 obtain ⟨_,h4,e4,s4,rfl⟩:=yC (n:=m) (by omega) t3 (Ri R i).id
 rw [hgm] at e4
 simp only at e4
 obtain ⟨h5,h6,e5,e6,ld6,s6,q6⟩:=zds h4 50 (pk (Ri R i))
 have hst4:=lA (n:=4) (h:=h5) (b:=h4.next) (o:=0) (cs:=(pk (Ri R i)).c) rfl
 have epk:Pc.c ⟨(Ri R i).id,(Ri R i).block,(Ri R i).refs,((Ri R i).data.length:Int)⟩=(pk (Ri R i)).c:=rfl
 rw [epk] at e4
 have s36:Sm bm h3 h6:=s4.trans s6 (fun _ _ h=>h) (fun _ _ h=>h)
 have n36:=s36.1
 have k26:=(c2.sm s36 (by omega) (fun h=>h)).ld1 0
 rw [List.getElem?_cons_zero] at k26
 have ebs:buildSliceN P 46 1 [0] [.agg (pk (Ri R i)).c]=some (.cells (az (pk (Ri R i)).c .leaf 0) [] 4 false,sliceTo 1):=K1 _ _ _ _
 obtain ⟨h7,e7,r7,n7,f7⟩:=Rw.alloc h6 (id:=h6.next) (n:=4) (vs:=(pk (Ri R i)).c) (z:=[]) (ro:=false) (Nat.le_refl _) rfl
 have s7:Sm bm h6 h7:=⟨by omega,fun c hc _=>f7 c (by omega)⟩
 have s37:Sm bm h3 h7:=s36.trans s7 (fun _ _ h=>h) (fun _ _ h=>h)
 have hs7:cI 4 (fun n=>n) (.slice (some (h6.next,0)) 1 1 none) h7=some ((pk (Ri R i)).c,1):=eS r7 (Nat.le_refl _)
 obtain ⟨v8,h8,bs8,e8,o8,s8,f8⟩:=jz (t:=46) (id:=h7.next) zhe zhb zga zhC rfl (o3.sm s37 (fun _ _ h=>h)) hs7 rfl rfl (eO (by omega) (by omega)) (Nat.le_refl _)
 have c28:=(c2.sm s37 (by omega) (fun h=>h)).sm s8 (by omega) (fun h=>by have:=hbs _ h;omega)
 obtain ⟨w1,w2,w3,w4⟩:=c28.st1 (o:=0) (v:=v8) (by simp) (nW o8)
 rw [show ([v]:List AV).set 0 v8=[v8] from rfl] at w2
 obtain ⟨h9,eh9⟩:∃ h9,h8.wr b2 0 [v8]=h9:=⟨_,rfl⟩
 rw [eh9] at w1 w2 w3 w4
 have n8:=s8.1
 have s39:Sm (fun b=>b=b2∨hi<=b) h3 h9:=(s37.trans s8 (H:=fun b=>b=b2∨hi<=b) (fun _ _ h=>h.elim) (fun c _ h=>.inr (hbs c h))).trans (show Sm (·= b2) h8 h9 from ⟨by omega,fun c _ hc=>w4 c hc⟩) (fun _ _ h=>h) (fun _ _ h=>.inl h)
 simp only [F15,SS,Nat.reduceBEq,reduceEqDiff,reduceAdd,reduceIte,reduceMul,t1,t2,k1,fY,kp,e4,oh,e5,hst4,e6,k26,ld6,ebs,e7,e8,w1]
 refine hB _ _ _ _ ((s39.2 l (by omega) (by omega)).trans m3) rfl ?_
 obtain ⟨h10,e10,m10,n10,s10⟩:=dK (h:=h9) (b:=l) (x:=.loop (oF .normal {b with st:=.busy }).2)
 rw [e10]
 have s310:Sm (fun b=>b=b2∨b=l∨hi<=b) h h10:=(s3.trans s39 (H:=fun b=>b=b2∨b=l∨hi<=b) (fun _ _ h=>.inr (.inl h)) (fun _ _ h=>h.imp_right .inr)).trans s10 (fun _ _ h=>h) (fun _ _ h=>.inr (.inl h))
 have hn:=s310.1
 have hn0:=sm.1
 have hb8:∀ b,b∈bs8->hi<=b:=fun b hb=>by
  rcases f8 b hb with h | h
  ·exact hbs b h
  ·omega
 refine ⟨rfl,⟨⟨_,m10,rfl,rfl,hfn,hps,has,hbo,t29,t1,t2⟩,⟨z1,r1.sm s310 (by omega) (by omega)⟩,⟨z2,v8,bs8,w2.sm s10 (by omega) (fun e=>ne.2.1 e.symm),?_,hb8⟩,hp.sm s310 (by omega),ht.sm s310 (fun b hb e=>by have:=old.2 b hb;omega),⟨l1,l2,ll⟩,by omega,ge,ne,sm.trans s310 (fun _ _ h=>h) (fun c hc e=>by omega),old⟩,s310⟩
 have hcs:JH ((R.take i).map pk)++(pk (Ri R i)).c=JH ((R.take (i+1)).map pk):=by
  rw [List.take_succ_eq_append_getElem hiR,List.map_append,UE,← qM hiR]
  congr 1
 rw [← hcs]
 exact (o8.same (h':=h9) (fun b hb=>w4 b (fun e=>by have:=hb8 b hb;omega)) (by omega)).sm s10 (fun b hb e=>by have:=hb8 b hb;omega)
theorem mL {n:Nat} (hn:7<=n) (hp:mw h pb lb tb sp) (ht:bc h tb L next F) (hrel:j8 L R) (hlen:L.length<=1000) :
  WC (C n (.fn 15) [.ptr (some (pb,0))] h) fun r h'=>∃ bs,iF 50 4 h' r R.length (JH (R.map pk)) bs/\(∀ b,b∈bs->h.next<=b)/\Sm bm h h':=by
 have hrl:=hrel.len
 have ltp:=hp.lt
 have ltF:=ht.flt
 obtain ⟨m,rfl⟩:∃ m,n=m+1:=⟨n - 1,by omega⟩
 refine ak _ zgk rfl (by simp [UQ]) fun QQ hQ=>?_
 simp only [UQ] at hQ
 simp only [UQ,ah,ai,Nat.zero_add,reduceAdd]
 obtain ⟨h1,e1,r1,n1,f1⟩:=Rw.alloc h (id:=h.next) (n:=1) (vs:=[.ptr (some (pb,0))]) (z:=[]) (ro:=false) (Nat.le_refl _) rfl
 obtain ⟨h2,e2,r2,n2,f2⟩:=Rw.alloc h1 (id:=h1.next) (n:=1) (vs:=[.slice none 0 0 none]) (z:=ay 46 true) (ro:=false) (Nat.le_refl _) rfl
 have s2:Sm bm h h2:=⟨by omega,fun c hc _=>by rw [f2 c (by omega),f1 c (by omega)]⟩
 have r1:=r1.same (f2 h.next (by omega))
 have k1:=r1.ld1 0
 rw [List.getElem?_cons_zero] at k1
 obtain ⟨_,h3,e3,e0,rfl⟩:=BN (n:=m) (by omega) (hp.sm s2 (fun h=>h))
 subst e0
 obtain ⟨zp,rp⟩:=(hp.sm s2 (fun h=>h)).r
 have kp:=rp.ld1 1
 simp only [List.getElem?_cons_zero,List.getElem?_cons_succ] at kp
 obtain ⟨_,h4,e4,bx,rfl,rx,lx,s4,gx⟩:=vi (n:=m) (by omega) (h:=h3) (tb:=tb)
 simp only [F15,SS,Nat.reduceBEq,reduceEqDiff,reduceAdd,reduceIte,reduceMul,hO,e1,WW,e2,k1,e3,fY,kp,e4]
 refine fW (i:=112) (cap:=[.ptr (some (bx,0))]) (by simp only [SS,Nat.reduceBEq]) ?_
 have hid:h4.next<=h4.next:=Nat.le_refl _
 obtain ⟨tm0,htm,q1,q2,q29⟩:∃ tm:Tr AV,tm=(((((Tr.leaf:Tr AV).up (some (.ptr (some (pb,0)))) 0).up (some (.ptr (some (h1.next,0)))) 2).up (some (.ptr (some (h.next,0)))) 1).up (some (.bool false)) 8).up (some (.func (.func 112) [] [.ptr (some (bx,0))])) 13/\tm.gt 1=some (.ptr (some (h.next,0)))/\tm.gt 2=some (.ptr (some (h1.next,0)))/\tm.gt 29=none:=⟨_,rfl,by simp only [SS,Nat.reduceBEq],by simp only [SS,Nat.reduceBEq],by simp only [SS,Nat.reduceBEq]⟩
 rw [← htm]
 obtain ⟨h5,eh5⟩:∃ h5,h4.new h4.next (.loop ⟨.ready,none,15,tm0.up none 29,[14],nn,nq⟩)=h5:=⟨_,rfl⟩
 have g5:h5.bs.gt h4.next=some (.loop ⟨.ready,none,15,tm0.up none 29,[14],nn,nq⟩):=by rw [← eh5,bX hid,if_pos rfl]
 have n5:h5.next=h4.next+1:=by rw [← eh5,cM hid]
 have s5:Sm bm h4 h5:=⟨by omega,fun c hc _=>by rw [← eh5,bX hid,if_neg (by omega)]⟩
 rw [eh5]
 have n4:=s4.1
 have q3:=s2.1
 have s35:Sm bm h3 h5:=s4.trans s5 (fun _ _ h=>h) (fun _ _ h=>h)
 have s05:Sm bm h h5:=s2.trans s35 (fun _ _ h=>h) (fun _ _ h=>h)
 have rec0:∀ h6,Sm bm h5 h6->JK h h4.next h.next h1.next pb lb tb sp L R next F h6.next 0 h6:=fun h6 s6=>by
  have n6:=s6.1
  refine ⟨⟨_,(s6.2 _ (by omega) (fun h=>h)).trans g5,rfl,rfl,rfl,rfl,rfl,rfl,by simp only [SS,Nat.reduceBEq],by simp only [SS,Nat.reduceBEq,reduceEqDiff,reduceAdd,reduceIte,reduceMul,q1],by simp only [SS,Nat.reduceBEq,reduceEqDiff,reduceAdd,reduceIte,reduceMul,q2]⟩,⟨_,(r1.sm s35 (by omega) (fun h=>h)).sm s6 (by omega) (fun h=>h)⟩,⟨_,_,[],(r2.sm s35 (by omega) (fun h=>h)).sm s6 (by omega) (fun h=>h),iF.nil,(fun _ h=>by cases h)⟩,(hp.sm s05 (fun h=>h)).sm s6 (fun h=>h),(ht.sm s05 (fun _ _ h=>h)).sm s6 (fun _ _ h=>h),by omega,Nat.le_refl _,by omega,by omega,s05.trans s6 (fun _ _ h=>h) (fun _ _ h=>h),⟨ltp,ltF⟩⟩
 obtain ⟨v,h6,e6,hv⟩:=mZ (n:=m) (by omega) (ht.sm s05 (fun _ _ h=>h)) hrel hlen (bx:=bx) (l:=h4.next) (rx.sm s5 lx (fun h=>h)) (fun hi i h'=>JK h h4.next h.next h1.next pb lb tb sp L R next F hi i h') (fun _=>False) rec0
  (fun hi i h' hlt hj _=>by
   obtain ⟨v,h2,e,hv,hj',s⟩:=J1 (m:=m - 1) (by omega) hj hrel (by omega) hlt
   refine ⟨v,h2,e,.inl ⟨hv,hj'⟩,fun b hb1 hb2=>s.2 b (by have:=hj.hin;omega) (by omega)⟩)
 refine ⟨v,h6,e6,?_⟩
 rcases hv with ⟨hi,hj⟩ | hf
 ·obtain ⟨⟨b,hat,hst,hpd,_⟩,_,⟨z2,w,bs,rw2,o,hbs⟩,_,_,⟨_,l2,ll⟩,hin,_,ne,sm,_⟩:=hj
  refine ⟨b,hat,by rw [hst];decide,?_⟩
  rw [hpd]
  obtain ⟨h7,e7,m7,n7,s7⟩:=dK (h:=h6) (b:=h4.next) (x:=.loop ⟨.exhausted,none,b.fn,b.tm,b.params,b.assign,b.body⟩)
  show ret _ _ _ _ _ .normal _ _ (h6.put h4.next (.loop ⟨.exhausted,none,b.fn,b.tm,b.params,b.assign,b.body⟩)) _
  rw [e7]
  have rw7:=rw2.sm s7 (by omega) (fun e=>ne.2.1 e.symm)
  have k7:=rw7.ld1 0
  rw [List.getElem?_cons_zero] at k7
  have o7:=o.sm s7 (fun b hb e=>by have:=hbs b hb;omega)
  obtain ⟨w1,w2,w3,w4⟩:=rw7.st1 (o:=0) (v:=w) (by simp) (nW o7)
  rw [show ([w]:List AV).set 0 w=[w] from rfl] at w2
  have k8:=w2.ld1 0
  rw [List.getElem?_cons_zero] at k8
  subst htm
  simp only [F15,SS,Nat.reduceBEq,reduceEqDiff,reduceAdd,reduceIte,reduceMul,k7,w1]
  refine hQ _ _ _ _ (.inr rfl) (by simp only [SS,Nat.reduceBEq]) (by simp only [SS,Nat.reduceBEq,reduceEqDiff,reduceAdd,reduceIte,reduceMul,zcD,k8];rfl) ?_
  rw [List.take_length] at o7
  have s08:Sm bm h h7:=sm.trans s7 (fun _ _ h=>h) (fun c hc e=>by omega)
  exact ⟨bs,o7.same (fun b hb=>w4 b (fun e=>by have:=hbs b hb;omega)) (by omega),fun b hb=>by have:=hbs b hb;omega,⟨by have:=s08.1;omega,fun c hc hF=>(w4 c (by omega)).trans (s08.2 c hc hF)⟩⟩
 ·exact hf.elim
end
end Go.Proofs.YtboobbebilegnaaGreat
namespace Go.Proofs.YtboobbebilegnaaGreat
open Go.Am
set_option maxRecDepth 10000
theorem VH {e:Nat} {h:ac} {v:AV} {Cs:List Pc} {bs:List Nat} (ho:iF e 4 h v Cs.length (JH Cs) bs):Pcs h v Cs:=zdT ho.els
section
variable {h h':ac} {rp rl rt rd:Nat} {R:List Ch} {next num:Int} {bs b1 b2:List Nat} {chr:AV} {acts:Nat} {cut:Bool} {Fi:List (List Nat)} {E:List Fe}
end
end Go.Proofs.YtboobbebilegnaaGreat
namespace Go.Proofs.YtboobbebilegnaaGreat
open Go.Am
set_option maxRecDepth 10000
section
variable {h h':ac} {pb lb db sb tb sp wb rl rd rp rt:Nat} {D:List Sl} {cut num:Int} {chv chr:AV} {acts actr:Nat} {L R:List Ch} {next:Int} {F:Nat->Prop} {bs b1 b2:List Nat} {Fi:List (List Nat)} {E:List Fe}
end
end Go.Proofs.YtboobbebilegnaaGreat
namespace Go.Proofs.YtboobbebilegnaaGreat
open Go.Am
set_option maxRecDepth 10000
def Bi (B:List (List Nat)) (i:Nat):List Nat:=B.getD i []
def qO (h:ac) (v:AV) (B:List (List Nat)):Prop:=mX h v B.length 1 (B.map .str)
theorem qO.at {h:ac} {a:Option (Nat×Nat)} {c:Nat} {g:Option Nat} {B:List (List Nat)} (hv:qO h (.slice a B.length c g) B) {i:Nat} (hi:i<B.length):∃ b o,a=some (b,o)/\h.ld1 b (o+i)=some (.str (Bi B i)):=by
 obtain ⟨b,o,rfl,hc⟩:=mX.cell (hv:mX h _ B.length 1 (B.map .str)) (by omega)
 refine ⟨b,o,rfl,?_⟩
 rw [hc i (by omega),List.getElem?_map,List.getElem?_eq_getElem hi,Option.map_some]
 unfold Bi
 rw [List.getD_eq_getElem?_getD,List.getElem?_eq_getElem hi];rfl
theorem qO.sl {h:ac} {v:AV} {B:List (List Nat)} (hi:qO h v B):∃ a c g,v=.slice a B.length c g:=by
 obtain ⟨_,a,c,g,e,_⟩:=hi
 exact ⟨a,c,g,e⟩
end Go.Proofs.YtboobbebilegnaaGreat
namespace Go.Proofs.YtboobbebilegnaaGreat
open Go.Am
set_option maxRecDepth 10000
structure jd (h:ac) (qb pb tb sp:Nat) (over:Bool):Prop where
 r:∃ z,Rw h qb [.ptr (some (pb,0)),.ptr (some (tb,0)),.ptr (some (sp,0)),.bool over] z false
 lt:qb<h.next
section
variable {h h':ac} {qb pb tb sp:Nat} {over:Bool}
theorem jd.sm {F:Nat->Prop} (hq:jd h qb pb tb sp over) (hs:Sm F h h') (h1:¬F qb):jd h' qb pb tb sp over:=by
 obtain ⟨⟨z,r⟩,lt⟩:=hq
 have:=hs.1
 exact ⟨⟨z,r.sm hs lt h1⟩,by omega⟩
theorem SK {n:Nat} (hn:1<=n) (hq:jd h qb pb tb sp over):WC (C n (.fn 56) [.ptr (some (qb,0))] h) fun r h'=>h'=h/\r=.int .i64 (if over then 17 else 0):=by
 obtain ⟨z,r⟩:=hq.r
 have l0:=r.ld1 0
 have l3:=r.ld1 3
 simp only [List.getElem?_cons_zero,List.getElem?_cons_succ] at l0 l3
 obtain ⟨m,rfl⟩:∃ m,n=m+1:=⟨n - 1,by omega⟩
 refine ak _ zgA rfl (by simp [U6]) fun QQ hQ=>?_
 simp only [U6] at hQ
 simp only [U6,ah,ai,Nat.zero_add,reduceAdd]
 cases over with
 | true =>
  simp only [F56,SS,Nat.reduceBEq,reduceEqDiff,reduceAdd,reduceIte,reduceMul,Jg,Option.isNone_some,fZ,l0,xD,ma,l3]
  refine hQ _ _ _ _ (.inr rfl) (by simp only [SS,Nat.reduceBEq]) (by simp only [SS,Nat.reduceBEq,reduceEqDiff,reduceAdd,reduceIte,reduceMul];rfl) ?_
  exact ⟨rfl,rfl⟩
 | false =>
  simp only [F56,SS,Nat.reduceBEq,reduceEqDiff,reduceAdd,reduceIte,reduceMul,Jg,Option.isNone_some,fZ,l0,xD,ma,l3]
  refine hQ _ _ _ _ (.inr rfl) (by simp only [SS,Nat.reduceBEq]) (by simp only [SS,Nat.reduceBEq,reduceEqDiff,reduceAdd,reduceIte,reduceMul];rfl) ?_
  exact ⟨rfl,rfl⟩
theorem w7:nQ P 38=am:=by kernel_rfl
theorem Cf {n:Nat} (hn:3<=n) (hq:jd h qb pb tb sp false) (f:Nat) (caps:List AV) (Qb:Int->ac->Prop) (G:Nat->Prop) (hG:∀ b,G b->b<h.next)
  (hbody:∀ h1,Sm bm h h1->h.next+2<=h1.next->WC (C (n - 1) (.fn f) caps h1) fun r h2=>∃ e:Int,r=.int .i64 e/\Sm G h1 h2/\jd h2 qb pb tb sp false/\Qb e h2) :
  WC (C n (.fn 62) [.ptr (some (qb,0)),.func (.func f) [] caps] h) fun r h'=>∃ (e:Int) (h2:ac),r=.int .i64 e/\Qb e h2/\Sm (fun b=>b=qb∨b=h.next+1) h2 h'/\jd h' qb pb tb sp (!decide (e=0))/\Sm (fun b=>G b∨b=qb) h h'/\h.next+2<=h2.next:=by
 have ql:=hq.lt
 obtain ⟨m,rfl⟩:∃ m,n=m+1:=⟨n - 1,by omega⟩
 rw [Nat.add_sub_cancel] at hbody
 refine R4 _ zgG rfl (by simp [Vc]) fun QQ hQ=>?_
 simp only [Vc] at hQ
 simp only [Vc,ah,ai,Nat.zero_add,reduceAdd]
 obtain ⟨h1,e1,r1,n1,f1⟩:=Rw.alloc h (id:=h.next) (n:=1) (vs:=[.ptr (some (qb,0))]) (z:=[]) (ro:=false) (Nat.le_refl _) rfl
 obtain ⟨h2,e2,r2,n2,f2⟩:=Rw.alloc h1 (id:=h1.next) (n:=1) (vs:=[.int .i64 0]) (z:=ay 38 true) (ro:=false) (Nat.le_refl _) rfl
 have s2:Sm bm h h2:=⟨by omega,fun c hc _=>by rw [f2 c (by omega),f1 c (by omega)]⟩
 have r1:=r1.same (f2 h.next (by omega))
 have k1:=r1.ld1 0
 rw [List.getElem?_cons_zero] at k1
 obtain ⟨_,h3,e3,e0,rfl⟩:=SK (n:=m) (by omega) (hq.sm s2 (fun h=>h))
 subst e0
 have e3:C m (.fn 56) [.ptr (some (qb,0))] h3=some (.int .i64 0,h3):=e3
 obtain ⟨_,h4,e4,e,rfl,s4,hq4,hb⟩:=hbody h3 s2 (by omega)
 have n4:=s4.1
 have r14:=r1.sm s4 (by omega) (fun hg=>by have:=hG _ hg;omega)
 have r24:=r2.sm s4 (by omega) (fun hg=>by have:=hG _ hg;omega)
 obtain ⟨w1,w2,w3,w4⟩:=r24.st1 (o:=0) (v:=.int .i64 e) (by simp) rfl
 rw [show ([AV.int .i64 0]:List AV).set 0 (.int .i64 e)=[.int .i64 e] from rfl] at w2
 obtain ⟨h5,eh5⟩:∃ h5,h4.wr h1.next 0 [.int .i64 e]=h5:=⟨_,rfl⟩
 rw [eh5] at w1 w2 w3 w4
 have s5:Sm (·= h1.next) h4 h5:=⟨by omega,fun c _ hc=>w4 c hc⟩
 have r15:=r14.sm s5 (by omega) (by omega)
 have hq5:=hq4.sm s5 (by omega)
 simp only [F62,SS,Nat.reduceBEq,reduceEqDiff,reduceAdd,reduceIte,reduceMul,hO,e1,xC,e2,k1,e3,zeZ,zeS rfl,Vr,Kj,e4,w1]
 obtain ⟨h6,e6,hq6,s6⟩:∃ h',pB P (keepF P) 100000 (C m) 119 [.ptr (some (h.next,0)),.ptr (some (h1.next,0))] h5=some h'/\(jd h' qb pb tb sp (!decide (e=0))/\Sm (·= qb) h5 h'):=by
  refine R3 (fun h'=>jd h' qb pb tb sp (!decide (e=0))/\Sm (·= qb) h5 h') zd6 rfl (by simp [If]) fun Q' hQ'=>?_
  simp only [If] at hQ'
  simp only [If,ah,ai,Nat.zero_add,reduceAdd]
  obtain ⟨g,eg,sg,bg,ng⟩:=Sm.bump h5 12
  have a1:=(r15.same (h':=g) (by rw [bg])).ld1 0
  have a2:=(w2.same (h':=g) (by rw [bg])).ld1 0
  rw [List.getElem?_cons_zero] at a1 a2
  have hqg:=hq5.sm sg (fun h=>h)
  obtain ⟨z,rq⟩:=hqg.r
  have a3:=rq.ld1 3
  simp only [List.getElem?_cons_zero,List.getElem?_cons_succ] at a3
  obtain ⟨x1,x2,x3,x4⟩:=rq.st1 (o:=3) (v:=.bool (!decide (e=0))) (by simp) rfl
  simp only [List.set_cons_succ,List.set_cons_zero] at x2
  simp only [zfQ,SS,Nat.reduceBEq,reduceEqDiff,reduceAdd,reduceIte,reduceMul,eg,a1,a2,ma,a3,x1]
  refine hQ' _ _ _ _ (.inl rfl) (by simp only [SS,Nat.reduceBEq,reduceEqDiff,reduceAdd,reduceIte,reduceMul];rfl) ⟨⟨⟨z,x2⟩,by have:=hqg.lt;omega⟩,sg.trans (show Sm (·= qb) g (g.wr qb 3 [.bool (!decide (e=0))]) from ⟨by omega,fun c _ hc=>x4 c hc⟩) (fun _ _ h=>h.elim) (fun _ _ h=>h)⟩
 have r26:=w2.sm s6 (by omega) (by omega)
 have k6:=r26.ld1 0
 rw [List.getElem?_cons_zero] at k6
 refine hQ _ _ _ h6 _ (.inr rfl) (J2 (by simp only [SS,Nat.reduceBEq]) e6) (by simp only [SS,Nat.reduceBEq,reduceEqDiff,reduceAdd,reduceIte,reduceMul,w7,k6];rfl) ?_
 have s46:Sm (fun b=>b=qb∨b=h.next+1) h4 h6:=s5.trans s6 (fun c _ h=>.inr (by omega)) (fun _ _ h=>.inl h)
 exact ⟨e,h4,rfl,hb,s46,hq6,(s2.trans s4 (H:=fun b=>G b∨b=qb) (fun _ _ h=>h.elim) (fun _ _ h=>.inl h)).trans s46 (fun _ _ h=>h) (fun c hc h=>by rcases h with h | h;exact .inr h;omega),by omega⟩
end
end Go.Proofs.YtboobbebilegnaaGreat
namespace Go.Proofs.YtboobbebilegnaaGreat
open Go.Am
set_option maxRecDepth 10000
theorem zbM:keepF P 54 29=false:=by kernel_rfl
theorem zg4:aD P 54=29:=by kernel_rfl
theorem td {α β : Type} {f:α->β} {R:List α} (hn:(R.map f).Nodup) {i:Nat} (hi:i<R.length):∀ d,d∈R.take i->f d≠f R[i]:=by
 have h1:((R.take (i+1)).map f).Nodup:=hn.sublist ((List.take_sublist _ _).map f)
 rw [List.take_succ_eq_append_getElem hi,List.map_append,List.nodup_append] at h1
 intro d hd e
 exact h1.2.2 _ (List.mem_map.2 ⟨d,hd,rfl⟩) (f R[i]) (List.mem_map.2 ⟨R[i],List.mem_singleton.2 rfl,rfl⟩) e
theorem zaG {L:List Ch} {id:Int} (h:∀ c,c∈L->c.id≠id):fC L id=none:=by
 unfold fC
 rw [List.find?_eq_none]
 intro c hc;simpa using h c hc
theorem zaE {L:List Ch} {s:List Nat} (h:∀ c,c∈L->c.data≠s):pE L s=none:=by
 unfold pE
 rw [List.find?_eq_none]
 intro c hc;simpa using h c hc
structure zc9 (l b1 b3:Nat) (h:ac) (b:fE):Prop where
 at':h.bs.gt l=some (.loop b)
 st:b.st=.ready
 pd:b.pending=none
 fn:b.fn=54
 ps:b.params=[11]
 asg:b.assign=ns
 bo:b.body=nu
 t1:b.tm.gt 1=some (.ptr (some (b1,0)))
 t3:b.tm.gt 3=some (.ptr (some (b3,0)))
 t29:b.tm.gt 29=none
structure J41 (h0:ac) (l b1 b3 tb ctb lo hi:Nat) (L R:List Ch) (next:Int) (F:Nat->Prop) (i:Nat) (h:ac):Prop where
 rc:∃ b,zc9 l b1 b3 h b
 r1:∃ z,Rw h b1 [.ptr (some (tb,0))] z false
 r3:∃ z,Rw h b3 [.ptr (some (ctb,0))] z false
 t:bc h tb L next F
 c:∃ nx Fc,bc h ctb (R.take i) nx Fc/\∀ b,Fc b->h0.next<=b/\b≠b1/\b≠b3/\b≠l/\(b<lo∨hi<=b)
 sm:Sm bm h0 h
 lt:b1<h.next/\b3<h.next/\l<h.next/\hi<=h.next
 ge:h0.next<=b1/\h0.next<=b3/\h0.next<=l
 ne:l≠b1/\l≠b3
 fb:∀ b,F b->b<h0.next
section
variable {h0 h:ac} {l b1 b3 tb ctb lo hi:Nat} {L R:List Ch} {next:Int} {F:Nat->Prop} {i:Nat}
theorem Cb {m:Nat} (hm:6<=m) (hrel:j8 L R) (hL:L.length<=1000) (hj:J41 h0 l b1 b3 tb ctb lo hi L R next F i h) (hi':i<R.length) (hlo:l<lo) :
  WC (C m (.loop l) [u (Ri R i).id] h) fun v h2=>v=.bool true/\J41 h0 l b1 b3 tb ctb lo hi L R next F (i+1) h2/\∀ b,lo<=b->b<hi->h2.bs.gt b=h.bs.gt b:=by
 have hrl:=hrel.len
 obtain ⟨m,rfl⟩:∃ m',m=m'+1:=⟨m - 1,by omega⟩
 obtain ⟨⟨b,hat,hst,hpd,hfn,hps,has,hbo,t1,t3,t29⟩,⟨z1,r1⟩,⟨z3,r3⟩,ht,⟨nx,Fc,hc,hfc⟩,sm,⟨l1,l3,ll,lhi⟩,ge,ne,fb⟩:=hj
 refine gU _ hat (nt:=29) (CA:=Bf) (CB:=Bg) (tm':=b.tm.up (some (u (Ri R i).id)) 11) (by rw [hfn];exact zg4) (by rw [hps];rfl) (by rw [hfn];exact zbM) t29 (by rw [hfn,has];exact VU) (by rw [hfn,hbo];exact VV) fun QA hA=>?_
 rw [hfn] at hA ⊢
 simp only [F54,SS,Nat.reduceBEq,reduceEqDiff,reduceAdd,reduceIte,reduceMul]
 refine hA _ _ b hat hst fun QB hB=>?_
 obtain ⟨h3,e3,m3,n3,s3⟩:=dK (h:=h) (b:=l) (x:=.loop {b with st:=.busy })
 rw [e3]
 obtain ⟨h4,e4,s4,b4',n4⟩:=Sm.bump h3 9
 have sall:Sm (·= l) h h4:=s3.trans s4 (fun _ _ h=>h) (fun _ _ h=>h.elim)
 have hq0:=sm.1
 have r14:=r1.sm sall l1 (fun e=>ne.1 e.symm)
 have r34:=r3.sm sall l3 (fun e=>ne.2 e.symm)
 have ht4:=ht.sm sall (fun b hb e=>by have:=fb b hb;omega)
 have hc4:=hc.sm sall (fun b hb e=>(hfc b hb).2.2.2.1 e)
 have hla:h4.bs.gt l=some (.loop {b with st:=.busy }):=by rw [b4'];exact m3
 obtain ⟨mb,x,es,k,B,X,u1,u2,u3,_,u5,_⟩:=ht4.ex
 have hge:R[i]=Ri R i:=(qM hi').symm
 have hcL:Ri R i∈L:=(hrel.mem _).1 (by rw [← hge];exact List.getElem_mem hi')
 have hg:=gH hrel.nd hcL
 have hch:=u5.ch _ hcL
 have hnx:=u5.next
 have hid:fC (R.take i) (Ri R i).id=none:=zaG fun d hd=>by have:=td hrel.ndR hi' d hd;rw [hge] at this;exact this
 have hdt:pE (R.take i) (Ri R i).data=none:=zaE fun d hd=>by have:=td hrel.ddR hi' d hd;rw [hge] at this;exact this
 obtain ⟨_,h5,ec,rfl,F',hc5,s5,f5⟩:=Jd (n:=m) (by omega) hc4 (Ri R i) hch.1 (by omega) hid hdt hch.2.2.1 hch.2.2.2.1 hch.2.2.2.2.1 hch.2.2.2.2.2.1 hch.2.2.2.2.2.2 (by rw [List.length_take];omega)
 have hlk:=zh u2 u3.e hg
 have k1:=r14.ld1 0
 have k3:=r34.ld1 0
 rw [List.getElem?_cons_zero] at k1 k3
 have hFl:¬Fc l:=fun h=>(hfc l h).2.2.2.1 rfl
 simp only [F54,SS,Nat.reduceBEq,reduceEqDiff,reduceAdd,reduceIte,reduceMul,t1,t3,e4,k1,k3,cQ,u1.ld1,hlk,ec]
 have hla5:=(s5.2 l (by have:=sall.1;omega) hFl).trans hla
 refine hB _ _ _ _ hla5 rfl ?_
 obtain ⟨h6,e6,m6,n6,s6⟩:=dK (h:=h5) (b:=l) (x:=.loop (oF .normal {b with st:=.busy }).2)
 rw [e6]
 have s46:Sm (fun c=>Fc c∨c=l) h4 h6:=s5.trans s6 (fun _ _ h=>.inl h) (fun _ _ h=>.inr h)
 have s06:Sm (fun c=>Fc c∨c=l) h h6:=sall.trans s46 (fun _ _ h=>.inr h) (fun _ _ h=>h)
 have n06:=s06.1
 have n04:=sall.1
 have hF'l:∀ b,F' b->b≠l:=fun b hb e=>by
  rcases f5 b hb with h | h
  ·exact (hfc b h).2.2.2.1 e
  ·omega
 have hno:∀ b,b<h0.next->¬(Fc b∨b=l):=by
  rintro b hb (h | h)
  ·have:=(hfc b h).1;omega
  ·omega
 refine ⟨rfl,⟨⟨_,m6,rfl,rfl,hfn,hps,has,hbo,t1,t3,t29⟩,⟨z1,r1.sm s06 l1 (fun h=>h.elim (fun h=>(hfc _ h).2.1 rfl) (fun h=>ne.1 h.symm))⟩,⟨z3,r3.sm s06 l3 (fun h=>h.elim (fun h=>(hfc _ h).2.2.1 rfl) (fun h=>ne.2 h.symm))⟩,
  ht.sm s06 (fun b hb=>hno b (fb b hb)),⟨max nx ((Ri R i).id+1),F',?_,fun b hb=>?_⟩,sm.trans s06 (fun _ _ h=>h) (fun c hc h=>(hno c hc h).elim),⟨by omega,by omega,by omega,by omega⟩,ge,ne,fb⟩,fun b h7 h8=>s06.2 b (by omega) (fun h=>?_)⟩
 ·rw [List.take_succ_eq_append_getElem hi',hge]
  exact hc5.sm s6 (fun b hb e=>hF'l b hb e)
 ·rcases f5 b hb with h | h
  ·exact hfc b h
  ·exact ⟨by omega,by omega,by omega,by omega,.inr (by omega)⟩
 ·rcases h with h | h
  ·have:=(hfc b h).2.2.2.2;omega
  ·omega
end
end Go.Proofs.YtboobbebilegnaaGreat
namespace Go.Proofs.YtboobbebilegnaaGreat
open Go.Am
set_option maxRecDepth 10000
section
variable {h:ac} {tb rb:Nat} {L R:List Ch} {next nx:Int} {F:Nat->Prop} {bs:List Nat}
theorem bc.st2 (ht:bc h tb L nx F) {x:Int} (hle:∀ c,c∈L->c.id<x) (hx:1<=x/\x<=4294967295):∃ h',h.st1 tb 2 (u x)=some h'/\bc h' tb L x F/\Sm (·= tb) h h':=by
 have hlt:=ht.lt
 obtain ⟨mb,xx,es,k,B,X,t1,t2,t3,t4,t5,hmb,hne,hx1,hx2,rfl⟩:=ht.ex
 obtain ⟨w1,w2,w3,w4⟩:=t1.st1 (o:=2) (v:=u x) (by simp) rfl
 rw [show ([.map (some mb),.ptr (some (xx,0)),u nx]:List AV).set 2 (u x)=[.map (some mb),.ptr (some (xx,0)),u x] from rfl] at w2
 have hs:Sm (·= tb) h (h.wr tb 2 [u x]):=⟨by omega,fun c _ hc=>w4 c hc⟩
 refine ⟨_,w1,⟨⟨mb,xx,es,k,B,X,w2,(w4 mb (fun e=>hne e.symm)).trans t2,t3,t4.sm hs (fun b hb e=>hx1 (e▸hb)),⟨t5.ids,t5.datas,fun c hc=>?_,hx,t5.inB,t5.ofB,t5.ndB,t5.len⟩,by omega,hne,hx1,hx2,rfl⟩,by omega⟩,hs⟩
 have:=t5.ch c hc
 exact ⟨this.1,hle c hc,this.2.2⟩
theorem UC {n:Nat} (hn:8<=n) (ht:bc h tb L next F) (hrel:j8 L R) (hlen:L.length<=900) :
  WC (C n (.fn 54) [.ptr (some (tb,0))] h) fun r h'=>∃ ctb F',r=.ptr (some (ctb,0))/\bc h' ctb R next F'/\Sm bm h h'/\∀ b,F' b->h.next<=b:=by
 have hrl:=hrel.len
 have hflt:=ht.flt
 have htb:F tb:=by obtain ⟨mb,xx,es,k,B,X,_,_,_,_,_,_,_,_,_,rfl⟩:=ht.ex;exact .inl rfl
 have htl:=ht.lt
 obtain ⟨m,rfl⟩:∃ m,n=m+1:=⟨n - 1,by omega⟩
 refine ak _ zgy rfl (by simp [U4]) fun QQ hQ=>?_
 simp only [U4] at hQ
 simp only [U4,ah,ai,Nat.zero_add,reduceAdd]
 obtain ⟨h1,e1,r1,n1,g1⟩:=Rw.alloc h (id:=h.next) (n:=1) (vs:=[.ptr (some (tb,0))]) (z:=[]) (ro:=false) (Nat.le_refl _) rfl
 have s01:Sm bm h h1:=⟨by omega,fun c hc _=>g1 c (by omega)⟩
 have ht1:=ht.sm s01 (fun _ _ h=>h)
 obtain ⟨_,h1',ea,e0,rfl⟩:=pa (n:=m) (by omega) ht1
 subst e0
 obtain ⟨_,h2,eb,ctb,F0,rfl,hc2,s12,hF0⟩:=Jc (n:=m) (by omega) (h:=h1')
 obtain ⟨h3,e3,r3,n3,g3⟩:=Rw.alloc h2 (id:=h2.next) (n:=1) (vs:=[.ptr none]) (z:=ay 94 true) (ro:=false) (Nat.le_refl _) rfl
 obtain ⟨w1,w2,w3,w4⟩:=r3.st1 (o:=0) (v:=.ptr (some (ctb,0))) (by simp) rfl
 rw [show ([.ptr none]:List AV).set 0 (.ptr (some (ctb,0)))=[.ptr (some (ctb,0))] from rfl] at w2
 obtain ⟨h4,e4⟩:∃ h4,h3.wr h2.next 0 [.ptr (some (ctb,0))]=h4:=⟨_,rfl⟩
 rw [e4] at w1 w2 w3 w4
 have s24:Sm bm h2 h4:=⟨by omega,fun c hc _=>by rw [w4 c (by omega),g3 c (by omega)]⟩
 have q12:=s12.1
 have r1_4:=(r1.sm s12 (by omega) (fun h=>h)).sm s24 (by omega) (fun h=>h)
 have l1_0:=r1.ld1 0
 have l1_4:=r1_4.ld1 0
 rw [List.getElem?_cons_zero] at l1_0 l1_4
 obtain ⟨_,h5,ec,bx,rfl,rx,lx,s45,gx⟩:=vi (n:=m) (by omega) (h:=h4) (tb:=tb)
 have s04:Sm bm h h4:=(s01.trans s12 (fun _ _ h=>h) (fun _ _ h=>h)).trans s24 (fun _ _ h=>h) (fun _ _ h=>h)
 have s05:Sm bm h h5:=s04.trans s45 (fun _ _ h=>h) (fun _ _ h=>h)
 have q45:=s45.1
 have hF0lt:=hc2.flt
 have key:∀ tm,tm.gt 1=some (.ptr (some (h.next,0)))->tm.gt 3=some (.ptr (some (h2.next,0)))->tm.gt 10=some (.func (.func 112) [] [.ptr (some (bx,0))])->tm.gt 29=none->run (C m) 100000 29 54 none Qt [.blk 0,.seq (.seq vY (.seq vZ .ret))] tm h5 QQ:=by
  intro tm t1 t3 t10 t29
  refine fW (t:=10) (i:=112) (ps:=[11]) (A:=ns) (B:=nu) t10 ?_
  generalize hlb:fE.mk .ready none 54 (tm.up none 29) [11] ns nu=lr
  have b1:lr.tm.gt 1=some (.ptr (some (h.next,0))):=by rw [← hlb];show (tm.up none 29).gt 1=_;simp only [SS,Nat.reduceBEq,reduceEqDiff,reduceAdd,reduceIte,reduceMul,t1]
  have b3:lr.tm.gt 3=some (.ptr (some (h2.next,0))):=by rw [← hlb];show (tm.up none 29).gt 3=_;simp only [SS,Nat.reduceBEq,reduceEqDiff,reduceAdd,reduceIte,reduceMul,t3]
  have b29:lr.tm.gt 29=none:=by rw [← hlb];show (tm.up none 29).gt 29=_;simp only [SS,Nat.reduceBEq,reduceEqDiff,reduceAdd,reduceIte,reduceMul]
  obtain ⟨h7,e7⟩:∃ h7,h5.new h5.next (.loop lr)=h7:=⟨_,rfl⟩
  have m7:h7.bs.gt h5.next=some (.loop lr):=by rw [← e7,bX (Nat.le_refl _),if_pos rfl]
  have n7:h7.next=h5.next+1:=by rw [← e7,cM (Nat.le_refl _)]
  have s57:Sm bm h5 h7:=⟨by omega,fun c hc _=>by rw [← e7,bX (Nat.le_refl _),if_neg (by omega)]⟩
  rw [e7]
  have s07:Sm bm h h7:=s05.trans s57 (fun _ _ h=>h) (fun _ _ h=>h)
  have s47:Sm bm h4 h7:=s45.trans s57 (fun _ _ h=>h) (fun _ _ h=>h)
  have s27:Sm bm h2 h7:=s24.trans s47 (fun _ _ h=>h) (fun _ _ h=>h)
  have ht7:=ht.sm s07 (fun _ _ h=>h)
  have hc7:=hc2.sm s27 (fun _ _ h=>h)
  have hJ:∀ h1,Sm bm h7 h1->J41 h h5.next h.next h2.next tb ctb h7.next h1.next L R next F 0 h1:=fun h1 s=>by
   have q:=s.1
   exact ⟨⟨lr,(s.2 _ (by omega) (fun h=>h)).trans m7,by rw [← hlb],by rw [← hlb],by rw [← hlb],by rw [← hlb],by rw [← hlb],by rw [← hlb],b1,b3,b29⟩,⟨_,(r1_4.sm s47 (by omega) (fun h=>h)).sm s (by omega) (fun h=>h)⟩,⟨_,(w2.sm s47 (by omega) (fun h=>h)).sm s (by omega) (fun h=>h)⟩,ht7.sm s (fun _ _ h=>h),⟨1,F0,hc7.sm s (fun _ _ h=>h),fun b hb=>by
    have a1:=hF0 b hb
    have a2:=hF0lt b hb
    exact ⟨by omega,by omega,by omega,by omega,.inl (by omega)⟩⟩,s07.trans s (fun _ _ h=>h) (fun _ _ h=>h),⟨by omega,by omega,by omega,Nat.le_refl _⟩,⟨by omega,by omega,by omega⟩,⟨by omega,by omega⟩,hflt⟩
  obtain ⟨_,h8,e8,hres⟩:=mZ (n:=m) (by omega) ht7 hrel (by omega) (bx:=bx) (l:=h5.next) (rx.sm s57 lx (fun h=>h))
   (fun hi i h'=>J41 h h5.next h.next h2.next tb ctb h7.next hi L R next F i h') (fun _=>False) hJ
   (fun hi i h1 hlt hj' hle=>by
    obtain ⟨v,h2,e,rfl,j2,s2⟩:=Cb (m:=m - 1) (by omega) hrel (by omega) hj' hlt (by omega)
    exact ⟨_,h2,e,.inl ⟨rfl,j2⟩,s2⟩)
  obtain ⟨hi,hj8⟩:=hres.resolve_right (fun h=>h)
  obtain ⟨⟨b,q1,q2,q3,q4,q5,q6,q7,q8,q9,q10⟩,⟨z1,r18⟩,⟨z3,r38⟩,ht8,⟨nx,Fc,hc8,hfc⟩,sm8,⟨l1,l3,ll,_⟩,ge,ne,fb⟩:=hj8
  rw [List.take_length] at hc8
  refine ⟨_,h8,e8,b,q1,(by rw [q2];exact fun e=>by cases e),?_⟩
  rw [q3]
  obtain ⟨h9,e9,m9,n9,s9⟩:=dK (h:=h8) (b:=h5.next) (x:=.loop {b with st:=.exhausted,pending:=none })
  show ret (C m) 100000 29 54 none .normal [.blk 0,.seq (.seq vY (.seq vZ .ret))] tm (h8.put h5.next (.loop {b with st:=.exhausted,pending:=none })) QQ
  rw [e9]
  obtain ⟨h10,e10,s10,b10,n10⟩:=Sm.bump h9 8
  have sall:Sm (·= h5.next) h8 h10:=s9.trans s10 (fun _ _ h=>h) (fun _ _ h=>h.elim)
  have q8':=sm8.1
  have k1:=(r18.sm sall l1 (by omega)).ld1 0
  have r310:=r38.sm sall l3 (by omega)
  have k3:=r310.ld1 0
  have ht10:=ht8.sm sall (fun b hb e=>by have:=fb b hb;omega)
  have hc10:=hc8.sm sall (fun b hb e=>(hfc b hb).2.2.2.1 e)
  have hnx:=ht10.nxt
  obtain ⟨B,t5⟩:=ht10.ok
  rw [List.getElem?_cons_zero] at k1 k3
  have hcF:Fc ctb:=by obtain ⟨mb,xx,es,k,B,X,_,_,_,_,_,_,_,_,_,rfl⟩:=hc8.ex;exact .inl rfl
  obtain ⟨h11,y1,hc11,y4⟩:=hc10.st2 (x:=next) (fun c hc=>(t5.ch c ((hrel.mem c).1 hc)).2.1) t5.next
  have hctb:=hfc ctb hcF
  have k3':=(r310.sm y4 (by have:=sall.1;omega) (fun e=>hctb.2.2.1 e.symm)).ld1 0
  rw [List.getElem?_cons_zero] at k3'
  simp only [F54,SS,Nat.reduceBEq,reduceEqDiff,reduceAdd,reduceIte,reduceMul,t1,t3,e10,k1,k3,jW,hnx,y1,k3']
  refine hQ _ _ _ _ (.inr rfl) (by simp only [SS,Nat.reduceBEq,t29]) (by simp only [SS,Nat.reduceBEq,reduceEqDiff,reduceAdd,reduceIte,reduceMul,t29];rfl) ?_
  refine ⟨ctb,Fc,rfl,hc11,⟨by have:=sall.1;have:=y4.1;omega,fun c hc hF=>?_⟩,fun b hb=>(hfc b hb).1⟩
  rw [y4.2 c (by have:=sall.1;omega) (by omega),sall.2 c (by omega) (by omega),sm8.2 c hc hF]
 have eb1:cV (.ptr (some (tb,0)))=some (.cells (az [.ptr (some (tb,0))] .leaf 0) [] 1 false,dy):=rfl
 simp only [F54,SS,Nat.reduceBEq,reduceEqDiff,reduceAdd,reduceIte,reduceMul,eb1,e1,l1_0,ea,eb,WX,e3,w1,l1_4,ec]
 exact key _ (by simp only [SS,Nat.reduceBEq]) (by simp only [SS,Nat.reduceBEq]) (by simp only [SS,Nat.reduceBEq]) (by simp only [SS,Nat.reduceBEq])
end
end Go.Proofs.YtboobbebilegnaaGreat
namespace Go.Proofs.YtboobbebilegnaaGreat
open Go.Am
set_option maxRecDepth 10000
def gN:Nat->List Nat->List (List Nat)
 | 0,_=>[]
 | n+1,s=>if s.length=0 then [] else if s.length<=64 then [s] else s.take 64::gN n (s.drop 64)
abbrev dp (s:List Nat):List (List Nat):=gN s.length s
theorem pX:∀ (n m:Nat) (s:List Nat),s.length<=n->s.length<=m->gN n s=gN m s
 | 0,0,_,_,_=>rfl
 | 0,m+1,s,h,_=>by unfold gN;rw [if_pos (by omega)]
 | n+1,0,s,_,h=>by unfold gN;rw [if_pos (by omega)]
 | n+1,m+1,s,h1,h2=>by
  unfold gN
  split
  ·rfl
  ·split
   ·rfl
   ·rw [pX n m (s.drop 64) (by rw [List.length_drop];omega) (by rw [List.length_drop];omega)]
theorem iC {s:List Nat} (h:s.length=0):dp s=[]:=by unfold dp;rw [h];rfl
theorem qE {s:List Nat} (h0:s.length≠0) (h:s.length<=64):dp s=[s]:=by
 obtain ⟨n,hn⟩:∃ n,s.length=n+1:=⟨s.length - 1,by omega⟩
 unfold dp;rw [hn];unfold gN;rw [if_neg h0,if_pos h]
theorem nY {s:List Nat} (h:64<s.length):dp s=s.take 64::dp (s.drop 64):=by
 obtain ⟨n,hn⟩:∃ n,s.length=n+1:=⟨s.length - 1,by omega⟩
 have e:gN (n+1) s=if s.length=0 then [] else if s.length<=64 then [s] else s.take 64::gN n (s.drop 64):=rfl
 show gN s.length s=s.take 64::gN (s.drop 64).length (s.drop 64)
 rw [hn,e,if_neg (by omega),if_neg (by omega),pX n _ _ (by rw [List.length_drop];omega) (Nat.le_refl _)]
theorem TC:∀ (n:Nat) (s:List Nat),s.length<=n->∀ d,d∈dp s->1<=d.length/\d.length<=64/\∀ c,c∈d->c∈s:=by
 intro n
 induction n with
 | zero=>intro s h d hd;rw [iC (by omega)] at hd;cases hd
 | succ n ih =>
  intro s h d hd
  by_cases h0:s.length=0
  ·rw [iC h0] at hd;cases hd
  ·by_cases h1:s.length<=64
   ·rw [qE h0 h1,List.mem_singleton] at hd
    subst hd;exact ⟨by omega,h1,fun _ h=>h⟩
   ·rw [nY (by omega)] at hd
    rcases List.mem_cons.1 hd with rfl | hd
    ·exact ⟨by rw [List.length_take];omega,by rw [List.length_take];omega,fun c hc=>List.mem_of_mem_take hc⟩
    ·obtain ⟨a,b,c⟩:=ih (s.drop 64) (by rw [List.length_drop];omega) d hd
     exact ⟨a,b,fun x hx=>List.mem_of_mem_drop (c x hx)⟩
theorem nX:∀ (n:Nat) (s:List Nat),s.length<=n->(dp s).length=(s.length+63) / 64:=by
 intro n
 induction n with
 | zero =>
  intro s h
  rw [iC (by omega)]
  have:s.length=0:=by omega
  rw [this];rfl
 | succ n ih =>
  intro s h
  by_cases h0:s.length=0
  ·rw [iC h0,h0];rfl
  ·by_cases h1:s.length<=64
   ·rw [qE h0 h1];show 1=_;omega
   ·rw [nY (by omega),List.length_cons,ih _ (by rw [List.length_drop];omega),List.length_drop];omega
theorem CC {s:List Nat} (h:64<=s.length):aU P 9 false true false [.str s,.int .i64 64]=some (.str (s.take 64)):=Cv (k:=.i64) (hi:=64) h
theorem Cy {s:List Nat} (h:64<=s.length):aU P 9 true false false [.str s,.int .i64 64]=some (.str (s.drop 64)):=Cw (k:=.i64) (lo:=64) h
theorem TD {n:Nat} (hn:1<=n) {h:ac} (s:List Nat) (hl:s.length<=1000):WC (C n (.fn 64) [.str s] h) fun r h'=>∃ bs,iF 9 1 h' r (dp s).length ((dp s).map .str) bs/\Sm bm h h'/\∀ b,b∈bs->h.next<=b:=by
 obtain ⟨m,rfl⟩:∃ m,n=m+1:=⟨n - 1,by omega⟩
 refine ak _ zgI rfl (by simp [Ve]) fun QQ hQ=>?_
 simp only [Ve] at hQ
 simp only [Ve,ah,ai,Nat.zero_add,reduceAdd]
 simp only [F64,SS,Nat.reduceBEq,reduceEqDiff,reduceAdd,reduceIte,reduceMul]
 refine aF (c:=Bj) (I:=fun m' tm' h'=>∃ l t v bs,dp s=l++dp t/\t.length<=s.length/\l.length<=s.length - t.length/\m'=t.length/\iF 9 1 h' v l.length (l.map .str) bs/\(∀ b,b∈bs->h.next<=b)/\Sm bm h h'/\tm'.gt 0=some (.str t)/\tm'.gt 3=some v/\tm'.gt 25=none) (n:=s.length)
  ⟨[],s,_,[],rfl,Nat.le_refl _,by simp,rfl,iF.nil,(fun _ h=>by cases h),Sm.refl _ _,by simp only [SS,Nat.reduceBEq],by simp only [SS,Nat.reduceBEq],by simp only [SS,Nat.reduceBEq]⟩ (by omega) ?_
 rintro _ tm h2 ⟨l,t,v,bs,hst,htl,hll,rfl,o,hb,s2,t0,t3,t25⟩ Q1 hN1 hE1
 by_cases h0:t.length=0
 ·have h0':(t.length:Int)=0:=by omega
  rw [iC (s:=t) h0,List.append_nil] at hst
  simp only [F64,SS,Nat.reduceBEq,reduceEqDiff,reduceAdd,reduceIte,reduceMul,t0,dc,h0']
  refine hE1 _ _ _ (by simp) ?_
  simp only [F64,SS,Nat.reduceBEq,reduceEqDiff,reduceAdd,reduceIte,reduceMul,t3]
  refine hQ _ _ _ _ (.inr rfl) (by simp only [SS,Nat.reduceBEq,t25]) (by simp only [SS,Nat.reduceBEq,reduceEqDiff,reduceAdd,reduceIte,reduceMul,t25];rfl) ?_
  rw [hst]
  exact ⟨bs,o,s2,hb⟩
 ·have h0':¬(t.length:Int)=0:=by omega
  have n2:=s2.1
  by_cases h1:t.length<=64
  ·have h1':(t.length:Int)<=64:=by omega
   rw [qE (s:=t) h0 h1] at hst
   obtain ⟨h4,e4,r4,n4,f4⟩:=Rw.alloc h2 (id:=h2.next) (n:=1) (vs:=[.str t]) (z:=[]) (ro:=false) (Nat.le_refl _) rfl
   have s4:Sm bm h2 h4:=⟨by omega,fun c hc _=>f4 c (by omega)⟩
   have hs4:cI 1 (fun n=>n) (.slice (some (h2.next,0)) 1 1 none) h4=some ([.str t],1):=eS r4 (Nat.le_refl _)
   obtain ⟨v5,h5,bs5,e5,o5,s5,f5⟩:=jz (t:=41) (id:=h4.next) zcV s_9 b_9 z_9 rfl (o.sm s4 fun _ _ h=>h) hs4 rfl rfl (eO (by omega) (by omega)) (Nat.le_refl _)
   simp only [F64,SS,Nat.reduceBEq,reduceEqDiff,reduceAdd,reduceIte,reduceMul,t0,t3,dc,h0',h1',pi,e4,e5]
   refine hE1 _ _ _ (by simp) ?_
   simp only [F64,SS,Nat.reduceBEq,reduceEqDiff,reduceAdd,reduceIte,reduceMul]
   refine hQ _ _ _ _ (.inr rfl) (by simp only [SS,Nat.reduceBEq,t25]) (by simp only [SS,Nat.reduceBEq,reduceEqDiff,reduceAdd,reduceIte,reduceMul,t25];rfl) ?_
   rw [hst,List.length_append,List.map_append]
   exact ⟨bs5,o5,(s2.trans s4 (fun _ _ h=>h) (fun _ _ h=>h)).trans s5 (fun _ _ h=>h) (fun c hc h=>by have:=hb c h;omega),fun b hb'=>by
    rcases f5 b hb' with h | h
    ·exact hb b h
    ·omega⟩
  ·have h1':¬(t.length:Int)<=64:=by omega
   rw [nY (s:=t) (by omega)] at hst
   obtain ⟨g,eg,sg,bg,ng⟩:=Sm.bump h2 9
   obtain ⟨g7,e7,r7,n7,f7⟩:=Rw.mat g (id:=Nat.add h2.next 3) (n:=1) (vs:=[.str (t.take 64)]) (z:=[]) (ro:=false) rfl
   have e7r:ac.mk (h2.bs.up (some (.cells (az [.str (t.take 64)] .leaf 0) [] 1 false)) (Nat.add h2.next 3)) (h2.next+9)=g7:=by rw [← e7,bg,ng]
   have a3:Nat.add h2.next 3=h2.next+3:=rfl
   have s7:Sm bm h2 g7:=⟨by omega,fun c hc _=>by rw [f7 c (by omega),bg]⟩
   have hs7:cI 1 (fun n=>n) (.slice (some (Nat.add h2.next 3,0)) 1 1 none) g7=some ([.str (t.take 64)],1):=eS r7 (Nat.le_refl _)
   obtain ⟨v8,h8,bs8,e8,o8,s8,f8⟩:=jz (t:=41) (id:=h2.next+9) zcV s_9 b_9 z_9 rfl (o.sm s7 (fun _ _ h=>h)) hs7 rfl rfl (eO (by omega) (by omega)) (by omega)
   have n7':=s7.1
   simp only [F64,SS,Nat.reduceBEq,reduceEqDiff,reduceAdd,reduceIte,reduceMul,t0,t3,dc,h0',h1',CC (show 64<=t.length by omega),Cy (show 64<=t.length by omega),pi,eg,e7r,e8]
   refine hN1 _ _ (t.drop 64).length (by rw [List.length_drop];omega) ⟨l++[t.take 64],t.drop 64,v8,bs8,by rw [hst];simp,by rw [List.length_drop];omega,by rw [List.length_append,List.length_drop];simp;omega,rfl,?_,fun b hb'=>?_,(s2.trans s7 (fun _ _ h=>h) (fun _ _ h=>h)).trans s8 (fun _ _ h=>h) (fun c hc h=>by have:=hb c h;omega),by simp only [SS,Nat.reduceBEq],by simp only [SS,Nat.reduceBEq],by simp only [SS,Nat.reduceBEq,t25]⟩
   ·rw [List.length_append,List.map_append];exact o8
   ·rcases f8 b hb' with h | h
    ·exact hb b h
    ·omega
end Go.Proofs.YtboobbebilegnaaGreat
namespace Go.Proofs.YtboobbebilegnaaGreat
open Go.Am
set_option maxRecDepth 10000
theorem Vt:keepF P 121 15=false:=by kernel_rfl
theorem ze1:aD P 121=15:=by kernel_rfl
theorem zaL:nQ P 3=am:=by kernel_rfl
structure JT (h0:ac) (l b1 b2 b3 bx sp wb:Nat) (U:Nat->Bool) (k:Nat) (h:ac):Prop where
 rc:Xg l 121 15 [10] kA kE (fun tm=>tm.gt 1=some (.ptr (some (b1,0)))/\tm.gt 2=some (.ptr (some (b2,0)))/\tm.gt 3=some (.ptr (some (b3,0)))) h
 r1:∃ z,Rw h b1 [.ptr (some (sp,0))] z false
 r2:∃ z,Rw h b2 [.int .i64 0] z false
 r3:∃ z,Rw h b3 [.int .i64 0] z false
 rx:Rw h bx [.ptr (some (sp,0))] [] false
 s:fB h sp wb U
 sm:Sm bm h0 h
 no:∀ j,128<=j->j<k->U j=true
 lt:b1<h.next/\b2<h.next/\b3<h.next/\l<h.next/\bx<h.next
 ge:h0.next<=b1/\h0.next<=b2/\h0.next<=b3/\h0.next<=l/\h0.next<=bx
 ne:l≠b1/\l≠b2/\l≠b3/\b2≠b3/\b1≠b2/\b1≠b3
 old:sp<h0.next/\wb<h0.next
structure JD (h0:ac) (l b2 b3 sp wb:Nat) (U:Nat->Bool) (h:ac):Prop where
 ex:∃ (b:fE) (k:Nat),h.bs.gt l=some (.loop b)/\b.st=.done/\b.pending=some .ret/\(∃ z,Rw h b2 [.int .i64 (k:Int)] z false)/\(∃ z,Rw h b3 [.int .i64 0] z false)/\128<=k/\k<256/\U k=false/\(∀ j,128<=j->j<k->U j=true)/\fB h sp wb (fun i=>U i||decide (i=k))
 sm:Sm (·= wb) h0 h
 lt:l<h.next/\b2<h.next/\b3<h.next
section
variable {h0 h:ac} {l b1 b2 b3 bx sp wb:Nat} {U:Nat->Bool} {k:Nat}
theorem JT.noB {h':ac} (hj:JT h0 l b1 b2 b3 bx sp wb U k h) (hs:Sm bm h h'):JT h0 l b1 b2 b3 bx sp wb U k h':=by
 obtain ⟨rc,⟨z1,r1⟩,⟨z2,r2⟩,⟨z3,r3⟩,rx,s,sm,no,⟨l1,l2,l3,l4,l5⟩,ge,ne,old⟩:=hj
 have:=hs.1
 exact ⟨rc.sm hs l4 (fun h=>h),⟨z1,r1.sm hs l1 (fun h=>h)⟩,⟨z2,r2.sm hs l2 (fun h=>h)⟩,⟨z3,r3.sm hs l3 (fun h=>h)⟩,rx.sm hs l5 (fun h=>h),s.sm hs (fun h=>h) (fun h=>h),sm.trans hs (fun _ _ h=>h) (fun _ _ h=>h),no,⟨by omega,by omega,by omega,by omega,by omega⟩,ge,ne,old⟩
theorem KT {m:Nat} (hm:4<=m) (hj:JT h0 l b1 b2 b3 bx sp wb U k h) (hk:128<=k) (hk2:k<256) (hu:U k=false) :
  WC (C m (.loop l) [.int .i64 (k:Int)] h) fun v h2=>v=.bool false/\JD h0 l b2 b3 sp wb U h2:=by
 obtain ⟨m,rfl⟩:∃ m',m=m'+1:=⟨m - 1,by omega⟩
 obtain ⟨⟨b,hat,hst,hpd,hfn,hps,has,hbo,t15,t1,t2,t3⟩,⟨z1,r1⟩,⟨z2,r2⟩,⟨z3,r3⟩,rx,s,sm,no,⟨l1,l2,l3,l4,l5⟩,ge,ne,old⟩:=hj
 refine gU _ hat (nt:=15) (CA:=vE) (CB:=vF) (tm':=b.tm.up (some (.int .i64 (k:Int))) 10) (by rw [hfn];exact ze1) (by rw [hps];rfl) (by rw [hfn];exact Vt) t15 (by rw [hfn,has];exact Ta) (by rw [hfn,hbo];exact Tb) fun QA hA=>?_
 rw [hfn] at hA ⊢
 simp only [La,SS,Nat.reduceBEq,reduceEqDiff,reduceAdd,reduceIte,reduceMul]
 refine hA _ _ b hat hst fun QB hB=>?_
 obtain ⟨h3,e3,m3,n3,s3⟩:=dK (h:=h) (b:=l) (x:=.loop {b with st:=.busy })
 rw [e3]
 have c1:=r1.sm s3 l1 (by omega)
 have k1:=c1.ld1 0
 rw [List.getElem?_cons_zero] at k1
 have hn0:=sm.1
 obtain ⟨r4,h4,e4,hu4⟩:=zZ (n:=m) (by omega) (s.sm s3 (by omega) (by omega)) (k:Int)
 rcases hu4 with ⟨hbad,_⟩|⟨j,hj,_,_,⟨u1,_⟩|⟨u1,rfl,hs4,s4⟩⟩
 ·omega
 ·obtain rfl:j=k:=by omega
  rw [hu] at u1;cases u1
 obtain rfl:j=k:=by omega
 have n4:=s4.1
 have c2:=(r2.sm s3 l2 (by omega)).sm s4 (by omega) (by omega)
 have c3:=(r3.sm s3 l3 (by omega)).sm s4 (by omega) (by omega)
 obtain ⟨w1,w2,w3,w4⟩:=c2.st1 (o:=0) (v:=.int .i64 (j:Int)) (by simp) rfl
 rw [show ([AV.int .i64 0]:List AV).set 0 (.int .i64 (j:Int))=[.int .i64 (j:Int)] from rfl] at w2
 obtain ⟨h5,eh5⟩:∃ h5,h4.wr b2 0 [.int .i64 (j:Int)]=h5:=⟨_,rfl⟩
 rw [eh5] at w1 w2 w3 w4
 have s5:Sm (·= b2) h4 h5:=⟨by omega,fun c _ hc=>w4 c hc⟩
 have c35:=c3.sm s5 (by omega) (by omega)
 obtain ⟨x1,x2,x3,x4⟩:=c35.st1 (o:=0) (v:=.int .i64 0) (by simp) rfl
 rw [show ([AV.int .i64 0]:List AV).set 0 (.int .i64 0)=[.int .i64 0] from rfl] at x2
 obtain ⟨h6,eh6⟩:∃ h6,h5.wr b3 0 [.int .i64 0]=h6:=⟨_,rfl⟩
 rw [eh6] at x1 x2 x3 x4
 have s6:Sm (·= b3) h5 h6:=⟨by omega,fun c _ hc=>x4 c hc⟩
 simp only [La,SS,Nat.reduceBEq,reduceEqDiff,reduceAdd,reduceIte,reduceMul,t1,t2,t3,k1,e4,w1,x1]
 refine hB _ _ _ _ ((s6.2 l (by omega) (by omega)).trans ((s5.2 l (by omega) (by omega)).trans ((s4.2 l (by omega) (by omega)).trans m3))) rfl ?_
 obtain ⟨h7,e7,m7,n7,s7⟩:=dK (h:=h6) (b:=l) (x:=.loop (oF .ret {b with st:=.busy }).2)
 rw [e7]
 have s07:Sm (·= wb) h0 h7:=((((sm.trans s3 (H:=(·= wb)) (fun _ _ h=>h.elim) (fun c hc e=>by omega)).trans s4 (fun _ _ h=>h) (fun _ _ h=>h)).trans s5 (fun _ _ h=>h) (fun c hc e=>by omega)).trans s6 (fun _ _ h=>h) (fun c hc e=>by omega)).trans s7 (fun _ _ h=>h) (fun c hc e=>by omega)
 refine ⟨rfl,⟨_,j,m7,rfl,rfl,⟨z2,(w2.sm s6 (by omega) (by omega)).sm s7 (by omega) (by omega)⟩,⟨z3,x2.sm s7 (by omega) (by omega)⟩,hk,hk2,hu,no,((hs4.sm s5 (by omega) (by omega)).sm s6 (by omega) (by omega)).sm s7 (by omega) (by omega)⟩,s07,by omega,by omega,by omega⟩
theorem KP {n:Nat} (hn:7<=n) (hs:fB h sp wb U):WC (C n (.fn 121) [.ptr (some (sp,0))] h) fun r h' =>
  ((∀ j,128<=j->j<256->U j=true)/\r=.tuple [.int .i64 0,.int .i64 7]/\Sm bm h h')∨∃ k:Nat,128<=k/\k<256/\U k=false/\(∀ j,128<=j->j<k->U j=true)/\r=.tuple [.int .i64 (k:Int),.int .i64 0]/\fB h' sp wb (fun i=>U i||decide (i=k))/\Sm (·= wb) h h':=by
 have old:=hs.lt
 obtain ⟨m,rfl⟩:∃ m,n=m+1:=⟨n - 1,by omega⟩
 refine ak _ zd8 rfl (by simp [Ih]) fun QQ hQ=>?_
 simp only [Ih] at hQ
 simp only [Ih,ah,ai,Nat.zero_add,reduceAdd]
 obtain ⟨h1,e1,r1,n1,f1⟩:=Rw.alloc h (id:=h.next) (n:=1) (vs:=[.ptr (some (sp,0))]) (z:=[]) (ro:=false) (Nat.le_refl _) rfl
 obtain ⟨h2,e2,r2,n2,f2⟩:=Rw.alloc h1 (id:=h1.next) (n:=1) (vs:=[.int .i64 0]) (z:=ay 3 true) (ro:=false) (Nat.le_refl _) rfl
 obtain ⟨h3,e3,r3,n3,f3⟩:=Rw.alloc h2 (id:=h2.next) (n:=1) (vs:=[.int .i64 0]) (z:=ay 38 true) (ro:=false) (Nat.le_refl _) rfl
 have s3:Sm bm h h3:=⟨by omega,fun c hc _=>by rw [f3 c (by omega),f2 c (by omega),f1 c (by omega)]⟩
 have r1:Rw h3 h.next [.ptr (some (sp,0))] [] false:=r1.same (by rw [f3 _ (by omega),f2 _ (by omega)])
 have r2:Rw h3 h1.next [.int .i64 0] (ay 3 true) false:=r2.same (by rw [f3 _ (by omega)])
 have k1:=r1.ld1 0
 rw [List.getElem?_cons_zero] at k1
 obtain ⟨_,h4,e4,e0,rfl⟩:=qD (n:=m) (by omega) (hs.sm s3 (fun h=>h) (fun h=>h))
 subst e0
 obtain ⟨_,h5,e5,bx,rfl,rx,lx,s5,gx⟩:=zW (n:=m) (by omega) (h:=h4) (sp:=sp)
 simp only [La,SS,Nat.reduceBEq,reduceEqDiff,reduceAdd,reduceIte,reduceMul,hO,e1,xB,e2,xC,e3,k1,e4,e5]
 refine fW (i:=153) (cap:=[.ptr (some (bx,0))]) (by simp only [SS,Nat.reduceBEq]) ?_
 have hid:h5.next<=h5.next:=Nat.le_refl _
 obtain ⟨tm0,htm⟩:∃ tm:Tr AV,tm=((((((Tr.leaf:Tr AV).up (some (.ptr (some (sp,0)))) 0).up (some (.ptr (some (h2.next,0)))) 3).up (some (.ptr (some (h1.next,0)))) 2).up (some (.ptr (some (h.next,0)))) 1).up (some (.bool false)) 7).up (some (.func (.func 153) [] [.ptr (some (bx,0))])) 9:=⟨_,rfl⟩
 rw [← htm]
 obtain ⟨h6,eh6⟩:∃ h6,h5.new h5.next (.loop ⟨.ready,none,121,tm0.up none 15,[10],kA,kE⟩)=h6:=⟨_,rfl⟩
 have g6:h6.bs.gt h5.next=some (.loop ⟨.ready,none,121,tm0.up none 15,[10],kA,kE⟩):=by rw [← eh6,bX hid,if_pos rfl]
 have n6:h6.next=h5.next+1:=by rw [← eh6,cM hid]
 have s6:Sm bm h5 h6:=⟨by omega,fun c hc _=>by rw [← eh6,bX hid,if_neg (by omega)]⟩
 rw [eh6]
 have q3:=s3.1
 have q5:=s5.1
 have s46:Sm bm h4 h6:=s5.trans s6 (fun _ _ h=>h) (fun _ _ h=>h)
 have s06:Sm bm h h6:=s3.trans s46 (fun _ _ h=>h) (fun _ _ h=>h)
 have hJ0:JT h h5.next h.next h1.next h2.next bx sp wb U 128 h6:=⟨⟨_,g6,rfl,rfl,rfl,rfl,rfl,rfl,by simp only [SS,Nat.reduceBEq],by subst htm;simp only [SS,Nat.reduceBEq,reduceEqDiff,reduceAdd,reduceIte,reduceMul],by subst htm;simp only [SS,Nat.reduceBEq,reduceEqDiff,reduceAdd,reduceIte,reduceMul],by subst htm;simp only [SS,Nat.reduceBEq,reduceEqDiff,reduceAdd,reduceIte,reduceMul]⟩,⟨_,r1.sm s46 (by omega) (fun h=>h)⟩,⟨_,r2.sm s46 (by omega) (fun h=>h)⟩,⟨_,r3.sm s46 (by omega) (fun h=>h)⟩,rx.sm s6 lx (fun h=>h),hs.sm s06 (fun h=>h) (fun h=>h),s06,fun j h1 h2=>by omega,⟨by omega,by omega,by omega,by omega,by omega⟩,⟨by omega,by omega,by omega,by omega,by omega⟩,⟨by omega,by omega,by omega,by omega,by omega,by omega⟩,old⟩
 obtain ⟨v,h7,e7,hv⟩:=I6 (n:=m) (by omega) (U:=U) (wb:=wb) (sp:=sp) (bx:=bx) (l:=h5.next) (h:=h6) (JT h h5.next h.next h1.next h2.next bx sp wb U) (JD h h5.next h1.next h2.next sp wb U) hJ0
  (fun k h' hj=>⟨hj.s,hj.rx,hj.lt.2.2.2.2⟩) (fun k h1 h' hj s=>hj.noB s)
  (fun k h' hk1 hk2 hu hj=>⟨hj.rc,hj.r1,hj.r2,hj.r3,hj.rx,hj.s,hj.sm,fun j h1 h2=>by by_cases e:j=k;subst e;exact hu;exact hj.no j h1 (by omega),hj.lt,hj.ge,hj.ne,hj.old⟩)
  (fun k h' hk1 hk2 hu hj=>by obtain ⟨v,h2,e,hv,hj'⟩:=KT (m:=m - 1) (by omega) hj hk1 hk2 hu;exact ⟨v,h2,e,.inr ⟨hv,hj'⟩⟩)
 refine ⟨v,h7,e7,?_⟩
 rcases hv with hj | hj
 ·obtain ⟨⟨b,hat,hst,hpd,_⟩,_,⟨z2,r2⟩,⟨z3,r3⟩,_,_,sm,no,⟨_,l2,l3,l4,_⟩,ge,ne,_⟩:=hj
  refine ⟨b,hat,by rw [hst];decide,?_⟩
  rw [hpd]
  obtain ⟨h8,e8,m8,n8,s8⟩:=dK (h:=h7) (b:=h5.next) (x:=.loop ⟨.exhausted,none,b.fn,b.tm,b.params,b.assign,b.body⟩)
  show ret _ _ _ _ _ .normal _ _ (h7.put h5.next (.loop ⟨.exhausted,none,b.fn,b.tm,b.params,b.assign,b.body⟩)) _
  rw [e8]
  have r28:=r2.sm s8 l2 (by omega)
  have r38:=r3.sm s8 l3 (by omega)
  obtain ⟨w1,w2,w3,w4⟩:=r28.st1 (o:=0) (v:=.int .i64 0) (by simp) rfl
  rw [show ([AV.int .i64 0]:List AV).set 0 (.int .i64 0)=[.int .i64 0] from rfl] at w2
  obtain ⟨h9,eh9⟩:∃ h9,h8.wr h1.next 0 [.int .i64 0]=h9:=⟨_,rfl⟩
  rw [eh9] at w1 w2 w3 w4
  have r39:=r38.same (w4 h2.next (by omega))
  obtain ⟨x1,x2,x3,x4⟩:=r39.st1 (o:=0) (v:=.int .i64 7) (by simp) rfl
  rw [show ([AV.int .i64 0]:List AV).set 0 (.int .i64 7)=[.int .i64 7] from rfl] at x2
  obtain ⟨ha,eha⟩:∃ ha,h9.wr h2.next 0 [.int .i64 7]=ha:=⟨_,rfl⟩
  rw [eha] at x1 x2 x3 x4
  have k2:=(w2.same (x4 h1.next (by omega))).ld1 0
  have k3:=x2.ld1 0
  rw [List.getElem?_cons_zero] at k2 k3
  subst htm
  simp only [La,SS,Nat.reduceBEq,reduceEqDiff,reduceAdd,reduceIte,reduceMul,w1,x1]
  refine hQ _ _ _ _ (.inr rfl) (by simp only [SS,Nat.reduceBEq]) (by simp only [SS,Nat.reduceBEq,reduceEqDiff,reduceAdd,reduceIte,reduceMul,zaL,w7,k2,k3];rfl) ?_
  exact .inl ⟨no,rfl,⟨by have:=sm.1;omega,fun c hc hF=>by rw [x4 c (by omega),w4 c (by omega),s8.2 c (by have:=sm.1;omega) (by omega)];exact sm.2 c hc hF⟩⟩
 ·obtain ⟨⟨b,k,hat,hst,hpd,⟨z2,r2⟩,⟨z3,r3⟩,hk1,hk2,hu,no,hs7⟩,sm,⟨l4,l2,l3⟩⟩:=hj
  refine ⟨b,hat,by rw [hst];decide,?_⟩
  rw [hpd]
  obtain ⟨h8,e8,m8,n8,s8⟩:=dK (h:=h7) (b:=h5.next) (x:=.loop ⟨.exhausted,some .ret,b.fn,b.tm,b.params,b.assign,b.body⟩)
  refine ⟨.ret,rfl,?_⟩
  show ret _ _ _ _ _ .ret _ _ (h7.put h5.next (.loop ⟨.exhausted,some .ret,b.fn,b.tm,b.params,b.assign,b.body⟩)) _
  rw [e8]
  have k2:=(r2.sm s8 l2 (by omega)).ld1 0
  have k3:=(r3.sm s8 l3 (by omega)).ld1 0
  rw [List.getElem?_cons_zero] at k2 k3
  subst htm
  simp only [La,SS,Nat.reduceBEq,reduceEqDiff,reduceAdd,reduceIte,reduceMul]
  refine hQ _ _ _ _ (.inr rfl) (by simp only [SS,Nat.reduceBEq]) (by simp only [SS,Nat.reduceBEq,reduceEqDiff,reduceAdd,reduceIte,reduceMul,zaL,w7,k2,k3];rfl) ?_
  exact .inr ⟨k,hk1,hk2,hu,no,rfl,hs7.sm s8 (by omega) (by omega),sm.trans s8 (fun _ _ h=>h) (fun c hc e=>by omega)⟩
end
end Go.Proofs.YtboobbebilegnaaGreat
namespace Go.Proofs.YtboobbebilegnaaGreat
open Go.Am
set_option maxRecDepth 10000
theorem KX (W:List Nat):(W.map pe).all AV.one=true:=by
 rw [List.all_eq_true];intro x hx;obtain ⟨i,_,rfl⟩:=List.mem_map.1 hx;rfl
section
variable {h h':ac} {sp wb pb lb tb:Nat} {U:Nat->Bool} {L R:List Ch} {next:Int} {F:Nat->Prop}
theorem JF {n:Nat} (hn:1<=n) {z:List AV} {W:List Nat} (hw:Rw h wb (W.map pe) z false) (hW:W.length=4) (hlt:wb<h.next) (g:Option Nat):WC (C n (.fn 111) [.slice (some (wb,0)) 1 1 g] h) fun r h'=>∃ wb' z',r=.slice (some (wb',0)) 1 1 (some 4)/\Rw h' wb' (W.map pe) z' false/\Sm bm h h'/\h.next<=wb'/\wb'<h'.next:=by
 obtain ⟨m,rfl⟩:∃ m,n=m+1:=⟨n - 1,by omega⟩
 refine ak _ zdZ rfl (by simp [H8]) fun QQ hQ=>?_
 simp only [H8] at hQ
 simp only [H8,ah,ai,Nat.zero_add,reduceAdd]
 obtain ⟨h1,e1,r1,n1,f1⟩:=Rw.alloc h (id:=h.next) (n:=0) (vs:=[]) (z:=[]) (ro:=false) (Nat.le_refl _) rfl
 have w1:=hw.same (f1 wb (by omega))
 have hl4:(W.map pe).length=4:=by rw [List.length_map];exact hW
 have hsrc:cI 4 (fun n=>n) (.slice (some (wb,0)) 1 1 g) h1=some (W.map pe,1):=by
  have:=eS (n:=1) (s:=4) (c:=1) (g:=g) (o:=0) w1 (by rw [hl4];decide)
  rw [List.drop_zero,List.take_of_length_le (by rw [hl4];decide)] at this
  exact this
 have ha:=xJ (t:=178) (id:=h1.next) zaR zaM Xm zaT rfl hsrc (by rw [hl4]) (KX W) (eO (by decide) (by decide)) (b:=h.next) (by rw [r1.ld (Nat.le_refl _)];rfl)
 rw [if_neg (by decide),hl4] at ha
 obtain ⟨h2,e2,r2,n2,f2⟩:=Rw.alloc h1 (id:=h1.next) (n:=4) (vs:=W.map pe) (z:=ay 187 false) (ro:=false) (Nat.le_refl _) hl4.symm
 simp only [zfM,SS,Nat.reduceBEq,reduceEqDiff,reduceAdd,reduceIte,reduceMul,TP,Option.isNone_some,Co,e1,ha,e2]
 refine hQ _ _ _ _ (.inr rfl) (by simp only [SS,Nat.reduceBEq]) (by simp only [SS,Nat.reduceBEq,reduceEqDiff,reduceAdd,reduceIte,reduceMul];rfl) ?_
 exact ⟨h1.next,_,rfl,r2,⟨by omega,fun c hc _=>by rw [f2 c (by omega),f1 c (by omega)]⟩,by omega,by omega⟩
theorem KN {n:Nat} (hn:2<=n) (hs:fB h sp wb U):WC (C n (.fn 55) [.ptr (some (sp,0))] h) fun r h'=>∃ sp' wb',r=.ptr (some (sp',0))/\fB h' sp' wb' U/\Sm bm h h'/\h.next<=sp'/\h.next<=wb':=by
 obtain ⟨m,rfl⟩:∃ m,n=m+1:=⟨n - 1,by omega⟩
 refine ak _ zgz rfl (by simp [U5]) fun QQ hQ=>?_
 simp only [U5] at hQ
 simp only [U5,ah,ai,Nat.zero_add,reduceAdd]
 obtain ⟨_,h0,e1,e0,rfl⟩:=qD (n:=m) (by omega) hs
 subst e0
 obtain ⟨g,eg,sg,bg,ng⟩:=Sm.bump h0 16
 obtain ⟨⟨z,gr,r⟩,⟨z',W,w,bb⟩,⟨l1,l2⟩,ne⟩:=hs.sm sg (fun h=>h) (fun h=>h)
 have q0:=r.ld1 0
 have q1:=r.ld1 1
 have q2:=r.ld1 2
 simp only [List.getElem?_cons_zero,List.getElem?_cons_succ] at q0 q1 q2
 obtain ⟨_,h2,e2,wb',z2,rfl,w2,s2,g2,l3⟩:=JF (n:=m) (by omega) w bb.len l2 gr
 have r2:=r.sm s2 l1 (fun h=>h)
 have p0:=r2.ld1 0
 have p1:=r2.ld1 1
 simp only [List.getElem?_cons_zero,List.getElem?_cons_succ] at p0 p1
 obtain ⟨h3,e3,r3,n3,f3⟩:=Rw.mat h2 (id:=Nat.add h0.next 14) (n:=3) (vs:=[.int .i64 128,.int .i64 256,.slice (some (wb',0)) 1 1 (some 4)]) (z:=[]) (ro:=false) rfl
 have a14:Nat.add h0.next 14=h0.next+14:=rfl
 have n2:=s2.1
 simp only [F55,SS,Nat.reduceBEq,reduceEqDiff,reduceAdd,reduceIte,reduceMul,e1,eg,iE,dL,tH,q0,q1,q2,e2,p0,p1,bC,ax,au,Bool.and_true,lD,e3]
 refine hQ _ _ _ _ (.inr rfl) (by simp only [SS,Nat.reduceBEq]) (by simp only [SS,Nat.reduceBEq,reduceEqDiff,reduceAdd,reduceIte,reduceMul];rfl) ?_
 refine ⟨h0.next+14,wb',rfl,⟨⟨_,_,r3⟩,⟨_,W,w2.same (f3 wb' (by omega)),bb⟩,by omega,by omega⟩,⟨by omega,fun c hc _=>by rw [f3 c (by omega),s2.2 c (by omega) (fun h=>h),bg]⟩,by omega,by omega⟩
theorem WZ (a b c:Option (Nat×Nat)):bK P 99 [0,1,2] [.ptr a,.ptr b,.ptr c]=some (.agg [.ptr a,.ptr b,.ptr c,.bool false]):=uk a b c
theorem Lt {n:Nat} (hn:9<=n) (hp:mw h pb lb tb sp) (ht:bc h tb L next F) (hrel:j8 L R) (hlen:L.length<=900) (hs:fB h sp wb U):WC (C n (.fn 12) [.ptr (some (pb,0))] h) fun r h'=>∃ qb ctb F' sp' wb',r=.ptr (some (qb,0))/\jd h' qb pb ctb sp' false/\bc h' ctb R next F'/\fB h' sp' wb' U/\Sm bm h h' /\
  (∀ b,F' b->h.next<=b/\b≠qb/\b≠sp'/\b≠wb')/\h.next<=qb/\h.next<=sp'/\h.next<=wb'/\qb≠sp'/\qb≠wb':=by
 obtain ⟨m,rfl⟩:∃ m,n=m+1:=⟨n - 1,by omega⟩
 refine ak _ zgh rfl (by simp [UN]) fun QQ hQ=>?_
 simp only [UN] at hQ
 simp only [UN,ah,ai,Nat.zero_add,reduceAdd]
 obtain ⟨_,h0,e1,e0,rfl⟩:=BN (n:=m) (by omega) hp
 subst e0
 obtain ⟨g,eg,sg,bg,ng⟩:=Sm.bump h0 14
 obtain ⟨zp,rp⟩:=(hp.sm sg (fun h=>h)).r
 have l1:=rp.ld1 1
 have l2:=rp.ld1 2
 simp only [List.getElem?_cons_zero,List.getElem?_cons_succ] at l1 l2
 obtain ⟨_,h2,e2,ctb,F',rfl,ht2,s2,hF2⟩:=UC (n:=m) (by omega) (ht.sm sg (fun _ _ h=>h)) hrel (by omega)
 have sg2:Sm bm h0 h2:=sg.trans s2 (fun _ _ h=>h) (fun _ _ h=>h)
 have k2:=(rp.sm s2 (by have:=hp.lt;omega) (fun h=>h)).ld1 2
 simp only [List.getElem?_cons_zero,List.getElem?_cons_succ] at k2
 obtain ⟨_,h3,e3,sp',wb',rfl,hs3,s3,g3,g4⟩:=KN (n:=m) (by omega) (hs.sm sg2 (fun h=>h) (fun h=>h))
 obtain ⟨h4,e4,r4,n4,f4⟩:=Rw.mat h3 (id:=Nat.add h0.next 12) (n:=4) (vs:=[.ptr (some (pb,0)),.ptr (some (ctb,0)),.ptr (some (sp',0)),.bool false]) (z:=[]) (ro:=false) rfl
 have a12:Nat.add h0.next 12=h0.next+12:=rfl
 have n2:=s2.1
 have n3:=s3.1
 have hlt2:=ht2.flt
 have hlt3:=hs3.lt
 simp only [F12,SS,Nat.reduceBEq,reduceEqDiff,reduceAdd,reduceIte,reduceMul,e1,eg,fY,pp,l1,l2,e2,k2,bD,ax,au,Bool.and_true,e3,WZ,e4]
 refine hQ _ _ _ _ (.inr rfl) (by simp only [SS,Nat.reduceBEq]) (by simp only [SS,Nat.reduceBEq,reduceEqDiff,reduceAdd,reduceIte,reduceMul];rfl) ?_
 have s34:Sm (fun b=>b=h0.next+12) h3 h4:=⟨by omega,fun c _ hc=>f4 c (by omega)⟩
 refine ⟨h0.next+12,ctb,F',sp',wb',rfl,⟨⟨_,r4⟩,by omega⟩,(ht2.sm s3 (fun _ _ h=>h)).sm s34 (fun b hb e=>by have:=hF2 b hb;omega),hs3.sm s34 (by omega) (by omega),⟨by omega,fun c hc _=>by rw [f4 c (by omega),s3.2 c (by omega) (fun h=>h),s2.2 c (by omega) (fun h=>h),bg]⟩,fun b hb=>?_,by omega,by omega,by omega,by omega,by omega⟩
 have:=hF2 b hb
 have:=hlt2 b hb
 omega
end
end Go.Proofs.YtboobbebilegnaaGreat
namespace Go.Proofs.YtboobbebilegnaaGreat
open Go.Am
set_option maxRecDepth 10000
structure PS where
 L:List Ch
 nx:Int
 U:Nat->Bool
def oH (U:Nat->Bool):Option Nat:=(List.range 256).find? fun k=>decide (128<=k)&&!U k
theorem yR {U:Nat->Bool} (h:∀ j,128<=j->j<256->U j=true):oH U=none:=by
 refine List.find?_eq_none.2 fun k hk=>?_
 rw [List.mem_range] at hk
 by_cases h1:128<=k
 ·simp [h k h1 hk]
 ·simp [h1]
theorem yS {U:Nat->Bool} {k:Nat} (h1:128<=k) (h2:k<256) (hu:U k=false) (no:∀ j,128<=j->j<k->U j=true):oH U=some k:=by
 unfold oH
 rw [List.find?_eq_some_iff_append]
 refine ⟨by simp [h1,hu],List.range k,(List.range (255 - k)).map (fun x=>k+1+x),?_,fun j hj=>?_⟩
 ·have e1:256=k+(1+(255 - k)):=by omega
  conv=>lhs;rw [e1,List.range_add,List.range_add,List.map_append,List.map_map]
  simp [Function.comp_def,Nat.add_assoc]
 ·rw [List.mem_range] at hj
  by_cases h3:128<=j
  ·simp [no j h3 hj]
  ·simp [h3]
def cW (s:PS) (d:List Nat):Int×Int×PS:=match pE s.L d with
 | some c=>if c.refs=65535 then (c.id,12,s) else (c.id,0,{s with L:=dU {c with refs:=c.refs+1 } s.L })
 | none=>match oH s.U with
  | none=>(0,7,s)
  | some k=>if s.nx=4294967295 then (0,12,{s with U:=fun i=>s.U i||decide (i=k) }) else (s.nx,0,⟨s.L++[⟨s.nx,d,(k:Int),1⟩],s.nx+1,fun i=>s.U i||decide (i=k)⟩)
def cz:List (List Nat)->PS->List Int->Int×List Int×PS
 | [],s,ids=>(0,ids,s)
 | d::ds,s,ids=>if (cW s d).2.1=0 then cz ds (cW s d).2.2 (ids++[(cW s d).1]) else ((cW s d).2.1,ids,(cW s d).2.2)
theorem SU (s:PS) (d:List Nat):(cW s d).2.2.L.length<=s.L.length+1:=by
 unfold cW
 cases hf:pE s.L d with
 | some c =>
  simp only
  split
  ·exact Nat.le_succ _
  ·by_cases hg:∃ c0,fC s.L c.id=some c0/\c0.data=c.data
   ·obtain ⟨c0,g1,g2⟩:=hg
    have:=(sD (c0:=c0) {c with refs:=c.refs+1 } g1 g2).2.2.1
    show (dU _ s.L).length<=_
    omega
   ·show (dU _ s.L).length<=_
    have:∀ (L:List Ch) (x:Ch),(dU x L).length<=L.length+1:=by
     intro L x
     induction L with
     | nil=>simp [dU]
     | cons y L ih=>unfold dU;split <;> simp <;> omega
    exact this _ _
 | none =>
  simp only
  split
  ·exact Nat.le_succ _
  ·split
   ·exact Nat.le_succ _
   ·simp
structure Pq (h:ac) (qb pb tb sp wb:Nat) (s:PS) (F:Nat->Prop):Prop where
 q:jd h qb pb tb sp false
 t:bc h tb s.L s.nx F
 s:fB h sp wb s.U
 dF:∀ b,F b->b≠qb/\b≠sp/\b≠wb
 dq:qb≠sp/\qb≠wb
section
variable {h h':ac} {qb pb tb sp wb:Nat} {s:PS} {F:Nat->Prop}
theorem Pq.sm {G:Nat->Prop} (hq:Pq h qb pb tb sp wb s F) (hs:Sm G h h') (h1:¬G qb/\¬G sp/\¬G wb) (h2:∀ b,F b->¬G b):Pq h' qb pb tb sp wb s F :=
 ⟨hq.q.sm hs h1.1,hq.t.sm hs h2,hq.s.sm hs h1.2.1 h1.2.2,hq.dF,hq.dq⟩
theorem Pq.no (hq:Pq h qb pb tb sp wb s F) (hs:Sm bm h h'):Pq h' qb pb tb sp wb s F:=hq.sm hs ⟨fun h=>h,fun h=>h,fun h=>h⟩ (fun _ _ h=>h)
theorem zb5 {n:Nat} (hn:8<=n) (hq:Pq h qb pb tb sp wb s F) (hlen:s.L.length<=1000) {d:List Nat} (hd1:1<=d.length) (hd2:d.length<=64) (hdb:kr d) :
  WC (C n (.fn 65) [.ptr (some (qb,0)),.str d] h) fun r h'=>∃ F',r=.tuple [u (cW s d).1,.int .i64 (cW s d).2.1]/\Pq h' qb pb tb sp wb (cW s d).2.2 F'/\Sm (fun b=>F b∨b=wb) h h'/\∀ b,F' b->F b∨h.next<=b:=by
 obtain ⟨B,t5⟩:=hq.t.ok
 have hdF:=hq.dF
 have hdq:=hq.dq
 have hne:=hq.s.ne
 obtain ⟨z,r⟩:=hq.q.r
 have l1:=r.ld1 1
 simp only [List.getElem?_cons_zero,List.getElem?_cons_succ] at l1
 obtain ⟨m,rfl⟩:∃ m,n=m+1:=⟨n - 1,by omega⟩
 refine ak _ zgJ rfl (by simp [Vf]) fun QQ hQ=>?_
 simp only [Vf] at hQ
 simp only [Vf,ah,ai,Nat.zero_add,reduceAdd]
 obtain ⟨_,h1,e1,s1,rfl⟩:=sY (n:=m) (by omega) hq.t (s:=d) (by omega) hdb
 have hq1:=hq.no s1
 obtain ⟨z,r1⟩:=hq1.q.r
 have k1:=r1.ld1 1
 have k2:=r1.ld1 2
 simp only [List.getElem?_cons_zero,List.getElem?_cons_succ] at k1 k2
 cases hf:pE s.L d with
 | some c =>
  rw [hf] at e1
  simp only at e1
  have hg:fC s.L c.id=some c:=gH t5.ids (qx hf).1
  obtain ⟨r2,h2,e2,c2⟩:=JS (n:=m) (by omega) hq1.t c.id
  rcases c2 with ⟨hbad,_⟩|⟨c',hc',c2⟩
  ·rw [hg] at hbad;cases hbad
  rw [hg] at hc'
  cases hc'
  rcases c2 with ⟨hr,rfl,s2⟩|⟨hr,rfl,ht2,s2⟩
  ·have ho:cW s d=(c.id,12,s):=by unfold cW;rw [hf];simp only [if_pos hr]
   simp only [F65,SS,Nat.reduceBEq,reduceEqDiff,reduceAdd,reduceIte,reduceMul,cO,l1,e1,k1,e2]
   refine hQ _ _ _ _ (.inr rfl) (by simp only [SS,Nat.reduceBEq]) (by simp only [SS,Nat.reduceBEq,reduceEqDiff,reduceAdd,reduceIte,reduceMul];rfl) ?_
   rw [ho]
   exact ⟨F,rfl,hq1.no s2,(s1.trans s2 (fun _ _ h=>h) (fun _ _ h=>h)).no,fun b hb=>.inl hb⟩
  ·have ho:cW s d=(c.id,0,{s with L:=dU {c with refs:=c.refs+1 } s.L }):=by unfold cW;rw [hf];simp only [if_neg hr]
   simp only [F65,SS,Nat.reduceBEq,reduceEqDiff,reduceAdd,reduceIte,reduceMul,cO,l1,e1,k1,e2]
   refine hQ _ _ _ _ (.inr rfl) (by simp only [SS,Nat.reduceBEq]) (by simp only [SS,Nat.reduceBEq,reduceEqDiff,reduceAdd,reduceIte,reduceMul];rfl) ?_
   rw [ho]
   exact ⟨F,rfl,⟨hq1.q.sm s2 (fun h=>(hdF _ h).1 rfl),ht2,hq1.s.sm s2 (fun h=>(hdF _ h).2.1 rfl) (fun h=>(hdF _ h).2.2 rfl),hdF,hdq⟩,s1.trans s2 (fun _ _ h=>h.elim) (fun _ _ h=>.inl h),fun b hb=>.inl hb⟩
 | none =>
  rw [hf] at e1
  simp only at e1
  obtain ⟨r2,h2,e2,c2⟩:=KP (n:=m) (by omega) hq1.s
  rcases c2 with ⟨hno,rfl,s2⟩|⟨k,hk1,hk2,hu,hno,rfl,hs2,s2⟩
  ·have ho:cW s d=(0,7,s):=by unfold cW;rw [hf,yR hno]
   simp only [F65,SS,Nat.reduceBEq,reduceEqDiff,reduceAdd,reduceIte,reduceMul,cO,pq,l1,e1,k2,e2]
   refine hQ _ _ _ _ (.inr rfl) (by simp only [SS,Nat.reduceBEq]) (by simp only [SS,Nat.reduceBEq,reduceEqDiff,reduceAdd,reduceIte,reduceMul];rfl) ?_
   rw [ho]
   exact ⟨F,rfl,hq1.no s2,(s1.trans s2 (fun _ _ h=>h) (fun _ _ h=>h)).no,fun b hb=>.inl hb⟩
  ·have hF:=yS hk1 hk2 hu hno
   have hq2:Pq h2 qb pb tb sp wb {s with U:=fun i=>s.U i||decide (i=k) } F:=⟨hq1.q.sm s2 hdq.2,hq1.t.sm s2 (fun b hb=>(hdF b hb).2.2),hs2,hdF,hdq⟩
   obtain ⟨z,r2⟩:=hq2.q.r
   have j1:=r2.ld1 1
   simp only [List.getElem?_cons_zero,List.getElem?_cons_succ] at j1
   obtain ⟨r3,h3,e3,c3⟩:=KR (n:=m) (by omega) hq2.t (s:=d) (k:Int) (by omega) hdb (by omega)
   have s12:Sm (fun b=>F b∨b=wb) h h2:=s1.trans s2 (fun _ _ h=>h.elim) (fun _ _ h=>.inr h)
   rcases c3 with ⟨hbad,_⟩|⟨_,⟨⟨c,hbad⟩,_⟩|⟨_,⟨hnx,rfl,s3⟩|⟨hnx,rfl,F',ht3,s3,hF'⟩⟩⟩
   ·omega
   ·have hbad:pE s.L d=some c:=hbad
    rw [hf] at hbad;cases hbad
   ·have hnx:s.nx=4294967295:=hnx
    have ho:cW s d=(0,12,{s with U:=fun i=>s.U i||decide (i=k) }):=by unfold cW;rw [hf,hF];simp only [if_pos hnx]
    simp only [F65,SS,Nat.reduceBEq,reduceEqDiff,reduceAdd,reduceIte,reduceMul,cO,pq,l1,e1,k2,e2,j1,e3]
    refine hQ _ _ _ _ (.inr rfl) (by simp only [SS,Nat.reduceBEq]) (by simp only [SS,Nat.reduceBEq,reduceEqDiff,reduceAdd,reduceIte,reduceMul];rfl) ?_
    rw [ho]
    exact ⟨F,rfl,hq2.no s3,s12.trans s3 (fun _ _ h=>h) (fun _ _ h=>h.elim),fun b hb=>.inl hb⟩
   ·have hnx:s.nx≠4294967295:=hnx
    have ho:cW s d=(s.nx,0,⟨s.L++[⟨s.nx,d,(k:Int),1⟩],s.nx+1,fun i=>s.U i||decide (i=k)⟩):=by unfold cW;rw [hf,hF];simp only [if_neg hnx]
    simp only [F65,SS,Nat.reduceBEq,reduceEqDiff,reduceAdd,reduceIte,reduceMul,cO,pq,l1,e1,k2,e2,j1,e3]
    refine hQ _ _ _ _ (.inr rfl) (by simp only [SS,Nat.reduceBEq]) (by simp only [SS,Nat.reduceBEq,reduceEqDiff,reduceAdd,reduceIte,reduceMul];rfl) ?_
    rw [ho]
    have n12:=s12.1
    have lq:=hq2.q.lt
    have lsp:=hq2.s.lt
    refine ⟨F',rfl,⟨hq2.q.sm s3 (fun h=>(hdF _ h).1 rfl),ht3,hq2.s.sm s3 (fun h=>(hdF _ h).2.1 rfl) (fun h=>(hdF _ h).2.2 rfl),fun b hb=>?_,hdq⟩,s12.trans s3 (fun _ _ h=>h) (fun _ _ h=>.inl h),fun b hb=>(hF' b hb).imp_right (by omega)⟩
    rcases hF' b hb with h | h
    ·exact hdF b h
    ·omega
end
end Go.Proofs.YtboobbebilegnaaGreat
namespace Go.Proofs.YtboobbebilegnaaGreat
open Go.Am
set_option maxRecDepth 10000
def Li (B:List (List Nat)) (i:Nat):List Nat:=B.getD i []
theorem Lh {B:List (List Nat)} {i:Nat} (h:i<B.length):Li B i=B[i]:=by simp [Li,List.getD_eq_getElem?_getD,List.getElem?_eq_getElem h]
theorem Ki {B:List (List Nat)} {k:Nat} (hk:k<B.length) (s:PS) (ids:List Int):cz (B.drop k) s ids=if (cW s (Li B k)).2.1=0 then cz (B.drop (k+1)) (cW s (Li B k)).2.2 (ids++[(cW s (Li B k)).1]) else ((cW s (Li B k)).2.1,ids,(cW s (Li B k)).2.2):=by
 rw [List.drop_eq_getElem_cons hk,← Lh hk];rfl
theorem W0 (i:Int):buildSliceN P 51 1 [0] [u i]=some (.cells (az [u i] .leaf 0) [] 1 false,sliceTo 1):=u0 i
theorem Ti:nQ P 51=am:=by kernel_rfl
section
variable {h h':ac} {qb pb tb sp wb:Nat} {s:PS} {F:Nat->Prop}
theorem VO {n:Nat} (hn:9<=n) (hq:Pq h qb pb tb sp wb s F) (hlen:s.L.length<=900) {data:List Nat} (hdl:data.length<=1000) (hdb:∀ c,c∈data->c<256) {b0 b1 b2:Nat} {z0 z1 z2:List AV} (r0:Rw h b0 [.ptr (some (qb,0))] z0 false) (r1:Rw h b1 [.str data] z1 false) (r2:Rw h b2 [.slice none 0 0 none] z2 false)
  (hlt:b0<h.next/\b1<h.next/\b2<h.next) (hne:b0≠b2/\b1≠b2) (hF:∀ b,F b∨b=wb∨b=qb∨b=sp->b≠b0/\b≠b1/\b≠b2) :
  WC (C n (.fn 63) [.ptr (some (b1,0)),.ptr (some (b0,0)),.ptr (some (b2,0))] h) fun r h2=>∃ e:Int,r=.int .i64 e/\Sm (fun b=>F b∨b=wb∨b=b2) h h2/\jd h2 qb pb tb sp false /\
   (e=(cz (dp data) s []).1/\∃ F' v bs,Pq h2 qb pb tb sp wb (cz (dp data) s []).2.2 F'/\(∃ z,Rw h2 b2 [v] z false)/\iF 48 1 h2 v (cz (dp data) s []).2.1.length ((cz (dp data) s []).2.1.map u) bs/\(∀ b,b∈bs->h.next<=b/\¬F' b)/\∀ b,F' b->F b∨h.next<=b):=by
 have k1:=r1.ld1 0
 rw [List.getElem?_cons_zero] at k1
 have lF:=hq.t.flt
 have lq:=hq.q.lt
 have ls:=hq.s.lt
 have hsok:=TC data.length data (Nat.le_refl _)
 have hsl:=nX data.length data (Nat.le_refl _)
 obtain ⟨m,rfl⟩:∃ m,n=m+1:=⟨n - 1,by omega⟩
 refine ak _ zgH rfl (by simp [Vd]) fun QQ hQ=>?_
 simp only [Vd] at hQ
 simp only [Vd,ah,ai,Nat.zero_add,reduceAdd]
 obtain ⟨vs,h1,e1,bss,os,s1,hbs1⟩:=TD (n:=m) (by omega) (h:=h) data hdl
 obtain ⟨sa,sc,sg,rfl,_,_⟩:=sT os
 have q1:=s1.1
 have lss:=os.lt
 simp only [F63,SS,Nat.reduceBEq,reduceEqDiff,reduceAdd,reduceIte,reduceMul,k1,e1,cS]
 refine aF (c:=QW) (I:=fun m' tm' h'=>∃ k t ids v bs F',k<=(dp data).length/\m'=(dp data).length - k/\cz (dp data) s []=cz ((dp data).drop k) t ids/\t.L.length<=s.L.length+k/\ids.length=k/\Pq h' qb pb tb sp wb t F'/\(∃ z,Rw h' b2 [v] z false)/\iF 48 1 h' v ids.length (ids.map u) bs/\(∀ b,b∈bs->h1.next<=b/\¬F' b)/\(∀ b,F' b->F b∨h1.next<=b)/\Sm (fun b=>F b∨b=wb∨b=b2) h1 h'/\tm'.gt 1=some (.ptr (some (b0,0)))/\tm'.gt 2=some (.ptr (some (b2,0)))/\tm'.gt 9=some (.slice sa (dp data).length sc sg)/\tm'.gt 10=some (I (dp data).length)/\tm'.gt 11=some (I k)/\tm'.gt 29=none) (n:=(dp data).length)
  ⟨0,s,[],_,[],F,by omega,rfl,rfl,by omega,rfl,hq.no s1,⟨z2,r2.sm s1 hlt.2.2 (fun h=>h)⟩,iF.nil,(fun _ h=>by cases h),(fun _ h=>.inl h),Sm.refl _ _,by simp only [SS,Nat.reduceBEq],by simp only [SS,Nat.reduceBEq],by simp only [SS,Nat.reduceBEq],by simp only [SS,Nat.reduceBEq],by first | (simp only [SS,Nat.reduceBEq,reduceEqDiff,reduceAdd,reduceIte,reduceMul];done) | (simp only [SS,Nat.reduceBEq,reduceEqDiff,reduceAdd,reduceIte,reduceMul];rfl),by simp only [SS,Nat.reduceBEq]⟩ (by omega) ?_
 rintro _ tm h2 ⟨k,t,ids,v,bs,F',hk,rfl,hp,htl,hidl,hq2,⟨z,r22⟩,o,hbs,hF',s2,t1,t2,t9,t10,t11,t29⟩ Q1 hN1 hE1
 have n2:=s2.1
 have hb2F:∀ b,F b∨b=wb∨b=b2->b<h1.next:=fun b hb=>by
  rcases hb with hb | hb | hb
  ·have:=lF b hb;omega
  ·omega
  ·omega
 by_cases hkl:k<(dp data).length
 ·have hkl':(k:Int)<((dp data).length:Int):=by omega
  have hpd:=Ki hkl t ids
  have hmem:Li (dp data) k∈dp data:=by rw [Lh hkl];exact List.getElem_mem _
  obtain ⟨d1,d2,d3⟩:=hsok _ hmem
  have os2:=os.sm s2 (fun b hb hh=>by
   have h9:=hbs1 b hb
   rcases hh with hh | hh | hh
   ·have:=lF b hh;omega
   ·omega
   ·omega)
  obtain ⟨sb,so,rfl,hce⟩:=os2.els.cell (by omega)
  have hck:=hce k (by omega)
  rw [List.getElem?_map,List.getElem?_eq_getElem hkl,Option.map_some,← Lh hkl] at hck
  have x2:=qG (k:=.i64) (b:=sb) (o:=so) (c:=sc) (g:=sg) hkl
  have r02:=(r0.sm s1 hlt.1 (fun h=>h)).sm s2 (by omega) (fun hh=>by
   rcases hh with hh | hh | hh
   ·exact (hF _ (.inl hh)).1 rfl
   ·exact (hF _ (.inr (.inl hh))).1 rfl
   ·exact hne.1 hh)
  have k0:=r02.ld1 0
  rw [List.getElem?_cons_zero] at k0
  obtain ⟨_,h3,e3,F3,rfl,hq3,s3,hF3⟩:=zb5 (n:=m) (by omega) hq2 (by omega) d1 d2 (fun i c hc=>hdb c (d3 c (List.mem_of_getElem? hc)))
  have n3:=s3.1
  have lF2:=hq2.t.flt
  have lF3:=hq3.t.flt
  have nb2:¬(F' b2∨b2=wb):=fun hh=>by
   rcases hh with hh | hh
   ·rcases hF' b2 hh with h | h
    ·exact (hF _ (.inl h)).2.2 rfl
    ·omega
   ·exact (hF _ (.inr (.inl hh))).2.2 rfl
  have r23:=r22.sm s3 (by omega) nb2
  have o3:=o.sm s3 (fun b hb hh=>by
   rcases hh with hh | hh
   ·exact (hbs b hb).2 hh
   ·have:=(hbs b hb).1;omega)
  have s13:Sm (fun b=>F b∨b=wb∨b=b2) h1 h3:=s2.trans s3 (fun _ _ h=>h) (fun c hc hh=>by
   rcases hh with hh | hh
   ·rcases hF' c hh with h | h
    ·exact .inl h
    ·omega
   ·exact .inr (.inl hh))
  by_cases he:(cW t (Li (dp data) k)).2.1=0
  ·rw [if_pos he] at hpd
   rw [he] at e3
   have k2:=r23.ld1 0
   rw [List.getElem?_cons_zero] at k2
   obtain ⟨h4,e4,r4,n4,f4⟩:=Rw.alloc h3 (id:=h3.next) (n:=1) (vs:=[u (cW t (Li (dp data) k)).1]) (z:=[]) (ro:=false) (Nat.le_refl _) rfl
   have s4:Sm bm h3 h4:=⟨by omega,fun c hc _=>f4 c (by omega)⟩
   have hs4:cI 1 (fun n=>n) (.slice (some (h3.next,0)) 1 1 none) h4=some ([u (cW t (Li (dp data) k)).1],1):=eS r4 (Nat.le_refl _)
   obtain ⟨v5,h5,bs5,e5,o5,s5,f5⟩:=jz (t:=51) (id:=h4.next) TH WG Um TZ rfl (o3.sm s4 fun _ _ h=>h) hs4 rfl rfl (eO (by omega) (by omega)) (Nat.le_refl _)
   have n5:=s5.1
   have r25:=(r23.sm s4 (by omega) (fun h=>h)).sm s5 (by omega) (fun hh=>by have:=(hbs _ hh).1;omega)
   obtain ⟨w1,w2,w3,w4⟩:=r25.st1 (o:=0) (v:=v5) (by simp) (nW o5)
   rw [show ([v]:List AV).set 0 v5=[v5] from rfl] at w2
   obtain ⟨h6,eh6⟩:∃ h6,h5.wr b2 0 [v5]=h6:=⟨_,rfl⟩
   rw [eh6] at w1 w2 w3 w4
   have s6:Sm (·= b2) h5 h6:=⟨by omega,fun c _ hc=>w4 c hc⟩
   simp only [F63,SS,Nat.reduceBEq,reduceEqDiff,reduceAdd,reduceIte,reduceMul,t1,t2,t9,t10,t11,hkl',x2,hck,k0,e3,k2,W0,e4,e5,w1,bG (show k<=1000000 by omega)]
   have hb5:∀ b,b∈bs5->h1.next<=b/\¬F3 b:=fun b hb=>by
    rcases f5 b hb with h | h
    ·refine ⟨(hbs b h).1,fun hf=>?_⟩
     rcases hF3 b hf with h9 | h9
     ·exact (hbs b h).2 h9
     ·have:=o.lt b h;omega
    ·exact ⟨by omega,fun hf=>by have:=lF3 b hf;omega⟩
   have hq5:Pq h5 qb pb tb sp wb (cW t (Li (dp data) k)).2.2 F3:=(hq3.no s4).sm s5 ⟨fun hh=>by have:=(hbs _ hh).1;omega,fun hh=>by have:=(hbs _ hh).1;omega,fun hh=>by have:=(hbs _ hh).1;omega⟩ (fun b hb hh=>by
    rcases hF3 b hb with h9 | h9
    ·exact (hbs b hh).2 h9
    ·have:=o.lt b hh;omega)
   have hq6:=hq5.sm s6 ⟨fun e=>(hF qb (.inr (.inr (.inl rfl)))).2.2 e,fun e=>(hF sp (.inr (.inr (.inr rfl)))).2.2 e,fun e=>(hF wb (.inr (.inl rfl))).2.2 e⟩ (fun b hb e=>by
    rcases hF3 b hb with h9 | h9
    ·exact nb2 (.inl (e▸h9))
    ·omega)
   have hol:=SU t (Li (dp data) k)
   refine hN1 _ _ ((dp data).length - (k+1)) (by omega) ⟨k+1,_,ids++[(cW t (Li (dp data) k)).1],v5,bs5,F3,by omega,rfl,hp.trans hpd,by omega,by rw [List.length_append];simp;omega,hq6,⟨z,w2⟩,?_,hb5,fun b hb=>?_,((s13.trans s4 (fun _ _ h=>h) (fun _ _ h=>h.elim)).trans s5 (fun _ _ h=>h) (fun c hc hh=>by have:=(hbs c hh).1;omega)).trans s6 (fun _ _ h=>h) (fun _ _ h=>.inr (.inr h)),by simp only [SS,Nat.reduceBEq,t1],by simp only [SS,Nat.reduceBEq,t2],by simp only [SS,Nat.reduceBEq,t9],by simp only [SS,Nat.reduceBEq,t10],by simp only [SS,Nat.reduceBEq],by simp only [SS,Nat.reduceBEq,t29]⟩
   ·rw [List.length_append,List.map_append]
    exact o5.same (fun b hb=>w4 b (fun e=>by have:=(hb5 b hb).1;omega)) (by omega)
   ·rcases hF3 b hb with h9 | h9
    ·exact hF' b h9
    ·exact .inr (by omega)
  ·rw [if_neg he] at hpd
   simp only [F63,SS,Nat.reduceBEq,reduceEqDiff,reduceAdd,reduceIte,reduceMul,t1,t9,t10,t11,hkl',x2,hck,k0,e3,he]
   refine hE1 _ _ _ (by simp) ?_
   simp only [SS,Nat.reduceBEq,reduceEqDiff,reduceAdd,reduceIte,reduceMul]
   refine hQ _ _ _ _ (.inr rfl) (by simp only [SS,Nat.reduceBEq,t29]) (by simp only [SS,Nat.reduceBEq,reduceEqDiff,reduceAdd,reduceIte,reduceMul];rfl) ⟨_,rfl,s1.trans s13 (fun _ _ h=>h.elim) (fun _ _ h=>h),hq3.q,?_⟩
   rw [hp,hpd]
   refine ⟨rfl,F3,v,bs,hq3,⟨z,r23⟩,o3,fun b hb=>⟨by have:=(hbs b hb).1;omega,fun hf=>?_⟩,fun b hb=>?_⟩
   ·rcases hF3 b hf with h9 | h9
    ·exact (hbs b hb).2 h9
    ·have:=o.lt b hb;omega
   ·rcases hF3 b hb with h9 | h9
    ·exact (hF' b h9).imp_right (by omega)
    ·exact .inr (by omega)
 ·obtain rfl:k=(dp data).length:=by omega
  have hkl':¬((dp data).length:Int)<((dp data).length:Int):=by omega
  rw [List.drop_of_length_le (Nat.le_refl _)] at hp
  have hp:cz (dp data) s []=(0,ids,t):=hp
  simp only [F63,SS,Nat.reduceBEq,reduceEqDiff,reduceAdd,reduceIte,reduceMul,t10,t11,hkl']
  refine hE1 _ _ _ (by simp) ?_
  simp only [F63,SS,Nat.reduceBEq,reduceEqDiff,reduceAdd,reduceIte,reduceMul]
  refine hQ _ _ _ _ (.inr rfl) (by simp only [SS,Nat.reduceBEq,t29]) (by simp only [SS,Nat.reduceBEq,reduceEqDiff,reduceAdd,reduceIte,reduceMul,t29];rfl) ?_
  refine ⟨0,rfl,s1.trans s2 (fun _ _ h=>h.elim) (fun _ _ h=>h),hq2.q,?_⟩
  rw [hp]
  exact ⟨rfl,F',v,bs,hq2,⟨z,r22⟩,o,fun b hb=>⟨by have:=(hbs b hb).1;omega,(hbs b hb).2⟩,fun b hb=>(hF' b hb).imp_right (by omega)⟩
theorem zcb {n:Nat} (hn:12<=n) (hq:Pq h qb pb tb sp wb s F) (hlen:s.L.length<=900) {data:List Nat} (hdl:data.length<=1000) (hdb:∀ c,c∈data->c<256) :
  WC (C n (.fn 18) [.ptr (some (qb,0)),.str data] h) fun r h'=>Sm (fun b=>F b∨b=wb∨b=qb) h h' /\
   ((cz (dp data) s []).1=0/\(∃ v bs F',r=.tuple [v,.int .i64 0]/\iF 48 1 h' v (cz (dp data) s []).2.1.length ((cz (dp data) s []).2.1.map u) bs/\Pq h' qb pb tb sp wb (cz (dp data) s []).2.2 F'/\(∀ b,b∈bs->h.next<=b/\¬F' b)/\∀ b,F' b->F b∨h.next<=b) ∨
    (cz (dp data) s []).1≠0/\r=.tuple [.slice none 0 0 none,.int .i64 (cz (dp data) s []).1]):=by
 have lF:=hq.t.flt
 have lq:=hq.q.lt
 have ls:=hq.s.lt
 obtain ⟨m,rfl⟩:∃ m,n=m+1:=⟨n - 1,by omega⟩
 refine ak _ zgn rfl (by simp [UT]) fun QQ hQ=>?_
 simp only [UT] at hQ
 simp only [UT,ah,ai,Nat.zero_add,reduceAdd]
 obtain ⟨h1,e1,r1,n1,f1⟩:=Rw.alloc h (id:=h.next) (n:=1) (vs:=[.ptr (some (qb,0))]) (z:=[]) (ro:=false) (Nat.le_refl _) rfl
 obtain ⟨h2,e2,r2,n2,f2⟩:=Rw.alloc h1 (id:=h1.next) (n:=1) (vs:=[.str data]) (z:=[]) (ro:=false) (Nat.le_refl _) rfl
 obtain ⟨h3,e3,r3,n3,f3⟩:=Rw.alloc h2 (id:=h2.next) (n:=1) (vs:=[.slice none 0 0 none]) (z:=ay 51 true) (ro:=false) (Nat.le_refl _) rfl
 have s3:Sm bm h h3:=⟨by omega,fun c hc _=>by rw [f3 c (by omega),f2 c (by omega),f1 c (by omega)]⟩
 have r1:Rw h3 h.next [.ptr (some (qb,0))] [] false:=r1.same (by rw [f3 _ (by omega),f2 _ (by omega)])
 have r2:Rw h3 h1.next [.str data] [] false:=r2.same (by rw [f3 _ (by omega)])
 have k1:=r1.ld1 0
 rw [List.getElem?_cons_zero] at k1
 have hq3:=hq.no s3
 obtain ⟨_,h4,e4,e,ha,rfl,⟨he,F',v,bs,hqa,⟨z,ra⟩,oa,hbs,hF'⟩,s4,hq4,s34,hna⟩:=Cf (n:=m) (by omega) hq3.q 63 [.ptr (some (h1.next,0)),.ptr (some (h.next,0)),.ptr (some (h2.next,0))]
  (fun e h2'=>e=(cz (dp data) s []).1/\∃ F' v bs,Pq h2' qb pb tb sp wb (cz (dp data) s []).2.2 F'/\(∃ z,Rw h2' h2.next [v] z false)/\iF 48 1 h2' v (cz (dp data) s []).2.1.length ((cz (dp data) s []).2.1.map u) bs/\(∀ b,b∈bs->h3.next+2<=b/\¬F' b)/\∀ b,F' b->F b∨h3.next+2<=b)
  (fun b=>F b∨b=wb∨b=h2.next) (fun b hb=>by
   rcases hb with hb | hb | hb
   ·have:=lF b hb;omega
   ·omega
   ·omega)
  (fun h5 s5 hn5=>by
   obtain ⟨r,h6,e6,e,hr,s6,hp6,hE,F',v,bs,c1,c2,c3,c4,c5⟩:=VO (n:=m - 1) (by omega) (hq3.no s5) hlen hdl hdb (b0:=h.next) (b1:=h1.next) (b2:=h2.next) (r1.sm s5 (by omega) (fun h=>h)) (r2.sm s5 (by omega) (fun h=>h)) (r3.sm s5 (by omega) (fun h=>h)) (by omega) (by omega) (fun b hb=>by
    rcases hb with hb | hb | hb | hb
    ·have:=lF b hb;omega
    ·omega
    ·omega
    ·omega)
   exact ⟨r,h6,e6,e,hr,s6,hp6,hE,F',v,bs,c1,c2,c3,fun b hb=>⟨by have:=(c4 b hb).1;omega,(c4 b hb).2⟩,fun b hb=>(c5 b hb).imp_right (by omega)⟩)
 have n4:=s4.1
 have n34:=s34.1
 have ra4:=ra.sm s4 (by omega) (by omega)
 have oa4:=oa.sm s4 (fun b hb hh=>by have:=(hbs b hb).1;omega)
 have hqa4:∀ ov,jd h4 qb pb tb sp ov->ov=false->Pq h4 qb pb tb sp wb (cz (dp data) s []).2.2 F':=fun ov hp4 hov=>by
  subst hov
  have hdF:=hqa.dF
  refine ⟨hp4,hqa.t.sm s4 (fun b hb hh=>?_),hqa.s.sm s4 (by have:=hqa.dq;omega) (by have:=hqa.dq;omega),hqa.dF,hqa.dq⟩
  rcases hh with hh | hh
  ·exact (hdF b hb).1 hh
  ·rcases hF' b hb with h9 | h9
   ·have:=lF b h9;omega
   ·omega
 have k4:=ra4.ld1 0
 rw [List.getElem?_cons_zero] at k4
 have s04:∀ h',Sm (·= h2.next) h4 h'->Sm (fun b=>F b∨b=wb∨b=qb) h h':=fun h' s'=>(s3.trans s34 (H:=fun b=>F b∨b=wb∨b=qb) (fun _ _ h=>h.elim) (fun c hc hh=>by
  rcases hh with (hh | hh | hh) | hh
  ·exact .inl hh
  ·exact .inr (.inl hh)
  ·omega
  ·exact .inr (.inr hh))).trans s' (fun _ _ h=>h) (fun c hc hh=>by omega)
 by_cases h0:e=0
 ·subst h0
  obtain ⟨w1,w2,w3,w4⟩:=ra4.st1 (o:=0) (v:=v) (by simp) (nW oa4)
  rw [show ([v]:List AV).set 0 v=[v] from rfl] at w2
  obtain ⟨h5,eh5⟩:∃ h5,h4.wr h2.next 0 [v]=h5:=⟨_,rfl⟩
  rw [eh5] at w1 w2 w3 w4
  have s5:Sm (·= h2.next) h4 h5:=⟨by omega,fun c _ hc=>w4 c hc⟩
  have k5:=w2.ld1 0
  rw [List.getElem?_cons_zero] at k5
  simp only [F18,SS,Nat.reduceBEq,reduceEqDiff,reduceAdd,reduceIte,reduceMul,hO,AK,e1,e2,Jf,e3,k1,zbW,e4,k4,w1]
  refine hQ _ _ _ _ (.inr rfl) (by simp only [SS,Nat.reduceBEq]) (by simp only [SS,Nat.reduceBEq,reduceEqDiff,reduceAdd,reduceIte,reduceMul,Ti,k5];rfl) ?_
  have hq4':=hqa4 _ hq4 rfl
  refine ⟨s04 _ s5,.inl ⟨he.symm,v,bs,F',rfl,oa4.sm s5 (fun b hb hh=>by have:=(hbs b hb).1;omega),hq4'.sm s5 ⟨by omega,by omega,by omega⟩ (fun b hb hh=>?_),fun b hb=>⟨by have:=(hbs b hb).1;omega,(hbs b hb).2⟩,fun b hb=>(hF' b hb).imp_right (by omega)⟩⟩
  rcases hF' b hb with h9 | h9
  ·have:=lF b h9;omega
  ·omega
 ·obtain ⟨w1,w2,w3,w4⟩:=ra4.st1 (o:=0) (v:=.slice none 0 0 none) (by simp) rfl
  rw [show ([v]:List AV).set 0 (.slice none 0 0 none)=[.slice none 0 0 none] from rfl] at w2
  obtain ⟨h5,eh5⟩:∃ h5,h4.wr h2.next 0 [.slice none 0 0 none]=h5:=⟨_,rfl⟩
  rw [eh5] at w1 w2 w3 w4
  have s5:Sm (·= h2.next) h4 h5:=⟨by omega,fun c _ hc=>w4 c hc⟩
  have k5:=w2.ld1 0
  rw [List.getElem?_cons_zero] at k5
  simp only [F18,SS,Nat.reduceBEq,reduceEqDiff,reduceAdd,reduceIte,reduceMul,hO,AK,e1,e2,Jf,e3,k1,zbW,e4,h0,w1]
  refine hQ _ _ _ _ (.inr rfl) (by simp only [SS,Nat.reduceBEq]) (by simp only [SS,Nat.reduceBEq,reduceEqDiff,reduceAdd,reduceIte,reduceMul,Ti,k5];rfl) ?_
  exact ⟨s04 _ s5,.inr ⟨fun hh=>h0 (he.trans hh),by rw [he];rfl⟩⟩
end
end Go.Proofs.YtboobbebilegnaaGreat
namespace Go.Proofs.YtboobbebilegnaaGreat
open Go.Am
set_option maxRecDepth 10000
def gL (s:PS) (id:Int):Int×PS:=match fC s.L id with
 | none=>(5,s)
 | some c=>if 1<c.refs then (0,{s with L:=dU {c with refs:=c.refs - 1 } s.L }) else (0,{s with L:=kJ id s.L })
def fR:List Int->PS->Int×PS
 | [],s=>(0,s)
 | i::is,s=>if (gL s i).1=0 then fR is (gL s i).2 else (gL s i)
theorem Kq {ids:List Int} {k:Nat} (hk:k<ids.length) (s:PS):fR (ids.drop k) s=if (gL s ids[k]).1=0 then fR (ids.drop (k+1)) (gL s ids[k]).2 else gL s ids[k]:=by
 rw [List.drop_eq_getElem_cons hk];rfl
theorem zdt (f:Nat) (a b:List AV):cV (.func (.func f) a b)=some (.cells (az [.func (.func f) a b] .leaf 0) [] 1 false,dy):=rfl
section
variable {h h':ac} {qb pb tb sp wb:Nat} {s:PS} {F:Nat->Prop}
theorem Wu {n:Nat} (hn:5<=n) (hq:Pq h qb pb tb sp wb s F) {b0:Nat} {z0:List AV} (r0:Rw h b0 [.ptr (some (qb,0))] z0 false) (id:Int) :
  WC (C n (.fn 91) [u id,.ptr (some (b0,0))] h) fun r h'=>∃ F',r=.int .i64 (gL s id).1/\Pq h' qb pb tb sp wb (gL s id).2 F'/\Sm F h h'/\∀ b,F' b->F b:=by
 have hdF:=hq.dF
 have k0:=r0.ld1 0
 rw [List.getElem?_cons_zero] at k0
 obtain ⟨z,r⟩:=hq.q.r
 have l1:=r.ld1 1
 simp only [List.getElem?_cons_zero,List.getElem?_cons_succ] at l1
 obtain ⟨m,rfl⟩:∃ m,n=m+1:=⟨n - 1,by omega⟩
 refine ak _ zgQ rfl (by simp [Vm]) fun QQ hQ=>?_
 simp only [Vm] at hQ
 simp only [Vm,ah,ai,Nat.zero_add,reduceAdd]
 obtain ⟨r1,h1,e1,c1⟩:=wZ (n:=m) (by omega) hq.t id
 have key:∀ {L':List Ch} {F':Nat->Prop},bc h1 tb L' s.nx F'->(∀ b,F' b->F b)->Sm F h h1->Pq h1 qb pb tb sp wb {s with L:=L' } F':=fun ht hF s1 =>
  ⟨hq.q.sm s1 (fun h=>(hdF _ h).1 rfl),ht,hq.s.sm s1 (fun h=>(hdF _ h).2.1 rfl) (fun h=>(hdF _ h).2.2 rfl),fun b hb=>hdF b (hF b hb),hq.dq⟩
 rcases c1 with ⟨hg,rfl,s1⟩|⟨c,hg,s1,⟨hr,rfl,ht⟩|⟨hr,rfl,F',ht,hF⟩⟩
 ·have ho:gL s id=(5,s):=by unfold gL;rw [hg]
  simp only [F91,SS,Nat.reduceBEq,reduceEqDiff,reduceAdd,reduceIte,reduceMul,k0,cO,l1,e1]
  refine hQ _ _ _ _ (.inr rfl) (by simp only [SS,Nat.reduceBEq]) (by simp only [SS,Nat.reduceBEq,reduceEqDiff,reduceAdd,reduceIte,reduceMul];rfl) ?_
  rw [ho]
  exact ⟨F,rfl,hq.no s1,s1.no,fun _ h=>h⟩
 ·have ho:gL s id=(0,{s with L:=dU {c with refs:=c.refs - 1 } s.L }):=by unfold gL;rw [hg];simp only [if_pos hr]
  simp only [F91,SS,Nat.reduceBEq,reduceEqDiff,reduceAdd,reduceIte,reduceMul,k0,cO,l1,e1]
  refine hQ _ _ _ _ (.inr rfl) (by simp only [SS,Nat.reduceBEq]) (by simp only [SS,Nat.reduceBEq,reduceEqDiff,reduceAdd,reduceIte,reduceMul];rfl) ?_
  rw [ho]
  exact ⟨F,rfl,key ht (fun _ h=>h) s1,s1,fun _ h=>h⟩
 ·have ho:gL s id=(0,{s with L:=kJ id s.L }):=by unfold gL;rw [hg];simp only [if_neg hr]
  simp only [F91,SS,Nat.reduceBEq,reduceEqDiff,reduceAdd,reduceIte,reduceMul,k0,cO,l1,e1]
  refine hQ _ _ _ _ (.inr rfl) (by simp only [SS,Nat.reduceBEq]) (by simp only [SS,Nat.reduceBEq,reduceEqDiff,reduceAdd,reduceIte,reduceMul];rfl) ?_
  rw [ho]
  exact ⟨F',rfl,key ht hF s1,s1,hF⟩
theorem Sd {n:Nat} (hn:6<=n) (hq:Pq h qb pb tb sp wb s F) {b0 b1 b2:Nat} {z0 z1 z2:List AV} {v:AV} {ids:List Int} (r0:Rw h b0 [.ptr (some (qb,0))] z0 false) (r1:Rw h b1 [v] z1 false) (r2:Rw h b2 [.func (.func 91) [] [.ptr (some (b0,0))]] z2 false)
  (hlt:b0<h.next/\b1<h.next/\b2<h.next) (hF:∀ b,F b->b≠b0/\b≠b1/\b≠b2) (hv:mg h v ids.length 1 (ids.map u)) (hvF:∀ b,ky v b->¬F b) (hl:ids.length<=1000) :
  WC (C n (.fn 141) [.ptr (some (b1,0)),.ptr (some (b2,0))] h) fun r h2=>∃ e:Int,r=.int .i64 e/\Sm F h h2/\jd h2 qb pb tb sp false/\(e=(fR ids s).1/\∃ F',Pq h2 qb pb tb sp wb (fR ids s).2 F'/\∀ b,F' b->F b):=by
 obtain ⟨_,a,c,g,rfl,_⟩:=id hv
 have k1:=r1.ld1 0
 rw [List.getElem?_cons_zero] at k1
 obtain ⟨m,rfl⟩:∃ m,n=m+1:=⟨n - 1,by omega⟩
 refine ak _ zed rfl (by simp [Im]) fun QQ hQ=>?_
 simp only [Im] at hQ
 simp only [Im,ah,ai,Nat.zero_add,reduceAdd]
 simp only [Lb,SS,Nat.reduceBEq,reduceEqDiff,reduceAdd,reduceIte,reduceMul,k1,eJ]
 refine aF (c:=AN) (I:=fun m' tm' h'=>∃ k t F',k<=ids.length/\m'=ids.length - k/\fR ids s=fR (ids.drop k) t/\Pq h' qb pb tb sp wb t F'/\(∀ b,F' b->F b)/\Sm F h h'/\tm'.gt 1=some (.ptr (some (b2,0)))/\tm'.gt 6=some (.slice a ids.length c g)/\tm'.gt 7=some (I ids.length)/\tm'.gt 8=some (I k)/\tm'.gt 19=none) (n:=ids.length)
  ⟨0,s,F,by omega,rfl,rfl,hq,(fun _ h=>h),Sm.refl _ _,by simp only [SS,Nat.reduceBEq],by simp only [SS,Nat.reduceBEq],by simp only [SS,Nat.reduceBEq],by first | (simp only [SS,Nat.reduceBEq,reduceEqDiff,reduceAdd,reduceIte,reduceMul];done) | (simp only [SS,Nat.reduceBEq,reduceEqDiff,reduceAdd,reduceIte,reduceMul];rfl),by simp only [SS,Nat.reduceBEq]⟩ (by omega) ?_
 rintro _ tm h2 ⟨k,t,F',hk,rfl,hp,hq2,hF',s2,t1,t6,t7,t8,t19⟩ Q1 hN1 hE1
 by_cases hkl:k<ids.length
 ·have hkl':(k:Int)<(ids.length:Int):=by omega
  obtain ⟨sb,so,rfl,hce⟩:=(gG hv s2 hvF).cell (by omega)
  have hck:=hce k (by omega)
  rw [List.getElem?_map,List.getElem?_eq_getElem hkl,Option.map_some] at hck
  have x2:=aB (k:=.i64) (b:=sb) (o:=so) (c:=c) (g:=g) hkl
  have r02:=r0.sm s2 hlt.1 (fun h=>(hF _ h).1 rfl)
  have k2:=(r2.sm s2 hlt.2.2 (fun h=>(hF _ h).2.2 rfl)).ld1 0
  rw [List.getElem?_cons_zero] at k2
  obtain ⟨_,h3,e3,F3,rfl,hq3,s3,hF3⟩:=Wu (n:=m) (by omega) hq2 r02 ids[k]
  have hpd:=Kq hkl t
  have s23:Sm F h h3:=s2.trans s3 (fun _ _ h=>h) (fun _ _ h=>hF' _ h)
  by_cases he:(gL t ids[k]).1=0
  ·rw [if_pos he] at hpd
   rw [he] at e3
   simp only [Lb,SS,Nat.reduceBEq,reduceEqDiff,reduceAdd,reduceIte,reduceMul,t1,t6,t7,t8,hkl',x2,hck,k2,List.cons_append,e3,bG (show k<=1000000 by omega)]
   exact hN1 _ _ (ids.length - (k+1)) (by omega) ⟨k+1,_,F3,by omega,rfl,hp.trans hpd,hq3,fun b hb=>hF' b (hF3 b hb),s23,by simp only [SS,Nat.reduceBEq,t1],by simp only [SS,Nat.reduceBEq,t6],by simp only [SS,Nat.reduceBEq,t7],by simp only [SS,Nat.reduceBEq],by simp only [SS,Nat.reduceBEq,t19]⟩
  ·rw [if_neg he] at hpd
   simp only [Lb,SS,Nat.reduceBEq,reduceEqDiff,reduceAdd,reduceIte,reduceMul,t1,t6,t7,t8,hkl',x2,hck,k2,List.cons_append,e3,he]
   refine hE1 _ _ _ (by simp) ?_
   simp only [SS,Nat.reduceBEq,reduceEqDiff,reduceAdd,reduceIte,reduceMul]
   refine hQ _ _ _ _ (.inr rfl) (by simp only [SS,Nat.reduceBEq,t19]) (by simp only [SS,Nat.reduceBEq,reduceEqDiff,reduceAdd,reduceIte,reduceMul];rfl) ⟨_,rfl,s23,hq3.q,?_⟩
   rw [hp,hpd]
   exact ⟨rfl,F3,hq3,fun b hb=>hF' b (hF3 b hb)⟩
 ·obtain rfl:k=ids.length:=by omega
  have hkl':¬(ids.length:Int)<(ids.length:Int):=by omega
  rw [List.drop_of_length_le (Nat.le_refl _)] at hp
  have hp:fR ids s=(0,t):=hp
  simp only [Lb,SS,Nat.reduceBEq,reduceEqDiff,reduceAdd,reduceIte,reduceMul,t7,t8,hkl']
  refine hE1 _ _ _ (by simp) ?_
  simp only [Lb,SS,Nat.reduceBEq,reduceEqDiff,reduceAdd,reduceIte,reduceMul]
  refine hQ _ _ _ _ (.inr rfl) (by simp only [SS,Nat.reduceBEq,t19]) (by simp only [SS,Nat.reduceBEq,reduceEqDiff,reduceAdd,reduceIte,reduceMul,t19];rfl) ?_
  refine ⟨0,rfl,s2,hq2.q,?_⟩
  rw [hp]
  exact ⟨rfl,F',hq2,hF'⟩
theorem BU {n:Nat} (hn:10<=n) (hq:Pq h qb pb tb sp wb s F) {v:AV} {ids:List Int} (hv:mg h v ids.length 1 (ids.map u)) (hvF:∀ b,ky v b->¬F b) (hl:ids.length<=1000) :
  WC (C n (.fn 35) [.ptr (some (qb,0)),v] h) fun r h'=>r=.int .i64 (fR ids s).1/\Sm (fun b=>F b∨b=qb) h h'/\((fR ids s).1=0->∃ F',Pq h' qb pb tb sp wb (fR ids s).2 F'/\∀ b,F' b->F b):=by
 have lF:=hq.t.flt
 have lq:=hq.q.lt
 have ls:=hq.s.lt
 obtain ⟨_,a,c,g,rfl,_⟩:=id hv
 obtain ⟨m,rfl⟩:∃ m,n=m+1:=⟨n - 1,by omega⟩
 refine ak _ zgr rfl (by simp [UX]) fun QQ hQ=>?_
 simp only [UX] at hQ
 simp only [UX,ah,ai,Nat.zero_add,reduceAdd]
 obtain ⟨h1,e1,r1,n1,f1⟩:=Rw.alloc h (id:=h.next) (n:=1) (vs:=[.ptr (some (qb,0))]) (z:=[]) (ro:=false) (Nat.le_refl _) rfl
 have s1:Sm bm h h1:=⟨by omega,fun c hc _=>f1 c (by omega)⟩
 have k1:=r1.ld1 0
 rw [List.getElem?_cons_zero] at k1
 have main:WC (C m (.fn 90) [.ptr (some (qb,0)),.slice a ids.length c g,.func (.func 91) [] [.ptr (some (h.next,0))]] h1) fun r h'=>r=.int .i64 (fR ids s).1/\Sm (fun b=>F b∨b=qb) h1 h'/\((fR ids s).1=0->∃ F',Pq h' qb pb tb sp wb (fR ids s).2 F'/\∀ b,F' b->F b):=by
  clear hQ
  generalize hN:m=n at *
  obtain ⟨m,rfl⟩:∃ m,n=m+1:=⟨n - 1,by omega⟩
  refine ak _ zgP rfl (by simp [Vl]) fun QQ hQ=>?_
  simp only [Vl] at hQ
  simp only [Vl,ah,ai,Nat.zero_add,reduceAdd]
  obtain ⟨h2,e2,r2,n2,f2⟩:=Rw.alloc h1 (id:=h1.next) (n:=1) (vs:=[.slice a ids.length c g]) (z:=[]) (ro:=false) (Nat.le_refl _) rfl
  obtain ⟨h3,e3,r3,n3,f3⟩:=Rw.alloc h2 (id:=h2.next) (n:=1) (vs:=[.func (.func 91) [] [.ptr (some (h.next,0))]]) (z:=[]) (ro:=false) (Nat.le_refl _) rfl
  have s3:Sm bm h1 h3:=⟨by omega,fun c hc _=>by rw [f3 c (by omega),f2 c (by omega)]⟩
  have s03:Sm bm h h3:=s1.trans s3 (fun _ _ h=>h) (fun _ _ h=>h)
  have r2:=r2.same (f3 h1.next (by omega))
  have hq3:=hq.no s03
  obtain ⟨_,h4,e4,e,ha,rfl,⟨he,F',hqa,hF'⟩,s4,hq4,s34,hna⟩:=Cf (n:=m) (by omega) hq3.q 141 [.ptr (some (h1.next,0)),.ptr (some (h2.next,0))] (fun e h2'=>e=(fR ids s).1/\∃ F',Pq h2' qb pb tb sp wb (fR ids s).2 F'/\∀ b,F' b->F b) F (fun b hb=>by have:=lF b hb;omega)
   (fun h5 s5 hn5=>Sd (n:=m - 1) (by omega) (hq3.no s5) (b0:=h.next) (b1:=h1.next) (b2:=h2.next) ((r1.sm s3 (by omega) (fun h=>h)).sm s5 (by omega) (fun h=>h)) (r2.sm s5 (by omega) (fun h=>h)) (r3.sm s5 (by omega) (fun h=>h)) (by omega) (fun b hb=>by have:=lF b hb;omega) (gG (gG hv s03 (fun _ _ h=>h)) s5 (fun _ _ h=>h)) hvF hl)
  simp only [F90,SS,Nat.reduceBEq,reduceEqDiff,reduceAdd,reduceIte,reduceMul,zdu,zdt,e2,e3,zeZ,e4]
  refine hQ _ _ _ _ (.inr rfl) (by simp only [SS,Nat.reduceBEq]) (by simp only [SS,Nat.reduceBEq,reduceEqDiff,reduceAdd,reduceIte,reduceMul];rfl) ?_
  refine ⟨by rw [he];rfl,(s3.trans s34 (H:=fun b=>F b∨b=qb) (fun _ _ h=>h.elim) (fun _ _ h=>h)),fun h0=>⟨F',?_,hF'⟩⟩
  rw [← he] at h0
  subst h0
  have hdF:=hqa.dF
  refine ⟨hq4,hqa.t.sm s4 (fun b hb hh=>?_),hqa.s.sm s4 (by have:=hqa.dq;omega) (by have:=hqa.dq;omega),hqa.dF,hqa.dq⟩
  rcases hh with hh | hh
  ·exact (hdF b hb).1 hh
  ·have:=lF b (hF' b hb);omega
 obtain ⟨_,h2,e2,rfl,s2,hE⟩:=main
 simp only [F35,SS,Nat.reduceBEq,reduceEqDiff,reduceAdd,reduceIte,reduceMul,hO,e1,k1,VC,e2]
 refine hQ _ _ _ _ (.inr rfl) (by simp only [SS,Nat.reduceBEq]) (by simp only [SS,Nat.reduceBEq,reduceEqDiff,reduceAdd,reduceIte,reduceMul];rfl) ?_
 exact ⟨rfl,s1.trans s2 (fun _ _ h=>h.elim) (fun _ _ h=>h),hE⟩
end
end Go.Proofs.YtboobbebilegnaaGreat
namespace Go.Proofs.YtboobbebilegnaaGreat
open Go.Am
set_option maxRecDepth 10000
section
variable {h h':ac} {db sb lb:Nat} {D:List Sl}
theorem uw:∀ (n:Nat) (a b:List Nat),a.length=n->b.length=n->∃ t,lQ (aX P 49 5) 1 false n (a.map aQ) (b.map aQ)=some t
 | 0,_,_,_,_=>⟨true,rfl⟩
 | n+1,x::a,y::b,ha,hb=>by
  obtain ⟨t,ih⟩:=uw n a b (by simpa using ha) (by simpa using hb)
  have e:aX P 49 5 (aQ x) (aQ y)=some (T1 (x:Int) (y:Int)):=by
   unfold aX
   rw [u_5];rfl
  show ∃ t,(match aX P 49 5 (aQ x) (aQ y) with
   | some true=>lQ (aX P 49 5) 1 false n (a.map aQ) (b.map aQ)
   | r=>r)=some t
  rw [e]
  cases T1 (x:Int) (y:Int)
  ·exact ⟨_,rfl⟩
  ·exact ⟨t,ih⟩
theorem zb2 {a b:List Nat} (ha:a.length=64) (hb:b.length=64):∃ t,ag P .neq 207 (.agg (a.map aQ)) (.agg (b.map aQ))=some (.bool t):=by
 obtain ⟨t,e⟩:=uw 64 a b ha hb
 refine ⟨!t,?_⟩
 have hp:aX P 50 207 (.agg (a.map aQ)) (.agg (b.map aQ))=some t:=by
  unfold aX
  rw [zfA]
  simp only [s_5,show gB P 5=some false from by kernel_rfl]
  exact e
 show SM P 207 _ _=_
 unfold SM
 show (Option.rec (motive:=fun _=>Option AV) none (fun b=>jx (fM b)) (aV (fM (P.eqGuardType P.depth 207)) (aX P 50 207 (.agg (a.map aQ)) (.agg (b.map aQ)))):Option AV)=_
 rw [hp,show fM (P.eqGuardType P.depth 207)=true from by kernel_rfl]
 cases t <;> rfl
theorem bB.put (hd:bB h db sb D) {k o:Nat} (hk:k<256) {us:List AV} (ho:o+us.length<=129) {y:Sl} (hy:y.c=eD (Si D k).c o us) (hok:y.Ok) (hr:∃ z,Rw h' sb (eD (csD D) (k*129+o) us) z false) (hn:h'.next=h.next) (hs:∀ c,c≠sb->h'.bs.gt c=h.bs.gt c):bB h' db sb (D.set k y)/\Sm (·= sb) h h':=by
 have hkl:k<D.length:=by rw [hd.len];exact hk
 obtain ⟨z',r'⟩:=hd.r
 have lt:=hd.lt
 rw [qN hkl] at hy
 rw [show csD D=D.flatMap Sl.c from rfl,zbE hd.lens hkl ho hy] at hr
 refine ⟨⟨⟨z',r'.same (hs db hd.ne)⟩,hr,by rw [List.length_set];exact hd.len,fun x hx=>?_,by omega,hd.ne⟩,by omega,fun c _ hc=>hs c hc⟩
 rcases List.mem_or_eq_of_mem_set hx with h1 | rfl
 ·exact hd.ok x h1
 ·exact hok
theorem bB.ldF (hd:bB h db sb D) {k:Nat} (hk:k<256):h.ld sb (k*129) 64=some ((Si D k).firm.map aQ):=by
 obtain ⟨z,s⟩:=hd.s
 have hkl:k<D.length:=by rw [hd.len];exact hk
 have ok:=hd.si hk
 have:=wz hd.lens hkl (o:=0) (m:=64) (by decide)
 rw [Nat.add_zero] at this
 rw [s.ld (by rw [jD hd.lens,hd.len];omega),this,← qN hkl]
 unfold Sl.c
 rw [List.drop_zero,List.take_append_of_le_length (by rw [List.length_map,ok.1.1];exact Nat.le_refl _),List.take_of_length_le (by rw [List.length_map,ok.1.1];exact Nat.le_refl _)]
theorem bB.ldR (hd:bB h db sb D) {k:Nat} (hk:k<256):h.ld sb (k*129+64) 64=some ((Si D k).read.map aQ):=by
 obtain ⟨z,s⟩:=hd.s
 have hkl:k<D.length:=by rw [hd.len];exact hk
 have ok:=hd.si hk
 rw [s.ld (by rw [jD hd.lens,hd.len];omega),wz hd.lens hkl (by decide),← qN hkl]
 unfold Sl.c
 rw [List.drop_append_of_le_length (by rw [List.length_map,ok.1.1];exact Nat.le_refl _),List.drop_of_length_le (by rw [List.length_map,ok.1.1];exact Nat.le_refl _),List.nil_append,List.take_append_of_le_length (by rw [List.length_map,ok.2.1];exact Nat.le_refl _),List.take_of_length_le (by rw [List.length_map,ok.2.1];exact Nat.le_refl _)]
theorem bB.ldB (hd:bB h db sb D) {k:Nat} (hk:k<256):h.ld1 sb (k*129+128)=some (.bool (Si D k).fresh):=by
 obtain ⟨z,s⟩:=hd.s
 have hkl:k<D.length:=by rw [hd.len];exact hk
 have ok:=hd.si hk
 rw [s.ld1,zbD hd.lens hkl (by decide),← qN hkl]
 unfold Sl.c
 rw [List.getElem?_append_right (by rw [List.length_map,ok.1.1];decide),List.length_map,ok.1.1,List.getElem?_append_right (by rw [List.length_map,ok.2.1];decide),List.length_map,ok.2.1]
 rfl
theorem UK {n:Nat} (hn:1<=n) (x:AV):WC (C n (.fn 161) [x] h) fun r h'=>h'=h/\r=.int .i64 64:=by
 obtain ⟨m,rfl⟩:∃ m,n=m+1:=⟨n - 1,by omega⟩
 refine ak _ zem rfl (by simp [Iv]) fun QQ hQ=>?_
 simp only [Iv] at hQ
 simp only [Iv,ah,ai,Nat.zero_add,reduceAdd]
 simp only [zfY,SS,Nat.reduceBEq,reduceEqDiff,reduceAdd,reduceIte,reduceMul]
 refine hQ _ _ _ _ (.inr rfl) (by simp only [SS,Nat.reduceBEq]) (by simp only [SS,Nat.reduceBEq,reduceEqDiff,reduceAdd,reduceIte,reduceMul];rfl) ?_
 exact ⟨rfl,rfl⟩
theorem zbu {x:Sl} (hx:x.Ok):(⟨x.read,x.read,x.fresh⟩:Sl).c=eD x.c 0 (x.read.map aQ):=by
 unfold Sl.c
 exact (js (A:=[]) (M:=x.firm.map aQ) rfl (by rw [List.length_map,List.length_map,hx.1.1,hx.2.1])).symm
theorem zbv {x:Sl} (hx:x.Ok):(⟨x.firm,x.firm,x.fresh⟩:Sl).c=eD x.c 64 (x.firm.map aQ):=by
 unfold Sl.c
 exact (js (A:=x.firm.map aQ) (M:=x.read.map aQ) (by rw [List.length_map,hx.1.1]) (by rw [List.length_map,List.length_map,hx.1.1,hx.2.1])).symm
theorem Uz {x:Sl} (hx:x.Ok):(⟨x.firm,x.read,false⟩:Sl).c=eD x.c 128 [.bool false]:=by
 unfold Sl.c
 have:=js (A:=x.firm.map aQ++x.read.map aQ) (M:=[AV.bool x.fresh]) (B:=[]) (us:=[AV.bool false]) (o:=128) (by rw [List.length_append,List.length_map,List.length_map,hx.1.1,hx.2.1]) rfl
 rw [List.append_nil,List.append_nil,List.append_assoc,List.append_assoc] at this
 exact this.symm
theorem Sl.Ok.rr {x:Sl} (hx:x.Ok) (b:Bool):Sl.Ok ⟨x.read,x.read,b⟩:=⟨hx.2,hx.2⟩
theorem Sl.Ok.ff {x:Sl} (hx:x.Ok) (b:Bool):Sl.Ok ⟨x.firm,x.firm,b⟩:=⟨hx.1,hx.1⟩
theorem xE (b o:Nat):aU P 207 false true false [.ptr (some (b,o)),.int .i64 64]=some (.slice (some (b,o)) 64 64 none):=KE (hi:=64) (e:=5) (s:=1) (by kernel_rfl) (by kernel_rfl) (Nat.le_refl _)
theorem K6 (b o:Nat):aU P 207 false false false [.ptr (some (b,o))]=some (.slice (some (b,o)) 64 64 none):=tP b o
theorem zdQ (hd:bB h db sb D) {k:Nat} (hk:k<256):∃ h2 D2,kI P 42 (.slice (some (sb,k*129)) 64 64 none) (.slice (some (sb,k*129+64)) 64 64 none) h=some (.int .i64 64,h2)/\bB h2 db sb D2/\Sm (·= sb) h h2:=by
 obtain ⟨z,s⟩:=hd.s
 have hkl:k<D.length:=by rw [hd.len];exact hk
 have ok:=hd.si hk
 have hl:((Si D k).read.map aQ).length=64:=by rw [List.length_map];exact ok.2.1
 have hlen:=jD hd.lens
 rw [hd.len] at hlen
 obtain ⟨h2,e,r,n,g⟩:=UD (t:=42) (e:=5) zfB s_5 (o:=k*129) (n:=64) (c:=64) (g:=none) (b2:=sb) (o2:=k*129+64) (n2:=64) (c2:=64) (g2:=none) s (by omega) (by decide) (hd.ldR hk) (lJ _) (by rw [hl];show _<=(D.flatMap Sl.c).length;omega)
 obtain ⟨a,b⟩:=hd.put (h':=h2) hk (o:=0) (us:=(Si D k).read.map aQ) (by rw [hl];decide) (zbu ok) (ok.rr _) ⟨z,r⟩ n g
 exact ⟨h2,_,e,a,b⟩
theorem zdS (hd:bB h db sb D) {k:Nat} (hk:k<256):∃ h2 h3 D3,h.sto sb (k*129+64) ((Si D k).firm.map aQ)=some h2/\h2.st1 sb (k*129+128) (.bool false)=some h3/\bB h3 db sb D3/\Sm (·= sb) h h3:=by
 obtain ⟨z,s⟩:=hd.s
 have ok:=hd.si hk
 have hl:((Si D k).firm.map aQ).length=64:=by rw [List.length_map];exact ok.1.1
 have hlen:=jD hd.lens
 rw [hd.len] at hlen
 obtain ⟨a1,a2,a3,a4⟩:=s.sto (o:=k*129+64) (us:=(Si D k).firm.map aQ) (by rw [hl];show _<=(D.flatMap Sl.c).length;omega) (lJ _)
 obtain ⟨d1,s1⟩:=hd.put hk (o:=64) (us:=(Si D k).firm.map aQ) (by rw [hl];decide) (zbv ok) (ok.ff _) ⟨z,a2⟩ a3 a4
 obtain ⟨z2,s2⟩:=d1.s
 have hlen2:=jD d1.lens
 rw [d1.len] at hlen2
 have ok2:=d1.si hk
 obtain ⟨b1,b2,b3,b4⟩:=s2.sto (o:=k*129+128) (us:=[.bool false]) (by show _+1<=(List.flatMap Sl.c _).length;omega) rfl
 obtain ⟨d2,t2⟩:=d1.put hk (o:=128) (us:=[.bool false]) (by decide) (Uz ok2) ⟨ok2.1,ok2.2⟩ ⟨z2,b2⟩ b3 b4
 exact ⟨_,_,_,a1,(mP _ sb (k*129+128) (.bool false)).trans b1,d2,s1.trans t2 (fun _ _ h=>h) (fun _ _ h=>h)⟩
theorem KC {n:Nat} (hn:2<=n) (hd:bB h db sb D):WC (C n (.fn 160) [.ptr (some (db,0)),.func (.func 161) [] []] h) fun r h'=>(∃ c:Nat,r=I c)/\(∃ D',bB h' db sb D')/\Sm (·= sb) h h':=by
 obtain ⟨z,r⟩:=hd.r
 have l0:=r.ld1 0
 rw [List.getElem?_cons_zero] at l0
 have old:=hd.lt
 obtain ⟨m,rfl⟩:∃ m,n=m+1:=⟨n - 1,by omega⟩
 refine ak _ zel rfl (by simp [Iu]) fun QQ hQ=>?_
 simp only [Iu] at hQ
 simp only [Iu,ah,ai,Nat.zero_add,reduceAdd]
 simp only [Jm,SS,Nat.reduceBEq,reduceEqDiff,reduceAdd,reduceIte,reduceMul,l7,Option.isNone_some,eI,l0,jv]
 refine aF (c:=vI) (I:=fun m' tm' h'=>∃ k cnt D',k<=256/\cnt<=k/\m'=256 - k/\bB h' db sb D'/\Sm (·= sb) h h'/\tm'.gt 0=some (.ptr (some (db,0)))/\tm'.gt 1=some (.func (.func 161) [] [])/\tm'.gt 5=some (I cnt)/\tm'.gt 14=some (.int .i64 256)/\tm'.gt 15=some (I k)/\tm'.gt 65=none) (n:=256)
  ⟨0,0,D,by omega,by omega,rfl,hd,Sm.refl _ _,by simp only [SS,Nat.reduceBEq],by simp only [SS,Nat.reduceBEq],by simp only [SS,Nat.reduceBEq,reduceEqDiff,reduceAdd,reduceIte,reduceMul];rfl,by simp only [SS,Nat.reduceBEq,reduceEqDiff,reduceAdd,reduceIte,reduceMul];rfl,by simp only [SS,Nat.reduceBEq,reduceEqDiff,reduceAdd,reduceIte,reduceMul];rfl,by simp only [SS,Nat.reduceBEq]⟩ (by omega) ?_
 rintro _ tm h2 ⟨k,cnt,D',hk,hc,rfl,hd',hs,t0,t1,t5,t14,t15,tn⟩ Q1 hN1 hE1
 have lt':=hd'.lt
 by_cases hlt:k<256
 ·have hlt':(k:Int)<256:=by omega
  obtain ⟨z',r'⟩:=hd'.r
  have l0':=r'.ld1 0
  rw [List.getElem?_cons_zero] at l0'
  have ok:=hd'.si hlt
  have lb:=hd'.ldB hlt
  have w1:IntKind.i64.wrap ((k:Int)+1)=((k+1:Nat):Int):=bG (by omega)
  have w2:IntKind.i64.wrap ((cnt:Int)+1)=((cnt+1:Nat):Int):=bG (by omega)
  by_cases hf:(Si D' k).fresh=true
  ·rw [hf] at lb
   obtain ⟨g,eg,sg,bg,ng⟩:=Sm.bump h2 9
   obtain ⟨dt,hdt⟩:=zb2 ok.2.1 ok.1.1
   have dg:=hd'.sm sg (fun h=>h) (fun h=>h)
   have lF:=dg.ldF hlt
   have lR:=dg.ldR hlt
   cases dt
   ·obtain ⟨h3,h4,D4,e3,e4,d4,s4⟩:=zdS dg hlt
    have hst:=lA (n:=64) (h:=g) (b:=sb) (o:=k*129+64) (cs:=(Si D' k).firm.map aQ) (by rw [List.length_map,ok.1.1])
    simp only [Jm,SS,Nat.reduceBEq,reduceEqDiff,reduceAdd,reduceIte,reduceMul,t0,t1,t5,t14,t15,hlt',eI,l0',om hlt,jZ,lb,jY,tJ,eg,lF,lR,hdt,hst,e3,e4,w1,w2]
    refine hN1 _ _ (256 - (k+1)) (by omega) ⟨k+1,cnt+1,D4,by omega,by omega,rfl,d4,(hs.trans sg (fun _ _ h=>h) (fun _ _ h=>h.elim)).trans s4 (fun _ _ h=>h) (fun _ _ h=>h),by simp only [SS,Nat.reduceBEq,t0],by simp only [SS,Nat.reduceBEq,t1],by simp only [SS,Nat.reduceBEq],by simp only [SS,Nat.reduceBEq,t14],by simp only [SS,Nat.reduceBEq],by simp only [SS,Nat.reduceBEq,reduceEqDiff,reduceAdd,reduceIte,reduceMul,tn]⟩
   ·obtain ⟨g2,eg2,sg2,bg2,ng2⟩:=Sm.bump g 13
    have dg2:=dg.sm sg2 (fun h=>h) (fun h=>h)
    obtain ⟨_,h5,e5,rfl,rfl⟩:=UK (n:=m) (by omega) (I cnt) (h:=g2)
    obtain ⟨h6,D6,e6,d6,s6⟩:=zdQ dg2 hlt
    obtain ⟨h3,h4,D4,e3,e4,d4,s4⟩:=zdS d6 hlt
    have lF6:=d6.ldF hlt
    have ok6:=d6.si hlt
    have hst:=lA (n:=64) (h:=h6) (b:=sb) (o:=k*129+64) (cs:=(Si D6 k).firm.map aQ) (by rw [List.length_map,ok6.1.1])
    have mn:(min 64 64:Int)=64:=by decide
    simp only [Jm,SS,Nat.reduceBEq,reduceEqDiff,reduceAdd,reduceIte,reduceMul,t0,t1,t5,t14,t15,hlt',eI,l0',om hlt,jZ,lb,jY,tJ,eg,lF,lR,hdt,eg2,e5,mn,K6,xE,e6,lF6,hst,e3,e4,w1,w2]
    refine hN1 _ _ (256 - (k+1)) (by omega) ⟨k+1,cnt+1,D4,by omega,by omega,rfl,d4,(((hs.trans sg (fun _ _ h=>h) (fun _ _ h=>h.elim)).trans sg2 (fun _ _ h=>h) (fun _ _ h=>h.elim)).trans s6 (fun _ _ h=>h) (fun _ _ h=>h)).trans s4 (fun _ _ h=>h) (fun _ _ h=>h),by simp only [SS,Nat.reduceBEq,t0],by simp only [SS,Nat.reduceBEq,t1],by simp only [SS,Nat.reduceBEq],by simp only [SS,Nat.reduceBEq,t14],by simp only [SS,Nat.reduceBEq],by simp only [SS,Nat.reduceBEq,reduceEqDiff,reduceAdd,reduceIte,reduceMul,tn]⟩
  ·rw [Bool.eq_false_iff.2 hf] at lb
   simp only [Jm,SS,Nat.reduceBEq,reduceEqDiff,reduceAdd,reduceIte,reduceMul,t0,t1,t5,t14,t15,hlt',eI,l0',om hlt,jZ,lb,w1]
   refine hN1 _ _ (256 - (k+1)) (by omega) ⟨k+1,cnt,D',by omega,by omega,rfl,hd',hs,by simp only [SS,Nat.reduceBEq,t0],by simp only [SS,Nat.reduceBEq,t1],by simp only [SS,Nat.reduceBEq,t5],by simp only [SS,Nat.reduceBEq,t14],by simp only [SS,Nat.reduceBEq],by simp only [SS,Nat.reduceBEq,reduceEqDiff,reduceAdd,reduceIte,reduceMul,tn]⟩
 ·have hlt':¬(k:Int)<256:=by omega
  simp only [Jm,SS,Nat.reduceBEq,reduceEqDiff,reduceAdd,reduceIte,reduceMul,t0,t1,t5,t14,t15,hlt']
  refine hE1 _ _ _ (fun h=>by cases h) ?_
  simp only [Jm,SS,Nat.reduceBEq,reduceEqDiff,reduceAdd,reduceIte,reduceMul,t0,t1,t5,t14,t15,hlt']
  refine hQ _ _ _ _ (.inr rfl) (by simp only [SS,Nat.reduceBEq,tn]) (by simp only [SS,Nat.reduceBEq,reduceEqDiff,reduceAdd,reduceIte,reduceMul,tn];rfl) ?_
  exact ⟨⟨cnt,rfl⟩,⟨D',hd'⟩,hs⟩
theorem JM {n:Nat} (hn:3<=n) (hd:bB h db sb D):WC (C n (.fn 136) [.ptr (some (db,0))] h) fun r h'=>(∃ D',bB h' db sb D')/\Sm (·= sb) h h':=by
 obtain ⟨m,rfl⟩:∃ m,n=m+1:=⟨n - 1,by omega⟩
 refine ak _ zec rfl (by simp [Il]) fun QQ hQ=>?_
 simp only [Il] at hQ
 simp only [Il,ah,ai,Nat.zero_add,reduceAdd]
 obtain ⟨_,h1,e1,⟨c,rfl⟩,hd1,s1⟩:=KC (n:=m) (by omega) hd
 simp only [zfS,SS,Nat.reduceBEq,reduceEqDiff,reduceAdd,reduceIte,reduceMul,e1]
 refine hQ _ _ _ _ (.inr rfl) (by simp only [SS,Nat.reduceBEq]) (by simp only [SS,Nat.reduceBEq,reduceEqDiff,reduceAdd,reduceIte,reduceMul];rfl) ?_
 exact ⟨hd1,s1⟩
theorem J3 {n:Nat} (hn:6<=n) {cut:Int} {chv:AV} {acts:Nat} (hl:gE h lb db cut chv acts false) (hd:bB h db sb D) (hlb:lb≠db/\lb≠sb) (ha:acts<1000000) (hc:(acts:Int)≠cut) :
  WC (C n (.fn 86) [.ptr (some (lb,0))] h) fun r h'=>r=.int .i64 0/\gE h' lb db cut chv (acts+1) false/\(∃ D',bB h' db sb D')/\Sm (fun b=>b=lb∨b=sb) h h':=by
 have lt:=hl.lt
 have dlt:=hd.lt
 obtain ⟨m,rfl⟩:∃ m,n=m+1:=⟨n - 1,by omega⟩
 refine ak _ zgO rfl (by simp [Vk]) fun QQ hQ=>?_
 simp only [Vk] at hQ
 simp only [Vk,ah,ai,Nat.zero_add,reduceAdd]
 obtain ⟨h1,e1,r1,n1,g1⟩:=Rw.alloc h (id:=h.next) (n:=1) (vs:=[.ptr (some (lb,0))]) (z:=[]) (ro:=false) (Nat.le_refl _) rfl
 have s1:Sm bm h h1:=⟨by omega,fun c hc _=>g1 c (by omega)⟩
 have la:=r1.ld1 0
 rw [List.getElem?_cons_zero] at la
 have hl1:=hl.sm s1 (fun h=>h)
 have hd1:=hd.sm s1 (fun h=>h) (fun h=>h)
 obtain ⟨v,h4,e4,hv⟩:=Ll (n:=m) (by omega) hl1 ha hc 135 [.ptr (some (h.next,0))] (fun r h'=>r=.int .i64 0/\gE h' lb db cut chv (acts+1) false/\(∃ D',bB h' db sb D')/\Sm (fun b=>b=lb∨b=sb) h1 h') (fun h5 hl5 s5=>by
   have hd5:=hd1.sm s5 (fun e=>hlb.1 e.symm) (fun e=>hlb.2 e.symm)
   have q1:=r1.sm s5 (by omega) (by omega)
   have k1:=q1.ld1 0
   rw [List.getElem?_cons_zero] at k1
   obtain ⟨z,rl⟩:=hl5.r
   have l0:=rl.ld1 0
   rw [List.getElem?_cons_zero] at l0
   have hm:m - 1=(m - 2)+1:=by omega
   have hm2:3<=m - 2:=by omega
   rw [hm]
   clear hn
   generalize hN:(m - 2)=m' at *
   refine ak _ zeb rfl (by simp [Ik]) fun QQ hQ=>?_
   simp only [Ik] at hQ
   simp only [Ik,ah,ai,Nat.zero_add,reduceAdd]
   obtain ⟨v,h7,e7,hd7,s7⟩:=JM (n:=m') hm2 hd5
   simp only [zfR,SS,Nat.reduceBEq,reduceEqDiff,reduceAdd,reduceIte,reduceMul,k1,jV,l0,e7]
   refine hQ _ _ _ _ (.inr rfl) (by simp only [SS,Nat.reduceBEq]) (by simp only [SS,Nat.reduceBEq,reduceEqDiff,reduceAdd,reduceIte,reduceMul];rfl) ?_
   exact ⟨rfl,hl5.sm s7 hlb.2,hd7,s5.trans s7 (fun _ _ h=>.inl h) (fun _ _ h=>.inr h)⟩)
 simp only [F86,SS,Nat.reduceBEq,reduceEqDiff,reduceAdd,reduceIte,reduceMul,hO,e1,la,VC,e4]
 refine hQ _ _ _ _ (.inr rfl) (by simp only [SS,Nat.reduceBEq]) (by simp only [SS,Nat.reduceBEq,reduceEqDiff,reduceAdd,reduceIte,reduceMul];rfl) ?_
 exact ⟨hv.1,hv.2.1,hv.2.2.1,s1.trans hv.2.2.2 (fun _ _ h=>h.elim) (fun _ _ h=>h)⟩
end
end Go.Proofs.YtboobbebilegnaaGreat
namespace Go.Proofs.YtboobbebilegnaaGreat
open Go.Am
set_option maxRecDepth 10000
theorem zbO:keepF P 85 61=false:=by kernel_rfl
theorem zg6:aD P 85=61:=by kernel_rfl
def Jp (L:List Ch):Prop:=∀ c,c∈L->0<=c.block/\c.block<256/\c.data.length<=64/\kr c.data
structure JW (h0:ac) (l b1 b2 qb pb lb db sb tb sp tb0 sp0:Nat) (s:PS) (L0:List Ch) (nx0:Int) (F F0:Nat->Prop) (A hi i:Nat) (h:ac):Prop where
 rc:Xg l 85 61 [15] qY qZ (fun tm=>tm.gt 0=some (.ptr (some (b1,0)))/\tm.gt 1=some (.ptr (some (b2,0)))) h
 r1:∃ z,Rw h b1 [.ptr (some (qb,0))] z false
 r2:∃ z,Rw h b2 [.int .i64 0] z false
 q:jd h qb pb tb sp false
 p:mw h pb lb tb0 sp0
 t:bc h tb s.L s.nx F
 t0:bc h tb0 L0 nx0 F0
 ln:∃ a,a<=A+i/\gE h lb db (-1) (.slice none 0 0 none) a false
 d:∃ D,bB h db sb D
 lt:b1<hi/\b2<hi/\l<hi
 hin:hi<=h.next
 ge:h0.next<=b2/\h0.next<=l
 ne:l≠b1/\l≠b2/\b1≠b2/\b1≠lb/\b1≠sb
 sm:Sm (fun b=>b=lb∨b=sb) h0 h
 old:b1<h0.next/\qb<h0.next/\pb<h0.next/\lb<h0.next/\db<h0.next/\sb<h0.next/\(∀ b,F b->b<h0.next)/\∀ b,F0 b->b<h0.next
section
variable {h0 h:ac} {l b1 b2 qb pb lb db sb tb sp tb0 sp0:Nat} {s:PS} {L0 R:List Ch} {nx0:Int} {F F0:Nat->Prop} {A hi i:Nat}
structure Wd (qb pb lb db sb:Nat) (F F0:Nat->Prop):Prop where
 q:qb≠lb/\qb≠sb/\qb≠db
 p:pb≠lb/\pb≠sb
 f:∀ b,F b->b≠lb/\b≠sb
 f0:∀ b,F0 b->b≠lb/\b≠sb
 l:lb≠db/\lb≠sb/\db≠sb
theorem JB {n:Nat} (hn:4<=n) (ht:bc h tb0 L0 nx0 F0) (id:Int):∃ (x:Pc) (h':ac),C n (.fn 60) [.ptr (some (tb0,0)),u id] h=some (.tuple [.agg x.c,.bool (fC L0 id).isSome],h')/\Sm bm h h':=by
 obtain ⟨_,h',e,s1,rfl⟩:=yC hn ht id
 cases hg:fC L0 id with
 | none=>rw [hg] at e;exact ⟨_,h',e,s1⟩
 | some c=>rw [hg] at e;exact ⟨_,h',e,s1⟩
theorem KY {m:Nat} (hm:7<=m) (hw:Wd qb pb lb db sb F F0) (hj:JW h0 l b1 b2 qb pb lb db sb tb sp tb0 sp0 s L0 nx0 F F0 A hi i h) (hrel:j8 s.L R) (hR:R.length<=1000) (hA:A<=100000) (hok:Jp s.L) (hiR:i<R.length) :
  WC (C m (.loop l) [u (Ri R i).id] h) fun v h2=>v=.bool true/\JW h0 l b1 b2 qb pb lb db sb tb sp tb0 sp0 s L0 nx0 F F0 A hi (i+1) h2/\Sm (fun b=>(b=lb∨b=sb)∨b=l∨hi<=b) h h2:=by
 obtain ⟨m,rfl⟩:∃ m',m=m'+1:=⟨m - 1,by omega⟩
 obtain ⟨⟨b,hat,hst,hpd,hfn,hps,has,hbo,t61,t0,t1⟩,⟨z1,r1⟩,⟨z2,r2⟩,hq,hp,ht,ht0,⟨a,ha,hl⟩,⟨D,hd⟩,⟨l1,l2,ll⟩,hin,ge,ne,sm,old⟩:=hj
 refine gU _ hat (nt:=61) (CA:=RJ) (CB:=RK) (tm':=b.tm.up (some (u (Ri R i).id)) 15) (by rw [hfn];exact zg6) (by rw [hps];rfl) (by rw [hfn];exact zbO) t61 (by rw [hfn,has];exact zce) (by rw [hfn,hbo];exact zcf) fun QA hA=>?_
 rw [hfn] at hA ⊢
 simp only [F85,SS,Nat.reduceBEq,reduceEqDiff,reduceAdd,reduceIte,reduceMul]
 refine hA _ _ b hat hst fun QB hB=>?_
 obtain ⟨h3,e3,m3,n3,s3⟩:=dK (h:=h) (b:=l) (x:=.loop {b with st:=.busy })
 rw [e3]
 have hmem:Ri R i∈s.L:=(hrel.mem _).1 (by rw [qM hiR];exact List.getElem_mem _)
 have hgm:fC s.L (Ri R i).id=some (Ri R i):=gH hrel.nd hmem
 obtain ⟨hb0,hb1,hdl,hdb⟩:=hok _ hmem
 obtain ⟨wq,wp,wf,wf0,wl⟩:=hw
 obtain ⟨o1,oq,op,ol,od,os,of,of0⟩:=old
 have q3:=hq.sm s3 (by omega)
 have p3:=hp.sm s3 (by omega)
 have T3:=ht.sm s3 (fun b hb e=>by have:=of b hb;omega)
 have T03:=ht0.sm s3 (fun b hb e=>by have:=of0 b hb;omega)
 have L3:=hl.sm s3 (by omega)
 have D3:=hd.sm s3 (by omega) (by omega)
 have k1:=(r1.sm s3 (by omega) (fun e=>ne.1 e.symm)).ld1 0
 rw [List.getElem?_cons_zero] at k1
 obtain ⟨zq,rq⟩:=q3.r
 obtain ⟨zp,rp⟩:=p3.r
 have kq0:=rq.ld1 0
 have kp1:=rp.ld1 1
 simp only [List.getElem?_cons_zero,List.getElem?_cons_succ] at kq0 kp1
 obtain ⟨x,h4,e4,s4⟩:=JB (n:=m) (by omega) T03 (Ri R i).id
 obtain ⟨h5,h6,e5,e6,ld6,s6,q6⟩:=zds h4 50 x
 have hst4:=lA (n:=4) (h:=h5) (b:=h4.next) (o:=0) (cs:=x.c) rfl
 have s36:Sm bm h3 h6:=s4.trans s6 (fun _ _ h=>h) (fun _ _ h=>h)
 have n36:=s36.1
 have done:∀ h9,Sm (fun b=>b=lb∨b=sb) h3 h9->(∃ a',a'<=A+(i+1)/\gE h9 lb db (-1) (.slice none 0 0 none) a' false)->(∃ D,bB h9 db sb D) ->
   ∃ h10,h9.put l (.loop (oF .normal {b with st:=.busy }).2)=h10/\JW h0 l b1 b2 qb pb lb db sb tb sp tb0 sp0 s L0 nx0 F F0 A hi (i+1) h10/\Sm (fun b=>(b=lb∨b=sb)∨b=l∨hi<=b) h h10:=by
  rintro h9 s39 ⟨a',ha',L9⟩ ⟨D9,d9⟩
  obtain ⟨h10,e10,m10,n10,s10⟩:=dK (h:=h9) (b:=l) (x:=.loop (oF .normal {b with st:=.busy }).2)
  have s310:Sm (fun b=>(b=lb∨b=sb)∨b=l) h h10:=(s3.trans s39 (H:=fun b=>(b=lb∨b=sb)∨b=l) (fun _ _ h=>.inr h) (fun _ _ h=>.inl h)).trans s10 (fun _ _ h=>h) (fun _ _ h=>.inr h)
  have hn:=s310.1
  have hn0:=sm.1
  refine ⟨h10,e10,⟨⟨_,m10,rfl,rfl,hfn,hps,has,hbo,t61,t0,t1⟩,⟨z1,r1.sm s310 (by omega) (by omega)⟩,⟨z2,r2.sm s310 (by omega) (by omega)⟩,hq.sm s310 (by omega),hp.sm s310 (by omega),ht.sm s310 (fun b hb e=>by have:=of b hb;have:=wf b hb;omega),ht0.sm s310 (fun b hb e=>by have:=of0 b hb;have:=wf0 b hb;omega),⟨a',ha',L9.sm s10 (by omega)⟩,⟨D9,d9.sm s10 (by omega) (by omega)⟩,⟨l1,l2,ll⟩,by omega,ge,ne,sm.trans s310 (fun _ _ h=>h) (fun c hc e=>by omega),⟨o1,oq,op,ol,od,os,of,of0⟩⟩,s310.mono fun c _ e=>by omega⟩
 cases hg:(fC L0 (Ri R i).id).isSome with
 | true =>
  rw [hg] at e4
  simp only [F85,SS,Nat.reduceBEq,reduceEqDiff,reduceAdd,reduceIte,reduceMul,t0,t1,k1,fZ,kq0,fY,kp1,e4,oh,e5,hst4,e6]
  refine hB _ _ _ _ ((s36.2 l (by omega) (fun h=>h)).trans m3) rfl ?_
  obtain ⟨h10,e10,hJ,hS⟩:=done h6 (s36.mono fun _ _ h=>h.elim) ⟨a,by omega,L3.sm s36 (fun h=>h)⟩ ⟨D,D3.sm s36 (fun h=>h) (fun h=>h)⟩
  rw [e10]
  exact ⟨rfl,hJ,hS⟩
 | false =>
  rw [hg] at e4
  have k16:=((r1.sm s3 (by omega) (fun e=>ne.1 e.symm)).sm s36 (by omega) (fun h=>h)).ld1 0
  rw [List.getElem?_cons_zero] at k16
  have kq16:=(rq.sm s36 (by have:=q3.lt;omega) (fun h=>h)).ld1 1
  simp only [List.getElem?_cons_zero,List.getElem?_cons_succ] at kq16
  obtain ⟨_,h7,e7,s7,rfl⟩:=xu (n:=m) (by omega) (T3.sm s36 (fun _ _ h=>h)) (Ri R i).id
  rw [hgm] at e7
  simp only at e7
  have s37:Sm bm h3 h7:=s36.trans s7 (fun _ _ h=>h) (fun _ _ h=>h)
  have n37:=s37.1
  have k17:=((r1.sm s3 (by omega) (fun e=>ne.1 e.symm)).sm s37 (by omega) (fun h=>h)).ld1 0
  rw [List.getElem?_cons_zero] at k17
  have kq07:=(rq.sm s37 (by have:=q3.lt;omega) (fun h=>h)).ld1 0
  have kp07:=(rp.sm s37 (by have:=p3.lt;omega) (fun h=>h)).ld1 0
  simp only [List.getElem?_cons_zero,List.getElem?_cons_succ] at kq07 kp07
  obtain ⟨_,h8,e8,L8,s8,hD8⟩:=J8 (n:=m) (by omega) (L3.sm s37 (fun h=>h)) (D3.sm s37 (fun h=>h) (fun h=>h)) ⟨wl.1,wl.2.1⟩ (by omega) (by omega) (Ri R i).block (s:=(Ri R i).data) (fun c hc=>by obtain ⟨i,hi⟩:=List.getElem?_of_mem hc;exact hdb i c hi)
  obtain ⟨rfl,D8,d8⟩:_=AV.int .i64 0/\∃ D',bB h8 db sb D':=by
   rcases hD8 with ⟨_,⟨h1,_⟩|⟨_,h1,_⟩⟩|⟨j,_,_,_,h1,h2⟩
   ·omega
   ·omega
   ·exact ⟨h1,_,h2⟩
  have s38:Sm (fun b=>b=lb∨b=sb) h3 h8:=s37.trans s8 (fun _ _ h=>h.elim) (fun _ _ h=>h)
  simp only [F85,SS,Nat.reduceBEq,reduceEqDiff,reduceAdd,reduceIte,reduceMul,t0,t1,k1,fZ,kq0,fY,kp1,e4,oh,e5,hst4,e6,k16,cO,kq16,e7,k17,kq07,pj,kp07,e8]
  refine hB _ _ _ _ ((s38.2 l (by omega) (by omega)).trans m3) rfl ?_
  obtain ⟨h10,e10,hJ,hS⟩:=done h8 s38 ⟨a+1,by omega,L8⟩ ⟨D8,d8⟩
  rw [e10]
  exact ⟨rfl,hJ,hS⟩
theorem zcW {n:Nat} (hn:9<=n) (hw:Wd qb pb lb db sb F F0) {b0 a:Nat} {z0:List AV} {D:List Sl} (r0:Rw h b0 [.ptr (some (qb,0))] z0 false) (hb0:b0<h.next/\b0≠lb/\b0≠sb) (hq:jd h qb pb tb sp false) (hp:mw h pb lb tb0 sp0) (ht:bc h tb s.L s.nx F) (ht0:bc h tb0 L0 nx0 F0) (hl:gE h lb db (-1) (.slice none 0 0 none) a false) (hd:bB h db sb D) (hrel:j8 s.L R) (hlen:s.L.length<=1000) (ha:a<=100000) (hok:Jp s.L) :
  WC (C n (.fn 85) [.ptr (some (b0,0))] h) fun r h'=>r=.int .i64 0/\Sm (fun b=>b=lb∨b=sb) h h'/\(∃ a',a'<=a+s.L.length+1/\gE h' lb db (-1) (.slice none 0 0 none) a' false)/\∃ D',bB h' db sb D':=by
 have hrl:=hrel.len
 have ltq:=hq.lt
 have ltp:=hp.lt
 have ltl:=hl.lt
 have ltd:=hd.lt
 have ltF:=ht.flt
 have ltF0:=ht0.flt
 obtain ⟨lb1,lb2,lb3⟩:=hb0
 obtain ⟨m,rfl⟩:∃ m,n=m+1:=⟨n - 1,by omega⟩
 refine ak _ zgN rfl (by simp [Vj]) fun QQ hQ=>?_
 simp only [Vj] at hQ
 simp only [Vj,ah,ai,Nat.zero_add,reduceAdd]
 obtain ⟨h2,e2,r2,n2,f2⟩:=Rw.alloc h (id:=h.next) (n:=1) (vs:=[.int .i64 0]) (z:=ay 38 true) (ro:=false) (Nat.le_refl _) rfl
 have s2:Sm bm h h2:=⟨by omega,fun c hc _=>by rw [f2 c (by omega)]⟩
 have r1:=r0.sm s2 lb1 (fun h=>h)
 have k1:=r1.ld1 0
 rw [List.getElem?_cons_zero] at k1
 obtain ⟨zq,rq⟩:=(hq.sm s2 (fun h=>h)).r
 have kq:=rq.ld1 1
 simp only [List.getElem?_cons_zero,List.getElem?_cons_succ] at kq
 obtain ⟨_,h4,e4,bx,rfl,rx,lx,s4,gx⟩:=vi (n:=m) (by omega) (h:=h2) (tb:=tb)
 simp only [F85,SS,Nat.reduceBEq,reduceEqDiff,reduceAdd,reduceIte,reduceMul,xC,e2,k1,cO,kq,e4]
 refine fW (i:=112) (cap:=[.ptr (some (bx,0))]) (by simp only [SS,Nat.reduceBEq]) ?_
 have hid:h4.next<=h4.next:=Nat.le_refl _
 obtain ⟨tm0,htm,q0,q1,q61⟩:∃ tm:Tr AV,tm=(((Tr.leaf:Tr AV).up (some (.ptr (some (b0,0)))) 0).up (some (.ptr (some (h.next,0)))) 1).up (some (.func (.func 112) [] [.ptr (some (bx,0))])) 14/\tm.gt 0=some (.ptr (some (b0,0)))/\tm.gt 1=some (.ptr (some (h.next,0)))/\tm.gt 61=none:=⟨_,rfl,by simp only [SS,Nat.reduceBEq],by simp only [SS,Nat.reduceBEq],by simp only [SS,Nat.reduceBEq]⟩
 rw [← htm]
 obtain ⟨h5,eh5⟩:∃ h5,h4.new h4.next (.loop ⟨.ready,none,85,tm0.up none 61,[15],qY,qZ⟩)=h5:=⟨_,rfl⟩
 have g5:h5.bs.gt h4.next=some (.loop ⟨.ready,none,85,tm0.up none 61,[15],qY,qZ⟩):=by rw [← eh5,bX hid,if_pos rfl]
 have n5:h5.next=h4.next+1:=by rw [← eh5,cM hid]
 have s5:Sm bm h4 h5:=⟨by omega,fun c hc _=>by rw [← eh5,bX hid,if_neg (by omega)]⟩
 rw [eh5]
 have n4:=s4.1
 have q3:=s2.1
 have s25:Sm bm h2 h5:=s4.trans s5 (fun _ _ h=>h) (fun _ _ h=>h)
 have s05:Sm bm h h5:=s2.trans s25 (fun _ _ h=>h) (fun _ _ h=>h)
 have rec0:∀ h6,Sm bm h5 h6->JW h h4.next b0 h.next qb pb lb db sb tb sp tb0 sp0 s L0 nx0 F F0 a h6.next 0 h6:=fun h6 s6=>by
  have n6:=s6.1
  have s06:Sm bm h h6:=s05.trans s6 (fun _ _ h=>h) (fun _ _ h=>h)
  exact ⟨⟨_,(s6.2 _ (by omega) (fun h=>h)).trans g5,rfl,rfl,rfl,rfl,rfl,rfl,by simp only [SS,Nat.reduceBEq],by simp only [SS,Nat.reduceBEq,reduceEqDiff,reduceAdd,reduceIte,reduceMul,q0],by simp only [SS,Nat.reduceBEq,reduceEqDiff,reduceAdd,reduceIte,reduceMul,q1]⟩,⟨_,r0.sm s06 lb1 (fun h=>h)⟩,⟨_,(r2.sm s25 (by omega) (fun h=>h)).sm s6 (by omega) (fun h=>h)⟩,hq.sm s06 (fun h=>h),hp.sm s06 (fun h=>h),ht.sm s06 (fun _ _ h=>h),ht0.sm s06 (fun _ _ h=>h),⟨a,by omega,hl.sm s06 (fun h=>h)⟩,⟨D,hd.sm s06 (fun h=>h) (fun h=>h)⟩,⟨by omega,by omega,by omega⟩,by omega,⟨by omega,by omega⟩,⟨by omega,by omega,by omega,lb2,lb3⟩,s06.mono (fun _ _ h=>h.elim),⟨lb1,ltq,ltp,ltl,ltd.1,ltd.2,ltF,ltF0⟩⟩
 obtain ⟨v,h6,e6,hv⟩:=mZ (n:=m) (by omega) (ht.sm s05 (fun _ _ h=>h)) hrel hlen (bx:=bx) (l:=h4.next) (rx.sm s5 lx (fun h=>h)) (fun hi i h'=>JW h h4.next b0 h.next qb pb lb db sb tb sp tb0 sp0 s L0 nx0 F F0 a hi i h') (fun _=>False) rec0
  (fun hi i h' hlt hj _=>by
   obtain ⟨v,h2,e,hv,hj',s⟩:=KY (m:=m - 1) (by omega) hw hj hrel (by omega) ha hok hlt
   refine ⟨v,h2,e,.inl ⟨hv,hj'⟩,fun b hb1 hb2=>s.2 b (by have:=hj.hin;omega) (by omega)⟩)
 refine ⟨v,h6,e6,?_⟩
 rcases hv with ⟨hi,hj⟩ | hf
 ·obtain ⟨⟨b,hat,hst,hpd,_⟩,⟨z1,rw1⟩,⟨z2,rw2⟩,hq6,hp6,_,_,⟨a6,ha6,L6⟩,⟨D6,d6⟩,⟨l1,l2,ll⟩,hin,ge,ne,sm,_⟩:=hj
  refine ⟨b,hat,by rw [hst];decide,?_⟩
  rw [hpd]
  obtain ⟨h7,e7,m7,n7,s7⟩:=dK (h:=h6) (b:=h4.next) (x:=.loop ⟨.exhausted,none,b.fn,b.tm,b.params,b.assign,b.body⟩)
  show ret _ _ _ _ _ .normal _ _ (h6.put h4.next (.loop ⟨.exhausted,none,b.fn,b.tm,b.params,b.assign,b.body⟩)) _
  rw [e7]
  have k7:=(rw1.sm s7 (by omega) (by omega)).ld1 0
  rw [List.getElem?_cons_zero] at k7
  obtain ⟨zq,rq7⟩:=(hq6.sm s7 (by omega)).r
  obtain ⟨zp,rp7⟩:=(hp6.sm s7 (by omega)).r
  have kq7:=rq7.ld1 0
  have kp7:=rp7.ld1 0
  simp only [List.getElem?_cons_zero,List.getElem?_cons_succ] at kq7 kp7
  obtain ⟨_,h8,e8,rfl,L8,⟨D8,d8⟩,s8⟩:=J3 (n:=m) (by omega) (L6.sm s7 (by omega)) (d6.sm s7 (by omega) (by omega)) ⟨hw.l.1,hw.l.2.1⟩ (by omega) (by omega)
  have s08:Sm (fun b=>b=lb∨b=sb) h h8:=(sm.trans s7 (H:=fun b=>b=lb∨b=sb) (fun _ _ h=>h) (fun c hc e=>by omega)).trans s8 (fun _ _ h=>h) (fun _ _ h=>h)
  have rw8:=(rw2.sm s7 (by omega) (by omega)).sm s8 (by omega) (by omega)
  obtain ⟨w1,w2,w3,w4⟩:=rw8.st1 (o:=0) (v:=.int .i64 0) (by simp) rfl
  rw [show ([AV.int .i64 0]:List AV).set 0 (.int .i64 0)=[.int .i64 0] from rfl] at w2
  obtain ⟨h9,eh9⟩:∃ h9,h8.wr h.next 0 [.int .i64 0]=h9:=⟨_,rfl⟩
  rw [eh9] at w1 w2 w3 w4
  have s9:Sm (·= h.next) h8 h9:=⟨by omega,fun c _ hc=>w4 c hc⟩
  have k9:=w2.ld1 0
  rw [List.getElem?_cons_zero] at k9
  subst htm
  simp only [F85,SS,Nat.reduceBEq,reduceEqDiff,reduceAdd,reduceIte,reduceMul,k7,fZ,kq7,pj,kp7,e8,w1]
  refine hQ _ _ _ _ (.inr rfl) (by simp only [SS,Nat.reduceBEq]) (by simp only [SS,Nat.reduceBEq,reduceEqDiff,reduceAdd,reduceIte,reduceMul,w7,k9];rfl) ?_
  exact ⟨rfl,s08.trans s9 (fun _ _ h=>h) (fun c hc e=>by omega),⟨a6+1,by omega,L8.sm s9 (by omega)⟩,D8,d8.sm s9 (by omega) (by omega)⟩
 ·exact hf.elim
theorem TL {n:Nat} (hn:12<=n) (hw:Wd qb pb lb db sb F F0) {a:Nat} {D:List Sl} (hq:jd h qb pb tb sp false) (hp:mw h pb lb tb0 sp0) (ht:bc h tb s.L s.nx F) (ht0:bc h tb0 L0 nx0 F0) (hl:gE h lb db (-1) (.slice none 0 0 none) a false) (hd:bB h db sb D) (hrel:j8 s.L R) (hlen:s.L.length<=1000) (ha:a<=100000) (hok:Jp s.L) :
  WC (C n (.fn 33) [.ptr (some (qb,0))] h) fun r h'=>r=.int .i64 0/\Sm (fun b=>(b=lb∨b=sb)∨b=qb) h h'/\jd h' qb pb tb sp false/\(∃ a',a'<=a+s.L.length+1/\gE h' lb db (-1) (.slice none 0 0 none) a' false)/\∃ D',bB h' db sb D':=by
 have ltq:=hq.lt
 have ltl:=hl.lt
 have ltd:=hd.lt
 obtain ⟨wq,wp,wf,wf0,wl⟩:=id hw
 obtain ⟨m,rfl⟩:∃ m,n=m+1:=⟨n - 1,by omega⟩
 refine ak _ zgq rfl (by simp [UW]) fun QQ hQ=>?_
 simp only [UW] at hQ
 simp only [UW,ah,ai,Nat.zero_add,reduceAdd]
 obtain ⟨h1,e1,r1,n1,f1⟩:=Rw.alloc h (id:=h.next) (n:=1) (vs:=[.ptr (some (qb,0))]) (z:=[]) (ro:=false) (Nat.le_refl _) rfl
 have s1:Sm bm h h1:=⟨by omega,fun c hc _=>f1 c (by omega)⟩
 have k1:=r1.ld1 0
 rw [List.getElem?_cons_zero] at k1
 obtain ⟨_,h4,e4,e,h3,rfl,⟨rfl,⟨a3,ha3,L3⟩,D3,d3⟩,s4,hq4,s14,hna⟩:=Cf (n:=m) (by omega) (hq.sm s1 (fun h=>h)) 85 [.ptr (some (h.next,0))] (fun e h2=>e=0/\(∃ a',a'<=a+s.L.length+1/\gE h2 lb db (-1) (.slice none 0 0 none) a' false)/\∃ D',bB h2 db sb D') (fun b=>b=lb∨b=sb) (fun b hb=>by omega)
  (fun h5 s5 hn5=>by
   have s15:=s1.trans s5 (H:=bm) (fun _ _ h=>h) (fun _ _ h=>h)
   obtain ⟨v,h6,e6,rfl,s6,hL,hD⟩:=zcW (n:=m - 1) (by omega) hw (r1.sm s5 (by omega) (fun h=>h)) ⟨by omega,by omega,by omega⟩ (hq.sm s15 (fun h=>h)) (hp.sm s15 (fun h=>h)) (ht.sm s15 (fun _ _ h=>h)) (ht0.sm s15 (fun _ _ h=>h)) (hl.sm s15 (fun h=>h)) (hd.sm s15 (fun h=>h) (fun h=>h)) hrel hlen ha hok
   exact ⟨_,h6,e6,0,rfl,s6,(hq.sm s15 (fun h=>h)).sm s6 (by omega),rfl,hL,hD⟩)
 simp only [F33,SS,Nat.reduceBEq,reduceEqDiff,reduceAdd,reduceIte,reduceMul,hO,e1,k1,VC,e4]
 refine hQ _ _ _ _ (.inr rfl) (by simp only [SS,Nat.reduceBEq]) (by simp only [SS,Nat.reduceBEq,reduceEqDiff,reduceAdd,reduceIte,reduceMul];rfl) ?_
 exact ⟨rfl,s1.trans s14 (fun _ _ h=>h.elim) (fun _ _ h=>h),hq4,⟨a3,ha3,L3.sm s4 (by omega)⟩,D3,d3.sm s4 (by omega) (by omega)⟩
end
end Go.Proofs.YtboobbebilegnaaGreat
namespace Go.Proofs.YtboobbebilegnaaGreat
open Go.Am
set_option maxRecDepth 10000
theorem zbK:keepF P 14 69=false:=by kernel_rfl
theorem zg2:aD P 14=69:=by kernel_rfl
structure JN (h0:ac) (l b1 b5 qb pb tb sp sp' wb':Nat) (s:PS) (R:List Ch) (F:Nat->Prop) (hi i:Nat) (h:ac):Prop where
 rc:Xg l 14 69 [37] nl nm (fun tm=>tm.gt 1=some (.ptr (some (b1,0)))/\tm.gt 5=some (.ptr (some (b5,0)))) h
 r1:∃ z,Rw h b1 [.ptr (some (qb,0))] z false
 r5:∃ z,Rw h b5 [.ptr (some (sp',0))] z false
 q:jd h qb pb tb sp true
 t:bc h tb s.L s.nx F
 s:fB h sp' wb' (fA (R.take i))
 lt:b1<h0.next/\b5<h0.next/\sp'<h0.next/\wb'<h0.next/\l<hi/\qb<h0.next/\∀ b,F b->b<h0.next
 hin:hi<=h.next
 ne:h0.next<=l/\wb'≠b1/\wb'≠b5/\wb'≠qb/\∀ b,F b->b≠wb'
 sm:Sm (·= wb') h0 h
section
variable {h0 h:ac} {l b1 b5 qb pb lb db sb tb sp sp' wb' tb0 sp0:Nat} {s:PS} {L0 R:List Ch} {nx0:Int} {F F0:Nat->Prop} {hi i:Nat}
theorem tv {j:Nat} (hR:i<R.length) (hj:(Ri R i).block=(j:Int)):fA (R.take (i+1))=fun k=>fA (R.take i) k||decide (k=j):=by
 funext k
 unfold fA
 rw [List.take_succ_eq_append_getElem hR,List.any_append,← qM hR]
 congr 1
 simp only [List.any_cons,List.any_nil,Bool.or_false,hj]
 rw [Bool.eq_iff_iff]
 simp only [beq_iff_eq,decide_eq_true_eq]
 omega
theorem Kc {m:Nat} (hm:4<=m) (hj:JN h0 l b1 b5 qb pb tb sp sp' wb' s R F hi i h) (hrel:j8 s.L R) (hok:∀ c,c∈s.L->128<=c.block/\c.block<256) (hiR:i<R.length) :
  WC (C m (.loop l) [u (Ri R i).id] h) fun v h2=>v=.bool true/\JN h0 l b1 b5 qb pb tb sp sp' wb' s R F hi (i+1) h2/\Sm (fun b=>b=wb'∨b=l∨hi<=b) h h2:=by
 obtain ⟨m,rfl⟩:∃ m',m=m'+1:=⟨m - 1,by omega⟩
 obtain ⟨⟨b,hat,hst,hpd,hfn,hps,has,hbo,t69,t1,t5⟩,⟨z1,r1⟩,⟨z5,r5⟩,hq,ht,hs,⟨l1,l5,lsp,lwb,ll,lq,lF⟩,hin,⟨ne0,ne1,ne5,neq,neF⟩,sm⟩:=hj
 refine gU _ hat (nt:=69) (CA:=AO) (CB:=AP) (tm':=b.tm.up (some (u (Ri R i).id)) 37) (by rw [hfn];exact zg2) (by rw [hps];rfl) (by rw [hfn];exact zbK) t69 (by rw [hfn,has];exact VP) (by rw [hfn,hbo];exact VQ) fun QA hA=>?_
 rw [hfn] at hA ⊢
 simp only [F14,SS,Nat.reduceBEq,reduceEqDiff,reduceAdd,reduceIte,reduceMul]
 refine hA _ _ b hat hst fun QB hB=>?_
 obtain ⟨h3,e3,m3,n3,s3⟩:=dK (h:=h) (b:=l) (x:=.loop {b with st:=.busy })
 rw [e3]
 have hn0:=sm.1
 have hmem:Ri R i∈s.L:=(hrel.mem _).1 (by rw [qM hiR];exact List.getElem_mem _)
 have hgm:fC s.L (Ri R i).id=some (Ri R i):=gH hrel.nd hmem
 obtain ⟨hb0,hb1⟩:=hok _ hmem
 have T3:=ht.sm s3 (fun b hb e=>by have:=lF b hb;omega)
 have S3:=hs.sm s3 (by omega) (by omega)
 have q3:=hq.sm s3 (by omega)
 obtain ⟨zq,rq⟩:=q3.r
 have kq1:=rq.ld1 1
 simp only [List.getElem?_cons_zero,List.getElem?_cons_succ] at kq1
 have c1:=r1.sm s3 (by omega) (by omega)
 have c5:=r5.sm s3 (by omega) (by omega)
 have k1:=c1.ld1 0
 rw [List.getElem?_cons_zero] at k1
 obtain ⟨_,h4,e4,s4,rfl⟩:=xu (n:=m) (by omega) T3 (Ri R i).id
 rw [hgm] at e4
 simp only at e4
 have k5:=(c5.sm s4 (by omega) (fun h=>h)).ld1 0
 rw [List.getElem?_cons_zero] at k5
 obtain ⟨r6,h6,e6,hu⟩:=zZ (n:=m) (by omega) (S3.sm s4 (fun h=>h) (fun h=>h)) (Ri R i).block
 obtain ⟨e',rfl,S6,s6⟩:∃ e:Int,r6=.int .i64 e/\fB h6 sp' wb' (fA (R.take (i+1)))/\Sm (·= wb') h4 h6:=by
  rcases hu with ⟨h1,_⟩|⟨j,hj,h1,h2,⟨u1,rfl,s6⟩|⟨u1,rfl,S6,s6⟩⟩
  ·omega
  ·refine ⟨_,rfl,?_,s6.mono fun _ _ h=>h.elim⟩
   have:=(S3.sm s4 (fun h=>h) (fun h=>h)).sm s6 (fun h=>h) (fun h=>h)
   rw [tv hiR hj]
   have e:(fun k=>fA (R.take i) k||decide (k=j))=fA (R.take i):=by
    funext k
    by_cases hk:k=j
    ·subst hk;rw [u1];rfl
    ·simp [hk]
   rw [e];exact this
  ·refine ⟨_,rfl,?_,s6⟩
   rw [tv hiR hj];exact S6
 have s36:Sm (·= wb') h3 h6:=s4.trans s6 (fun _ _ h=>h.elim) (fun _ _ h=>h)
 simp only [F14,SS,Nat.reduceBEq,reduceEqDiff,reduceAdd,reduceIte,reduceMul,t1,t5,k1,cO,kq1,e4,k5,e6]
 refine hB _ _ _ _ ((s36.2 l (by omega) (by omega)).trans m3) rfl ?_
 obtain ⟨h10,e10,m10,n10,s10⟩:=dK (h:=h6) (b:=l) (x:=.loop (oF .normal {b with st:=.busy }).2)
 rw [e10]
 have s310:Sm (fun b=>b=wb'∨b=l) h h10:=(s3.trans s36 (H:=fun b=>b=wb'∨b=l) (fun _ _ h=>.inr h) (fun _ _ h=>.inl h)).trans s10 (fun _ _ h=>h) (fun _ _ h=>.inr h)
 have hn:=s310.1
 exact ⟨rfl,⟨⟨_,m10,rfl,rfl,hfn,hps,has,hbo,t69,t1,t5⟩,⟨z1,r1.sm s310 (by omega) (by omega)⟩,⟨z5,r5.sm s310 (by omega) (by omega)⟩,hq.sm s310 (by omega),ht.sm s310 (fun b hb e=>by have:=lF b hb;have:=neF b hb;omega),S6.sm s10 (by omega) (by omega),⟨l1,l5,lsp,lwb,ll,lq,lF⟩,by omega,⟨ne0,ne1,ne5,neq,neF⟩,sm.trans s310 (fun _ _ h=>h) (fun c hc e=>by omega)⟩,s310.mono fun c _ e=>by omega⟩
theorem UH {n:Nat} (hn:8<=n) {a:Nat} {D:List Sl} (hq:jd h qb pb tb sp false) (hp:mw h pb lb tb0 sp0) (ht:bc h tb s.L s.nx F) (hl:gE h lb db (-1) (.slice none 0 0 none) a false) (hd:bB h db sb D) (hrel:j8 s.L R) (hlen:s.L.length<=1000) (hok:∀ c,c∈s.L->128<=c.block/\c.block<256) (hqp:qb≠pb/\qb≠lb/\qb≠db/\qb≠sb/\∀ b,F b->b≠qb) :
  WC (C n (.fn 14) [.ptr (some (qb,0))] h) fun r h'=>r=.int .i64 0/\∃ sp' wb',mw h' pb lb tb sp'/\fB h' sp' wb' (fA R)/\h.next<=sp'/\h.next<=wb'/\Sm (fun b=>b=qb∨b=pb) h h':=by
 have hrl:=hrel.len
 have ltq:=hq.lt
 have ltp:=hp.lt
 have ltl:=hl.lt
 have ltd:=hd.lt
 have ltF:=ht.flt
 obtain ⟨hq1,hq2,hq3,hq4,hqF⟩:=hqp
 obtain ⟨m,rfl⟩:∃ m,n=m+1:=⟨n - 1,by omega⟩
 refine ak _ zgj rfl (by simp [UP]) fun QQ hQ=>?_
 simp only [UP] at hQ
 simp only [UP,ah,ai,Nat.zero_add,reduceAdd]
 obtain ⟨h1,e1,r1,n1,f1⟩:=Rw.alloc h (id:=h.next) (n:=1) (vs:=[.ptr (some (qb,0))]) (z:=[]) (ro:=false) (Nat.le_refl _) rfl
 have s1:Sm bm h h1:=⟨by omega,fun c hc _=>f1 c (by omega)⟩
 have k1:=r1.ld1 0
 rw [List.getElem?_cons_zero] at k1
 obtain ⟨_,h2,e2,e0,rfl⟩:=SK (n:=m) (by omega) (hq.sm s1 (fun h=>h))
 subst e0
 have e2:C m (.fn 56) [.ptr (some (qb,0))] h2=some (.int .i64 0,h2):=e2
 obtain ⟨zq,rq⟩:=(hq.sm s1 (fun h=>h)).r
 obtain ⟨w1,w2,w3,w4⟩:=rq.st1 (o:=3) (v:=.bool true) (by simp) rfl
 simp only [List.set_cons_succ,List.set_cons_zero] at w2
 obtain ⟨h3,eh3⟩:∃ h3,h2.wr qb 3 [.bool true]=h3:=⟨_,rfl⟩
 rw [eh3] at w1 w2 w3 w4
 have s3:Sm (·= qb) h2 h3:=⟨by omega,fun c _ hc=>w4 c hc⟩
 have s03:Sm (·= qb) h h3:=s1.trans s3 (fun _ _ h=>h.elim) (fun _ _ h=>h)
 have k3:=(r1.sm s3 (by omega) (by omega)).ld1 0
 rw [List.getElem?_cons_zero] at k3
 have kq0:=w2.ld1 0
 simp only [List.getElem?_cons_zero,List.getElem?_cons_succ] at kq0
 obtain ⟨zp,rp⟩:=(hp.sm s03 (fun e=>hq1 e.symm)).r
 have kp0:=rp.ld1 0
 simp only [List.getElem?_cons_zero,List.getElem?_cons_succ] at kp0
 obtain ⟨_,h4,e4,e0,rfl⟩:=rS (n:=m) (by omega) (hl.sm s03 (fun e=>hq2 e.symm))
 subst e0
 have e4:C m (.fn 48) [.ptr (some (lb,0))] h4=some (.ptr (some (db,0)),h4):=e4
 obtain ⟨_,h5,e5,e0,rfl⟩:=mA (n:=m) (by omega) (hd.sm s03 (fun e=>hq3 e.symm) (fun e=>hq4 e.symm))
 subst e0
 have e5:C m (.fn 49) [.ptr (some (db,0))] h5=some (.int .i64 256,h5):=e5
 have wd:IntKind.i64.wrap ((256:Int).tdiv 2)=128:=by decide
 obtain ⟨_,h6,e6,sp',wb',rfl,hs6,s6,g1,g2⟩:=zY (n:=m) (by omega) (h:=h5)
 obtain ⟨h7,e7,r7,n7,f7⟩:=Rw.alloc h6 (id:=h6.next) (n:=1) (vs:=[.ptr none]) (z:=ay 95 true) (ro:=false) (Nat.le_refl _) rfl
 obtain ⟨x1,x2,x3,x4⟩:=r7.st1 (o:=0) (v:=.ptr (some (sp',0))) (by simp) rfl
 rw [show ([AV.ptr none]:List AV).set 0 (.ptr (some (sp',0)))=[.ptr (some (sp',0))] from rfl] at x2
 obtain ⟨h8,eh8⟩:∃ h8,h7.wr h6.next 0 [.ptr (some (sp',0))]=h8:=⟨_,rfl⟩
 rw [eh8] at x1 x2 x3 x4
 have s68:Sm bm h6 h8:=⟨by omega,fun c hc _=>by rw [x4 c (by omega),f7 c (by omega)]⟩
 have s58:Sm bm h5 h8:=s6.trans s68 (fun _ _ h=>h) (fun _ _ h=>h)
 have s08:Sm (·= qb) h h8:=s03.trans s58 (fun _ _ h=>h) (fun _ _ h=>h.elim)
 have n03:=s03.1
 have n6:=s6.1
 have lsp:=hs6.lt
 have k8:=((r1.sm s3 (by omega) (by omega)).sm s58 (by omega) (fun h=>h)).ld1 0
 rw [List.getElem?_cons_zero] at k8
 have kq8:=(w2.sm s58 (by omega) (fun h=>h)).ld1 1
 simp only [List.getElem?_cons_zero,List.getElem?_cons_succ] at kq8
 obtain ⟨_,h9,e9,bx,rfl,rx,lx,s9,gx⟩:=vi (n:=m) (by omega) (h:=h8) (tb:=tb)
 simp only [F14,SS,Nat.reduceBEq,reduceEqDiff,reduceAdd,reduceIte,reduceMul,hO,e1,k1,e2,ma,w1,k3,fZ,kq0,pj,kp0,e4,e5,un (show (2:Int)≠0 by decide),wd,e6,WY,e7,x1,k8,cO,kq8,e9]
 refine fW (i:=112) (cap:=[.ptr (some (bx,0))]) (by simp only [SS,Nat.reduceBEq]) ?_
 have hid:h9.next<=h9.next:=Nat.le_refl _
 obtain ⟨tm0,htm,q1,q5,q69⟩:∃ tm:Tr AV,tm=((((((((Tr.leaf:Tr AV).up (some (.ptr (some (qb,0)))) 0).up (some (.int .i64 0)) 2).up (some (.ptr (some (h.next,0)))) 1).up (some (.int .i64 0)) 3).up (some (.bool false)) 14).up (some (.int .i64 256)) 4).up (some (.ptr (some (h6.next,0)))) 5).up (some (.func (.func 112) [] [.ptr (some (bx,0))])) 36/\tm.gt 1=some (.ptr (some (h.next,0)))/\tm.gt 5=some (.ptr (some (h6.next,0)))/\tm.gt 69=none:=⟨_,rfl,by simp only [SS,Nat.reduceBEq],by simp only [SS,Nat.reduceBEq],by simp only [SS,Nat.reduceBEq]⟩
 rw [← htm]
 obtain ⟨ha,eha⟩:∃ ha,h9.new h9.next (.loop ⟨.ready,none,14,tm0.up none 69,[37],nl,nm⟩)=ha:=⟨_,rfl⟩
 have ga:ha.bs.gt h9.next=some (.loop ⟨.ready,none,14,tm0.up none 69,[37],nl,nm⟩):=by rw [← eha,bX hid,if_pos rfl]
 have na:ha.next=h9.next+1:=by rw [← eha,cM hid]
 have sa:Sm bm h9 ha:=⟨by omega,fun c hc _=>by rw [← eha,bX hid,if_neg (by omega)]⟩
 rw [eha]
 have n9:=s9.1
 have s8a:Sm bm h8 ha:=s9.trans sa (fun _ _ h=>h) (fun _ _ h=>h)
 have s5a:Sm bm h5 ha:=s58.trans s8a (fun _ _ h=>h) (fun _ _ h=>h)
 have s0a:Sm (·= qb) h ha:=s08.trans s8a (fun _ _ h=>h) (fun _ _ h=>h.elim)
 have tt:=ht.sm s0a (fun b hb=>hqF b hb)
 have rec0:∀ hb,Sm bm ha hb->JN h8 h9.next h.next h6.next qb pb tb sp sp' wb' s R F hb.next 0 hb:=fun hb sb=>by
  have nb:=sb.1
  have s8b:Sm bm h8 hb:=s8a.trans sb (fun _ _ h=>h) (fun _ _ h=>h)
  have s5b:Sm bm h5 hb:=s58.trans s8b (fun _ _ h=>h) (fun _ _ h=>h)
  exact ⟨⟨_,(sb.2 _ (by omega) (fun h=>h)).trans ga,rfl,rfl,rfl,rfl,rfl,rfl,by simp only [SS,Nat.reduceBEq],by simp only [SS,Nat.reduceBEq,reduceEqDiff,reduceAdd,reduceIte,reduceMul,q1],by simp only [SS,Nat.reduceBEq,reduceEqDiff,reduceAdd,reduceIte,reduceMul,q5]⟩,⟨_,(r1.sm s3 (by omega) (by omega)).sm s5b (by omega) (fun h=>h)⟩,⟨_,x2.sm s8b (by omega) (fun h=>h)⟩,⟨⟨_,w2.sm s5b (by omega) (fun h=>h)⟩,by omega⟩,tt.sm sb (fun _ _ h=>h),(hs6.sm s68 (fun h=>h) (fun h=>h)).sm s8b (fun h=>h) (fun h=>h),⟨by omega,by omega,by omega,by omega,by omega,by omega,fun b hb=>by have:=ltF b hb;omega⟩,by omega,⟨by omega,by omega,by omega,by omega,fun b hb=>by have:=ltF b hb;omega⟩,s8b.no⟩
 obtain ⟨v,hc,ec,hv⟩:=mZ (n:=m) (by omega) tt hrel hlen (bx:=bx) (l:=h9.next) (rx.sm sa lx (fun h=>h)) (fun hi i h'=>JN h8 h9.next h.next h6.next qb pb tb sp sp' wb' s R F hi i h') (fun _=>False) rec0
  (fun hi i h' hlt hj _=>by
   obtain ⟨v,h2,e,hv,hj',s⟩:=Kc (m:=m - 1) (by omega) hj hrel hok hlt
   refine ⟨v,h2,e,.inl ⟨hv,hj'⟩,fun b hb1 hb2=>s.2 b (by have:=hj.hin;omega) (by omega)⟩)
 refine ⟨v,hc,ec,?_⟩
 rcases hv with ⟨hi,hj⟩ | hf
 ·obtain ⟨⟨b,hat,hst,hpd,_⟩,⟨z1,rc1⟩,⟨z5,rc5⟩,qc,_,sc,⟨l1,l5,lsp',lwb',ll,lq',_⟩,hin,⟨ne0,ne1,ne5,neq,_⟩,sm⟩:=hj
  refine ⟨b,hat,by rw [hst];decide,?_⟩
  rw [hpd]
  obtain ⟨hd',ed,md,nd,sd⟩:=dK (h:=hc) (b:=h9.next) (x:=.loop ⟨.exhausted,none,b.fn,b.tm,b.params,b.assign,b.body⟩)
  show ret _ _ _ _ _ .normal _ _ (hc.put h9.next (.loop ⟨.exhausted,none,b.fn,b.tm,b.params,b.assign,b.body⟩)) _
  rw [ed]
  have nc:=sm.1
  obtain ⟨g,eg,sg,bg,ng⟩:=Sm.bump hd' 19
  have sdg:Sm (·= h9.next) hc g:=sd.trans sg (fun _ _ h=>h) (fun _ _ h=>h.elim)
  have y1:=(rc1.sm sdg (by omega) (by omega)).ld1 0
  have y5:=(rc5.sm sdg (by omega) (by omega)).ld1 0
  rw [List.getElem?_cons_zero] at y1 y5
  obtain ⟨zq',rq'⟩:=(qc.sm sdg (by omega)).r
  have yq0:=rq'.ld1 0
  have yq1:=rq'.ld1 1
  simp only [List.getElem?_cons_zero,List.getElem?_cons_succ] at yq0 yq1
  have s8g:Sm (·= wb') h8 g:=sm.trans sdg (fun _ _ h=>h) (fun c hc e=>by omega)
  have pg:=(hp.sm s08 (fun e=>hq1 e.symm)).sm s8g (by omega)
  obtain ⟨zp',rp'⟩:=pg.r
  obtain ⟨u1,u2,u3,u4⟩:=rp'.st1 (o:=1) (v:=.ptr (some (tb,0))) (by simp) rfl
  simp only [List.set_cons_succ,List.set_cons_zero] at u2
  obtain ⟨hu,ehu⟩:∃ hu,g.wr pb 1 [.ptr (some (tb,0))]=hu:=⟨_,rfl⟩
  rw [ehu] at u1 u2 u3 u4
  have su:Sm (·= pb) g hu:=⟨by omega,fun c _ hc=>u4 c hc⟩
  have y5':=((rc5.sm sdg (by omega) (by omega)).sm su (by omega) (by omega)).ld1 0
  rw [List.getElem?_cons_zero] at y5'
  obtain ⟨v1,v2,v3,v4⟩:=u2.st1 (o:=2) (v:=.ptr (some (sp',0))) (by simp) rfl
  simp only [List.set_cons_succ,List.set_cons_zero] at v2
  obtain ⟨hw,ehw⟩:∃ hw,hu.wr pb 2 [.ptr (some (sp',0))]=hw:=⟨_,rfl⟩
  rw [ehw] at v1 v2 v3 v4
  have sw:Sm (·= pb) hu hw:=⟨by omega,fun c _ hc=>v4 c hc⟩
  have sgw:Sm (·= pb) g hw:=su.trans sw (fun _ _ h=>h) (fun _ _ h=>h)
  subst htm
  simp only [F14,SS,Nat.reduceBEq,reduceEqDiff,reduceAdd,reduceIte,reduceMul,eg,y1,fZ,yq0,cO,yq1,y5,fY,u1,y5',bD,ax,au,Bool.and_true,pp,v1]
  refine hQ _ _ _ _ (.inr rfl) (by simp only [SS,Nat.reduceBEq]) (by simp only [SS,Nat.reduceBEq,reduceEqDiff,reduceAdd,reduceIte,reduceMul];rfl) ?_
  rw [List.take_length] at sc
  refine ⟨rfl,sp',wb',⟨⟨_,v2⟩,by have:=pg.lt;omega⟩,(sc.sm sdg (by omega) (by omega)).sm sgw (by omega) (by omega),by omega,by omega,⟨by have:=s8g.1;omega,fun c hc hF=>?_⟩⟩
  rw [sgw.2 c (by have:=s8g.1;omega) (by omega),s8g.2 c (by omega) (by omega)]
  exact s08.2 c hc (by omega)
 ·exact hf.elim
end
end Go.Proofs.YtboobbebilegnaaGreat
namespace Go.Proofs.YtboobbebilegnaaGreat
open Go.Am
set_option maxRecDepth 10000
section
variable {h:ac} {A B:List Int}
theorem WI {n:Nat} (hn:1<=n) {va vb:AV} (ha:mg h va A.length 1 (A.map u)) (hb:mg h vb B.length 1 (B.map u)) (la:A.length<=1000) :
  WC (C n (.fn 19) [va,vb] h) fun r h'=>r=.bool (decide (A=B))/\Sm bm h h':=by
 obtain ⟨_,a,c,g,rfl,_⟩:=id ha
 obtain ⟨_,a2,c2,g2,rfl,_⟩:=id hb
 obtain ⟨m,rfl⟩:∃ m,n=m+1:=⟨n - 1,by omega⟩
 refine ak _ zgo rfl (by simp [UU]) fun QQ hQ=>?_
 simp only [UU] at hQ
 simp only [UU,ah,ai,Nat.zero_add,reduceAdd]
 by_cases hne:A.length=B.length
 ·have hne':(A.length:Int)=(B.length:Int):=by omega
  simp only [F19,SS,Nat.reduceBEq,reduceEqDiff,reduceAdd,reduceIte,reduceMul,eJ,hne']
  refine aF (c:=Bc) (I:=fun m' tm' h'=>∃ k,k<=A.length/\m'=A.length - k/\A.take k=B.take k/\Sm bm h h'/\tm'.gt 0=some (.slice a A.length c g)/\tm'.gt 1=some (.slice a2 B.length c2 g2)/\tm'.gt 5=some (I k)/\tm'.gt 26=none) (n:=A.length)
   ⟨0,by omega,rfl,rfl,Sm.refl _ _,by simp only [SS,Nat.reduceBEq],by simp only [SS,Nat.reduceBEq],by simp only [SS,Nat.reduceBEq,reduceEqDiff,reduceAdd,reduceIte,reduceMul];rfl,by simp only [SS,Nat.reduceBEq]⟩ (by omega) ?_
  rintro _ tm h2 ⟨k,hk,rfl,he,s2,t0,t1,t5,t26⟩ Q1 hN1 hE1
  by_cases hlt:k<A.length
  ·have hlt':(k:Int)<(A.length:Int):=by omega
   have hlB:k<B.length:=by omega
   obtain ⟨g',eg,sg,bg,ng⟩:=Sm.bump h2 9
   have s2g:Sm bm h g':=s2.trans sg (fun _ _ h=>h) (fun _ _ h=>h)
   obtain ⟨xb,xo,rfl,xc⟩:=(gG ha s2g (fun _ _ h=>h)).cell (by omega)
   obtain ⟨yb,yo,rfl,yc⟩:=(gG hb s2g (fun _ _ h=>h)).cell (by omega)
   have xk:=xc k (by omega)
   have yk:=yc k (by omega)
   rw [List.getElem?_map,List.getElem?_eq_getElem hlt,Option.map_some] at xk
   rw [List.getElem?_map,List.getElem?_eq_getElem hlB,Option.map_some] at yk
   have xi:=aB (k:=.i64) (b:=xb) (o:=xo) (c:=c) (g:=g) hlt
   have yi:=aB (k:=.i64) (b:=yb) (o:=yo) (c:=c2) (g:=g2) hlB
   by_cases hd:A[k]=B[k]
   ·simp only [F19,SS,Nat.reduceBEq,reduceEqDiff,reduceAdd,reduceIte,reduceMul,t0,t1,t5,eJ,hlt',eg,xi,yi,xk,yk,hd,bG (show k<=1000000 by omega)]
    refine hN1 _ _ (A.length - (k+1)) (by omega) ⟨k+1,by omega,rfl,?_,s2g,by simp only [SS,Nat.reduceBEq,t0],by simp only [SS,Nat.reduceBEq,t1],by simp only [SS,Nat.reduceBEq],by simp only [SS,Nat.reduceBEq,t26]⟩
    rw [List.take_succ_eq_append_getElem hlt,List.take_succ_eq_append_getElem hlB,he,hd]
   ·simp only [F19,SS,Nat.reduceBEq,reduceEqDiff,reduceAdd,reduceIte,reduceMul,t0,t1,t5,eJ,hlt',eg,xi,yi,xk,yk,hd]
    refine hE1 _ _ _ (by simp) ?_
    simp only [SS,Nat.reduceBEq,reduceEqDiff,reduceAdd,reduceIte,reduceMul]
    refine hQ _ _ _ _ (.inr rfl) (by simp only [SS,Nat.reduceBEq,t26]) (by simp only [SS,Nat.reduceBEq,reduceEqDiff,reduceAdd,reduceIte,reduceMul];rfl) ⟨?_,s2g⟩
    rw [decide_eq_false (fun e=>by subst e;exact hd rfl)];rfl
  ·have hlt':¬(k:Int)<(A.length:Int):=by omega
   obtain rfl:k=A.length:=by omega
   have he:A=B:=by
    rw [List.take_length] at he
    rw [he,hne,List.take_length]
   simp only [F19,SS,Nat.reduceBEq,reduceEqDiff,reduceAdd,reduceIte,reduceMul,t0,t1,t5,eJ,hlt']
   refine hE1 _ _ _ (by simp) ?_
   simp only [F19,SS,Nat.reduceBEq,reduceEqDiff,reduceAdd,reduceIte,reduceMul]
   refine hQ _ _ _ _ (.inr rfl) (by simp only [SS,Nat.reduceBEq,t26]) (by simp only [SS,Nat.reduceBEq,reduceEqDiff,reduceAdd,reduceIte,reduceMul,t26];rfl) ?_
   exact ⟨by rw [decide_eq_true he];rfl,s2⟩
 ·have hne':¬(A.length:Int)=(B.length:Int):=by omega
  simp only [F19,SS,Nat.reduceBEq,reduceEqDiff,reduceAdd,reduceIte,reduceMul,eJ,hne']
  refine hQ _ _ _ _ (.inr rfl) (by simp only [SS,Nat.reduceBEq]) (by simp only [SS,Nat.reduceBEq,reduceEqDiff,reduceAdd,reduceIte,reduceMul];rfl) ?_
  refine ⟨?_,Sm.refl _ _⟩
  rw [decide_eq_false (fun e=>by subst e;exact hne rfl)];rfl
end
end Go.Proofs.YtboobbebilegnaaGreat
namespace Go.Proofs.YtboobbebilegnaaGreat
open Go.Am
set_option maxRecDepth 10000
theorem Lp {e k by' m n c id:Nat} {t:TypeId} {h:ac} {a:Option (Nat×Nat)} {g:Option Nat} {zv x:AV} {ys cs:List AV} (hu:P.underlying t=some (.slice e)) (hs:aC P e=some (k+1)) (hb:cF P e=some by') (hz:cd P e=some zv) (hzl:zv.cells.length=k+1)
  (hv:mg h (.slice a n c g) n (k+1) cs) (h1:cs.all AV.one=true) (hsrc:cI (k+1) (fun n=>n) x h=some (ys,m)) (hm:0<m) (hyl:ys.length=m*(k+1)) (hy1:ys.all AV.one=true) (hr:gy by' (n+m)=true) (hid:h.next<=id) :
  ∃ h',aS P t (.slice a n n none) x id h=some (.slice (some (id,0)) (n+m) (n+m) (some (k+1)),h')/\iF e (k+1) h' (.slice (some (id,0)) (n+m) (n+m) (some (k+1))) (n+m) (cs++ys) [id]/\Sm bm h h'/\h'.next=id+1:=by
 obtain ⟨hl,a',c',g',ev,hn0,hat⟩:=hv
 obtain ⟨rfl,_,rfl,rfl⟩:a=a'/\n=n/\c=c'/\g=g':=by cases ev;exact ⟨rfl,rfl,rfl,rfl⟩
 have hall:(cs++ys).all AV.one=true:=by rw [List.all_append,h1,hy1];rfl
 have hn:=Rw.new (h:=h) (id:=id) (vs:=cs++ys) (z:=ay e false) (ro:=false) hid
 have hlen:(cs++ys).length=(n+m)*(k+1):=by rw [List.length_append,hl,hyl,Nat.add_mul]
 refine ⟨h.new id (.cells (az (cs++ys) .leaf 0) (ay e false) (cs++ys).length false),?_,?_,⟨by rw [cM hid];omega,fun c hc _=>by rw [bX hid,if_neg (by omega)]⟩,cM hid _⟩
 ·rw [jA hu hs hb hz hzl hsrc hyl hr,if_neg (by omega)]
  cases a with
  | none =>
   obtain rfl:=hn0 rfl
   rw [Nat.zero_mul] at hl
   obtain rfl:=List.eq_nil_of_length_eq_zero hl
   show aV (Nat.beq 0 0) (dT (k+1) m (ay e false) id h ys)=_
   rw [jf hy1,List.nil_append,Nat.zero_add];rfl
  | some p =>
   obtain ⟨_,hld⟩:=hat p.1 p.2 rfl
   show (Bool.rec (motive:=fun _=>Option (AV×ac)) (Option.rec (motive:=fun _=>Option (AV×ac)) none (fun old=>dT (k+1) (Nat.add n m) (ay e false) id h (dS old ys)) (h.ld p.1 p.2 (Nat.mul n (k+1)))) _ (Nat.ble (Nat.add n m) n):Option (AV×ac))=_
   rw [show Nat.ble (Nat.add n m) n=false from by
    cases hh:Nat.ble (Nat.add n m) n with
    | false=>rfl
    | true=>have:=Nat.le_of_ble_eq_true hh;have:n+m<=n:=this;omega]
   show (Option.rec (motive:=fun _=>Option (AV×ac)) none (fun old=>dT (k+1) (Nat.add n m) (ay e false) id h (dS old ys)) (h.ld p.1 p.2 (n*(k+1))):Option (AV×ac))=_
   rw [hld]
   show dT (k+1) (Nat.add n m) (ay e false) id h (dS cs ys)=_
   rw [cj,jf hall];rfl
 ·refine .inr ⟨id,n+m,[],_,rfl,by rw [hlen],by rw [List.append_nil,hlen],Nat.le_refl _,by rw [List.append_nil];exact hn.1,by rw [hn.2.1];omega,rfl,rfl,hall⟩
structure Kp where
 d:List Nat
 ids:List Int
 v:AV
abbrev cK (k:Kp):List AV:=[.str k.d,k.v]
structure fQ (h:ac) (v:AV) (K:List Kp) (G:Nat->Prop):Prop where
 e:mg h v K.length 2 (K.flatMap cK)
 i:∀ k,k∈K->mg h k.v k.ids.length 1 (k.ids.map u)/\k.v.one=true/\∀ b,ky k.v b->G b
 g:∀ b,ky v b->G b
 c:∃ a c g,v=.slice a K.length c g/\K.length<=c/\Aq g 2=true
 lt:∀ b,G b->b<h.next
theorem fQ.nil {h:ac}:fQ h (.slice none 0 0 none) [] (fun _=>False) :=
 ⟨⟨rfl,none,0,none,rfl,fun _=>rfl,(fun _ _ h=>by cases h)⟩,(fun _ h=>by cases h),fun _ h=>h,⟨none,0,none,rfl,Nat.le_refl _,rfl⟩,fun _ h=>h.elim⟩
section
variable {h h':ac} {v:AV} {K:List Kp} {G:Nat->Prop}
theorem fQ.sm {F:Nat->Prop} (hk:fQ h v K G) (hs:Sm F h h') (hF:∀ b,G b->¬F b):fQ h' v K G:=by
 have:=hs.1
 exact ⟨gG hk.e hs fun b hb=>hF b (hk.g b hb),fun k hkm=>⟨gG (hk.i k hkm).1 hs fun b hb=>hF b ((hk.i k hkm).2.2 b hb),(hk.i k hkm).2⟩,hk.g,hk.c,fun b hb=>by have:=hk.lt b hb;omega⟩
theorem zbt (K:List Kp):(K.flatMap cK).length=K.length*2:=by
 induction K with
 | nil=>rfl
 | cons k K ih=>simp only [List.flatMap_cons,List.length_append,ih,List.length_cons,List.length_nil];omega
theorem fQ.one (hk:fQ h v K G):(K.flatMap cK).all AV.one=true:=by
 rw [List.all_eq_true]
 intro x hx
 obtain ⟨k,hkm,hx⟩:=List.mem_flatMap.1 hx
 rcases List.mem_cons.1 hx with rfl | hx
 ·rfl
 ·rcases List.mem_cons.1 hx with rfl | hx
  ·exact (hk.i k hkm).2.1
  ·cases hx
theorem zfF {a:Option (Nat×Nat)} {n c:Nat} {g:Option Nat} (hc:n<=c):aU P 35 false true true [.slice a n c g,.int .i64 (n:Int),.int .i64 (n:Int)]=some (.slice a n n none):=by
 rw [Ai hc (Nat.le_refl n)]
 cases a <;> rfl
theorem zbQ {id:Nat} (hk:fQ h v K G) (k:Kp) (hi:mg h k.v k.ids.length 1 (k.ids.map u)) (h1:k.v.one=true) {x:AV} (hsrc:cI 2 (fun n=>n) x h=some (cK k,1)) (hid:h.next<=id) (hK:K.length<=10000) :
  ∃ a c g w h',v=.slice a K.length c g/\K.length<=c/\aS P 35 (.slice a K.length K.length none) x id h=some (w,h')/\fQ h' w (K++[k]) (fun b=>G b∨ky k.v b∨b=id)/\Sm bm h h':=by
 obtain ⟨a,c,g,rfl,hc,hg⟩:=(show _ from hk.c)
 obtain ⟨h',e,o,s,n⟩:=Lp (t:=35) (e:=53) (k:=1) (by':=40) (m:=1) (id:=id) zcU zcJ za5 zcZ rfl hk.e hk.one hsrc (by decide) rfl (by show ((AV.str k.d).one&&(k.v.one&&true))=true;rw [h1];rfl) (eO (by omega) (by omega)) hid
 refine ⟨a,c,g,_,h',rfl,hc,e,?_,s⟩
 have ke:=o.els
 have kl:(K++[k]).length=K.length+1:=by simp
 refine ⟨by rw [kl,List.flatMap_append];simpa using ke,fun k' hk'=>?_,fun b hb=>.inr (.inr hb.symm),⟨_,_,_,by rw [kl],by rw [kl];exact Nat.le_refl _,rfl⟩,fun b hb=>?_⟩
 ·rcases List.mem_append.1 hk' with hk' | hk'
  ·obtain ⟨q1,q2,q3⟩:=hk.i k' hk'
   exact ⟨gG q1 s (fun _ _ h=>h),q2,fun b hb=>.inl (q3 b hb)⟩
  ·obtain rfl:=List.mem_singleton.1 hk'
   exact ⟨gG hi s (fun _ _ h=>h),h1,fun b hb=>.inr (.inl hb)⟩
 ·rcases hb with hb | hb | rfl
  ·have:=hk.lt b hb;omega
  ·obtain ⟨_,a',c',g',ev,_,hat⟩:=hi
   rw [ev] at hb
   cases a' with
   | none=>exact hb.elim
   | some p=>have:=(hat p.1 p.2 rfl).1;have:p.1=b:=hb;omega
  ·omega
end
end Go.Proofs.YtboobbebilegnaaGreat
namespace Go.Proofs.YtboobbebilegnaaGreat
open Go.Am
set_option maxRecDepth 10000
section
variable {h h':ac} {v:AV} {K:List Kp} {G:Nat->Prop}
theorem H0 {a:Option (Nat×Nat)} {n c lo hi s c':Nat} {g g':Option Nat} {cs:List AV} (hv:mg h (.slice a n c g) n s cs) (h1:lo<=hi) (h2:hi<=n) :
  mg h (.slice (a.map fun p=>(p.1,p.2+lo*s)) (hi - lo) c' g') (hi - lo) s ((cs.drop (lo*s)).take ((hi - lo)*s)):=by
 obtain ⟨hl,a',c1,g1,ev,hn0,hat⟩:=hv
 obtain ⟨rfl,rfl,rfl⟩:a=a'/\c=c1/\g=g1:=by cases ev;exact ⟨rfl,rfl,rfl⟩
 have hle:lo*s+(hi - lo)*s<=n*s:=by rw [← Nat.add_mul];exact Nat.mul_le_mul_right _ (by omega)
 refine ⟨by rw [List.length_take,List.length_drop,hl];omega,_,_,_,rfl,fun e=>?_,fun b o e=>?_⟩
 ·cases a with
  | none=>have:=hn0 rfl;omega
  | some p=>cases e
 ·cases a with
  | none=>cases e
  | some p =>
   obtain ⟨p1,p2⟩:=p
   have e:(p1,p2+lo*s)=(b,o):=Option.some.inj e
   cases e
   obtain ⟨q1,q2⟩:=hat _ _ rfl
   exact ⟨q1,wK q2 hle⟩
theorem HW (K:List Kp) (j:Nat):(K.flatMap cK).drop (j*2)=(K.drop j).flatMap cK:=by
 induction j generalizing K with
 | zero=>simp
 | succ j ih =>
  cases K with
  | nil=>simp
  | cons k K =>
   rw [show (j+1)*2=j*2+1+1 by omega]
   exact ih K
theorem HX (K:List Kp) (j:Nat):(K.flatMap cK).take (j*2)=(K.take j).flatMap cK:=by
 induction j generalizing K with
 | zero=>simp
 | succ j ih =>
  cases K with
  | nil=>simp
  | cons k K =>
   rw [show (j+1)*2=j*2+1+1 by omega]
   show (AV.str k.d)::k.v::((K.flatMap cK).take (j*2))=(AV.str k.d)::k.v::((K.take j).flatMap cK)
   rw [ih K]
theorem Vv (hk:fQ h v K G) {j:Nat} (hj:j<K.length) (hK:K.length<=10000) :
  ∃ x1 x2,aU P 35 false true false [v,.int .i64 (j:Int)]=some x1/\aU P 35 true false false [v,.int .i64 ((j+1:Nat):Int)]=some x2 /\
  ∀ id1,h.next<=id1->∃ w1 h1,aS P 35 (.slice none 0 0 none) x1 id1 h=some (w1,h1)/\Sm bm h h1/\∀ h2,Sm bm h1 h2->∀ id2,h2.next<=id2 ->
   ∃ w2 h3 G',aS P 35 w1 x2 id2 h2=some (w2,h3)/\fQ h3 w2 (K.take j++K.drop (j+1)) G'/\Sm (fun b=>h.next<=b) h h3/\(∀ b,G' b->G b∨h.next<=b):=by
 obtain ⟨a,c,g,rfl,hc,hg⟩:=(show _ from hk.c)
 refine ⟨_,_,Ah hg (by omega),Aj hg (by omega),fun id1 hid1=>?_⟩
 have E1:mg h (.slice (a.map fun p=>(p.1,p.2+0*2)) (j - 0) (c - 0) g) (j - 0) 2 _:=H0 hk.e (lo:=0) (hi:=j) (by omega) (by omega)
 rw [show ((K.flatMap cK).drop (0*2)).take ((j - 0)*2)=(K.take j).flatMap cK from HX K j] at E1
 have hone:=hk.one
 have one1:((K.take j).flatMap cK).all AV.one=true:=by
  rw [List.all_eq_true] at hone ⊢
  intro x hx
  rw [← HX] at hx
  exact hone x (List.mem_of_mem_take hx)
 have one2:((K.drop (j+1)).flatMap cK).all AV.one=true:=by
  rw [List.all_eq_true] at hone ⊢
  intro x hx
  rw [← HW] at hx
  exact hone x (List.mem_of_mem_drop hx)
 obtain ⟨w1,h1,bs1,e1,o1,s1,f1⟩:=jz (t:=35) (e:=53) (s:=1) (by':=40) (id:=id1) zcU zcJ za5 zcZ rfl iF.nil E1.src E1.1 one1 (eO (by omega) (by omega)) hid1
 have s1:Sm bm h h1:=s1.mono fun _ _ h=>by cases h
 refine ⟨w1,h1,e1,s1,fun h2 s2 id2 hid2=>?_⟩
 have s02:Sm bm h h2:=s1.trans s2 (fun _ _ h=>h) (fun _ _ h=>h)
 have E2:mg h2 (.slice (a.map fun p=>(p.1,p.2+(j+1)*2)) (K.length - (j+1)) (c - (j+1)) g) (K.length - (j+1)) 2 _:=H0 (gG hk.e s02 (fun _ _ h=>h)) (lo:=j+1) (hi:=K.length) (by omega) (Nat.le_refl _)
 rw [show ((K.flatMap cK).drop ((j+1)*2)).take ((K.length - (j+1))*2)=(K.drop (j+1)).flatMap cK from by
  rw [List.take_of_length_le (by rw [List.length_drop,zbt];omega),HW]] at E2
 obtain ⟨w2,h3,bs3,e3,o3,s3,f3⟩:=jz (t:=35) (e:=53) (s:=1) (by':=40) (id:=id2) zcU zcJ za5 zcZ rfl (o1.sm s2 (fun _ _ h=>h)) E2.src E2.1 one2 (eO (by omega) (by omega)) hid2
 have hb1:∀ b,b∈bs1->h.next<=b:=fun b hb=>(f1 b hb).resolve_left (by simp)
 have q1:=s1.1
 have q2:=s2.1
 have hb3:∀ b,b∈bs3->h.next<=b:=fun b hb=>by
  rcases f3 b hb with h | h
  ·exact hb1 b h
  ·omega
 have s03:Sm (fun b=>h.next<=b) h h3:=s02.trans s3 (fun _ _ h=>h.elim) (fun b _ hb=>hb1 b hb)
 have kl:(K.take j++K.drop (j+1)).length=j - 0+(K.length - (j+1)):=by rw [List.length_append,List.length_take,List.length_drop];omega
 refine ⟨w2,h3,fun b=>G b∨b∈bs3,e3,⟨?_,fun k hkm=>?_,fun b hb=>?_,?_,fun b hb=>?_⟩,s03,fun b hb=>hb.imp_right (hb3 b)⟩
 ·have:=o3.els
  rw [Nat.zero_add] at this
  rw [kl,List.flatMap_append]
  exact this
 ·have hm:k∈K:=by
   rcases List.mem_append.1 hkm with h | h
   ·exact List.mem_of_mem_take h
   ·exact List.mem_of_mem_drop h
  obtain ⟨r1,r2,r3⟩:=hk.i k hm
  exact ⟨gG r1 s03 (fun b hb=>by have:=hk.lt b (r3 b hb);omega),r2,fun b hb=>.inl (r3 b hb)⟩
 ·rcases o3 with ⟨rfl,_⟩|⟨b',_,_,_,rfl,_,_,_,_,_,rfl,_⟩
  ·exact hb.elim
  ·have hb:b'=b:=hb
   exact .inr (by rw [hb];simp)
 ·rw [Nat.zero_add] at o3
  rw [kl]
  rcases o3 with ⟨rfl,e0,_⟩|⟨b',c',_,_,rfl,_,_,hc',_⟩
  ·exact ⟨none,0,none,by rw [e0],by omega,rfl⟩
  ·exact ⟨_,c',_,rfl,hc',rfl⟩
 ·rcases hb with hb | hb
  ·have:=hk.lt b hb;have:=s03.1;omega
  ·exact o3.lt b hb
end
end Go.Proofs.YtboobbebilegnaaGreat
namespace Go.Proofs.YtboobbebilegnaaGreat
open Go.Am
set_option maxRecDepth 10000
def RX (pb lb db sb sp0 wb0:Nat) (F0:Nat->Prop) (b:Nat):Prop:=b=pb∨b=lb∨b=db∨b=sb∨b=sp0∨b=wb0∨F0 b
structure iW (h:ac) (pb lb db sb tb0 sp0 wb0:Nat) (s0:PS) (F0:Nat->Prop) (a:Nat):Prop where
 p:mw h pb lb tb0 sp0
 t:bc h tb0 s0.L s0.nx F0
 s:fB h sp0 wb0 s0.U
 l:gE h lb db (-1) (.slice none 0 0 none) a false
 d:∃ D,bB h db sb D
 ne:lb≠db/\lb≠sb/\pb≠lb/\pb≠db/\pb≠sb/\pb≠sp0/\pb≠wb0/\lb≠sp0/\lb≠wb0/\sb≠sp0/\sb≠wb0
 f:∀ b,F0 b->b≠pb/\b≠lb/\b≠sb/\b≠sp0/\b≠wb0
section
variable {h h':ac} {pb lb db sb tb0 sp0 wb0 qb tb sp wb:Nat} {s0 s:PS} {F0 F:Nat->Prop} {a:Nat} {R:List Ch}
theorem iW.lt (hr:iW h pb lb db sb tb0 sp0 wb0 s0 F0 a):∀ b,RX pb lb db sb sp0 wb0 F0 b->b<h.next:=by
 intro b hb
 obtain ⟨D,hd⟩:=hr.d
 have h1:=hr.p.lt
 have h2:=hr.l.lt
 have h3:=hd.lt
 have h4:=hr.s.lt
 rcases hb with rfl | rfl | rfl | rfl | rfl | rfl | hb
 ·exact h1
 ·exact h2
 ·exact h3.1
 ·exact h3.2
 ·exact h4.1
 ·exact h4.2
 ·exact hr.t.flt b hb
theorem iW.sm {G:Nat->Prop} (hr:iW h pb lb db sb tb0 sp0 wb0 s0 F0 a) (hs:Sm G h h') (hG:∀ b,RX pb lb db sb sp0 wb0 F0 b->¬G b):iW h' pb lb db sb tb0 sp0 wb0 s0 F0 a:=by
 obtain ⟨p,t,s,l,⟨D,d⟩,ne,f⟩:=hr
 exact ⟨p.sm hs (hG _ (.inl rfl)),t.sm hs (fun b hb=>hG b (.inr (.inr (.inr (.inr (.inr (.inr hb))))))),s.sm hs (hG _ (.inr (.inr (.inr (.inr (.inl rfl)))))) (hG _ (.inr (.inr (.inr (.inr (.inr (.inl rfl))))))),l.sm hs (hG _ (.inr (.inl rfl))),⟨D,d.sm hs (hG _ (.inr (.inr (.inl rfl)))) (hG _ (.inr (.inr (.inr (.inl rfl)))))⟩,ne,f⟩
def QX (qb sp wb:Nat) (F:Nat->Prop) (b:Nat):Prop:=b=qb∨b=sp∨b=wb∨F b
theorem Un {n:Nat} (hn:9<=n) (hr:iW h pb lb db sb tb0 sp0 wb0 s0 F0 a) (hrel:j8 s0.L R) (hlen:s0.L.length<=900) :
  WC (C n (.fn 12) [.ptr (some (pb,0))] h) fun r h'=>∃ qb tb F sp wb,r=.ptr (some (qb,0))/\Pq h' qb pb tb sp wb ⟨R,s0.nx,s0.U⟩ F/\iW h' pb lb db sb tb0 sp0 wb0 s0 F0 a/\Sm bm h h'/\∀ b,QX qb sp wb F b->h.next<=b:=by
 obtain ⟨r,h',e,qb,ctb,F',sp',wb',rfl,hq⟩:=Lt hn hr.p hr.t hrel hlen hr.s
 obtain ⟨q1,q2,q3,q4,q5,q6,q7,q8,q9,q10⟩:=hq
 refine ⟨_,h',e,qb,ctb,F',sp',wb',rfl,⟨q1,q2,q3,fun b hb=>(q5 b hb).2,⟨q9,q10⟩⟩,hr.sm q4 (fun _ _ h=>h),q4,fun b hb=>?_⟩
 rcases hb with rfl | rfl | rfl | hb
 ·exact q6
 ·exact q7
 ·exact q8
 ·exact (q5 b hb).1
theorem WV {n:Nat} (hn:12<=n) (hq:Pq h qb pb tb sp wb s F) (hr:iW h pb lb db sb tb0 sp0 wb0 s0 F0 a) (hd:∀ b,QX qb sp wb F b->¬RX pb lb db sb sp0 wb0 F0 b) (hrel:j8 s.L R) (hlen:s.L.length<=1000) (ha:a<=100000) (hok:Jp s.L) :
  WC (C n (.fn 33) [.ptr (some (qb,0))] h) fun r h'=>r=.int .i64 0/\Pq h' qb pb tb sp wb s F/\(∃ a',a'<=a+s.L.length+1/\iW h' pb lb db sb tb0 sp0 wb0 s0 F0 a')/\Sm (fun b=>(b=lb∨b=sb)∨b=qb) h h':=by
 obtain ⟨D,hD⟩:=hr.d
 have hne:=hr.ne
 have hf:=hr.f
 have dq:=hd qb (.inl rfl)
 have dsp:=hd sp (.inr (.inl rfl))
 have dwb:=hd wb (.inr (.inr (.inl rfl)))
 simp only [RX,not_or] at dq dsp dwb
 have dF:∀ b,F b->b≠lb/\b≠sb:=fun b hb=>by
  have:=hd b (.inr (.inr (.inr hb)))
  simp only [RX,not_or] at this
  exact ⟨this.2.1,this.2.2.2.1⟩
 have hqf:=hq.dF
 have hqd:=hq.dq
 have hw:Wd qb pb lb db sb F F0:=⟨⟨dq.2.1,dq.2.2.2.1,dq.2.2.1⟩,⟨hne.2.2.1,hne.2.2.2.2.1⟩,dF,fun b hb=>⟨(hf b hb).2.1,(hf b hb).2.2.1⟩,⟨hne.1,hne.2.1,hD.ne⟩⟩
 have no3:∀ x,x≠lb->x≠sb->x≠qb->¬((x=lb∨x=sb)∨x=qb):=fun x h1 h2 h3 h=>h.elim (fun h=>h.elim h1 h2) h3
 obtain ⟨r,h',e,er,s1,q1,⟨a',ha',l1⟩,D',d1⟩:=TL hn hw hq.q hr.p hq.t hr.t hr.l hD hrel hlen ha hok
 obtain ⟨n1,n2,n3,n4,n5,n6,n7,n8,n9,n10,n11⟩:=hne
 refine ⟨r,h',e,er,⟨q1,hq.t.sm s1 (fun b hb=>no3 b (dF b hb).1 (dF b hb).2 (hqf b hb).1),hq.s.sm s1 (no3 _ dsp.2.1 dsp.2.2.2.1 (Ne.symm hqd.1)) (no3 _ dwb.2.1 dwb.2.2.2.1 (Ne.symm hqd.2)),hq.dF,hq.dq⟩,⟨a',ha',⟨hr.p.sm s1 (no3 _ n3 n5 (Ne.symm dq.1)),hr.t.sm s1 (fun b hb=>no3 b (hf b hb).2.1 (hf b hb).2.2.1 (fun e=>dq.2.2.2.2.2.2 (e▸hb))),hr.s.sm s1 (no3 _ (Ne.symm n8) (Ne.symm n10) (Ne.symm dq.2.2.2.2.1)) (no3 _ (Ne.symm n9) (Ne.symm n11) (Ne.symm dq.2.2.2.2.2.1)),l1,⟨D',d1⟩,hr.ne,hf⟩⟩,s1⟩
theorem zbx {n:Nat} (hn:8<=n) (hq:Pq h qb pb tb sp wb s F) (hr:iW h pb lb db sb tb0 sp0 wb0 s0 F0 a) (hd:∀ b,QX qb sp wb F b->¬RX pb lb db sb sp0 wb0 F0 b) (hrel:j8 s.L R) (hlen:s.L.length<=1000) (hok:∀ c,c∈s.L->128<=c.block/\c.block<256) :
  WC (C n (.fn 14) [.ptr (some (qb,0))] h) fun r h'=>r=.int .i64 0/\∃ sp' wb',iW h' pb lb db sb tb sp' wb' ⟨s.L,s.nx,fA R⟩ F a/\h.next<=sp'/\h.next<=wb'/\Sm (fun b=>b=qb∨b=pb) h h':=by
 obtain ⟨D,hD⟩:=hr.d
 have hlt:=hr.lt
 have dq:=hd qb (.inl rfl)
 simp only [RX,not_or] at dq
 have dF:∀ b,F b->b≠pb/\b≠lb/\b≠sb:=fun b hb=>by
  have:=hd b (.inr (.inr (.inr hb)))
  simp only [RX,not_or] at this
  exact ⟨this.1,this.2.1,this.2.2.2.1⟩
 have hqf:=hq.dF
 have lF:=hq.t.flt
 have l1:=hlt pb (.inl rfl)
 have l2:=hlt lb (.inr (.inl rfl))
 have l3:=hD.lt
 have no2:∀ x,x≠qb->x≠pb->¬(x=qb∨x=pb):=fun x h1 h2 h=>h.elim h1 h2
 obtain ⟨r,h',e,er,sp',wb',p1,s1,g1,g2,sm⟩:=UH hn hq.q hr.p hq.t hr.l hD hrel hlen hok ⟨dq.1,dq.2.1,dq.2.2.1,dq.2.2.2.1,fun b hb=>(hqf b hb).1⟩
 obtain ⟨n1,n2,n3,n4,n5,n6,n7,n8,n9,n10,n11⟩:=hr.ne
 have far:∀ x y,x<h.next->h.next<=y->x≠y:=fun x y h1 h2=>Nat.ne_of_lt (Nat.lt_of_lt_of_le h1 h2)
 exact ⟨r,h',e,er,sp',wb',⟨p1,hq.t.sm sm (fun b hb=>no2 b (hqf b hb).1 (dF b hb).1),s1,hr.l.sm sm (no2 _ (Ne.symm dq.2.1) (Ne.symm n3)),⟨D,hD.sm sm (no2 _ (Ne.symm dq.2.2.1) (Ne.symm n4)) (no2 _ (Ne.symm dq.2.2.2.1) (Ne.symm n5))⟩,⟨n1,n2,n3,n4,n5,far _ _ l1 g1,far _ _ l1 g2,far _ _ l2 g1,far _ _ l2 g2,far _ _ l3.2 g1,far _ _ l3.2 g2⟩,fun b hb=>⟨(dF b hb).1,(dF b hb).2.1,(dF b hb).2.2,far _ _ (lF b hb) g1,far _ _ (lF b hb) g2⟩⟩,g1,g2,sm⟩
end
end Go.Proofs.YtboobbebilegnaaGreat
namespace Go.Proofs.YtboobbebilegnaaGreat
open Go.Am
set_option maxRecDepth 10000
structure lG (s:PS) (M:List (List Nat)):Prop where
 nd:(s.L.map Ch.id).Nodup
 dn:(s.L.map Ch.data).Nodup
 lt:∀ c,c∈s.L->c.id<s.nx
 rf:∀ c,c∈s.L->c.refs=(M.count c.data:Int)/\0<M.count c.data
 ex:∀ p,p∈M->∃ c,c∈s.L/\c.data=p
 bl:∀ c,c∈s.L->∃ j:Nat,c.block=(j:Int)/\128<=j/\j<256/\s.U j=true
 bn:(s.L.map Ch.block).Nodup
theorem io {β : Type} (f:Ch->β) {c0:Ch}:∀ {L:List Ch} (c:Ch),fC L c.id=some c0->f c0=f c->(dU c L).map f=L.map f
 | [],c,h,_=>by cases h
 | d::L,c,h,hf=>by
  unfold dU
  by_cases e:(d.id==c.id)=true
  ·have:d=c0:=by
    unfold fC at h
    rw [List.find?_cons,e] at h
    exact Option.some.inj h
   subst this
   rw [if_pos e,List.map_cons,List.map_cons,hf]
  ·have h':fC L c.id=some c0:=by
    unfold fC at h ⊢
    rw [List.find?_cons] at h
    simpa [e] using h
   rw [if_neg e,List.map_cons,List.map_cons,io f c h' hf]
theorem Br {U:Nat->Bool} {k:Nat} (h:oH U=some k):128<=k/\k<256/\U k=false:=by
 have h1:=List.find?_some h
 have h2:=List.mem_range.1 (List.mem_of_find?_eq_some h)
 simp at h1
 exact ⟨h1.1,h2,h1.2⟩
theorem wk {L:List Ch} (hn:(L.map Ch.id).Nodup) (dn:(L.map Ch.data).Nodup) {c d:Ch} (hc:c∈L) (hd:d∈L) (h:d.id≠c.id):d.data≠c.data:=by
 intro e
 have h1:=rD dn hc
 have h2:=rD dn hd
 rw [e,h1] at h2
 exact h (by rw [Option.some.inj h2])
theorem lN (M:List (List Nat)) (p q:List Nat):(M++[p]).count q=M.count q+if p=q then 1 else 0:=by
 rw [List.count_append,List.count_singleton]
 simp
theorem I1 {s:PS} {M:List (List Nat)} (hi:lG s M) (hM:M.length<65535) (hn:s.nx<4294967295) (p:List Nat) :
  (cW s p).2.1=7/\pE s.L p=none∨(cW s p).2.1=0/\lG (cW s p).2.2 (M++[p])/\(∃ c,c∈(cW s p).2.2.L/\c.data=p/\c.id=(cW s p).1)/\(cW s p).2.2.nx<=s.nx+1/\∀ c,c∈s.L->∃ c',c'∈(cW s p).2.2.L/\c'.id=c.id/\c'.data=c.data:=by
 obtain ⟨nd,dn,lt,rf,ex,bl,bn⟩:=hi
 cases hf:pE s.L p with
 | some c =>
  obtain ⟨hc,rfl⟩:=qx hf
  have hr:=(rf c hc).1
  have hcl:=List.count_le_length (l:=M) (a:=c.data)
  have hne:¬c.refs=65535:=by omega
  have hg:=gH nd hc
  have ho:cW s c.data=(c.id,0,{s with L:=dU {c with refs:=c.refs+1 } s.L }):=by unfold cW;rw [hf];simp only [if_neg hne]
  rw [ho]
  have mem:=sC (c0:=c) {c with refs:=c.refs+1 } nd hg
  refine .inr ⟨rfl,⟨?_,?_,fun d hd=>?_,fun d hd=>?_,fun q hq=>?_,fun d hd=>?_,?_⟩,⟨{c with refs:=c.refs+1 },(mem _).2 (.inl rfl),rfl,rfl⟩,by show s.nx<=_;omega,fun d hd=>?_⟩
  ·show ((dU _ s.L).map Ch.id).Nodup
   rw [io Ch.id {c with refs:=c.refs+1 } hg rfl];exact nd
  ·show ((dU _ s.L).map Ch.data).Nodup
   rw [io Ch.data {c with refs:=c.refs+1 } hg rfl];exact dn
  ·rcases (mem d).1 hd with rfl|⟨hd,_⟩
   ·exact lt c hc
   ·exact lt d hd
  ·rcases (mem d).1 hd with rfl|⟨hd,hne'⟩
   ·show c.refs+1=((M++[c.data]).count c.data:Nat)/\_
    rw [lN,if_pos rfl]
    exact ⟨by omega,by omega⟩
   ·have:=wk nd dn hc hd hne'
    rw [lN,if_neg (Ne.symm this),Nat.add_zero]
    exact rf d hd
  ·have:∃ d,d∈s.L/\d.data=q:=by
    rcases List.mem_append.1 hq with hq | hq
    ·exact ex q hq
    ·exact ⟨c,hc,(List.mem_singleton.1 hq).symm⟩
   obtain ⟨d,hd,rfl⟩:=this
   by_cases e:d.id=c.id
   ·refine ⟨{c with refs:=c.refs+1 },(mem _).2 (.inl rfl),?_⟩
    have h1:=gH nd hd
    rw [e,hg] at h1
    rw [Option.some.inj h1]
   ·exact ⟨d,(mem _).2 (.inr ⟨hd,e⟩),rfl⟩
  ·rcases (mem d).1 hd with rfl|⟨hd,_⟩
   ·exact bl c hc
   ·exact bl d hd
  ·show ((dU _ s.L).map Ch.block).Nodup
   rw [io Ch.block {c with refs:=c.refs+1 } hg rfl];exact bn
  ·by_cases e:d.id=c.id
   ·refine ⟨{c with refs:=c.refs+1 },(mem _).2 (.inl rfl),e.symm,?_⟩
    have h1:=gH nd hd
    rw [e,hg] at h1
    rw [Option.some.inj h1]
   ·exact ⟨d,(mem _).2 (.inr ⟨hd,e⟩),rfl,rfl⟩
 | none =>
  have hno:=ny hf
  cases hk:oH s.U with
  | none=>exact .inl ⟨by unfold cW;rw [hf];simp only [hk],rfl⟩
  | some k =>
   obtain ⟨k1,k2,k3⟩:=Br hk
   have hne:¬s.nx=4294967295:=by omega
   have ho:cW s p=(s.nx,0,⟨s.L++[⟨s.nx,p,(k:Int),1⟩],s.nx+1,fun i=>s.U i||decide (i=k)⟩):=by unfold cW;rw [hf];simp only [hk,if_neg hne]
   rw [ho]
   have hc0:M.count p=0:=by
    rw [List.count_eq_zero]
    intro hp
    obtain ⟨c,hc,e⟩:=ex p hp
    exact hno c hc e
   refine .inr ⟨rfl,⟨?_,?_,fun d hd=>?_,fun d hd=>?_,fun q hq=>?_,fun d hd=>?_,?_⟩,⟨⟨s.nx,p,(k:Int),1⟩,by simp,rfl,rfl⟩,Int.le_refl _,fun d hd=>⟨d,List.mem_append.2 (.inl hd),rfl,rfl⟩⟩
   ·show ((s.L++[_]).map Ch.id).Nodup
    rw [List.map_append,List.nodup_append]
    refine ⟨nd,by simp,fun a ha b hb=>?_⟩
    obtain ⟨c,hc,rfl⟩:=List.mem_map.1 ha
    obtain rfl:=List.mem_singleton.1 hb
    have:=lt c hc
    show c.id≠s.nx;omega
   ·show ((s.L++[_]).map Ch.data).Nodup
    rw [List.map_append,List.nodup_append]
    refine ⟨dn,by simp,fun a ha b hb=>?_⟩
    obtain ⟨c,hc,rfl⟩:=List.mem_map.1 ha
    obtain rfl:=List.mem_singleton.1 hb
    exact hno c hc
   ·show d.id<s.nx+1
    rcases List.mem_append.1 hd with hd | hd
    ·have:=lt d hd;omega
    ·rw [List.mem_singleton.1 hd];show s.nx<s.nx+1;omega
   ·rcases List.mem_append.1 hd with hd | hd
    ·rw [lN,if_neg (Ne.symm (hno d hd)),Nat.add_zero];exact rf d hd
    ·rw [List.mem_singleton.1 hd]
     show (1:Int)=((M++[p]).count p:Nat)/\0<(M++[p]).count p
     rw [lN,if_pos rfl,hc0];exact ⟨rfl,by decide⟩
   ·rcases List.mem_append.1 hq with hq | hq
    ·obtain ⟨c,hc,e⟩:=ex q hq
     exact ⟨c,List.mem_append.2 (.inl hc),e⟩
    ·exact ⟨_,List.mem_append.2 (.inr (List.mem_singleton.2 rfl)),(List.mem_singleton.1 hq).symm⟩
   ·rcases List.mem_append.1 hd with hd | hd
    ·obtain ⟨j,q1,q2,q3,q4⟩:=bl d hd
     exact ⟨j,q1,q2,q3,by show (s.U j||_)=true;rw [q4];rfl⟩
    ·rw [List.mem_singleton.1 hd]
     exact ⟨k,rfl,k1,k2,by show (s.U k||decide (k=k))=true;simp⟩
   ·show ((s.L++[_]).map Ch.block).Nodup
    rw [List.map_append,List.nodup_append]
    refine ⟨bn,by simp,fun a ha b hb=>?_⟩
    obtain ⟨c,hc,rfl⟩:=List.mem_map.1 ha
    obtain rfl:=List.mem_singleton.1 hb
    obtain ⟨j,q1,_,_,q4⟩:=bl c hc
    intro e
    have e:c.block=(k:Int):=e
    have:j=k:=by omega
    rw [this,k3] at q4;cases q4
end Go.Proofs.YtboobbebilegnaaGreat
namespace Go.Proofs.YtboobbebilegnaaGreat
open Go.Am
set_option maxRecDepth 10000
theorem jl (M:List (List Nat)) (p q:List Nat):(M.erase p).count q=M.count q - if p=q then 1 else 0:=by
 rw [List.count_erase]
 by_cases h:p=q
 ·subst h;simp
 ·simp [h]
theorem Wv {s:PS} {M:List (List Nat)} (hi:lG s M) {c:Ch} (hc:c∈s.L) :
  (gL s c.id).1=0/\lG (gL s c.id).2 (M.erase c.data)/\(gL s c.id).2.nx=s.nx/\∀ d,d∈s.L->d.data∈M.erase c.data->∃ d',d'∈(gL s c.id).2.L/\d'.id=d.id/\d'.data=d.data:=by
 obtain ⟨nd,dn,lt,rf,ex,bl,bn⟩:=hi
 have hg:=gH nd hc
 obtain ⟨hr,hp⟩:=rf c hc
 have same:∀ d,d∈s.L->d.id=c.id->d=c:=fun d hd e=>by
  have h1:=gH nd hd
  rw [e,hg] at h1
  exact (Option.some.inj h1).symm
 by_cases h1:1<c.refs
 ·have ho:gL s c.id=(0,{s with L:=dU {c with refs:=c.refs - 1 } s.L }):=by unfold gL;rw [hg];simp only [if_pos h1]
  rw [ho]
  have mem:=sC (c0:=c) {c with refs:=c.refs - 1 } nd hg
  have keep:∀ d,d∈s.L->∃ d',d'∈dU {c with refs:=c.refs - 1 } s.L/\d'.id=d.id/\d'.data=d.data:=fun d hd=>by
   by_cases e:d.id=c.id
   ·exact ⟨{c with refs:=c.refs - 1 },(mem _).2 (.inl rfl),e.symm,by rw [same d hd e]⟩
   ·exact ⟨d,(mem _).2 (.inr ⟨hd,e⟩),rfl,rfl⟩
  refine ⟨rfl,⟨?_,?_,fun d hd=>?_,fun d hd=>?_,fun q hq=>?_,fun d hd=>?_,?_⟩,rfl,fun d hd _=>keep d hd⟩
  ·show ((dU _ s.L).map Ch.id).Nodup
   rw [io Ch.id {c with refs:=c.refs - 1 } hg rfl];exact nd
  ·show ((dU _ s.L).map Ch.data).Nodup
   rw [io Ch.data {c with refs:=c.refs - 1 } hg rfl];exact dn
  ·rcases (mem d).1 hd with rfl|⟨hd,_⟩
   ·exact lt c hc
   ·exact lt d hd
  ·rcases (mem d).1 hd with rfl|⟨hd,hne'⟩
   ·show c.refs - 1=((M.erase c.data).count c.data:Nat)/\0<(M.erase c.data).count c.data
    rw [jl,if_pos rfl]
    exact ⟨by omega,by omega⟩
   ·have:=wk nd dn hc hd hne'
    rw [jl,if_neg (Ne.symm this),Nat.sub_zero]
    exact rf d hd
  ·obtain ⟨d,hd,e⟩:=ex q (List.mem_of_mem_erase hq)
   obtain ⟨d',h1,_,h3⟩:=keep d hd
   exact ⟨d',h1,h3.trans e⟩
  ·rcases (mem d).1 hd with rfl|⟨hd,_⟩
   ·exact bl c hc
   ·exact bl d hd
  ·show ((dU _ s.L).map Ch.block).Nodup
   rw [io Ch.block {c with refs:=c.refs - 1 } hg rfl];exact bn
 ·have ho:gL s c.id=(0,{s with L:=kJ c.id s.L }):=by unfold gL;rw [hg];simp only [if_neg h1]
  rw [ho]
  have h1':M.count c.data=1:=by omega
  have hsub:=nw c.id s.L
  have mem:=rh (id:=c.id) nd
  have he0:(M.erase c.data).count c.data=0:=by rw [jl,if_pos rfl];omega
  have keep:∀ d,d∈s.L->d.data∈M.erase c.data->d∈kJ c.id s.L:=fun d hd hm=>by
   refine (mem d).2 ⟨hd,fun e=>?_⟩
   rw [same d hd e] at hm
   exact (List.count_eq_zero.1 he0) hm
  refine ⟨rfl,⟨(hsub.map _).nodup nd,(hsub.map _).nodup dn,fun d hd=>lt d ((mem d).1 hd).1,fun d hd=>?_,fun q hq=>?_,fun d hd=>bl d ((mem d).1 hd).1,(hsub.map _).nodup bn⟩,rfl,fun d hd hm=>⟨d,keep d hd hm,rfl,rfl⟩⟩
  ·obtain ⟨hd,hne'⟩:=(mem d).1 hd
   have:=wk nd dn hc hd hne'
   rw [jl,if_neg (Ne.symm this),Nat.sub_zero]
   exact rf d hd
  ·obtain ⟨d,hd,e⟩:=ex q (List.mem_of_mem_erase hq)
   exact ⟨d,keep d hd (by rw [e];exact hq),e⟩
def eW (L:List Ch):List (List Nat)->List Int->Prop
 | [],[]=>True
 | p::ps,i::is=>(∃ c,c∈L/\c.data=p/\c.id=i)/\eW L ps is
 | _,_=>False
theorem eW.mono {L L':List Ch}:∀ {ps:List (List Nat)} {is:List Int},(∀ p,p∈ps->∀ c,c∈L->c.data=p->∃ c',c'∈L'/\c'.id=c.id/\c'.data=c.data)->eW L ps is->eW L' ps is
 | [],[],_,_=>trivial
 | p::ps,i::is,h,⟨⟨c,h1,h2,h3⟩,h4⟩=>by
  obtain ⟨c',q1,q2,q3⟩:=h p (List.mem_cons_self ..) c h1 h2
  exact ⟨⟨c',q1,q3.trans h2,q2.trans h3⟩,eW.mono (fun p' hp'=>h p' (List.mem_cons_of_mem _ hp')) h4⟩
 | [],_::_,_,h=>h.elim
 | _::_,[],_,h=>h.elim
theorem sA:∀ (ps:List (List Nat)) {s:PS} {M:List (List Nat)} (ids:List Int),lG s M->M.length+ps.length<65535->s.nx+ps.length<4294967295 ->
  (cz ps s ids).1=7∨(cz ps s ids).1=0/\∃ is,(cz ps s ids).2.1=ids++is/\lG (cz ps s ids).2.2 (M++ps)/\eW (cz ps s ids).2.2.L ps is/\(cz ps s ids).2.2.nx<=s.nx+ps.length/\∀ c,c∈s.L->∃ c',c'∈(cz ps s ids).2.2.L/\c'.id=c.id/\c'.data=c.data
 | [],s,M,ids,hi,_,_=>.inr ⟨rfl,[],by simp [cz],by simpa [cz] using hi,trivial,by simp [cz],fun c hc=>⟨c,hc,rfl,rfl⟩⟩
 | p::ps,s,M,ids,hi,hM,hn=>by
  rw [List.length_cons] at hM hn
  rcases I1 hi (by omega) (by omega) p with ⟨h7,_⟩|⟨h0,hi1,⟨c,c1,c2,c3⟩,hx,hk⟩
  ·left
   unfold cz
   rw [if_neg (by omega)];exact h7
  ·have e:cz (p::ps) s ids=cz ps (cW s p).2.2 (ids++[(cW s p).1]):=by
    conv=>lhs;unfold cz
    rw [if_pos h0]
   rw [e]
   rcases sA ps (ids++[(cW s p).1]) hi1 (by rw [List.length_append,List.length_singleton];omega) (by omega) with h|⟨q0,is,q1,q2,q3,q4,q5⟩
   ·exact .inl h
   ·refine .inr ⟨q0,(cW s p).1::is,by rw [q1,List.append_assoc];rfl,by rw [List.append_assoc] at q2;exact q2,⟨?_,q3⟩,by rw [List.length_cons];omega,fun d hd=>?_⟩
    ·obtain ⟨c',r1,r2,r3⟩:=q5 c c1
     exact ⟨c',r1,r3.trans c2,r2.trans c3⟩
    ·obtain ⟨d1,r1,r2,r3⟩:=hk d hd
     obtain ⟨d2,t1,t2,t3⟩:=q5 d1 r1
     exact ⟨d2,t1,t2.trans r2,t3.trans r3⟩
end Go.Proofs.YtboobbebilegnaaGreat
namespace Go.Proofs.YtboobbebilegnaaGreat
open Go.Am
set_option maxRecDepth 10000
def rmA:List (List Nat)->List (List Nat)->List (List Nat)
 | [],M=>M
 | p::ps,M=>rmA ps (M.erase p)
theorem lY:∀ (ps M:List (List Nat)) (q:List Nat),(rmA ps M).count q=M.count q - ps.count q
 | [],M,q=>by simp [rmA]
 | p::ps,M,q=>by
  show (rmA ps (M.erase p)).count q=_
  rw [lY ps,jl,List.count_cons]
  by_cases h:p=q
  ·subst h;simp;omega
  ·simp [h]
theorem zH:∀ (ps:List (List Nat)) {ids:List Int} {s:PS} {M:List (List Nat)},lG s M->eW s.L ps ids->(∀ q,ps.count q<=M.count q) ->
  (fR ids s).1=0/\lG (fR ids s).2 (rmA ps M)/\(fR ids s).2.nx=s.nx/\∀ d,d∈s.L->d.data∈rmA ps M->∃ d',d'∈(fR ids s).2.L/\d'.id=d.id/\d'.data=d.data
 | [],[],s,M,hi,_,_=>⟨rfl,hi,rfl,fun d hd _=>⟨d,hd,rfl,rfl⟩⟩
 | [],_::_,_,_,_,h,_=>h.elim
 | _::_,[],_,_,_,h,_=>h.elim
 | p::ps,i::is,s,M,hi,⟨⟨c,hc,hp,hid⟩,hI⟩,hle=>by
  subst hp;subst hid
  obtain ⟨h0,hi1,hx,hk⟩:=Wv hi hc
  have hle':∀ q,ps.count q<=(M.erase c.data).count q:=fun q=>by
   have:=hle q
   rw [List.count_cons] at this
   rw [jl]
   by_cases h:c.data=q
   ·subst h;simp at this ⊢;omega
   ·simp [h] at this ⊢;omega
  have hI':eW (gL s c.id).2.L ps is:=eW.mono (fun p' hp' d hd e=>hk d hd (by
   have h1:=hle' p'
   have h2:=List.count_pos_iff.2 hp'
   rw [e]
   exact List.count_pos_iff.1 (by omega))) hI
  obtain ⟨q1,q2,q3,q4⟩:=zH ps hi1 hI' hle'
  have e:fR (c.id::is) s=fR is (gL s c.id).2:=by
   conv=>lhs;unfold fR
   rw [if_pos h0]
  rw [e]
  refine ⟨q1,q2,q3.trans hx,fun d hd hm=>?_⟩
  have hm1:d.data∈M.erase c.data:=by
   have h2:=List.count_pos_iff.2 hm
   rw [show rmA (c.data::ps) M=rmA ps (M.erase c.data) from rfl,lY] at h2
   exact List.count_pos_iff.1 (by omega)
  obtain ⟨d1,r1,r2,r3⟩:=hk d hd hm1
  obtain ⟨d2,t1,t2,t3⟩:=q4 d1 r1 (by rw [r3];exact hm)
  exact ⟨d2,t1,t2.trans r2,t3.trans r3⟩
theorem eW.uniq {L:List Ch} (dn:(L.map Ch.data).Nodup):∀ {ps:List (List Nat)} {a b:List Int},eW L ps a->eW L ps b->a=b
 | [],[],[],_,_=>rfl
 | [],_::_,_,h,_=>h.elim
 | [],[],_::_,_,h=>h.elim
 | _::_,[],_,h,_=>h.elim
 | _::_,_::_,[],_,h=>h.elim
 | p::ps,i::a,j::b,⟨⟨c,c1,c2,c3⟩,h1⟩,⟨⟨d,d1,d2,d3⟩,h2⟩=>by
  have e1:=rD dn c1
  have e2:=rD dn d1
  rw [c2] at e1
  rw [d2,e1] at e2
  rw [← c3,← d3,Option.some.inj e2,eW.uniq dn h1 h2]
theorem uP:∀ (ps:List (List Nat)) {s:PS} {M:List (List Nat)} (ids:List Int),lG s M->M.length+ps.length<65535->s.nx+ps.length<4294967295->(∀ p,p∈ps->∃ c,c∈s.L/\c.data=p)->(cz ps s ids).1=0
 | [],_,_,_,_,_,_,_=>rfl
 | p::ps,s,M,ids,hi,hM,hn,hp=>by
  rw [List.length_cons] at hM hn
  rcases I1 hi (by omega) (by omega) p with ⟨_,h7⟩|⟨h0,hi1,_,hx,hk⟩
  ·obtain ⟨c,hc,e⟩:=hp p (List.mem_cons_self ..)
   exact absurd e (ny h7 c hc)
  ·unfold cz
   rw [if_pos h0]
   refine uP ps _ hi1 (by rw [List.length_append,List.length_singleton];omega) (by omega) fun q hq=>?_
   obtain ⟨c,hc,e⟩:=hp q (List.mem_cons_of_mem _ hq)
   obtain ⟨c',r1,_,r3⟩:=hk c hc
   exact ⟨c',r1,r3.trans e⟩
theorem Ja (x:List Nat):∀ {D:List (List Nat)},D.Nodup->x∈D->(D.map fun d=>if x=d then 1 else 0).sum=1
 | [],_,h=>by cases h
 | d::D,hn,h=>by
  rw [List.nodup_cons] at hn
  rw [List.map_cons,List.sum_cons]
  by_cases e:x=d
  ·subst e
   have:(D.map fun d=>if x=d then 1 else 0).sum=0:=by
    rw [show (D.map fun d=>if x=d then 1 else 0)=D.map fun _=>0 from List.map_congr_left fun d hd=>if_neg (fun e:x=d=>hn.1 (by rw [e];exact hd))]
    clear hn h
    induction D with
    | nil=>rfl
    | cons _ _ ih=>simp [ih]
   rw [if_pos rfl,this]
  ·rw [if_neg e,Ja x hn.2 ((List.mem_cons.1 h).resolve_left e)]
theorem uZ {D:List (List Nat)} (hn:D.Nodup):∀ (M:List (List Nat)),(∀ x,x∈M->x∈D)->(D.map fun d=>M.count d).sum=M.length
 | [],_=>by
  clear hn
  induction D with
  | nil=>rfl
  | cons _ _ ih=>simpa using ih
 | x::M,h=>by
  have ih:=uZ hn M fun y hy=>h y (List.mem_cons_of_mem _ hy)
  have h1:=Ja x hn (h x (List.mem_cons_self ..))
  have:∀ (E:List (List Nat)),(E.map fun d=>(x::M).count d).sum=(E.map fun d=>M.count d).sum+(E.map fun d=>if x=d then 1 else 0).sum:=by
   intro E
   induction E with
   | nil=>rfl
   | cons d E ih =>
    rw [List.map_cons,List.map_cons,List.map_cons,List.sum_cons,List.sum_cons,List.sum_cons,ih,List.count_cons]
    by_cases e:x=d
    ·simp [e];omega
    ·simp [e];omega
  rw [this,ih,h1,List.length_cons]
end Go.Proofs.YtboobbebilegnaaGreat
namespace Go.Proofs.YtboobbebilegnaaGreat
open Go.Am
set_option maxRecDepth 10000
theorem BS:∀ (n:Nat) (L:List Ch),L.length=n->(L.map Ch.id).Nodup->(L.map Ch.data).Nodup->∃ R,j8 L R
 | 0,L,h,_,_=>by rw [List.eq_nil_of_length_eq_zero h];exact ⟨[],j8.nil⟩
 | n+1,L,h,h1,h2=>by
  rcases List.eq_nil_or_concat L with rfl|⟨L',x,rfl⟩
  ·cases h
  ·rw [List.concat_eq_append] at h h1 h2 ⊢
   rw [List.map_append,List.nodup_append] at h1 h2
   rw [List.length_append,List.length_singleton] at h
   obtain ⟨R,hR⟩:=BS n L' (by omega) h1.1 h2.1
   exact ⟨_,hR.add (zaG fun c hc=>h1.2.2 c.id (List.mem_map_of_mem hc) x.id (List.mem_singleton.2 rfl)) (zaE fun c hc=>h2.2.2 c.data (List.mem_map_of_mem hc) x.data (List.mem_singleton.2 rfl))⟩
theorem lG.rel {s:PS} {M:List (List Nat)} (hi:lG s M) {R:List Ch} (hr:j8 s.L R):lG ⟨R,s.nx,s.U⟩ M :=
 ⟨hr.ndR,hr.ddR,fun c hc=>hi.lt c ((hr.mem c).1 hc),fun c hc=>hi.rf c ((hr.mem c).1 hc),fun p hp=>by
  obtain ⟨c,hc,e⟩:=hi.ex p hp
  exact ⟨c,(hr.mem c).2 hc,e⟩,fun c hc=>hi.bl c ((hr.mem c).1 hc),(hr.perm.map Ch.block).nodup_iff.2 hi.bn⟩
theorem lG.wr {s:PS} {M:List (List Nat)} (hi:lG s M) (hM:∀ p,p∈M->p.length<=64/\kr p):Jp s.L:=fun c hc=>by
 obtain ⟨j,q1,q2,q3,_⟩:=hi.bl c hc
 have:=hM c.data (List.count_pos_iff.1 (hi.rf c hc).2)
 exact ⟨by omega,by omega,this⟩
theorem yE {U:Nat->Bool} {j:Nat} (h1:128<=j) (hu:U j=false):∀ n,iX (fun i=>U i||decide (i=j)) n+(if j<n then 1 else 0)=iX U n
 | 0=>rfl
 | n+1=>by
  have ih:=yE h1 hu n
  rw [jj,jj]
  by_cases e:n=j
  ·subst e
   have hu':¬(128<=n/\(U n||decide (n=n))=false):=by simp
   rw [if_neg (Nat.lt_irrefl n)] at ih
   rw [if_neg hu',if_pos (show n<n+1 from Nat.lt_succ_self n),if_pos (show 128<=n/\U n=false from ⟨h1,hu⟩)]
   omega
  ·have hd:(U n||decide (n=j))=U n:=by simp [e]
   rw [hd]
   have:(j<n+1)=(j<n):=propext ⟨fun h=>by omega,fun h=>by omega⟩
   simp only [this]
   omega
theorem rK:∀ (n:Nat) (L:List Ch),L.length=n->(L.map Ch.block).Nodup->(∀ c,c∈L->∃ j:Nat,c.block=(j:Int)/\128<=j/\j<256)->iX (fA L) 256+L.length=128
 | 0,L,h,_,_=>by rw [List.eq_nil_of_length_eq_zero h];decide +kernel
 | n+1,L,h,h1,h2=>by
  rcases List.eq_nil_or_concat L with rfl|⟨L',x,rfl⟩
  ·cases h
  ·rw [List.concat_eq_append] at h h1 h2 ⊢
   rw [List.map_append,List.nodup_append] at h1
   rw [List.length_append,List.length_singleton] at h ⊢
   have ih:=rK n L' (by omega) h1.1 fun c hc=>h2 c (List.mem_append.2 (.inl hc))
   obtain ⟨j,q1,q2,q3⟩:=h2 x (List.mem_append.2 (.inr (List.mem_singleton.2 rfl)))
   have hu:fA L' j=false:=by
    unfold fA
    rw [List.any_eq_false]
    intro c hc
    have:=h1.2.2 c.block (List.mem_map_of_mem hc) x.block (List.mem_singleton.2 rfl)
    rw [q1] at this
    simpa using this
   have:=yE q2 hu 256
   rw [if_pos q3] at this
   rw [Cl q1]
   omega
end Go.Proofs.YtboobbebilegnaaGreat
namespace Go.Proofs.YtboobbebilegnaaGreat
open Go.Am
set_option maxRecDepth 10000
section
variable {h h':ac} {pb lb db sb tb0 sp0 wb0 qb tb sp wb:Nat} {s0 s:PS} {F0 F G:Nat->Prop} {a:Nat} {v:AV} {K:List Kp}
theorem zaJ {n:Nat} (hn:12<=n) (hq:Pq h qb pb tb sp wb s F) (hr:iW h pb lb db sb tb0 sp0 wb0 s0 F0 a) (hk:fQ h v K G) (hd:∀ b,QX qb sp wb F b->¬RX pb lb db sb sp0 wb0 F0 b/\¬G b) (hlen:s.L.length<=900) {data:List Nat} (hdl:data.length<=1000) (hdb:∀ c,c∈data->c<256) :
  WC (C n (.fn 18) [.ptr (some (qb,0)),.str data] h) fun r h'=>iW h' pb lb db sb tb0 sp0 wb0 s0 F0 a/\fQ h' v K G/\Sm (fun b=>F b∨b=wb∨b=qb) h h' /\
   ((cz (dp data) s []).1=0/\(∃ iv F',r=.tuple [iv,.int .i64 0]/\mg h' iv (cz (dp data) s []).2.1.length 1 ((cz (dp data) s []).2.1.map u)/\iv.one=true/\Pq h' qb pb tb sp wb (cz (dp data) s []).2.2 F'/\(∀ b,ky iv b->h.next<=b/\¬QX qb sp wb F' b)/\(∀ b,QX qb sp wb F' b->¬RX pb lb db sb sp0 wb0 F0 b/\¬G b)/\∀ b,F' b->F b∨h.next<=b) ∨
    (cz (dp data) s []).1≠0/\r=.tuple [.slice none 0 0 none,.int .i64 (cz (dp data) s []).1]):=by
 have hlt:=hr.lt
 have lq:=hq.q.lt
 have ls:=hq.s.lt
 obtain ⟨r,h',e,sm,hc⟩:=zcb hn hq hlen hdl hdb
 have toQ:∀ b,(F b∨b=wb∨b=qb)->QX qb sp wb F b:=fun b hb=>by
  rcases hb with hb | hb | hb
  ·exact .inr (.inr (.inr hb))
  ·exact .inr (.inr (.inl hb))
  ·exact .inl hb
 refine ⟨r,h',e,hr.sm sm (fun b hb hh=>(hd b (toQ b hh)).1 hb),hk.sm sm (fun b hb hh=>(hd b (toQ b hh)).2 hb),sm,?_⟩
 rcases hc with ⟨h0,iv,bs,F',rfl,o,q,hb,hF⟩|⟨h0,rfl⟩
 ·refine .inl ⟨h0,iv,F',rfl,o.els,nW o,q,fun b hbl=>?_,fun b hb=>?_,hF⟩
  ·obtain ⟨g1,g2⟩:=hb b (WJ o hbl)
   refine ⟨g1,fun hx=>?_⟩
   rcases hx with rfl | rfl | rfl | hx
   ·omega
   ·omega
   ·omega
   ·exact g2 hx
  ·have key:QX qb sp wb F b∨h.next<=b:=by
    rcases hb with hb | hb | hb | hb
    ·exact .inl (.inl hb)
    ·exact .inl (.inr (.inl hb))
    ·exact .inl (.inr (.inr (.inl hb)))
    ·exact (hF b hb).imp_left fun h=>.inr (.inr (.inr h))
   rcases key with hb | hb
   ·exact hd b hb
   ·exact ⟨fun hx=>by have:=hlt b hx;omega,fun hx=>by have:=hk.lt b hx;omega⟩
 ·exact .inr ⟨h0,rfl⟩
theorem zfh {n:Nat} (hn:10<=n) (hq:Pq h qb pb tb sp wb s F) (hr:iW h pb lb db sb tb0 sp0 wb0 s0 F0 a) (hk:fQ h v K G) (hd:∀ b,QX qb sp wb F b->¬RX pb lb db sb sp0 wb0 F0 b/\¬G b) {k:Kp} (hkm:k∈K) (hl:k.ids.length<=1000) (h0:(fR k.ids s).1=0) :
  WC (C n (.fn 35) [.ptr (some (qb,0)),k.v] h) fun r h'=>r=.int .i64 0/\iW h' pb lb db sb tb0 sp0 wb0 s0 F0 a/\fQ h' v K G/\Sm (fun b=>F b∨b=qb) h h'/\∃ F',Pq h' qb pb tb sp wb (fR k.ids s).2 F'/\(∀ b,QX qb sp wb F' b->¬RX pb lb db sb sp0 wb0 F0 b/\¬G b)/\∀ b,F' b->F b:=by
 obtain ⟨i1,_,i3⟩:=hk.i k hkm
 obtain ⟨r,h',e,er,sm,hc⟩:=BU hn hq i1 (fun b hb hF=>(hd b (.inr (.inr (.inr hF)))).2 (i3 b hb)) hl
 rw [h0] at er
 obtain ⟨F',q,hF⟩:=hc h0
 have toQ:∀ b,(F b∨b=qb)->QX qb sp wb F b:=fun b hb=>hb.elim (fun hb=>.inr (.inr (.inr hb))) .inl
 refine ⟨r,h',e,er,hr.sm sm (fun b hb hh=>(hd b (toQ b hh)).1 hb),hk.sm sm (fun b hb hh=>(hd b (toQ b hh)).2 hb),sm,F',q,fun b hb=>hd b ?_,hF⟩
 rcases hb with hb | hb | hb | hb
 ·exact .inl hb
 ·exact .inr (.inl hb)
 ·exact .inr (.inr (.inl hb))
 ·exact .inr (.inr (.inr (hF b hb)))
end
end Go.Proofs.YtboobbebilegnaaGreat
namespace Go.Proofs.YtboobbebilegnaaGreat
open Go.Am
set_option maxRecDepth 10000
theorem lG.cnt {s:PS} {M M':List (List Nat)} (hi:lG s M) (h:∀ q,M'.count q=M.count q):lG s M' :=
 ⟨hi.nd,hi.dn,hi.lt,fun c hc=>by rw [h];exact hi.rf c hc,fun p hp=>hi.ex p (by
  have:=List.count_pos_iff.2 hp
  rw [h] at this
  exact List.count_pos_iff.1 this),hi.bl,hi.bn⟩
def KI (K:List Kp):List (List Nat):=K.flatMap fun k=>dp k.d
structure mY (s:PS) (K:List Kp):Prop where
 i:lG s (KI K)
 ids:∀ k,k∈K->eW s.L (dp k.d) k.ids
theorem SL {K:List Kp} {k:Kp} (h:k∈K) {p:List Nat} (hp:p∈dp k.d):p∈KI K:=List.mem_flatMap.2 ⟨k,h,hp⟩
theorem y0 {s:PS} {K:List Kp} (hh:mY s K) {d:List Nat} {iv:AV} (h1:(KI K).length+(dp d).length<65535) (h2:s.nx+(dp d).length<4294967295) :
  (cz (dp d) s []).1=7∨(cz (dp d) s []).1=0/\mY (cz (dp d) s []).2.2 (K++[⟨d,(cz (dp d) s []).2.1,iv⟩])/\(cz (dp d) s []).2.2.nx<=s.nx+(dp d).length:=by
 rcases sA (dp d) [] hh.i h1 h2 with h|⟨h0,is,q1,q2,q3,q4,q5⟩
 ·exact .inl h
 ·refine .inr ⟨h0,⟨?_,fun k hk=>?_⟩,q4⟩
  ·unfold KI
   rw [List.flatMap_append]
   simp only [List.flatMap_cons,List.flatMap_nil,List.append_nil]
   exact q2
  ·rcases List.mem_append.1 hk with hk | hk
   ·exact eW.mono (fun p _ c hc _=>q5 c hc) (hh.ids k hk)
   ·rw [List.mem_singleton.1 hk]
    show eW _ (dp d) (cz (dp d) s []).2.1
    rw [q1,List.nil_append];exact q3
theorem JR {s:PS} {K:List Kp} (hh:mY s K) {j:Nat} (hj:j<K.length) :
  (fR K[j].ids s).1=0/\mY (fR K[j].ids s).2 (K.take j++K.drop (j+1))/\(fR K[j].ids s).2.nx=s.nx:=by
 have hm:=List.getElem_mem hj
 have hK:K=K.take j++(K[j]::K.drop (j+1)):=by rw [← List.drop_eq_getElem_cons hj,List.take_append_drop]
 have hcount:∀ q,(KI K).count q=(KI (K.take j++K.drop (j+1))).count q+(dp K[j].d).count q:=fun q=>by
  conv=>lhs;rw [hK]
  unfold KI
  rw [List.flatMap_append,List.flatMap_append,List.flatMap_cons,List.count_append,List.count_append,List.count_append]
  omega
 obtain ⟨q1,q2,q3,q4⟩:=zH (dp K[j].d) hh.i (hh.ids _ hm) (fun q=>by rw [hcount q];omega)
 have hi:=q2.cnt (M':=KI (K.take j++K.drop (j+1))) fun q=>by rw [lY,hcount q];omega
 refine ⟨q1,⟨hi,fun k hk=>?_⟩,q3⟩
 have hkK:k∈K:=by
  rcases List.mem_append.1 hk with h | h
  ·exact List.mem_of_mem_take h
  ·exact List.mem_of_mem_drop h
 refine eW.mono (fun p hp c hc e=>q4 c hc ?_) (hh.ids k hkK)
 have h1:=List.count_pos_iff.2 (SL hk hp)
 refine List.count_pos_iff.1 ?_
 rw [lY,hcount,e]
 omega
theorem Bv {s:PS} {K:List Kp} (hh:mY s K) {k:Kp} (hk:k∈K) (h1:(KI K).length+(dp k.d).length<65535) (h2:s.nx+(dp k.d).length<4294967295) :
  (cz (dp k.d) s []).1=0/\(cz (dp k.d) s []).2.1=k.ids:=by
 have h0:=uP (dp k.d) [] hh.i h1 h2 fun p hp=>hh.i.ex p (SL hk hp)
 refine ⟨h0,?_⟩
 rcases sA (dp k.d) [] hh.i h1 h2 with h|⟨_,is,q1,q2,q3,_,q5⟩
 ·omega
 ·rw [q1,List.nil_append]
  exact eW.uniq q2.dn q3 (eW.mono (fun p _ c hc _=>q5 c hc) (hh.ids k hk))
end Go.Proofs.YtboobbebilegnaaGreat
namespace Go.Proofs.YtboobbebilegnaaGreat
open Go.Am
set_option maxRecDepth 10000
theorem z8 {M:List (List Nat)}:∀ (L:List Ch),(∀ c,c∈L->c.refs=(M.count c.data:Int))->(L.map Ch.refs).sum=(((L.map Ch.data).map fun d=>M.count d).sum:Nat)
 | [],_=>rfl
 | c::L,h=>by
  rw [List.map_cons,List.sum_cons,List.map_cons,List.map_cons,List.sum_cons,z8 L fun d hd=>h d (List.mem_cons_of_mem _ hd),h c (List.mem_cons_self ..)]
  omega
theorem Sq {s:PS} {M:List (List Nat)} (hi:lG s M):(s.L.map Ch.refs).sum=(M.length:Int):=by
 rw [z8 s.L fun c hc=>(hi.rf c hc).1,uZ hi.dn M fun x hx=>?_]
 obtain ⟨c,hc,rfl⟩:=hi.ex x hx
 exact List.mem_map_of_mem hc
theorem Av:∀ K:List Kp,(KI K).length=(K.map fun k=>(k.d.length+63) / 64).sum
 | []=>rfl
 | k::K=>by
  have:=Av K
  unfold KI at this ⊢
  rw [List.flatMap_cons,List.length_append,this,List.map_cons,List.sum_cons,nX _ _ (Nat.le_refl _)]
def g9 (all:List (List Nat)) (p:List Nat):List (List Nat):=if p∈all then all else all++[p]
theorem Ue {all:List (List Nat)} (h:all.Nodup) (p:List Nat):(g9 all p).Nodup/\∀ q,q∈g9 all p↔q∈all∨q=p:=by
 unfold g9
 split
 ·rename_i hp
  exact ⟨h,fun q=>⟨.inl,fun hq=>hq.elim id fun e=>e▸hp⟩⟩
 ·rename_i hp
  refine ⟨List.nodup_append.2 ⟨h,by simp,fun a ha b hb=>?_⟩,fun q=>by simp⟩
  rw [List.mem_singleton.1 hb]
  intro e;exact hp (e▸ha)
theorem zaF:∀ (M all:List (List Nat)),all.Nodup->(M.foldl g9 all).Nodup/\∀ q,q∈M.foldl g9 all↔q∈all∨q∈M
 | [],all,h=>⟨h,fun q=>by simp⟩
 | p::M,all,h=>by
  obtain ⟨h1,h2⟩:=Ue h p
  obtain ⟨q1,q2⟩:=zaF M (g9 all p) h1
  refine ⟨q1,fun q=>?_⟩
  rw [List.foldl_cons,q2,h2,List.mem_cons,or_assoc]
theorem Bw {s:PS} {M:List (List Nat)} (hi:lG s M):s.L.length=(M.foldl g9 []).length:=by
 obtain ⟨h1,h2⟩:=zaF M [] List.nodup_nil
 have hp:(s.L.map Ch.data).Perm (M.foldl g9 []):=wT hi.dn h1 fun q=>by
  rw [h2]
  refine ⟨fun h=>.inr ?_,fun h=>?_⟩
  ·obtain ⟨c,hc,rfl⟩:=List.mem_map.1 h
   exact List.count_pos_iff.1 (hi.rf c hc).2
  ·obtain ⟨c,hc,rfl⟩:=hi.ex q (h.resolve_left (by simp))
   exact List.mem_map_of_mem hc
 have:=hp.length_eq
 rwa [List.length_map] at this
end Go.Proofs.YtboobbebilegnaaGreat
namespace Go.Proofs.YtboobbebilegnaaGreat
open Go.Am
set_option maxRecDepth 10000
theorem zcP {d:List Nat} {o:Nat} (h:o<d.length):dp (d.drop o)=(d.drop o).take 64::dp (d.drop (o+64)):=by
 have hl:(d.drop o).length=d.length - o:=List.length_drop
 by_cases h1:(d.drop o).length<=64
 ·rw [qE (by omega) h1,List.take_of_length_le h1,iC (by rw [List.length_drop];omega)]
 ·rw [nY (by omega),List.drop_drop]
theorem WM {d:List Nat} {o:Nat} (h:d.length<=o):dp (d.drop o)=[]:=iC (by rw [List.length_drop];omega)
theorem Ty {d:List Nat} {o:Nat} (h:o<d.length):(d.take (min (o+64) d.length)).drop o=(d.drop o).take 64:=by
 rw [List.drop_take]
 by_cases h1:o+64<=d.length
 ·rw [Nat.min_eq_left h1,Nat.add_sub_cancel_left]
 ·rw [Nat.min_eq_right (by omega),List.take_of_length_le (by rw [List.length_drop];exact Nat.le_refl _),List.take_of_length_le (by rw [List.length_drop];omega)]
theorem Cx {k k':IntKind} {l:List Nat} {lo hi:Nat} (h:lo<=hi) (h':hi<=l.length):aU P 9 true true false [.str l,.int k (lo:Int),.int k' (hi:Int)]=some (.str ((l.take hi).drop lo)):=by
 show bZ P 9 (.str l) (some (.int k (lo:Int))) (some (.int k' (hi:Int))) none=_
 unfold bZ;rw [u_9]
 show bF (bp l) (bp l) (some (.int k' (hi:Int))) (fun h=>bF 0 h (some (.int k (lo:Int))) fun x=>some (.str (gC (Nat.sub h x) (iI x l))))=_
 rw [cZ (by rw [aO];exact h'),cZ h,eG,fJ,List.drop_take];rfl
end Go.Proofs.YtboobbebilegnaaGreat
namespace Go.Proofs.YtboobbebilegnaaGreat
open Go.Am
set_option maxRecDepth 10000
structure Tn where
 pv:AV
 dv:AV
 put:List (List Nat)
 drop:List Int
 leave:Bool
def u8 (n:Int):AV:=.int .u8 n
structure Az (h:ac) (t:Tn):Prop where
 p:qO h t.pv t.put
 d:mX h t.dv t.drop.length 1 (t.drop.map u8)
 pb:∀ s,s∈t.put->∀ c,c∈s->c<256
 db:∀ n,n∈t.drop->0<=n/\n<=255
structure Tn.ok (t:Tn):Prop where
 p:t.put.length<=5
 d:t.drop.length<=5
 s:∀ s,s∈t.put->s.length<=256
def Tn.av (t:Tn):AV:=.agg [t.pv,t.dv,.bool t.leave]
structure KOk (K:List Kp):Prop where
 l:∀ k,k∈K->k.d.length<=256
 b:∀ k,k∈K->∀ c,c∈k.d->c<256
theorem CG:∀ {K:List Kp},KOk K->(KI K).length<=4*K.length
 | [],_=>Nat.le_refl _
 | k::K,h=>by
  have:=CG (K:=K) ⟨fun k' hk=>h.l k' (List.mem_cons_of_mem _ hk),fun k' hk=>h.b k' (List.mem_cons_of_mem _ hk)⟩
  have hl:=h.l k (List.mem_cons_self ..)
  rw [Av] at this ⊢
  rw [List.map_cons,List.sum_cons,List.length_cons]
  omega
theorem wD {L:List Ch}:∀ {ps:List (List Nat)} {is:List Int},eW L ps is->is.length=ps.length
 | [],[],_=>rfl
 | p::ps,i::is,⟨_,h⟩=>by rw [List.length_cons,List.length_cons,wD h]
 | [],_::_,h=>h.elim
 | _::_,[],h=>h.elim
theorem lG.len {s:PS} {M:List (List Nat)} (hi:lG s M):s.L.length<=128:=by
 have:=rK s.L.length s.L rfl hi.bn (fun c hc=>by obtain ⟨j,q1,q2,q3,_⟩:=hi.bl c hc;exact ⟨j,q1,q2,q3⟩)
 omega
theorem R1:∀ {K:List Kp} {i:Nat} (h:i<K.length),(K.flatMap cK)[i*2]?=some (.str K[i].d)/\(K.flatMap cK)[i*2+1]?=some K[i].v
 | k::K,0,_=>⟨rfl,rfl⟩
 | k::K,i+1,h=>by
  have:=R1 (K:=K) (i:=i) (by simpa using h)
  rw [show (i+1)*2=i*2+1+1 by omega]
  exact this
theorem fQ.at {h:ac} {a:Option (Nat×Nat)} {c:Nat} {g:Option Nat} {K:List Kp} {G:Nat->Prop} (hk:fQ h (.slice a K.length c g) K G) {i:Nat} (hi:i<K.length) :
  ∃ b o,a=some (b,o)/\h.ld1 b (o+i*2)=some (.str K[i].d)/\h.ld1 b (o+i*2+1)=some K[i].v:=by
 obtain ⟨b,o,rfl,hc⟩:=hk.e.cell (by omega)
 obtain ⟨q1,q2⟩:=R1 hi
 refine ⟨b,o,rfl,?_,?_⟩
 ·rw [hc _ (by omega),q1]
 ·rw [Nat.add_assoc,hc _ (by omega),q2]
theorem TG (x y:Nat):(x:Int).tmod (y:Int)=((x%y:Nat):Int):=rfl
theorem K4 (n:Int) (h:0<=n/\n<=255):eU P 5 3 (u8 n)=some (.int .i64 n):=by
 unfold u8
 rw [oi,wrap_i64 (by omega) (by omega)]
structure TB (h:ac) (pb lb db sb tb0 sp0 wb0:Nat) (s0:PS) (F0:Nat->Prop) (a:Nat) (qb tb sp wb:Nat) (s:PS) (F:Nat->Prop) (v:AV) (K:List Kp) (G:Nat->Prop) (v':AV) (K':List Kp) (G':Nat->Prop):Prop where
 r:iW h pb lb db sb tb0 sp0 wb0 s0 F0 a
 q:Pq h qb pb tb sp wb s F
 k:fQ h v K G
 k':fQ h v' K' G'
 h:mY s K'
 o:KOk K'
 d:∀ b,QX qb sp wb F b->¬RX pb lb db sb sp0 wb0 F0 b/\¬(G b∨G' b)
 g:∀ b,G b∨G' b->¬RX pb lb db sb sp0 wb0 F0 b
section
variable {h h':ac} {pb lb db sb tb0 sp0 wb0 qb tb sp wb:Nat} {s0 s:PS} {F0 F G G':Nat->Prop} {a:Nat} {v v':AV} {K K':List Kp}
theorem TB.no (hb:TB h pb lb db sb tb0 sp0 wb0 s0 F0 a qb tb sp wb s F v K G v' K' G') (hs:Sm bm h h'):TB h' pb lb db sb tb0 sp0 wb0 s0 F0 a qb tb sp wb s F v K G v' K' G' :=
 ⟨hb.r.sm hs (fun _ _ h=>h),hb.q.no hs,hb.k.sm hs (fun _ _ h=>h),hb.k'.sm hs (fun _ _ h=>h),hb.h,hb.o,hb.d,hb.g⟩
theorem TF {n:Nat} (hn:12<=n) (hb:TB h pb lb db sb tb0 sp0 wb0 s0 F0 a qb tb sp wb s F v K G v' K' G') (hK:K'.length<=200) (hnx:s.nx<=1000000) {data:List Nat} (hdl:data.length<=256) (hdb:∀ c,c∈data->c<256) :
  WC (C n (.fn 18) [.ptr (some (qb,0)),.str data] h) fun r h'=>Sm (fun b=>F b∨b=wb∨b=qb) h h'/\iW h' pb lb db sb tb0 sp0 wb0 s0 F0 a/\fQ h' v K G/\fQ h' v' K' G' /\
   ((∃ iv,r=.tuple [iv,.int .i64 7])∨∃ xa xn xc xg is s' F',r=.tuple [.slice xa xn xc xg,.int .i64 0]/\mg h' (.slice xa xn xc xg) is.length 1 (is.map u)/\s'.nx<=s.nx+4/\Pq h' qb pb tb sp wb s' F'/\mY s' (K'++[⟨data,is,.slice xa xn xc xg⟩]) /\
    (∀ b,ky (.slice xa xn xc xg) b->h.next<=b/\¬QX qb sp wb F' b)/\(∀ b,QX qb sp wb F' b->¬RX pb lb db sb sp0 wb0 F0 b/\¬(G b∨G' b))/\∀ b,F' b->F b∨h.next<=b):=by
 obtain ⟨br,bq,bk,bk',bh,bo,bd,bg⟩:=hb
 have hlen:=bh.i.len
 have hKI:=CG bo
 have hsp:=nX _ data (Nat.le_refl _)
 obtain ⟨r,h',e,r1,k1',sm,hc⟩:=zaJ hn bq br bk' (fun b hb=>⟨(bd b hb).1,fun hg=>(bd b hb).2 (.inr hg)⟩) (by omega) (data:=data) (by omega) hdb
 have toQ:∀ b,(F b∨b=wb∨b=qb)->QX qb sp wb F b:=fun b hb=>by
  rcases hb with hb | hb | hb
  ·exact .inr (.inr (.inr hb))
  ·exact .inr (.inr (.inl hb))
  ·exact .inl hb
 refine ⟨r,h',e,sm,r1,bk.sm sm (fun b hb hh=>(bd b (toQ b hh)).2 (.inl hb)),k1',?_⟩
 rcases y0 bh (d:=data) (iv:=.slice none 0 0 none) (by omega) (by omega) with h7|⟨h0,_,hx⟩
 ·rcases hc with ⟨h0,_⟩|⟨_,rfl⟩
  ·omega
  ·rw [h7];exact .inl ⟨_,rfl⟩
 ·rcases hc with ⟨_,iv,F',rfl,hi,h1,q,hbl,hdis,hF⟩|⟨h0',_⟩
  ·obtain ⟨_,xa,xc,xg,rfl,_⟩:=id hi
   rcases y0 bh (d:=data) (iv:=.slice xa (cz (dp data) s []).2.1.length xc xg) (by omega) (by omega) with h7|⟨_,hh,_⟩
   ·omega
   exact .inr ⟨xa,_,xc,xg,_,_,F',rfl,hi,by omega,q,hh,hbl,fun b hb=>by
    refine ⟨(hdis b hb).1,fun hg=>?_⟩
    rcases hg with hg | hg
    ·rcases hb with rfl | rfl | rfl | hb
     ·exact (bd _ (.inl rfl)).2 (.inl hg)
     ·exact (bd _ (.inr (.inl rfl))).2 (.inl hg)
     ·exact (bd _ (.inr (.inr (.inl rfl)))).2 (.inl hg)
     ·rcases hF b hb with hf | hf
      ·exact (bd b (.inr (.inr (.inr hf)))).2 (.inl hg)
      ·have:=bk.lt b hg;omega
    ·exact (hdis b hb).2 hg,hF⟩
  ·omega
end
end Go.Proofs.YtboobbebilegnaaGreat
namespace Go.Proofs.YtboobbebilegnaaGreat
open Go.Am
set_option maxRecDepth 10000
def TW (lb sb qb sp wb:Nat) (F:Nat->Prop) (b:Nat):Prop:=(b=lb∨b=sb)∨QX qb sp wb F b
section
variable {h h':ac} {pb lb db sb tb0 sp0 wb0 qb tb sp wb:Nat} {s0 s:PS} {F0 F G:Nat->Prop} {a:Nat} {v:AV} {K:List Kp}
theorem WT {n:Nat} (hn:13<=n) (hb0:TB h pb lb db sb tb0 sp0 wb0 s0 F0 a qb tb sp wb s F v K G v K G) (hK:K.length<=150) (hnx:s.nx<=900000) (ha:a<=10000) {hA:ac} {t:Tn} (ht:Az hA t) (hok:t.ok) (hs:Sm bm hA h) (hold:∀ b,TW lb sb qb sp wb F b->hA.next<=b) :
  WC (C n (.fn 13) [.ptr (some (qb,0)),v,t.av] h) fun r h'=>Sm (TW lb sb qb sp wb F) h h' /\
   ((∃ w,r=.tuple [w,.int .i64 7]/\iW h' pb lb db sb tb0 sp0 wb0 s0 F0 a/\fQ h' v K G) ∨
    ∃ w a' s' F' K' G',r=.tuple [w,.int .i64 0]/\a'<=a+129/\s'.nx<=s.nx+20/\K'.length<=K.length+5/\TB h' pb lb db sb tb0 sp0 wb0 s0 F0 a' qb tb sp wb s' F' v K G w K' G'/\(∀ b,F' b->F b∨h.next<=b)/\∀ b,G' b->G b∨h.next<=b):=by
 obtain ⟨ap,pd,ad⟩:=hok
 obtain ⟨a0,c0,g0,ep⟩:=ht.p.sl
 obtain ⟨_,a1,c1,g1,ed,_⟩:=id ht.d
 obtain ⟨z,c2,g2,ev⟩:=hb0.k.c
 have ltq:∀ b,QX qb sp wb F b->b<h.next:=fun b hb=>by
  rcases hb with rfl | rfl | rfl | hb
  ·exact hb0.q.q.lt
  ·exact hb0.q.s.lt.1
  ·exact hb0.q.s.lt.2
  ·exact hb0.q.t.flt b hb
 have ltl:lb<h.next/\sb<h.next:=by
  obtain ⟨D,hD⟩:=hb0.r.d
  exact ⟨hb0.r.l.lt,hD.lt.2⟩
 unfold Tn.av
 obtain ⟨m,rfl⟩:∃ m,n=m+1:=⟨n - 1,by omega⟩
 refine ak _ zgi rfl (by simp [UO]) fun QQ hQ=>?_
 simp only [UO] at hQ
 simp only [UO,ah,ai,Nat.zero_add,reduceAdd]
 obtain ⟨h1,e1,r1,n1,f1⟩:=Rw.alloc h (id:=h.next) (n:=3) (vs:=[t.pv,t.dv,.bool t.leave]) (z:=[]) (ro:=false) (Nat.le_refl _) rfl
 have s1:Sm bm h h1:=⟨by omega,fun c hc _=>f1 c (by omega)⟩
 have hb1:=hb0.no s1
 have o1:([t.pv,t.dv,AV.bool t.leave]:List AV).all AV.one=true:=by rw [ep,ed];rfl
 simp only [T0,SS,Nat.reduceBEq,reduceEqDiff,reduceAdd,reduceIte,reduceMul,jB o1,e1]
 refine aF (c:=M1) (I:=fun m' tm' h'=>∃ k s' K' v' G' F',k<=t.put.length/\m'=t.put.length - k/\TB h' pb lb db sb tb0 sp0 wb0 s0 F0 a qb tb sp wb s' F' v K G v' K' G'/\K'.length<=K.length+k/\s'.nx<=s.nx+4*(k:Int)/\(∀ b,F' b->F b∨h1.next<=b)/\(∀ b,G' b->G b∨h1.next<=b)/\Sm (QX qb sp wb F) h1 h'/\tm'.gt 0=some (.ptr (some (qb,0)))/\tm'.gt 1=some v'/\tm'.gt 5=some (.ptr (some (h.next,0)))/\tm'.gt 8=some (I k)/\tm'.gt 97=none) (n:=t.put.length)
  ⟨0,s,K,v,G,F,by omega,rfl,hb1,by omega,by omega,fun _ h=>.inl h,fun _ h=>.inl h,Sm.refl _ _,by simp only [SS,Nat.reduceBEq],by simp only [SS,Nat.reduceBEq],by simp only [SS,Nat.reduceBEq],by first | (simp only [SS,Nat.reduceBEq,reduceEqDiff,reduceAdd,reduceIte,reduceMul];done) | (simp only [SS,Nat.reduceBEq,reduceEqDiff,reduceAdd,reduceIte,reduceMul];rfl),by simp only [SS,Nat.reduceBEq]⟩ (by omega) ?_
 rintro _ tm h2 ⟨k,s',K',v',G',F',hk,rfl,hb2,hK',hnx',hF',hG',s2,t0,t1,t5,t8,t97⟩ Q1 hN1 hE1
 have n2:=s2.1
 have sA2:Sm bm hA h2:=(hs.trans s1 (H:=bm) (fun _ _ h=>h) (fun _ _ h=>h)).trans s2 (fun _ _ h=>h) (fun c hc hh=>by have:=hold c (.inr hh);omega)
 have r12:=r1.sm s2 (by omega) (fun hh=>by have:=ltq _ hh;omega)
 have q0:=r12.ld1 0
 have q1:=r12.ld1 1
 simp only [List.getElem?_cons_zero,List.getElem?_cons_succ] at q0 q1
 rw [ep] at q0
 by_cases hlt:k<t.put.length
 ·have hlt':(k:Int)<(t.put.length:Int):=by omega
  have hp2:qO h2 t.pv t.put:=lP ht.p sA2 (fun _ _ h=>h)
  rw [ep] at hp2
  obtain ⟨pbk,po,rfl,ldb⟩:=qO.at hp2 hlt
  have x2:=qG (k:=.i64) (b:=pbk) (o:=po) (c:=c0) (g:=g0) hlt
  have hmem:Bi t.put k∈t.put:=by unfold Bi;rw [List.getD_eq_getElem?_getD,List.getElem?_eq_getElem hlt];exact List.getElem_mem hlt
  obtain ⟨r3,h3,e3,s3,rs3,k3,k3',c3⟩:=TF (n:=m) (by omega) hb2 (by omega) (by omega) (data:=Bi t.put k) (ad _ hmem) (ht.pb _ hmem)
  have n3:=s3.1
  have s13:Sm (QX qb sp wb F) h1 h3:=s2.trans s3 (fun _ _ h=>h) (fun c hc hh=>by
   rcases hh with hh | hh | hh
   ·rcases hF' c hh with h | h
    ·exact .inr (.inr (.inr h))
    ·omega
   ·exact .inr (.inr (.inl hh))
   ·exact .inl hh)
  rcases c3 with ⟨iv,rfl⟩|⟨xa,xn,xc,xg,is,s3',F3,rfl,hi3,hnx3,q3,hh3,hbl3,hd3,hF3⟩
  ·simp only [T0,SS,Nat.reduceBEq,reduceEqDiff,reduceAdd,reduceIte,reduceMul,t0,t1,t5,t8,eT,q0,cS,hlt',x2,ldb,e3]
   refine hE1 _ _ _ (by simp) ?_
   simp only [SS,Nat.reduceBEq,reduceEqDiff,reduceAdd,reduceIte,reduceMul]
   refine hQ _ _ _ _ (.inr rfl) (by simp only [SS,Nat.reduceBEq,t97]) (by simp only [SS,Nat.reduceBEq,reduceEqDiff,reduceAdd,reduceIte,reduceMul];rfl) ⟨s1.trans s13 (fun _ _ h=>h.elim) (fun _ _ h=>.inr h),.inl ⟨_,rfl,rs3,k3⟩⟩
  ·have ltq3:∀ b,QX qb sp wb F3 b->b<h3.next:=fun b hb=>by
    rcases hb with rfl | rfl | rfl | hb
    ·exact q3.q.lt
    ·exact q3.s.lt.1
    ·exact q3.s.lt.2
    ·exact q3.t.flt b hb
   have r13:=r12.sm s3 (by omega) (fun hh=>by
    rcases hh with hh | hh | hh
    ·rcases hF' _ hh with h | h
     ·have:=ltq _ (.inr (.inr (.inr h)));omega
     ·omega
    ·have:=ltq _ (.inr (.inr (.inl hh)));omega
    ·have:=ltq _ (.inl hh);omega)
   have sA3:Sm bm hA h3:=(hs.trans s1 (H:=bm) (fun _ _ h=>h) (fun _ _ h=>h)).trans s13 (fun _ _ h=>h) (fun c hc hh=>by have:=hold c (.inr hh);omega)
   obtain ⟨g,eg,sg,bg,ng⟩:=Sm.bump h3 16
   have p0:=(r13.sm sg (by omega) (fun h=>h)).ld1 0
   rw [List.getElem?_cons_zero,ep] at p0
   have hp3:qO g (.slice (some (pbk,po)) t.put.length c0 g0) t.put:=by
    have:=lP ht.p (sA3.trans sg (H:=bm) (fun _ _ h=>h) (fun _ _ h=>h)) (fun _ _ h=>h)
    rw [ep] at this;exact this
   obtain ⟨_,_,ee,ldb3⟩:=qO.at hp3 hlt
   cases ee
   obtain ⟨g7,e7,r7,n7,f7⟩:=Rw.mat g (id:=Nat.add h3.next 13) (n:=2) (vs:=[.str (Bi t.put k),.slice xa xn xc xg]) (z:=[]) (ro:=false) rfl
   have e7r:ac.mk (h3.bs.up (some (.cells (az [.str (Bi t.put k),.slice xa xn xc xg] .leaf 0) [] 2 false)) (Nat.add h3.next 13)) (h3.next+16)=g7:=by rw [← e7,bg,ng]
   have a3:Nat.add h3.next 13=h3.next+13:=rfl
   have s7:Sm bm h3 g7:=⟨by omega,fun c hc _=>by rw [f7 c (by omega),bg]⟩
   have hs7:cI 2 (fun n=>n) (.slice (some (Nat.add h3.next 13,0)) 1 1 none) g7=some (cK ⟨Bi t.put k,is,.slice xa xn xc xg⟩,1):=eS r7 (Nat.le_refl _)
   obtain ⟨va,vc,vg,w8,h8,ev',hvc,e8,k8,s8⟩:=zbQ (id:=h3.next+16) (k3'.sm s7 (fun _ _ h=>h)) ⟨Bi t.put k,is,.slice xa xn xc xg⟩ (gG hi3 s7 (fun _ _ h=>h)) rfl hs7 (by omega) (by omega)
   have s78:Sm bm h3 h8:=s7.trans s8 (fun _ _ h=>h) (fun _ _ h=>h)
   subst ev'
   simp only [T0,SS,Nat.reduceBEq,reduceEqDiff,reduceAdd,reduceIte,reduceMul,t0,t1,t5,t8,eT,q0,cS,hlt',x2,ldb,e3,fP,zfF hvc,eg,p0,ldb3,Ag,K0,e7r,e8,bG (show k<=1000000 by omega)]
   have n78:=s78.1
   refine hN1 _ _ (t.put.length - (k+1)) (by omega) ⟨k+1,s3',K'++[⟨Bi t.put k,is,.slice xa xn xc xg⟩],w8,(fun b=>G' b∨ky (.slice xa xn xc xg) b∨b=h3.next+16),F3,by omega,rfl,⟨rs3.sm s78 (fun _ _ h=>h),q3.no s78,k3.sm s78 (fun _ _ h=>h),k8,hh3,⟨fun k' hk'=>?_,fun k' hk'=>?_⟩,fun b hb=>⟨(hd3 b hb).1,fun hg=>?_⟩,fun b hg hrx=>?_⟩,by rw [List.length_append,List.length_singleton];omega,by omega,fun b hb=>?_,fun b hb=>?_,s13.trans s78 (fun _ _ h=>h) (fun _ _ h=>h.elim),by simp only [SS,Nat.reduceBEq,t0],by simp only [SS,Nat.reduceBEq],by simp only [SS,Nat.reduceBEq,t5],by simp only [SS,Nat.reduceBEq],by simp only [SS,Nat.reduceBEq,t97]⟩
   ·rcases List.mem_append.1 hk' with hk' | hk'
    ·exact hb2.o.l k' hk'
    ·rw [List.mem_singleton.1 hk'];exact ad _ hmem
   ·rcases List.mem_append.1 hk' with hk' | hk'
    ·exact hb2.o.b k' hk'
    ·rw [List.mem_singleton.1 hk'];exact ht.pb _ hmem
   ·rcases hg with hg | hg | hg | hg
    ·exact (hd3 b hb).2 (.inl hg)
    ·exact (hd3 b hb).2 (.inr hg)
    ·exact (hbl3 b hg).2 hb
    ·have:=ltq3 b hb;omega
   ·have hlr:=hb2.r.lt b hrx
    rcases hg with hg | hg | hg | hg
    ·exact hb2.g b (.inl hg) hrx
    ·exact hb2.g b (.inr hg) hrx
    ·have:=(hbl3 b hg).1;omega
    ·omega
   ·rcases hF3 b hb with h | h
    ·exact hF' b h
    ·exact .inr (by omega)
   ·rcases hb with hb | hb | hb
    ·exact hG' b hb
    ·have:=(hbl3 b hb).1;exact .inr (by omega)
    ·exact .inr (by omega)
 ·obtain rfl:k=t.put.length:=by omega
  have hlt':¬(t.put.length:Int)<(t.put.length:Int):=by omega
  simp only [T0,SS,Nat.reduceBEq,reduceEqDiff,reduceAdd,reduceIte,reduceMul,t0,t1,t5,t8,eT,q0,cS,hlt']
  refine hE1 _ _ _ (by simp) ?_
  simp only [T0,SS,Nat.reduceBEq,reduceEqDiff,reduceAdd,reduceIte,reduceMul]
  refine aF (c:=AM) (I:=fun m' tm' h'=>∃ i s' K' v' G' F',i<=t.drop.length/\m'=t.drop.length - i/\TB h' pb lb db sb tb0 sp0 wb0 s0 F0 a qb tb sp wb s' F' v K G v' K' G'/\K'.length<=K.length+5/\s'.nx<=s.nx+20/\(∀ b,F' b->F b∨h1.next<=b)/\(∀ b,G' b->G b∨h1.next<=b)/\Sm (QX qb sp wb F) h1 h'/\tm'.gt 0=some (.ptr (some (qb,0)))/\tm'.gt 1=some v'/\tm'.gt 5=some (.ptr (some (h.next,0)))/\tm'.gt 11=some (I i)/\tm'.gt 97=none) (n:=t.drop.length)
   ⟨0,s',K',v',G',F',by omega,rfl,hb2,by omega,by omega,hF',hG',s2,by simp only [SS,Nat.reduceBEq,t0],by simp only [SS,Nat.reduceBEq,t1],by simp only [SS,Nat.reduceBEq,t5],by first | (simp only [SS,Nat.reduceBEq,reduceEqDiff,reduceAdd,reduceIte,reduceMul];done) | (simp only [SS,Nat.reduceBEq,reduceEqDiff,reduceAdd,reduceIte,reduceMul];rfl),by simp only [SS,Nat.reduceBEq,t97]⟩ (by omega) ?_
  clear hb2 hF' hG' s2 n2 sA2 r12 q0 q1 t0 t1 t5 t8 t97 hK' hnx' hN1 hE1 hlt' hlt hk
  rintro _ tm h2 ⟨i,s',K',v',G',F',hi,rfl,hb2,hK',hnx',hF',hG',s2,t0,t1,t5,t11,t97⟩ Q1 hN1 hE1
  have n2:=s2.1
  have sA2:Sm bm hA h2:=(hs.trans s1 (H:=bm) (fun _ _ h=>h) (fun _ _ h=>h)).trans s2 (fun _ _ h=>h) (fun c hc hh=>by have:=hold c (.inr hh);omega)
  have r12:=r1.sm s2 (by omega) (fun hh=>by have:=ltq _ hh;omega)
  have q1:=r12.ld1 1
  simp only [List.getElem?_cons_zero,List.getElem?_cons_succ] at q1
  rw [ed] at q1
  obtain ⟨va,vc,vg,rfl,hvc,hvg⟩:=(show _ from hb2.k'.c)
  by_cases hgo:i<t.drop.length/\0<K'.length
  ·obtain ⟨hlt,hkl⟩:=hgo
   have hlt':(i:Int)<(t.drop.length:Int):=by omega
   have hkl':(0:Int)<(K'.length:Int):=by omega
   have hd2:=lP ht.d sA2 (fun _ _ h=>h)
   rw [ed] at hd2
   obtain ⟨dbk,do',rfl,ldd⟩:=hd2.cell (by omega)
   have ldd:=ldd i (by omega)
   rw [List.getElem?_map,List.getElem?_eq_getElem hlt,Option.map_some] at ldd
   have x2:=W7 (k:=.i64) (b:=dbk) (o:=do') (c:=c1) (g:=g1) hlt
   have hdb:=ht.db _ (List.getElem_mem hlt)
   obtain ⟨x,hx⟩:=Int.eq_ofNat_of_zero_le hdb.1
   have xcv:=K4 _ hdb
   rw [hx] at xcv ldd
   have hj:x%K'.length<K'.length:=Nat.mod_lt _ hkl
   obtain ⟨kb,ko,rfl,_,ldv⟩:=hb2.k'.at hj
   have xi:=qF (k:=.i64) (b:=kb) (o:=ko) (c:=vc) (g:=vg) hj
   obtain ⟨z0,hh3,hnx3⟩:=JR hb2.h hj
   have hil:K'[x%K'.length].ids.length<=1000:=by
    have:=wD (hb2.h.ids _ (List.getElem_mem hj))
    rw [this,nX _ _ (Nat.le_refl _)]
    have:=hb2.o.l _ (List.getElem_mem hj)
    omega
   obtain ⟨_,h3,e3,rfl,rs3,k3',s3,F3,q3,hd3,hF3⟩:=zfh (n:=m) (by omega) hb2.q hb2.r hb2.k' (fun b hb=>⟨(hb2.d b hb).1,fun hg=>(hb2.d b hb).2 (.inr hg)⟩) (List.getElem_mem hj) hil z0
   have k3:fQ h3 v K G:=hb2.k.sm s3 (fun b hb hh=>by
    rcases hh with hh | hh
    ·exact (hb2.d b (.inr (.inr (.inr hh)))).2 (.inl hb)
    ·exact (hb2.d b (.inl hh)).2 (.inl hb))
   have s13:Sm (QX qb sp wb F) h1 h3:=s2.trans s3 (fun _ _ h=>h) (fun c hc hh=>by
    rcases hh with hh | hh
    ·rcases hF' c hh with h | h
     ·exact .inr (.inr (.inr h))
     ·omega
    ·exact .inl hh)
   have n3:=s3.1
   obtain ⟨x1,x2',ex1,ex2,hdr⟩:=Vv k3' hj (by omega)
   obtain ⟨w4,h4,e4,s4,hdr⟩:=hdr h3.next (Nat.le_refl _)
   obtain ⟨w5,h5,G5,e5,k5,s5,hG5⟩:=hdr h4 (Sm.refl _ _) h4.next (Nat.le_refl _)
   have s5':Sm bm h3 h5:=s5.mono fun c hc h=>by omega
   have ej:IntKind.i64.wrap (((x%K'.length:Nat):Int)+1)=((x%K'.length+1:Nat):Int):=bG (by omega)
   have hK0:(K'.length:Int)≠0:=by omega
   simp only [T0,SS,Nat.reduceBEq,reduceEqDiff,reduceAdd,reduceIte,reduceMul,t0,t1,t5,t11,gY,q1,lE,hlt',fP,hkl',x2,ldd,xcv,xL hK0,TG,xi,u7,ldv,e3,ex1,e4,ej,ex2,e5,bG (show i<=1000000 by omega)]
   have n5:=s5.1
   have kl:(K'.take (x%K'.length)++K'.drop (x%K'.length+1)).length<=K'.length:=by rw [List.length_append,List.length_take,List.length_drop];omega
   have hmm:∀ k,k∈K'.take (x%K'.length)++K'.drop (x%K'.length+1)->k∈K':=fun k hk=>by
    rcases List.mem_append.1 hk with h | h
    ·exact List.mem_of_mem_take h
    ·exact List.mem_of_mem_drop h
   refine hN1 _ _ (t.drop.length - (i+1)) (by omega) ⟨i+1,_,_,w5,G5,F3,by omega,rfl,⟨rs3.sm s5' (fun _ _ h=>h),q3.no s5',k3.sm s5' (fun _ _ h=>h),k5,hh3,⟨fun k hk=>hb2.o.l k (hmm k hk),fun k hk=>hb2.o.b k (hmm k hk)⟩,fun b hb=>⟨(hd3 b hb).1,fun hg=>?_⟩,fun b hg hrx=>?_⟩,by omega,by omega,fun b hb=>hF' b (hF3 b hb),fun b hb=>?_,s13.trans s5' (fun _ _ h=>h) (fun _ _ h=>h.elim),by simp only [SS,Nat.reduceBEq,t0],by simp only [SS,Nat.reduceBEq],by simp only [SS,Nat.reduceBEq,t5],by simp only [SS,Nat.reduceBEq],by simp only [SS,Nat.reduceBEq,t97]⟩
   ·have hlq:b<h3.next:=by
     rcases hb with rfl | rfl | rfl | hb
     ·exact q3.q.lt
     ·exact q3.s.lt.1
     ·exact q3.s.lt.2
     ·exact q3.t.flt b hb
    rcases hg with hg | hg
    ·have hq2:QX qb sp wb F' b:=by
      rcases hb with hb | hb | hb | hb
      ·exact .inl hb
      ·exact .inr (.inl hb)
      ·exact .inr (.inr (.inl hb))
      ·exact .inr (.inr (.inr (hF3 b hb)))
     exact (hb2.d b hq2).2 (.inl hg)
    ·rcases hG5 b hg with hg | hg
     ·exact (hd3 b hb).2 hg
     ·omega
   ·have hlr:=hb2.r.lt b hrx
    rcases hg with hg | hg
    ·exact hb2.g b (.inl hg) hrx
    ·rcases hG5 b hg with hg | hg
     ·exact hb2.g b (.inr hg) hrx
     ·omega
   ·rcases hG5 b hb with hg | hg
    ·exact hG' b hg
    ·exact .inr (by omega)
  · 
   obtain ⟨R,hR⟩:=BS _ s'.L rfl hb2.h.i.nd hb2.h.i.dn
   have hlen:=hb2.h.i.len
   have hwr:Jp s'.L:=hb2.h.i.wr fun p hp=>by
    obtain ⟨k',hk',hp⟩:=List.mem_flatMap.1 hp
    obtain ⟨_,d2,d3⟩:=TC k'.d.length k'.d (Nat.le_refl _) _ hp
    exact ⟨d2,fun j c hc=>hb2.o.b k' hk' c (d3 c (List.mem_of_getElem? hc))⟩
   obtain ⟨_,h3,e3,rfl,q3,⟨a',ha',rs3⟩,s3⟩:=WV (n:=m) (by omega) hb2.q hb2.r (fun b hb=>(hb2.d b hb).1) hR (by omega) (by omega) hwr
   have hfin:Sm (TW lb sb qb sp wb F) h h3:=(s1.trans s2 (H:=TW lb sb qb sp wb F) (fun _ _ h=>h.elim) (fun _ _ h=>.inr h)).trans s3 (fun _ _ h=>h) (fun c hc hh=>by
    rcases hh with hh | hh
    ·exact .inl hh
    ·exact .inr (.inl hh))
   have kg:∀ b,G b∨G' b->¬((b=lb∨b=sb)∨b=qb):=fun b hg hh=>by
    rcases hh with (rfl | rfl) | rfl
    ·exact hb2.g _ hg (.inr (.inl rfl))
    ·exact hb2.g _ hg (.inr (.inr (.inr (.inl rfl))))
    ·exact (hb2.d _ (.inl rfl)).2 hg
   have hres:TB h3 pb lb db sb tb0 sp0 wb0 s0 F0 a' qb tb sp wb s' F' v K G (.slice va K'.length vc vg) K' G' :=
    ⟨rs3,q3,hb2.k.sm s3 (fun b hb=>kg b (.inl hb)),hb2.k'.sm s3 (fun b hb=>kg b (.inr hb)),hb2.h,hb2.o,hb2.d,hb2.g⟩
   have fin:Sm (TW lb sb qb sp wb F) h h3/\((∃ w,(AV.tuple [.slice va K'.length vc vg,.int .i64 0])=.tuple [w,.int .i64 7]/\iW h3 pb lb db sb tb0 sp0 wb0 s0 F0 a/\fQ h3 v K G) ∨
    ∃ w a' s' F' K2 G',(AV.tuple [.slice va K'.length vc vg,.int .i64 0])=.tuple [w,.int .i64 0]/\a'<=a+129/\s'.nx<=s.nx+20/\K2.length<=K.length+5/\TB h3 pb lb db sb tb0 sp0 wb0 s0 F0 a' qb tb sp wb s' F' v K G w K2 G'/\(∀ b,F' b->F b∨h.next<=b)/\∀ b,G' b->G b∨h.next<=b) :=
    ⟨hfin,.inr ⟨_,a',s',F',K',G',rfl,by omega,hnx',hK',hres,fun b hb=>(hF' b hb).imp_right (by omega),fun b hb=>(hG' b hb).imp_right (by omega)⟩⟩
   by_cases hlt:i<t.drop.length
   ·have hkl:K'.length=0:=by omega
    have hlt':(i:Int)<(t.drop.length:Int):=by omega
    have hkl':¬(0:Int)<(K'.length:Int):=by omega
    simp only [T0,SS,Nat.reduceBEq,reduceEqDiff,reduceAdd,reduceIte,reduceMul,t0,t1,t5,t11,gY,q1,lE,hlt',fP,hkl']
    refine hE1 _ _ _ (by simp) ?_
    simp only [T0,SS,Nat.reduceBEq,reduceEqDiff,reduceAdd,reduceIte,reduceMul,t0,t1,e3]
    refine hQ _ _ _ _ (.inr rfl) (by simp only [SS,Nat.reduceBEq,t97]) (by simp only [SS,Nat.reduceBEq,reduceEqDiff,reduceAdd,reduceIte,reduceMul];rfl) ?_
    rw [lC];exact fin
   ·have hlt':¬(i:Int)<(t.drop.length:Int):=by omega
    simp only [T0,SS,Nat.reduceBEq,reduceEqDiff,reduceAdd,reduceIte,reduceMul,t0,t1,t5,t11,gY,q1,lE,hlt']
    refine hE1 _ _ _ (by simp) ?_
    simp only [T0,SS,Nat.reduceBEq,reduceEqDiff,reduceAdd,reduceIte,reduceMul,t0,t1,e3]
    refine hQ _ _ _ _ (.inr rfl) (by simp only [SS,Nat.reduceBEq,t97]) (by simp only [SS,Nat.reduceBEq,reduceEqDiff,reduceAdd,reduceIte,reduceMul];rfl) ?_
    rw [lC];exact fin
end
end Go.Proofs.YtboobbebilegnaaGreat
namespace Go.Proofs.YtboobbebilegnaaGreat
open Go.Am
set_option maxRecDepth 10000
theorem yX:∀ (M all:List (List Nat)),(M.foldl g9 all).length<=all.length+M.length
 | [],all=>by simp
 | p::M,all=>by
  have:=yX M (g9 all p)
  have h1:(g9 all p).length<=all.length+1:=by unfold g9;split <;> simp
  rw [List.foldl_cons,List.length_cons]
  omega
theorem T8 {K:List Kp} {i:Nat} (h:i<K.length):KI (K.take (i+1))=KI (K.take i)++dp K[i].d:=by
 unfold KI
 rw [List.take_succ_eq_append_getElem h,List.flatMap_append]
 simp
section
variable {h:ac} {v:AV} {K:List Kp} {G:Nat->Prop}
theorem Kf {n:Nat} (hn:1<=n) (hk:fQ h v K G) (hK:K.length<=200) (ho:KOk K):WC (C n (.fn 16) [v] h) fun r h'=>r=.int .i64 (((KI K).foldl g9 []).length:Int)/\Sm bm h h':=by
 obtain ⟨va,vc,vg,rfl,hvc,hvg⟩:=(show _ from hk.c)
 obtain ⟨m,rfl⟩:∃ m,n=m+1:=⟨n - 1,by omega⟩
 refine ak _ zgl rfl (by simp [UR]) fun QQ hQ=>?_
 simp only [UR] at hQ
 simp only [UR,ah,ai,Nat.zero_add,reduceAdd]
 simp only [Jl,SS,Nat.reduceBEq,reduceEqDiff,reduceAdd,reduceIte,reduceMul]
 refine aF (c:=OM) (I:=fun m' tm' h'=>∃ i al w bs,i<=K.length/\m'=K.length - i/\al=(KI (K.take i)).foldl g9 []/\iF 9 1 h' w al.length (al.map .str) bs/\(∀ b,b∈bs->h.next<=b)/\Sm bm h h'/\tm'.gt 0=some (.slice va K.length vc vg)/\tm'.gt 3=some w/\tm'.gt 4=some (I i)/\tm'.gt 64=none) (n:=K.length)
  ⟨0,[],_,[],by omega,rfl,rfl,iF.nil,(fun _ h=>by cases h),Sm.refl _ _,by simp only [SS,Nat.reduceBEq],by simp only [SS,Nat.reduceBEq],by first | (simp only [SS,Nat.reduceBEq,reduceEqDiff,reduceAdd,reduceIte,reduceMul];done) | (simp only [SS,Nat.reduceBEq,reduceEqDiff,reduceAdd,reduceIte,reduceMul];rfl),by simp only [SS,Nat.reduceBEq]⟩ (by omega) ?_
 rintro _ tm h2 ⟨i,al,w,bs,hi,rfl,hal,o,hb,s2,t0,t3,t4,t64⟩ Q1 hN1 hE1
 by_cases hlt:i<K.length
 ·have hlt':(i:Int)<(K.length:Int):=by omega
  have hd:=ho.l _ (List.getElem_mem hlt)
  simp only [Jl,SS,Nat.reduceBEq,reduceEqDiff,reduceAdd,reduceIte,reduceMul,t0,t3,t4,fP,hlt']
  refine aF (c:=AW) (I:=fun m' tm' h'=>∃ o' al w bs,o'<=320/\m'=K[i].d.length - o'/\(dp (K[i].d.drop o')).foldl g9 al=(KI (K.take (i+1))).foldl g9 []/\al.length<=4*K.length+o'/\iF 9 1 h' w al.length (al.map .str) bs/\(∀ b,b∈bs->h.next<=b)/\Sm bm h h'/\tm'.gt 0=some (.slice va K.length vc vg)/\tm'.gt 3=some w/\tm'.gt 4=some (I i)/\tm'.gt 5=some (I o')/\tm'.gt 64=none) (n:=K[i].d.length)
   ⟨0,al,w,bs,by omega,rfl,by rw [List.drop_zero,T8 hlt,List.foldl_append,hal],by
    have h1:=yX (KI (K.take i)) []
    have h2:=CG (K:=K.take i) ⟨fun k hk=>ho.l k (List.mem_of_mem_take hk),fun k hk=>ho.b k (List.mem_of_mem_take hk)⟩
    rw [List.length_take] at h2
    rw [hal]
    simp only [List.length_nil] at h1
    omega,o,hb,s2,by simp only [SS,Nat.reduceBEq,t0],by simp only [SS,Nat.reduceBEq,t3],by simp only [SS,Nat.reduceBEq,t4],by first | (simp only [SS,Nat.reduceBEq,reduceEqDiff,reduceAdd,reduceIte,reduceMul];done) | (simp only [SS,Nat.reduceBEq,reduceEqDiff,reduceAdd,reduceIte,reduceMul];rfl),by simp only [SS,Nat.reduceBEq,t64]⟩ (by omega) ?_
  clear o hb s2 t0 t3 t4 t64 hal
  rintro _ tm h2 ⟨o',al,w,bs,ho',rfl,hal,hall,o,hb,s2,t0,t3,t4,t5,t64⟩ Q2 hN2 hE2
  obtain ⟨wa,wc,wg,rfl,_⟩:=sT o
  obtain ⟨kb,ko,rfl,lds,_⟩:=(hk.sm s2 (fun _ _ h=>h)).at hlt
  have xi:=qF (k:=.i64) (b:=kb) (o:=ko) (c:=vc) (g:=vg) hlt
  by_cases hlo:o'<K[i].d.length
  ·have hlo':(o':Int)<(K[i].d.length:Int):=by omega
   obtain ⟨g,eg,sg,bg,ng⟩:=Sm.bump h2 17
   obtain ⟨_,_,ee,ldg,_⟩:=(hk.sm (s2.trans sg (H:=bm) (fun _ _ h=>h) (fun _ _ h=>h)) (fun _ _ h=>h)).at hlt
   cases ee
   have pe:IntKind.i64.wrap ((o':Int)+64)=((o'+64:Nat):Int):=by rw [wrap_i64 (by omega) (by omega)];omega
   have hmin:min (((o'+64:Nat)):Int) (K[i].d.length:Int)=((min (o'+64) K[i].d.length:Nat):Int):=by omega
   have xs:=Cx (k:=.i64) (k':=.i64) (l:=K[i].d) (lo:=o') (hi:=min (o'+64) K[i].d.length) (by omega) (by omega)
   rw [Ty hlo] at xs
   simp only [Jl,SS,Nat.reduceBEq,reduceEqDiff,reduceAdd,reduceIte,reduceMul,t0,t3,t4,t5,xi,l9,lds,dc,hlo',eg,ldg,pe,hmin,xs]
   have og:=o.sm sg (fun _ _ h=>h)
   have s2g:Sm bm h g:=s2.trans sg (fun _ _ h=>h) (fun _ _ h=>h)
   refine aF (c:=AX) (I:=fun m' tm' h'=>∃ k,k<=al.length/\m'=al.length - k/\h'=g/\tm'.gt 0=some (.slice (some (kb,ko)) K.length vc vg)/\tm'.gt 3=some (.slice wa al.length wc wg)/\tm'.gt 4=some (I i)/\tm'.gt 5=some (I o')/\tm'.gt 6=some (.str ((K[i].d.drop o').take 64))/\tm'.gt 7=some (.bool (decide ((K[i].d.drop o').take 64∈al.take k)))/\tm'.gt 8=some (I k)/\tm'.gt 64=none) (n:=al.length)
    ⟨0,by omega,rfl,rfl,by simp only [SS,Nat.reduceBEq,t0],by simp only [SS,Nat.reduceBEq,t3],by simp only [SS,Nat.reduceBEq,t4],by simp only [SS,Nat.reduceBEq,t5],by simp only [SS,Nat.reduceBEq],by simp only [SS,Nat.reduceBEq,reduceEqDiff,reduceAdd,reduceIte,reduceMul,List.take_zero,List.not_mem_nil],by first | (simp only [SS,Nat.reduceBEq,reduceEqDiff,reduceAdd,reduceIte,reduceMul];done) | (simp only [SS,Nat.reduceBEq,reduceEqDiff,reduceAdd,reduceIte,reduceMul];rfl),by simp only [SS,Nat.reduceBEq,t64]⟩ (by omega) ?_
   clear t0 t3 t4 t5 t64
   rintro _ tm g ⟨k,hk',rfl,rfl,t0,t3,t4,t5,t6,t7,t8,t64⟩ Q3 hN3 hE3
   by_cases hkl:k<al.length
   ·have hkl':(k:Int)<(al.length:Int):=by omega
    obtain ⟨ab,ao,rfl,lda⟩:=og.els.cell (by omega)
    have lda:=lda k (by omega)
    rw [List.getElem?_map,List.getElem?_eq_getElem hkl,Option.map_some] at lda
    have xa:=qG (k:=.i64) (b:=ab) (o:=ao) (c:=wc) (g:=wg) hkl
    have hnx:decide ((K[i].d.drop o').take 64∈al.take (k+1))=(decide ((K[i].d.drop o').take 64∈al.take k)||decide (al[k]=(K[i].d.drop o').take 64)):=by
     rw [List.take_succ_eq_append_getElem hkl]
     simp only [List.mem_append,List.mem_singleton,Bool.decide_or];congr 1;exact decide_eq_decide.2 eq_comm
    by_cases hin:(K[i].d.drop o').take 64∈al.take k
    ·have t7':tm.gt 7=some (.bool true):=by rw [t7,decide_eq_true hin]
     simp only [Jl,SS,Nat.reduceBEq,reduceEqDiff,reduceAdd,reduceIte,reduceMul,t3,t8,cS,hkl',t7',bG (show k<=1000000 by omega)]
     exact hN3 _ _ (al.length - (k+1)) (by omega) ⟨k+1,by omega,rfl,rfl,by simp only [SS,Nat.reduceBEq,t0],by simp only [SS,Nat.reduceBEq,t3],by simp only [SS,Nat.reduceBEq,t4],by simp only [SS,Nat.reduceBEq,t5],by simp only [SS,Nat.reduceBEq,t6],by simp only [SS,Nat.reduceBEq];rw [hnx,decide_eq_true hin];rfl,by simp only [SS,Nat.reduceBEq],by simp only [SS,Nat.reduceBEq,t64]⟩
    ·have t7':tm.gt 7=some (.bool false):=by rw [t7,decide_eq_false hin]
     simp only [Jl,SS,Nat.reduceBEq,reduceEqDiff,reduceAdd,reduceIte,reduceMul,t3,t6,t8,cS,hkl',t7',xa,lda,bG (show k<=1000000 by omega)]
     exact hN3 _ _ (al.length - (k+1)) (by omega) ⟨k+1,by omega,rfl,rfl,by simp only [SS,Nat.reduceBEq,t0],by simp only [SS,Nat.reduceBEq,t3],by simp only [SS,Nat.reduceBEq,t4],by simp only [SS,Nat.reduceBEq,t5],by simp only [SS,Nat.reduceBEq,t6],by simp only [SS,Nat.reduceBEq];rw [hnx,decide_eq_false hin];rfl,by simp only [SS,Nat.reduceBEq],by simp only [SS,Nat.reduceBEq,t64]⟩
   ·obtain rfl:k=al.length:=by omega
    have hkl':¬(al.length:Int)<(al.length:Int):=by omega
    rw [List.take_length] at t7
    have hst:(dp (K[i].d.drop (o'+64))).foldl g9 (g9 al ((K[i].d.drop o').take 64))=(KI (K.take (i+1))).foldl g9 []:=by
     rw [← hal,zcP hlo,List.foldl_cons]
    by_cases hin:(K[i].d.drop o').take 64∈al
    ·have t7':tm.gt 7=some (.bool true):=by rw [t7,decide_eq_true hin]
     rw [show g9 al ((K[i].d.drop o').take 64)=al from if_pos hin] at hst
     simp only [Jl,SS,Nat.reduceBEq,reduceEqDiff,reduceAdd,reduceIte,reduceMul,t3,t8,cS,hkl']
     refine hE3 _ _ _ (by simp) ?_
     simp only [Jl,SS,Nat.reduceBEq,reduceEqDiff,reduceAdd,reduceIte,reduceMul,t5,t7',pe]
     exact hN2 _ _ (K[i].d.length - (o'+64)) (by omega) ⟨o'+64,al,_,bs,by omega,rfl,hst,by omega,og,hb,s2g,by simp only [SS,Nat.reduceBEq,t0],by simp only [SS,Nat.reduceBEq,t3],by simp only [SS,Nat.reduceBEq,t4],by simp only [SS,Nat.reduceBEq],by simp only [SS,Nat.reduceBEq,t64]⟩
    ·have t7':tm.gt 7=some (.bool false):=by rw [t7,decide_eq_false hin]
     rw [show g9 al ((K[i].d.drop o').take 64)=al++[(K[i].d.drop o').take 64] from if_neg hin] at hst
     obtain ⟨h4,e4,r4,n4,f4⟩:=Rw.alloc g (id:=g.next) (n:=1) (vs:=[.str ((K[i].d.drop o').take 64)]) (z:=[]) (ro:=false) (Nat.le_refl _) rfl
     have s4:Sm bm g h4:=⟨by omega,fun c hc _=>f4 c (by omega)⟩
     have hs4:cI 1 (fun n=>n) (.slice (some (g.next,0)) 1 1 none) h4=some ([.str ((K[i].d.drop o').take 64)],1):=eS r4 (Nat.le_refl _)
     obtain ⟨v5,h5,bs5,e5,o5,s5,f5⟩:=jz (t:=41) (id:=h4.next) zcV s_9 b_9 z_9 rfl (og.sm s4 fun _ _ h=>h) hs4 rfl rfl (eO (by omega) (by omega)) (Nat.le_refl _)
     have s25:Sm bm h h5:=(s2g.trans s4 (H:=bm) (fun _ _ h=>h) (fun _ _ h=>h)).trans s5 (fun _ _ h=>h) (fun c hc h=>by have:=hb c h;omega)
     have n2:=s2g.1
     simp only [Jl,SS,Nat.reduceBEq,reduceEqDiff,reduceAdd,reduceIte,reduceMul,t3,t8,cS,hkl']
     refine hE3 _ _ _ (by simp) ?_
     simp only [Jl,SS,Nat.reduceBEq,reduceEqDiff,reduceAdd,reduceIte,reduceMul,t3,t5,t6,t7',pe,pi,e4,e5]
     refine hN2 _ _ (K[i].d.length - (o'+64)) (by omega) ⟨o'+64,al++[(K[i].d.drop o').take 64],v5,bs5,by omega,rfl,hst,by rw [List.length_append,List.length_singleton];omega,?_,fun b hb'=>?_,s25,by simp only [SS,Nat.reduceBEq,t0],by simp only [SS,Nat.reduceBEq],by simp only [SS,Nat.reduceBEq,t4],by simp only [SS,Nat.reduceBEq],by simp only [SS,Nat.reduceBEq,t64]⟩
     ·rw [List.length_append,List.map_append];exact o5
     ·rcases f5 b hb' with h | h
      ·exact hb b h
      ·omega
  ·have hlo':¬(o':Int)<(K[i].d.length:Int):=by omega
   simp only [Jl,SS,Nat.reduceBEq,reduceEqDiff,reduceAdd,reduceIte,reduceMul,t0,t4,t5,xi,l9,lds,dc,hlo']
   refine hE2 _ _ _ (by simp) ?_
   simp only [Jl,SS,Nat.reduceBEq,reduceEqDiff,reduceAdd,reduceIte,reduceMul,t4,bG (show i<=1000000 by omega)]
   refine hN1 _ _ (K.length - (i+1)) (by omega) ⟨i+1,al,_,bs,by omega,rfl,by rw [← hal,WM (by omega)];rfl,o,hb,s2,by simp only [SS,Nat.reduceBEq,t0],by simp only [SS,Nat.reduceBEq,t3],by simp only [SS,Nat.reduceBEq],by simp only [SS,Nat.reduceBEq,t64]⟩
 ·obtain rfl:i=K.length:=by omega
  have hlt':¬(K.length:Int)<(K.length:Int):=by omega
  obtain ⟨wa,wc,wg,rfl,_⟩:=sT o
  simp only [Jl,SS,Nat.reduceBEq,reduceEqDiff,reduceAdd,reduceIte,reduceMul,t0,t4,fP,hlt']
  refine hE1 _ _ _ (by simp) ?_
  simp only [Jl,SS,Nat.reduceBEq,reduceEqDiff,reduceAdd,reduceIte,reduceMul,t3,cS]
  refine hQ _ _ _ _ (.inr rfl) (by simp only [SS,Nat.reduceBEq,t64]) (by simp only [SS,Nat.reduceBEq,reduceEqDiff,reduceAdd,reduceIte,reduceMul,t64];rfl) ?_
  rw [List.take_length] at hal
  exact ⟨by rw [hal];rfl,s2⟩
end
end Go.Proofs.YtboobbebilegnaaGreat
namespace Go.Proofs.YtboobbebilegnaaGreat
open Go.Am
set_option maxRecDepth 10000
def Tn.c (t:Tn):List AV:=[t.pv,t.dv,.bool t.leave]
theorem Tn.c_get:∀ (T:List Tn) (i:Nat) (h:i<T.length) (f:Nat),f<3->(T.flatMap Tn.c)[i*3+f]?=(T[i].c)[f]?
 | t::T,0,h,f,hf=>by rw [List.flatMap_cons,List.getElem?_append_left (by simp [Tn.c];omega),Nat.zero_mul,Nat.zero_add];rfl
 | t::T,i+1,h,f,hf=>by
  rw [List.flatMap_cons,List.getElem?_append_right (by simp [Tn.c];omega),show (i+1)*3+f - (Tn.c t).length=i*3+f by simp [Tn.c];omega]
  exact Tn.c_get T i (by simpa using h) f hf
structure ku (h:ac) (lv cv:AV) (T:List Tn) (nc:Nat):Prop where
 l:mX h lv T.length 3 (T.flatMap Tn.c)
 t:∀ t,t∈T->Az h t
 c:∃ a c g,cv=.slice a nc c g
section
variable {h h':ac} {lv cv:AV} {T:List Tn} {nc:Nat}
theorem Az.sm {t:Tn} (ht:Az h t) (hs:Sm bm h h'):Az h' t :=
 ⟨lP ht.p hs (fun _ _ h=>h),lP ht.d hs (fun _ _ h=>h),ht.pb,ht.db⟩
theorem ku.sm (hl:ku h lv cv T nc) (hs:Sm bm h h'):ku h' lv cv T nc :=
 ⟨lP hl.l hs (fun _ _ h=>h),fun t ht=>(hl.t t ht).sm hs,hl.c⟩
theorem ku.at {a:Option (Nat×Nat)} {c:Nat} {g:Option Nat} (hl:ku h (.slice a T.length c g) cv T nc) {i:Nat} (hi:i<T.length) :
  ∃ b o,a=some (b,o)/\h.ld1 b (o+i*3)=some T[i].pv/\h.ld1 b (o+i*3+1)=some T[i].dv/\h.ld1 b (o+i*3+2)=some (.bool T[i].leave)/\h.ld b (o+i*3) 3=some T[i].c:=by
 obtain ⟨h0,a',c',g',e,h1,h2⟩:=hl.l
 cases e
 cases a with
 | none=>have:=h1 rfl;omega
 | some p =>
  have hld:=(h2 p.1 p.2 rfl).2 (by omega)
  have hc:=(wJ hld).2
  have hp:=wK hld (i:=i*3) (k:=3) (by omega)
  refine ⟨p.1,p.2,rfl,?_,?_,?_,?_⟩
  ·rw [hc _ (by omega)];exact Tn.c_get T i hi 0 (by omega)
  ·rw [Nat.add_assoc,hc _ (by omega)];exact Tn.c_get T i hi 1 (by omega)
  ·rw [Nat.add_assoc,hc _ (by omega)];exact Tn.c_get T i hi 2 (by omega)
  ·rw [hp];congr 1
   apply List.ext_getElem?
   intro f
   by_cases hf:f<3
   ·rw [List.getElem?_take_of_lt hf,List.getElem?_drop];exact Tn.c_get T i hi f hf
   ·rw [List.getElem?_eq_none (by rw [List.length_take];omega),List.getElem?_eq_none (by show 3<=f;omega)]
theorem Tz {n:Nat} (hn:1<=n) (hl:ku h lv cv T nc) (cut:AV) (hc:cut.one=true) :
  WC (C n (.fn 7) [.agg [lv,cut,cv]] h) fun r h'=>∃ b,r=.bool b/\(b=true->T.length<=30/\∀ t,t∈T->t.ok)/\Sm bm h h':=by
 obtain ⟨_,a,c,g,rfl,_⟩:=id hl.l
 obtain ⟨a2,c2,g2,rfl⟩:=(show _ from hl.c)
 obtain ⟨m,rfl⟩:∃ m,n=m+1:=⟨n - 1,by omega⟩
 refine ak _ f7A rfl (by simp [fn7]) fun QQ hQ=>?_
 simp only [fn7] at hQ
 simp only [fn7,ah,ai,Nat.zero_add,reduceAdd]
 obtain ⟨h1,e1,r1,n1,f1⟩:=Rw.alloc h (id:=h.next) (n:=3) (vs:=[.slice a T.length c g,cut,.slice a2 nc c2 g2]) (z:=[]) (ro:=false) (Nat.le_refl _) rfl
 have s1:Sm bm h h1:=⟨by omega,fun c hc _=>f1 c (by omega)⟩
 have o1:([AV.slice a T.length c g,cut,.slice a2 nc c2 g2]:List AV).all AV.one=true:=by show (true&&(cut.one&&(true&&true)))=true;rw [hc];rfl
 have q0:=r1.ld1 0
 have q2:=r1.ld1 2
 simp only [List.getElem?_cons_zero,List.getElem?_cons_succ] at q0 q2
 have hl1:=hl.sm s1
 simp only [F7,SS,Nat.reduceBEq,reduceEqDiff,reduceAdd,reduceIte,reduceMul,jB o1,e1]
 refine aF (c:=zbs) (I:=fun m' tm' h'=>∃ i,i<=40/\m'=40 - i/\(∀ j (hj:j<T.length),j<i->T[j].ok)/\h'=h1/\tm'.gt 1=some (.ptr (some (h.next,0)))/\tm'.gt 3=some (I i)/\tm'.gt 66=none) (n:=40)
  ⟨0,by omega,rfl,(fun _ _ h=>absurd h (Nat.not_lt_zero _)),rfl,by simp only [SS,Nat.reduceBEq],by first | (simp only [SS,Nat.reduceBEq,reduceEqDiff,reduceAdd,reduceIte,reduceMul];done) | (simp only [SS,Nat.reduceBEq,reduceEqDiff,reduceAdd,reduceIte,reduceMul];rfl),by simp only [SS,Nat.reduceBEq]⟩ (by omega) ?_
 rintro _ tm h1 ⟨i,hi,rfl,hall,rfl,t1,t3,t66⟩ Q1 hN1 hE1
 by_cases hgo:i<T.length/\i<40
 ·obtain ⟨hlt,h40⟩:=hgo
  have hlt':(i:Int)<(T.length:Int):=by omega
  have h40':(i:Int)<40:=by omega
  obtain ⟨b,o,rfl,l0,l1,l2,_⟩:=hl1.at hlt
  have xi:=Ji (k:=.i64) (b:=b) (o:=o) (c:=c) (g:=g) hlt
  have htn:=hl1.t _ (List.getElem_mem hlt)
  obtain ⟨a0,c0,g0,ep⟩:=htn.p.sl
  obtain ⟨_,a1,c1,g1,ed,_⟩:=id htn.d
  rw [ep] at l0
  rw [ed] at l1
  by_cases hbad:5<T[i].put.length
  ·have hbad':(5:Int)<(T[i].put.length:Int):=by omega
   simp only [F7,SS,Nat.reduceBEq,reduceEqDiff,reduceAdd,reduceIte,reduceMul,t1,t3,bM,q0,cR,hlt',h40',xi,eT,gY,l0,cS,hbad']
   refine hE1 _ _ _ (by simp) ?_
   simp only [SS,Nat.reduceBEq,reduceEqDiff,reduceAdd,reduceIte,reduceMul]
   refine hQ _ _ _ _ (.inr rfl) (by simp only [SS,Nat.reduceBEq,t66]) (by simp only [SS,Nat.reduceBEq,reduceEqDiff,reduceAdd,reduceIte,reduceMul];rfl) ⟨false,rfl,(fun h=>by cases h),s1⟩
  have hbad':¬(5:Int)<(T[i].put.length:Int):=by omega
  by_cases hbd:5<T[i].drop.length
  ·have hbd':(5:Int)<(T[i].drop.length:Int):=by omega
   simp only [F7,SS,Nat.reduceBEq,reduceEqDiff,reduceAdd,reduceIte,reduceMul,t1,t3,bM,q0,cR,hlt',h40',xi,eT,gY,l0,l1,cS,lE,hbad',hbd']
   refine hE1 _ _ _ (by simp) ?_
   simp only [SS,Nat.reduceBEq,reduceEqDiff,reduceAdd,reduceIte,reduceMul]
   refine hQ _ _ _ _ (.inr rfl) (by simp only [SS,Nat.reduceBEq,t66]) (by simp only [SS,Nat.reduceBEq,reduceEqDiff,reduceAdd,reduceIte,reduceMul];rfl) ⟨false,rfl,(fun h=>by cases h),s1⟩
  have hbd':¬(5:Int)<(T[i].drop.length:Int):=by omega
  simp only [F7,SS,Nat.reduceBEq,reduceEqDiff,reduceAdd,reduceIte,reduceMul,t1,t3,bM,q0,cR,hlt',h40',xi,eT,gY,l0,l1,cS,lE,hbad',hbd']
  refine aF (c:=RA) (I:=fun m' tm' h'=>∃ k,k<=T[i].put.length/\m'=T[i].put.length - k/\(∀ j (hj:j<T[i].put.length),j<k->T[i].put[j].length<=256)/\h'=h1/\tm'.gt 1=some (.ptr (some (h.next,0)))/\tm'.gt 3=some (I i)/\tm'.gt 4=some (I k)/\tm'.gt 66=none) (n:=T[i].put.length)
   ⟨0,by omega,rfl,(fun _ _ h=>absurd h (Nat.not_lt_zero _)),rfl,by simp only [SS,Nat.reduceBEq,t1],by simp only [SS,Nat.reduceBEq,t3],by first | (simp only [SS,Nat.reduceBEq,reduceEqDiff,reduceAdd,reduceIte,reduceMul];done) | (simp only [SS,Nat.reduceBEq,reduceEqDiff,reduceAdd,reduceIte,reduceMul];rfl),by simp only [SS,Nat.reduceBEq,t66]⟩ (by omega) ?_
  clear t1 t3 t66
  rintro _ tm h1 ⟨k,hk,rfl,hal2,rfl,t1,t3,t4,t66⟩ Q2 hN2 hE2
  by_cases hkl:k<T[i].put.length
  ·have hkl':(k:Int)<(T[i].put.length:Int):=by omega
   have hp:=htn.p
   rw [ep] at hp
   obtain ⟨pb,po,rfl,lp⟩:=qO.at hp hkl
   have eB:Bi T[i].put k=T[i].put[k]:=by unfold Bi;rw [List.getD_eq_getElem?_getD,List.getElem?_eq_getElem hkl];rfl
   rw [eB] at lp
   have xk:=qG (k:=.i64) (b:=pb) (o:=po) (c:=c0) (g:=g0) hkl
   by_cases hlong:256<T[i].put[k].length
   ·have hlong':(256:Int)<(T[i].put[k].length:Int):=by omega
    simp only [F7,SS,Nat.reduceBEq,reduceEqDiff,reduceAdd,reduceIte,reduceMul,t1,t3,t4,bM,q0,xi,eT,l0,cS,hkl',xk,lp,dc,hlong']
    refine hE2 _ _ _ (by simp) ?_
    simp only [SS,Nat.reduceBEq,reduceEqDiff,reduceAdd,reduceIte,reduceMul]
    refine hE1 _ _ _ (by simp) ?_
    simp only [SS,Nat.reduceBEq,reduceEqDiff,reduceAdd,reduceIte,reduceMul]
    refine hQ _ _ _ _ (.inr rfl) (by simp only [SS,Nat.reduceBEq,t66]) (by simp only [SS,Nat.reduceBEq,reduceEqDiff,reduceAdd,reduceIte,reduceMul];rfl) ⟨false,rfl,(fun h=>by cases h),s1⟩
   ·have hlong':¬(256:Int)<(T[i].put[k].length:Int):=by omega
    simp only [F7,SS,Nat.reduceBEq,reduceEqDiff,reduceAdd,reduceIte,reduceMul,t1,t3,t4,bM,q0,xi,eT,l0,cS,hkl',xk,lp,dc,hlong',bG (show k<=1000000 by omega)]
    exact hN2 _ _ (T[i].put.length - (k+1)) (by omega) ⟨k+1,by omega,rfl,fun j hj hjk=>by
     by_cases e:j<k
     ·exact hal2 j hj e
     ·obtain rfl:j=k:=by omega
      omega,rfl,by simp only [SS,Nat.reduceBEq,t1],by simp only [SS,Nat.reduceBEq,t3],by simp only [SS,Nat.reduceBEq],by simp only [SS,Nat.reduceBEq,t66]⟩
  ·obtain rfl:k=T[i].put.length:=by omega
   have hkl':¬(T[i].put.length:Int)<(T[i].put.length:Int):=by omega
   simp only [F7,SS,Nat.reduceBEq,reduceEqDiff,reduceAdd,reduceIte,reduceMul,t1,t3,t4,bM,q0,xi,eT,l0,cS,hkl']
   refine hE2 _ _ _ (by simp) ?_
   simp only [F7,SS,Nat.reduceBEq,reduceEqDiff,reduceAdd,reduceIte,reduceMul,t3,bG (show i<=1000000 by omega)]
   exact hN1 _ _ (40 - (i+1)) (by omega) ⟨i+1,by omega,rfl,fun j hj hji=>by
    by_cases e:j<i
    ·exact hall j hj e
    ·obtain rfl:j=i:=by omega
     exact ⟨by omega,by omega,fun s hs=>by
      obtain ⟨x,hx,rfl⟩:=List.getElem_of_mem hs
      exact hal2 x hx hx⟩,rfl,by simp only [SS,Nat.reduceBEq,t1],by simp only [SS,Nat.reduceBEq],by simp only [SS,Nat.reduceBEq,t66]⟩
 ·have fin:∀ b,b=(decide ((T.length:Int)<=30)&&decide ((nc:Int)<=20))->(AV.bool b)=.bool b/\(b=true->T.length<=30/\∀ t,t∈T->t.ok)/\Sm bm h h1:=fun b hb=>⟨rfl,fun h=>by
   rw [h] at hb
   have h1:=of_decide_eq_true (Bool.and_eq_true_iff.1 hb.symm).1
   exact ⟨by omega,fun t ht=>by
    obtain ⟨j,hj,rfl⟩:=List.getElem_of_mem ht
    exact hall j hj (by omega)⟩,s1⟩
  by_cases hz1:(i:Int)<(T.length:Int)
  ·have h40:¬(i:Int)<40:=by omega
   simp only [F7,SS,Nat.reduceBEq,reduceEqDiff,reduceAdd,reduceIte,reduceMul,t1,t3,bM,q0,cR,hz1,h40]
   refine hE1 _ _ _ (by simp) ?_
   by_cases z1:(T.length:Int)<=30
   ·by_cases z2:(nc:Int)<=20
    ·simp only [F7,SS,Nat.reduceBEq,reduceEqDiff,reduceAdd,reduceIte,reduceMul,t1,bM,l8,q0,q2,cR,oo,z1,z2]
     refine hQ _ _ _ _ (.inr rfl) (by simp only [SS,Nat.reduceBEq,t66]) (by simp only [SS,Nat.reduceBEq,reduceEqDiff,reduceAdd,reduceIte,reduceMul];rfl) ?_
     exact ⟨true,fin true (by rw [decide_eq_true z1,decide_eq_true z2];rfl)⟩
    ·simp only [F7,SS,Nat.reduceBEq,reduceEqDiff,reduceAdd,reduceIte,reduceMul,t1,bM,l8,q0,q2,cR,oo,z1,z2]
     refine hQ _ _ _ _ (.inr rfl) (by simp only [SS,Nat.reduceBEq,t66]) (by simp only [SS,Nat.reduceBEq,reduceEqDiff,reduceAdd,reduceIte,reduceMul];rfl) ?_
     exact ⟨false,fin false (by rw [decide_eq_true z1,decide_eq_false z2];rfl)⟩
   ·simp only [F7,SS,Nat.reduceBEq,reduceEqDiff,reduceAdd,reduceIte,reduceMul,t1,bM,q0,cR,z1]
    refine hQ _ _ _ _ (.inr rfl) (by simp only [SS,Nat.reduceBEq,t66]) (by simp only [SS,Nat.reduceBEq,reduceEqDiff,reduceAdd,reduceIte,reduceMul];rfl) ?_
    exact ⟨false,fin false (by rw [decide_eq_false z1];rfl)⟩
  ·simp only [F7,SS,Nat.reduceBEq,reduceEqDiff,reduceAdd,reduceIte,reduceMul,t1,t3,bM,q0,cR,hz1]
   refine hE1 _ _ _ (by simp) ?_
   by_cases z1:(T.length:Int)<=30
   ·by_cases z2:(nc:Int)<=20
    ·simp only [F7,SS,Nat.reduceBEq,reduceEqDiff,reduceAdd,reduceIte,reduceMul,t1,bM,l8,q0,q2,cR,oo,z1,z2]
     refine hQ _ _ _ _ (.inr rfl) (by simp only [SS,Nat.reduceBEq,t66]) (by simp only [SS,Nat.reduceBEq,reduceEqDiff,reduceAdd,reduceIte,reduceMul];rfl) ?_
     exact ⟨true,fin true (by rw [decide_eq_true z1,decide_eq_true z2];rfl)⟩
    ·simp only [F7,SS,Nat.reduceBEq,reduceEqDiff,reduceAdd,reduceIte,reduceMul,t1,bM,l8,q0,q2,cR,oo,z1,z2]
     refine hQ _ _ _ _ (.inr rfl) (by simp only [SS,Nat.reduceBEq,t66]) (by simp only [SS,Nat.reduceBEq,reduceEqDiff,reduceAdd,reduceIte,reduceMul];rfl) ?_
     exact ⟨false,fin false (by rw [decide_eq_true z1,decide_eq_false z2];rfl)⟩
   ·simp only [F7,SS,Nat.reduceBEq,reduceEqDiff,reduceAdd,reduceIte,reduceMul,t1,bM,q0,cR,z1]
    refine hQ _ _ _ _ (.inr rfl) (by simp only [SS,Nat.reduceBEq,t66]) (by simp only [SS,Nat.reduceBEq,reduceEqDiff,reduceAdd,reduceIte,reduceMul];rfl) ?_
    exact ⟨false,fin false (by rw [decide_eq_false z1];rfl)⟩
end
end Go.Proofs.YtboobbebilegnaaGreat
/- A part of the proof of the law PoolShares. -/
import Derived.Test.YtboobbebilegnaaGreatProg
import Derived.Test.YtboobbebilegnaaGreatSrAmE
open Nat (reduceEqDiff reduceAdd reduceMul)
set_option linter.unusedVariables false
set_option linter.unusedSimpArgs false
set_option linter.constructorNameAsVariable false
set_option linter.defProp false
set_option maxRecDepth 20000

namespace Go.Proofs.YtboobbebilegnaaGreat
open Go.Am
noncomputable section
theorem An {a b:Prop} (x:a) (y:b):a/\b:=⟨x,y⟩
theorem kR (c:AC) {is:List aw} {outs:List (Nat×bN)} (hc:c=.reg is outs):Xh c is outs:=zg0 hc
theorem kS (c:AC) {a b:AC} (hc:c=.seq a b):Uc c a b:=zg1 hc
theorem kB (c:AC) {a:AC} {id:Nat} (hc:c=.block id a):T9 c id a:=zgY hc
theorem kC (c:AC) {a b:AC} {t:Nat} (hc:c=.cond (.tmp t) a b):Ua c t a b:=zgZ hc
abbrev P:Program:=Tryz.prog
def zar:AC:=.reg [⟨none,.pn (l1 (bL P 51)) [.tmp 0]⟩] [(2,.loc 0)]
def zas:AC:=.reg [⟨none,.p1 (eU P 3 154) (.tmp 2)⟩,⟨none,.cl (cf 144) [.loc 0]⟩,⟨none,.cl (cf 143) [.tmp 0,.cst (AV.int .i64 0),.tmp 2,.loc 0]⟩] []
def Vn:cA:=⟨(.seq zar zas),[],11,true⟩
theorem zgR:ci P (keepF P) 95=some Vn:=by kernel_rfl
def F95:=An (kR zar rfl)<|(kR zas rfl)
def Nb:AC:=.reg [] [(8,.cst (AV.bool true))]
def Nc:AC:=.reg [] [(9,.cst (AV.bool true))]
def Nd:AC:=.reg [⟨none,.p2 (ag P .sub 3) (.tmp 2) (.tmp 1)⟩] [(10,.loc 0)]
def DU:AC:=.reg [⟨none,.p2 (ag P .leq 3) (.tmp 10) (.cst (AV.int .i64 12))⟩] [(23,.loc 0)]
def DV:AC:=.reg [⟨none,.cl (cf 167) [.tmp 0,.tmp 1,.tmp 2]⟩] []
def DX:AC:=.reg [⟨none,.p2 (ag P .eql 3) (.tmp 3) (.cst (AV.int .i64 0))⟩] [(29,.loc 0)]
def DY:AC:=.reg [⟨none,.cl (cf 168) [.tmp 0,.tmp 1,.tmp 2]⟩] []
def D0:AC:=.reg [⟨none,.p1 (iG .not) (.tmp 8)⟩] [(35,.loc 0)]
def D1:AC:=.reg [⟨none,.cl (cf 169) [.tmp 0,.tmp 1,.tmp 2]⟩] []
def D7:AC:=.reg [⟨none,.p2 (ag P .sub 3) (.tmp 3) (.cst (AV.int .i64 1))⟩] [(3,.loc 0)]
def Ea:AC:=.reg [⟨none,.cl (cf 170) [.tmp 0,.tmp 1,.tmp 2]⟩,⟨none,.p1 (aq 0) (.loc 0)⟩,⟨none,.p1 (aq 1) (.loc 1)⟩] [(12,.loc 0),(11,.loc 1)]
def Ec:AC:=.reg [⟨none,.p2 (ag P .eql 248) (.tmp 12) (.cst (AV.int .i64 2))⟩] [(50,.loc 0)]
def Ed:AC:=.reg [⟨none,.cl (cf 171) [.tmp 0,.tmp 1,.tmp 2]⟩] []
def Ee:AC:=.reg [⟨none,.p2 (ag P .sub 3) (.tmp 2) (.cst (AV.int .i64 1))⟩,⟨none,.p2 (ag P .sub 3) (.tmp 11) (.tmp 1)⟩,⟨none,.p2 (ag P .sub 3) (.loc 1) (.loc 0)⟩] [(11,.loc 0)]
def Ef:AC:=.reg [] [(12,.cst (AV.int .i64 1))]
def Eb:AC:=.seq Ec (.cond (.tmp 50) (.seq Ed (.seq Ee Ef)) .skip)
def Eg:AC:=.reg [⟨some (.tmp 8,true),.mv (.tmp 9)⟩,⟨none,.pick (.tmp 8) (.loc 0) (.cst (AV.bool false))⟩,⟨some (.loc 0,true),.mv (.tmp 12)⟩,⟨some (.loc 1,true),.p2 (ag P .eql 248) (.loc 0) (.cst (AV.int .i64 1))⟩,⟨none,.pick (.loc 2) (.loc 0) (.cst (AV.bool false))⟩] [(68,.loc 0)]
def Ei:AC:=.reg [⟨none,.cl (cf 172) [.tmp 0,.tmp 1,.tmp 2]⟩] [(72,.loc 0)]
def Eh:AC:=.cond (.tmp 68) (.seq Ei (.cond (.tmp 72) .ret .skip)) .skip
def xR:List (Nat×aw):=[(0,⟨none,.mv (.tmp 1)⟩),(1,⟨none,.p2 (ag P .gtr 3) (.opi 0) (.cst (AV.int .i64 0))⟩),(2,⟨none,.mv (.opi 1)⟩),(3,⟨some (.opi 2,true),.mv (.tmp 0)⟩),(4,⟨some (.opi 2,true),.mv (.tmp 1)⟩),(5,⟨some (.opi 2,true),.p2 (ag P .sub 3) (.opi 4) (.cst (AV.int .i64 1))⟩),(6,⟨some (.opi 2,true),.p2 (aa P 51) (.opi 3) (.opi 5)⟩),(7,⟨some (.opi 2,true),.ld1 (.opi 6)⟩),(8,⟨some (.opi 2,true),.mv (.tmp 0)⟩),(9,⟨some (.opi 2,true),.mv (.tmp 11)⟩),(10,⟨some (.opi 2,true),.p2 (aa P 51) (.opi 8) (.opi 9)⟩),(11,⟨some (.opi 2,true),.ld1 (.opi 10)⟩),(12,⟨some (.opi 2,true),.cl (cf 173) [.opi 7,.opi 11]⟩),(13,⟨some (.opi 2,true),.p1 (iG .not) (.opi 12)⟩),(14,⟨none,.pick (.opi 2) (.opi 13) (.cst (AV.bool false))⟩)]
def Ej:AC:=.draw 15 (ar #[0,1,3,7,7,23,63,127,7,7,775,1799,4095,8191,16383] xR [12] 0 (xR.filter fun x=>x.2.i.eff)) [(87,14)]
theorem VY:bY Ej fun call tm h=>let g:=ac.mk h.bs (h.next+15);B (tm.gt 1) (fun v0=>B (ag P .gtr 3 v0 (AV.int .i64 0)) (fun v1=>B (cJ true v1 (tm.gt 0)) (fun v3=>B (cJ true v1 (tm.gt 1)) (fun v4=>B (cJ true v1 (ag P .sub 3 v4 (AV.int .i64 1))) (fun v5=>B (cJ true v1 (aa P 51 v3 v5)) (fun v6=>B (cJ true v1 (am g v6)) (fun v7=>B (cJ true v1 (tm.gt 0)) (fun v8=>B (cJ true v1 (tm.gt 11)) (fun v9=>B (cJ true v1 (aa P 51 v8 v9)) (fun v10=>B (cJ true v1 (am g v10)) (fun v11=>B (match wanted true v1 with | true=>(call (.fn 173) [v7,v11] g) | false=>some (aJ,g)) (fun r12=>B (cJ true v1 (iG .not r12.1)) (fun v13=>B (cH (fun t=>match t with | true=>some v13 | false=>some (AV.bool false)) v1) (fun v14=>some ((tm.up (some v14) 87),r12.2)) tg) tg) tg) tg) tg) tg) tg) tg) tg) tg) tg) tg) tg) tg:=b8 rfl (by kernel_rfl)
def Em:AC:=.reg [⟨none,.cl (cf 174) [.tmp 0,.tmp 1,.tmp 2,.tmp 11]⟩] [(13,.loc 0)]
def En:AC:=.reg [] [(1,.tmp 13)]
def Ek:AC:=.cond (.tmp 87) (.seq Em (.seq En (.exit 1))) .skip
def Eo:AC:=.reg [⟨none,.cl (cf 175) [.tmp 0,.tmp 1,.tmp 2,.tmp 11]⟩,⟨none,.p1 (aq 0) (.loc 0)⟩,⟨none,.p1 (aq 1) (.loc 1)⟩] [(15,.loc 0),(14,.loc 1)]
def Er:AC:=.reg [] [(9,.tmp 15)]
def Es:AC:=.reg [⟨none,.p2 (ag P .sub 3) (.tmp 14) (.tmp 1)⟩,⟨none,.p2 (ag P .sub 3) (.tmp 2) (.tmp 14)⟩] [(17,.loc 0),(16,.loc 1)]
def Et:AC:=.reg [⟨none,.p2 (ag P .quo 3) (.tmp 10) (.cst (AV.int .i64 8))⟩] [(18,.loc 0)]
def Eu:AC:=.reg [⟨none,.p2 (ag P .lss 3) (.tmp 16) (.tmp 17)⟩] [(113,.loc 0)]
def Ew:AC:=.reg [⟨none,.p2 (ag P .geq 3) (.tmp 16) (.tmp 18)⟩] [(8,.loc 0)]
def Ey:AC:=.reg [⟨none,.cl (cf 143) [.tmp 0,.tmp 1,.tmp 14,.tmp 3]⟩] []
def Ez:AC:=.reg [⟨none,.p2 (ag P .add 3) (.tmp 14) (.cst (AV.int .i64 1))⟩] [(1,.loc 0)]
def EA:AC:=.reg [⟨none,.p2 (ag P .geq 3) (.tmp 17) (.tmp 18)⟩] [(8,.loc 0)]
def EB:AC:=.reg [⟨none,.p2 (ag P .add 3) (.tmp 14) (.cst (AV.int .i64 1))⟩,⟨none,.cl (cf 143) [.tmp 0,.loc 0,.tmp 2,.tmp 3]⟩] []
def EC:AC:=.reg [] [(2,.tmp 14)]
def Ev:AC:=.cond (.tmp 113) (.seq Ew (.seq Ey Ez)) (.seq EA (.seq EB EC))
def Ep:AC:=.seq Er (.seq Es (.seq Et (.seq Eu Ev)))
def qq:AC:=.seq Eo Ep
def nk:AC:=.seq (.seq Ej Ek) qq
def qp:AC:=.seq (.seq Eg Eh) nk
def qo:AC:=.seq Ea (.seq Eb qp)
def DZ:AC:=.seq (.seq D0 (.cond (.tmp 35) (.seq D1 D7) .skip)) qo
def DW:AC:=.seq (.seq DX (.cond (.tmp 29) (.seq DY .ret) .skip)) DZ
def Nf:AC:=.seq (.seq DU (.cond (.tmp 23) (.seq DV .ret) .skip)) DW
def vG:AC:=.block 1 (.seq Nd Nf)
def zbd:AC:=.loop vG
theorem dk:type_of% (kS qq rfl):=(kS qq rfl)
theorem dZ:type_of% (kS nk rfl):=(kS nk rfl)
theorem da:type_of% (kS qp rfl):=(kS qp rfl)
theorem c9:type_of% (kS qo rfl):=(kS qo rfl)
def rI:cA:=⟨(.seq Nb (.seq Nc (.block 0 zbd))),[],134,true⟩
theorem zaC:ci P (keepF P) 143=some rI:=by kernel_rfl
def jy:=An (kR Nb rfl)<|An (kR Nc rfl)<|An (kR Nd rfl)<|An (kR DU rfl)<|An (kR DV rfl)<|An (kR DX rfl)<|An (kR DY rfl)<|An (kR D0 rfl)<|An (kR D1 rfl)<|An (kR D7 rfl)<|An (kR Ea rfl)<|An (kR Ec rfl)<|An (kR Ed rfl)<|An (kR Ee rfl)<|An (kR Ef rfl)<|An (kS Eb rfl)<|An (kR Eg rfl)<|An (kR Ei rfl)<|An (kC Eh rfl)<|An VY<|An (kR Em rfl)<|An (kR En rfl)<|An (kC Ek rfl)<|An (kR Eo rfl)<|An (kR Er rfl)<|An (kR Es rfl)<|An (kR Et rfl)<|An (kR Eu rfl)<|An (kR Ew rfl)<|An (kR Ey rfl)<|An (kR Ez rfl)<|An (kR EA rfl)<|An (kR EB rfl)<|An (kR EC rfl)<|An (kC Ev rfl)<|An (kS Ep rfl)<|An (kS DZ rfl)<|An (kS DW rfl)<|An (kS Nf rfl)<|(kB vG rfl)
def Ng:AC:=.reg [] [(2,.cst (AV.int .i64 0))]
def Ni:AC:=.reg [⟨none,.p1 (eU P 154 48) (.tmp 0)⟩,⟨none,.cl (cf 176) [.loc 0]⟩] [(2,.loc 0)]
def Nj:AC:=.reg [⟨none,.cl (cf 177) [.tmp 0]⟩] [(2,.loc 0)]
def Nh:AC:=.seq (.cond (.cst (AV.bool false)) (.seq Ni .ret) .skip) (.seq Nj .ret)
def Io:cA:=⟨(.seq Ng Nh),[.tmp 2],8,true⟩
theorem zef:ci P (keepF P) 144=some Io:=by kernel_rfl
def zfU:=An (kR Ng rfl)<|An (kR Ni rfl)<|An (kR Nj rfl)<|(kS Nh rfl)
def Oh:AC:=.reg [⟨none,.p2 (ag P .add 3) (.tmp 1) (.cst (AV.int .i64 1))⟩] [(6,.loc 0)]
def Oi:AC:=.reg [⟨none,.p2 (ag P .lss 3) (.tmp 6) (.tmp 2)⟩] [(12,.loc 0)]
def FC:AC:=.reg [] [(7,.tmp 6)]
def xX:List (Nat×aw):=[(0,⟨none,.mv (.tmp 7)⟩),(1,⟨none,.mv (.tmp 1)⟩),(2,⟨none,.p2 (ag P .gtr 3) (.opi 0) (.opi 1)⟩),(3,⟨none,.mv (.opi 2)⟩),(4,⟨some (.opi 3,true),.mv (.tmp 0)⟩),(5,⟨some (.opi 3,true),.mv (.tmp 7)⟩),(6,⟨some (.opi 3,true),.p2 (aa P 51) (.opi 4) (.opi 5)⟩),(7,⟨some (.opi 3,true),.ld1 (.opi 6)⟩),(8,⟨some (.opi 3,true),.mv (.tmp 0)⟩),(9,⟨some (.opi 3,true),.mv (.tmp 7)⟩),(10,⟨some (.opi 3,true),.p2 (ag P .sub 3) (.opi 9) (.cst (AV.int .i64 1))⟩),(11,⟨some (.opi 3,true),.p2 (aa P 51) (.opi 8) (.opi 10)⟩),(12,⟨some (.opi 3,true),.ld1 (.opi 11)⟩),(13,⟨some (.opi 3,true),.cl (cf 173) [.opi 7,.opi 12]⟩),(14,⟨none,.pick (.opi 3) (.opi 13) (.cst (AV.bool false))⟩)]
def FD:AC:=.draw 15 (ar #[0,0,3,7,15,15,63,127,15,15,527,1807,3855,8191,16383] xX [13] 0 (xX.filter fun x=>x.2.i.eff)) [(30,14)]
theorem V4:bY FD fun call tm h=>let g:=ac.mk h.bs (h.next+15);B (tm.gt 7) (fun v0=>B (tm.gt 1) (fun v1=>B (ag P .gtr 3 v0 v1) (fun v2=>B (cJ true v2 (tm.gt 0)) (fun v4=>B (cJ true v2 (tm.gt 7)) (fun v5=>B (cJ true v2 (aa P 51 v4 v5)) (fun v6=>B (cJ true v2 (am g v6)) (fun v7=>B (cJ true v2 (tm.gt 0)) (fun v8=>B (cJ true v2 (tm.gt 7)) (fun v9=>B (cJ true v2 (ag P .sub 3 v9 (AV.int .i64 1))) (fun v10=>B (cJ true v2 (aa P 51 v8 v10)) (fun v11=>B (cJ true v2 (am g v11)) (fun v12=>B (match wanted true v2 with | true=>(call (.fn 173) [v7,v12] g) | false=>some (aJ,g)) (fun r13=>B (cH (fun t=>match t with | true=>some r13.1 | false=>some (AV.bool false)) v2) (fun v14=>some ((tm.up (some v14) 30),r13.2)) tg) tg) tg) tg) tg) tg) tg) tg) tg) tg) tg) tg) tg) tg:=b8 rfl (by kernel_rfl)
def xY:List (Nat×aw):=[(0,⟨none,.mv (.tmp 0)⟩),(1,⟨none,.mv (.tmp 7)⟩),(2,⟨none,.mv (.tmp 0)⟩),(3,⟨none,.mv (.tmp 7)⟩),(4,⟨none,.p2 (ag P .sub 3) (.opi 3) (.cst (AV.int .i64 1))⟩),(5,⟨none,.mv (.tmp 0)⟩),(6,⟨none,.mv (.tmp 7)⟩),(7,⟨none,.p2 (ag P .sub 3) (.opi 6) (.cst (AV.int .i64 1))⟩),(8,⟨none,.p2 (aa P 51) (.opi 5) (.opi 7)⟩),(9,⟨none,.ld1 (.opi 8)⟩),(10,⟨none,.mv (.tmp 0)⟩),(11,⟨none,.mv (.tmp 7)⟩),(12,⟨none,.p2 (aa P 51) (.opi 10) (.opi 11)⟩),(13,⟨none,.ld1 (.opi 12)⟩),(14,⟨none,.p2 (aa P 51) (.opi 0) (.opi 1)⟩),(15,⟨none,.st1 (.opi 14) (.opi 9)⟩),(16,⟨none,.p2 (aa P 51) (.opi 2) (.opi 4)⟩),(17,⟨none,.st1 (.opi 16) (.opi 13)⟩)]
def FE:AC:=.draw 18 (ar #[0,0,0,0,8,0,0,64,224,480,0,0,3072,7168,16355,32739,65535,131071] xY [15,17] 0 (xY.filter fun x=>x.2.i.eff)) []
theorem V5:bY FE fun call tm h=>let g:=ac.mk h.bs (h.next+18);B (tm.gt 0) (fun v0=>B (tm.gt 7) (fun v1=>B (tm.gt 0) (fun v2=>B (tm.gt 7) (fun v3=>B (ag P .sub 3 v3 (AV.int .i64 1)) (fun v4=>B (tm.gt 0) (fun v5=>B (tm.gt 7) (fun v6=>B (ag P .sub 3 v6 (AV.int .i64 1)) (fun v7=>B (aa P 51 v5 v7) (fun v8=>B (am g v8) (fun v9=>B (tm.gt 0) (fun v10=>B (tm.gt 7) (fun v11=>B (aa P 51 v10 v11) (fun v12=>B (am g v12) (fun v13=>B (aa P 51 v0 v1) (fun v14=>B (aW g v14 v9) (fun r15=>B (aa P 51 v2 v4) (fun v16=>B (aW r15.2 v16 v13) (fun r17=>some (tm,r17.2)) tg) tg) tg) tg) tg) tg) tg) tg) tg) tg) tg) tg) tg) tg) tg) tg) tg) tg:=b8 rfl (by kernel_rfl)
def FF:AC:=.reg [⟨none,.p2 (ag P .sub 3) (.tmp 7) (.cst (AV.int .i64 1))⟩] [(7,.loc 0)]
def vJ:AC:=.seq (.seq FD (.cond (.tmp 30) .skip (.exit 2))) (.seq (.block 3 FE) FF)
def Ur:AC:=.loop vJ
def FG:AC:=.reg [⟨none,.p2 (ag P .add 3) (.tmp 6) (.cst (AV.int .i64 1))⟩] [(6,.loc 0)]
def AU:AC:=.seq (.seq Oi (.cond (.tmp 12) .skip (.exit 0))) (.seq (.block 1 (.seq FC (.block 2 Ur))) FG)
def zbj:AC:=.loop AU
def Iz:cA:=⟨(.seq Oh (.block 0 zbj)),[],49,true⟩
theorem zer:ci P (keepF P) 167=some Iz:=by kernel_rfl
def xF:=An (kR Oh rfl)<|An (kR Oi rfl)<|An (kR FC rfl)<|An V4<|An V5<|An (kR FF rfl)<|An (kS vJ rfl)<|An (kR FG rfl)<|(kS AU rfl)
def Oj:AC:=.reg [] [(6,.tmp 1)]
def Ol:AC:=.reg [] [(7,.cst (AV.int .i64 0))]
def Om:AC:=.reg [⟨none,.p2 (ag P .sub 3) (.tmp 2) (.tmp 1)⟩] [(8,.loc 0)]
def Oo:AC:=.reg [⟨none,.p2 (ag P .sub 3) (.tmp 8) (.cst (AV.int .i64 1))⟩,⟨none,.p2 (ag P .quo 3) (.loc 0) (.cst (AV.int .i64 2))⟩] [(9,.loc 0)]
def FH:AC:=.reg [⟨none,.p2 (ag P .geq 3) (.tmp 9) (.cst (AV.int .i64 0))⟩] [(19,.loc 0)]
def FI:AC:=.reg [⟨none,.cl (cf 182) [.tmp 0,.tmp 9,.tmp 8,.tmp 6]⟩] []
def FJ:AC:=.reg [⟨none,.p2 (ag P .sub 3) (.tmp 9) (.cst (AV.int .i64 1))⟩] [(9,.loc 0)]
def vK:AC:=.seq (.seq FH (.cond (.tmp 19) .skip (.exit 0))) (.seq (.block 1 FI) FJ)
def Us:AC:=.loop vK
def FK:AC:=.reg [⟨none,.p2 (ag P .sub 3) (.tmp 8) (.cst (AV.int .i64 1))⟩] [(10,.loc 0)]
def FL:AC:=.reg [⟨none,.p2 (ag P .geq 3) (.tmp 10) (.cst (AV.int .i64 0))⟩] [(30,.loc 0)]
def xZ:List (Nat×aw):=[(0,⟨none,.mv (.tmp 0)⟩),(1,⟨none,.mv (.tmp 6)⟩),(2,⟨none,.mv (.tmp 0)⟩),(3,⟨none,.mv (.tmp 6)⟩),(4,⟨none,.mv (.tmp 10)⟩),(5,⟨none,.p2 (ag P .add 3) (.opi 3) (.opi 4)⟩),(6,⟨none,.mv (.tmp 0)⟩),(7,⟨none,.mv (.tmp 6)⟩),(8,⟨none,.mv (.tmp 10)⟩),(9,⟨none,.p2 (ag P .add 3) (.opi 7) (.opi 8)⟩),(10,⟨none,.p2 (aa P 51) (.opi 6) (.opi 9)⟩),(11,⟨none,.ld1 (.opi 10)⟩),(12,⟨none,.mv (.tmp 0)⟩),(13,⟨none,.mv (.tmp 6)⟩),(14,⟨none,.p2 (aa P 51) (.opi 12) (.opi 13)⟩),(15,⟨none,.ld1 (.opi 14)⟩),(16,⟨none,.p2 (aa P 51) (.opi 0) (.opi 1)⟩),(17,⟨none,.st1 (.opi 16) (.opi 11)⟩),(18,⟨none,.p2 (aa P 51) (.opi 2) (.opi 5)⟩),(19,⟨none,.st1 (.opi 18) (.opi 15)⟩)]
def FM:AC:=.draw 20 (ar #[0,0,0,0,0,24,0,0,0,384,960,1984,0,0,12288,28672,65475,131011,262143,524287] xZ [17,19] 0 (xZ.filter fun x=>x.2.i.eff)) []
theorem V6:bY FM fun call tm h=>let g:=ac.mk h.bs (h.next+20);B (tm.gt 0) (fun v0=>B (tm.gt 6) (fun v1=>B (tm.gt 0) (fun v2=>B (tm.gt 6) (fun v3=>B (tm.gt 10) (fun v4=>B (ag P .add 3 v3 v4) (fun v5=>B (tm.gt 0) (fun v6=>B (tm.gt 6) (fun v7=>B (tm.gt 10) (fun v8=>B (ag P .add 3 v7 v8) (fun v9=>B (aa P 51 v6 v9) (fun v10=>B (am g v10) (fun v11=>B (tm.gt 0) (fun v12=>B (tm.gt 6) (fun v13=>B (aa P 51 v12 v13) (fun v14=>B (am g v14) (fun v15=>B (aa P 51 v0 v1) (fun v16=>B (aW g v16 v11) (fun r17=>B (aa P 51 v2 v5) (fun v18=>B (aW r17.2 v18 v15) (fun r19=>some (tm,r19.2)) tg) tg) tg) tg) tg) tg) tg) tg) tg) tg) tg) tg) tg) tg) tg) tg) tg) tg) tg) tg:=b8 rfl (by kernel_rfl)
def FN:AC:=.reg [⟨none,.cl (cf 182) [.tmp 0,.tmp 7,.tmp 10,.tmp 6]⟩] []
def FO:AC:=.reg [⟨none,.p2 (ag P .sub 3) (.tmp 10) (.cst (AV.int .i64 1))⟩] [(10,.loc 0)]
def vL:AC:=.seq (.seq FL (.cond (.tmp 30) .skip (.exit 2))) (.seq (.block 3 (.seq FM FN)) FO)
def Ut:AC:=.loop vL
def On:AC:=.seq (.seq Oo (.block 0 Us)) (.seq FK (.block 2 Ut))
def IA:cA:=⟨(.seq Oj (.seq Ol (.seq Om On))),[],56,true⟩
theorem zes:ci P (keepF P) 168=some IA:=by kernel_rfl
def Jn:=An (kR Oj rfl)<|An (kR Ol rfl)<|An (kR Om rfl)<|An (kR Oo rfl)<|An (kR FH rfl)<|An (kR FI rfl)<|An (kR FJ rfl)<|An (kS vK rfl)<|An (kR FK rfl)<|An (kR FL rfl)<|An V6<|An (kR FN rfl)<|An (kR FO rfl)<|An (kS vL rfl)<|(kS On rfl)
def Oq:AC:=.reg [⟨none,.p2 (ag P .sub 3) (.tmp 2) (.tmp 1)⟩] [(6,.loc 0)]
def Ot:AC:=.reg [⟨none,.p2 (ag P .geq 3) (.tmp 6) (.cst (AV.int .i64 8))⟩] [(15,.loc 0)]
def Ov:AC:=.reg [⟨none,.p1 (eU P 3 257) (.tmp 6)⟩,⟨none,.al (fun (_:List AV)=>bQ P 257) []⟩,⟨none,.st1 (.loc 0) (.loc 1)⟩] [(7,.loc 1)]
def Ow:AC:=.reg [⟨none,.cl (cf 183) [.tmp 6]⟩] [(8,.loc 0)]
def FP:AC:=.reg [⟨none,.p2 (ag P .quo 3) (.tmp 6) (.cst (AV.int .i64 4))⟩,⟨none,.p2 (ag P .mul 3) (.loc 0) (.cst (AV.int .i64 2))⟩,⟨none,.p2 (ag P .add 3) (.tmp 1) (.loc 0)⟩,⟨none,.p2 (ag P .sub 3) (.loc 0) (.cst (AV.int .i64 1))⟩] [(9,.loc 0)]
def FQ:AC:=.reg [⟨none,.p2 (ag P .quo 3) (.tmp 6) (.cst (AV.int .i64 4))⟩,⟨none,.p2 (ag P .mul 3) (.loc 0) (.cst (AV.int .i64 2))⟩,⟨none,.p2 (ag P .add 3) (.tmp 1) (.loc 0)⟩,⟨none,.p2 (ag P .add 3) (.loc 0) (.cst (AV.int .i64 1))⟩,⟨none,.p2 (ag P .leq 3) (.tmp 9) (.loc 0)⟩] [(33,.loc 0)]
def FS:AC:=.reg [⟨none,.cl (cf 184) [.tmp 7]⟩,⟨none,.p2 (ag P .sub 154) (.tmp 8) (.cst (AV.int .u64 1))⟩,⟨none,.p2 (ag P .and 154) (.loc 1) (.loc 0)⟩,⟨none,.p1 (eU P 154 3) (.loc 0)⟩] [(10,.loc 0)]
def FT:AC:=.reg [⟨none,.p2 (ag P .geq 3) (.tmp 10) (.tmp 6)⟩] [(43,.loc 0)]
def FU:AC:=.reg [⟨none,.p2 (ag P .sub 3) (.tmp 10) (.tmp 6)⟩] [(10,.loc 0)]
def x6:List (Nat×aw):=[(0,⟨none,.mv (.tmp 0)⟩),(1,⟨none,.mv (.tmp 9)⟩),(2,⟨none,.mv (.tmp 0)⟩),(3,⟨none,.mv (.tmp 1)⟩),(4,⟨none,.mv (.tmp 10)⟩),(5,⟨none,.p2 (ag P .add 3) (.opi 3) (.opi 4)⟩),(6,⟨none,.mv (.tmp 0)⟩),(7,⟨none,.mv (.tmp 1)⟩),(8,⟨none,.mv (.tmp 10)⟩),(9,⟨none,.p2 (ag P .add 3) (.opi 7) (.opi 8)⟩),(10,⟨none,.p2 (aa P 51) (.opi 6) (.opi 9)⟩),(11,⟨none,.ld1 (.opi 10)⟩),(12,⟨none,.mv (.tmp 0)⟩),(13,⟨none,.mv (.tmp 9)⟩),(14,⟨none,.p2 (aa P 51) (.opi 12) (.opi 13)⟩),(15,⟨none,.ld1 (.opi 14)⟩),(16,⟨none,.p2 (aa P 51) (.opi 0) (.opi 1)⟩),(17,⟨none,.st1 (.opi 16) (.opi 11)⟩),(18,⟨none,.p2 (aa P 51) (.opi 2) (.opi 5)⟩),(19,⟨none,.st1 (.opi 18) (.opi 15)⟩)]
def vN:AC:=.draw 20 (ar #[0,0,0,0,0,24,0,0,0,384,960,1984,0,0,12288,28672,65475,131011,262143,524287] x6 [17,19] 0 (x6.filter fun x=>x.2.i.eff)) []
theorem wW:bY vN fun call tm h=>let g:=ac.mk h.bs (h.next+20);B (tm.gt 0) (fun v0=>B (tm.gt 9) (fun v1=>B (tm.gt 0) (fun v2=>B (tm.gt 1) (fun v3=>B (tm.gt 10) (fun v4=>B (ag P .add 3 v3 v4) (fun v5=>B (tm.gt 0) (fun v6=>B (tm.gt 1) (fun v7=>B (tm.gt 10) (fun v8=>B (ag P .add 3 v7 v8) (fun v9=>B (aa P 51 v6 v9) (fun v10=>B (am g v10) (fun v11=>B (tm.gt 0) (fun v12=>B (tm.gt 9) (fun v13=>B (aa P 51 v12 v13) (fun v14=>B (am g v14) (fun v15=>B (aa P 51 v0 v1) (fun v16=>B (aW g v16 v11) (fun r17=>B (aa P 51 v2 v5) (fun v18=>B (aW r17.2 v18 v15) (fun r19=>some (tm,r19.2)) tg) tg) tg) tg) tg) tg) tg) tg) tg) tg) tg) tg) tg) tg) tg) tg) tg) tg) tg) tg:=b8 rfl (by kernel_rfl)
def FR:AC:=.seq FS (.seq (.seq FT (.cond (.tmp 43) FU .skip)) vN)
def vO:AC:=.reg [⟨none,.p2 (ag P .add 3) (.tmp 9) (.cst (AV.int .i64 1))⟩] [(9,.loc 0)]
def vM:AC:=.seq (.seq FQ (.cond (.tmp 33) .skip (.exit 0))) (.seq (.block 1 FR) vO)
def Uu:AC:=.loop vM
def Ou:AC:=.cond (.tmp 15) (.seq Ov (.seq Ow (.seq FP (.block 0 Uu)))) .skip
def IB:cA:=⟨(.seq Oq (.seq Ot Ou)),[],65,true⟩
theorem zet:ci P (keepF P) 169=some IB:=by kernel_rfl
def Lf:=An (kR Oq rfl)<|An (kR Ot rfl)<|An (kR Ov rfl)<|An (kR Ow rfl)<|An (kR FP rfl)<|An (kR FQ rfl)<|An (kR FS rfl)<|An (kR FT rfl)<|An (kR FU rfl)<|An (kS FR rfl)<|An (kR vO rfl)<|An (kS vM rfl)<|(kC Ou rfl)
def ON:AC:=.reg [] [(7,.cst (AV.int .i64 0)),(6,.cst (AV.int .i64 0))]
def OO:AC:=.reg [⟨none,.p2 (ag P .sub 3) (.tmp 2) (.tmp 1)⟩] [(8,.loc 0)]
def OQ:AC:=.reg [⟨none,.al (fun (_:List AV)=>bQ P 3) []⟩] [(9,.loc 0)]
def OS:AC:=.reg [⟨none,.p2 (ag P .quo 3) (.tmp 8) (.cst (AV.int .i64 4))⟩,⟨none,.p2 (ag P .mul 3) (.loc 0) (.cst (AV.int .i64 1))⟩,⟨none,.p2 (ag P .add 3) (.tmp 1) (.loc 0)⟩] [(10,.loc 0)]
def OT:AC:=.reg [⟨none,.p2 (ag P .quo 3) (.tmp 8) (.cst (AV.int .i64 4))⟩,⟨none,.p2 (ag P .mul 3) (.loc 0) (.cst (AV.int .i64 2))⟩,⟨none,.p2 (ag P .add 3) (.tmp 1) (.loc 0)⟩] [(11,.loc 0)]
def FW:AC:=.reg [⟨none,.p2 (ag P .quo 3) (.tmp 8) (.cst (AV.int .i64 4))⟩,⟨none,.p2 (ag P .mul 3) (.loc 0) (.cst (AV.int .i64 3))⟩,⟨none,.p2 (ag P .add 3) (.tmp 1) (.loc 0)⟩] [(12,.loc 0)]
def FY:AC:=.reg [⟨none,.p2 (ag P .geq 3) (.tmp 8) (.cst (AV.int .i64 8))⟩] [(32,.loc 0)]
def F2:AC:=.reg [⟨none,.p2 (ag P .geq 3) (.tmp 8) (.cst (AV.int .i64 50))⟩] [(34,.loc 0)]
def F4:AC:=.reg [⟨none,.cl (cf 185) [.tmp 0,.tmp 10,.tmp 9]⟩] [(10,.loc 0)]
def F5:AC:=.reg [⟨none,.cl (cf 185) [.tmp 0,.tmp 11,.tmp 9]⟩] [(11,.loc 0)]
def F6:AC:=.reg [⟨none,.cl (cf 185) [.tmp 0,.tmp 12,.tmp 9]⟩] [(12,.loc 0)]
def FZ:AC:=.seq F2 (.cond (.tmp 34) (.seq F4 (.seq F5 F6)) .skip)
def Ga:AC:=.reg [⟨none,.cl (cf 186) [.tmp 0,.tmp 10,.tmp 11,.tmp 12,.tmp 9]⟩] [(11,.loc 0)]
def Gb:AC:=.reg [⟨none,.ld1 (.tmp 9)⟩] [(49,.loc 0)]
def Gd:AC:=.reg [⟨none,.p2 (ag P .eql 3) (.tmp 49) (.cst (AV.int .i64 0))⟩] [(51,.loc 0)]
def Ge:AC:=.reg [] [(7,.cst (AV.int .i64 1)),(6,.tmp 11)]
def Gg:AC:=.reg [⟨none,.p2 (ag P .eql 3) (.tmp 49) (.cst (AV.int .i64 12))⟩] [(54,.loc 0)]
def Gh:AC:=.reg [] [(7,.cst (AV.int .i64 2)),(6,.tmp 11)]
def Gi:AC:=.reg [] [(7,.cst (AV.int .i64 0)),(6,.tmp 11)]
def Gf:AC:=.seq Gg (.cond (.tmp 54) (.seq Gh .ret) (.seq Gi .ret))
def Gc:AC:=.block 0 (.seq Gd (.cond (.tmp 51) (.seq Ge .ret) Gf))
def qr:AC:=.seq Gb Gc
def FX:AC:=.seq (.seq FY (.cond (.tmp 32) (.seq FZ Ga) .skip)) qr
def OP:AC:=.seq OQ (.seq OS (.seq OT (.seq FW FX)))
theorem wX:type_of% (kS qr rfl):=(kS qr rfl)
def IC:cA:=⟨(.seq ON (.seq OO OP)),[.tmp 6,.tmp 7],57,true⟩
theorem zeu:ci P (keepF P) 170=some IC:=by kernel_rfl
def Lg:=An (kR ON rfl)<|An (kR OO rfl)<|An (kR OQ rfl)<|An (kR OS rfl)<|An (kR OT rfl)<|An (kR FW rfl)<|An (kR FY rfl)<|An (kR F2 rfl)<|An (kR F4 rfl)<|An (kR F5 rfl)<|An (kR F6 rfl)<|An (kS FZ rfl)<|An (kR Ga rfl)<|An (kR Gb rfl)<|An (kR Gd rfl)<|An (kR Ge rfl)<|An (kR Gg rfl)<|An (kR Gh rfl)<|An (kR Gi rfl)<|An (kS Gf rfl)<|An (kB Gc rfl)<|An (kS FX rfl)<|(kS OP rfl)
def OU:AC:=.reg [] [(6,.tmp 1)]
def OV:AC:=.reg [⟨none,.p2 (ag P .sub 3) (.tmp 2) (.cst (AV.int .i64 1))⟩] [(7,.loc 0)]
def OW:AC:=.reg [⟨none,.p2 (ag P .lss 3) (.tmp 6) (.tmp 7)⟩] [(13,.loc 0)]
def x7:List (Nat×aw):=[(0,⟨none,.mv (.tmp 0)⟩),(1,⟨none,.mv (.tmp 6)⟩),(2,⟨none,.mv (.tmp 0)⟩),(3,⟨none,.mv (.tmp 7)⟩),(4,⟨none,.mv (.tmp 0)⟩),(5,⟨none,.mv (.tmp 7)⟩),(6,⟨none,.p2 (aa P 51) (.opi 4) (.opi 5)⟩),(7,⟨none,.ld1 (.opi 6)⟩),(8,⟨none,.mv (.tmp 0)⟩),(9,⟨none,.mv (.tmp 6)⟩),(10,⟨none,.p2 (aa P 51) (.opi 8) (.opi 9)⟩),(11,⟨none,.ld1 (.opi 10)⟩),(12,⟨none,.p2 (aa P 51) (.opi 0) (.opi 1)⟩),(13,⟨none,.st1 (.opi 12) (.opi 7)⟩),(14,⟨none,.p2 (aa P 51) (.opi 2) (.opi 3)⟩),(15,⟨none,.st1 (.opi 14) (.opi 11)⟩)]
def Gj:AC:=.draw 16 (ar #[0,0,0,0,0,0,48,112,0,0,768,1792,4083,8179,16383,32767] x7 [13,15] 0 (x7.filter fun x=>x.2.i.eff)) []
theorem V7:bY Gj fun call tm h=>let g:=ac.mk h.bs (h.next+16);B (tm.gt 0) (fun v0=>B (tm.gt 6) (fun v1=>B (tm.gt 0) (fun v2=>B (tm.gt 7) (fun v3=>B (tm.gt 0) (fun v4=>B (tm.gt 7) (fun v5=>B (aa P 51 v4 v5) (fun v6=>B (am g v6) (fun v7=>B (tm.gt 0) (fun v8=>B (tm.gt 6) (fun v9=>B (aa P 51 v8 v9) (fun v10=>B (am g v10) (fun v11=>B (aa P 51 v0 v1) (fun v12=>B (aW g v12 v7) (fun r13=>B (aa P 51 v2 v3) (fun v14=>B (aW r13.2 v14 v11) (fun r15=>some (tm,r15.2)) tg) tg) tg) tg) tg) tg) tg) tg) tg) tg) tg) tg) tg) tg) tg) tg:=b8 rfl (by kernel_rfl)
def Gk:AC:=.reg [⟨none,.p2 (ag P .add 3) (.tmp 6) (.cst (AV.int .i64 1))⟩] [(6,.loc 0)]
def Gl:AC:=.reg [⟨none,.p2 (ag P .sub 3) (.tmp 7) (.cst (AV.int .i64 1))⟩] [(7,.loc 0)]
def AY:AC:=.seq (.seq OW (.cond (.tmp 13) .skip (.exit 0))) (.block 1 (.seq Gj (.seq Gk Gl)))
def zbm:AC:=.loop AY
def ID:cA:=⟨(.seq OU (.seq OV (.block 0 zbm))),[],32,true⟩
theorem zev:ci P (keepF P) 171=some ID:=by kernel_rfl
def zaX:=An (kR OU rfl)<|An (kR OV rfl)<|An (kR OW rfl)<|An V7<|An (kR Gk rfl)<|An (kR Gl rfl)<|(kS AY rfl)
def OX:AC:=.reg [] [(6,.cst (AV.bool false))]
def OZ:AC:=.reg [⟨none,.p2 (ag P .add 3) (.tmp 1) (.cst (AV.int .i64 1))⟩] [(7,.loc 0)]
def O0:AC:=.reg [] [(8,.cst (AV.int .i64 0))]
def Gm:AC:=.reg [⟨none,.p2 (ag P .lss 3) (.tmp 8) (.cst (AV.int .i64 5))⟩] [(14,.loc 0)]
def x8:List (Nat×aw):=[(0,⟨none,.mv (.tmp 7)⟩),(1,⟨none,.mv (.tmp 2)⟩),(2,⟨none,.p2 (ag P .lss 3) (.opi 0) (.opi 1)⟩),(3,⟨none,.mv (.opi 2)⟩),(4,⟨some (.opi 3,true),.mv (.tmp 0)⟩),(5,⟨some (.opi 3,true),.mv (.tmp 7)⟩),(6,⟨some (.opi 3,true),.p2 (aa P 51) (.opi 4) (.opi 5)⟩),(7,⟨some (.opi 3,true),.ld1 (.opi 6)⟩),(8,⟨some (.opi 3,true),.mv (.tmp 0)⟩),(9,⟨some (.opi 3,true),.mv (.tmp 7)⟩),(10,⟨some (.opi 3,true),.p2 (ag P .sub 3) (.opi 9) (.cst (AV.int .i64 1))⟩),(11,⟨some (.opi 3,true),.p2 (aa P 51) (.opi 8) (.opi 10)⟩),(12,⟨some (.opi 3,true),.ld1 (.opi 11)⟩),(13,⟨some (.opi 3,true),.cl (cf 173) [.opi 7,.opi 12]⟩),(14,⟨some (.opi 3,true),.p1 (iG .not) (.opi 13)⟩),(15,⟨none,.pick (.opi 3) (.opi 14) (.cst (AV.bool false))⟩)]
def Gp:AC:=.draw 16 (ar #[0,0,3,7,15,15,63,127,15,15,527,1807,3855,8191,16383,32767] x8 [13] 0 (x8.filter fun x=>x.2.i.eff)) [(32,15)]
theorem V8:bY Gp fun call tm h=>let g:=ac.mk h.bs (h.next+16);B (tm.gt 7) (fun v0=>B (tm.gt 2) (fun v1=>B (ag P .lss 3 v0 v1) (fun v2=>B (cJ true v2 (tm.gt 0)) (fun v4=>B (cJ true v2 (tm.gt 7)) (fun v5=>B (cJ true v2 (aa P 51 v4 v5)) (fun v6=>B (cJ true v2 (am g v6)) (fun v7=>B (cJ true v2 (tm.gt 0)) (fun v8=>B (cJ true v2 (tm.gt 7)) (fun v9=>B (cJ true v2 (ag P .sub 3 v9 (AV.int .i64 1))) (fun v10=>B (cJ true v2 (aa P 51 v8 v10)) (fun v11=>B (cJ true v2 (am g v11)) (fun v12=>B (match wanted true v2 with | true=>(call (.fn 173) [v7,v12] g) | false=>some (aJ,g)) (fun r13=>B (cJ true v2 (iG .not r13.1)) (fun v14=>B (cH (fun t=>match t with | true=>some v14 | false=>some (AV.bool false)) v2) (fun v15=>some ((tm.up (some v15) 32),r13.2)) tg) tg) tg) tg) tg) tg) tg) tg) tg) tg) tg) tg) tg) tg) tg:=b8 rfl (by kernel_rfl)
def Gq:AC:=.reg [⟨none,.p2 (ag P .add 3) (.tmp 7) (.cst (AV.int .i64 1))⟩] [(7,.loc 0)]
def vP:AC:=.seq (.seq Gp (.cond (.tmp 32) .skip (.exit 2))) (.block 3 Gq)
def Gn:AC:=.loop vP
def Gs:AC:=.reg [⟨none,.p2 (ag P .eql 3) (.tmp 7) (.tmp 2)⟩] [(37,.loc 0)]
def Gt:AC:=.reg [] [(6,.cst (AV.bool true))]
def Gv:AC:=.reg [⟨none,.p2 (ag P .sub 3) (.tmp 2) (.tmp 1)⟩,⟨none,.p2 (ag P .lss 3) (.loc 0) (.cst (AV.int .i64 50))⟩] [(41,.loc 0)]
def Gw:AC:=.reg [] [(6,.cst (AV.bool false))]
def x9:List (Nat×aw):=[(0,⟨none,.mv (.tmp 0)⟩),(1,⟨none,.mv (.tmp 7)⟩),(2,⟨none,.mv (.tmp 0)⟩),(3,⟨none,.mv (.tmp 7)⟩),(4,⟨none,.p2 (ag P .sub 3) (.opi 3) (.cst (AV.int .i64 1))⟩),(5,⟨none,.mv (.tmp 0)⟩),(6,⟨none,.mv (.tmp 7)⟩),(7,⟨none,.p2 (ag P .sub 3) (.opi 6) (.cst (AV.int .i64 1))⟩),(8,⟨none,.p2 (aa P 51) (.opi 5) (.opi 7)⟩),(9,⟨none,.ld1 (.opi 8)⟩),(10,⟨none,.mv (.tmp 0)⟩),(11,⟨none,.mv (.tmp 7)⟩),(12,⟨none,.p2 (aa P 51) (.opi 10) (.opi 11)⟩),(13,⟨none,.ld1 (.opi 12)⟩),(14,⟨none,.p2 (aa P 51) (.opi 0) (.opi 1)⟩),(15,⟨none,.st1 (.opi 14) (.opi 9)⟩),(16,⟨none,.p2 (aa P 51) (.opi 2) (.opi 4)⟩),(17,⟨none,.st1 (.opi 16) (.opi 13)⟩)]
def Gx:AC:=.draw 18 (ar #[0,0,0,0,8,0,0,64,224,480,0,0,3072,7168,16355,32739,65535,131071] x9 [15,17] 0 (x9.filter fun x=>x.2.i.eff)) []
theorem V9:bY Gx fun call tm h=>let g:=ac.mk h.bs (h.next+18);B (tm.gt 0) (fun v0=>B (tm.gt 7) (fun v1=>B (tm.gt 0) (fun v2=>B (tm.gt 7) (fun v3=>B (ag P .sub 3 v3 (AV.int .i64 1)) (fun v4=>B (tm.gt 0) (fun v5=>B (tm.gt 7) (fun v6=>B (ag P .sub 3 v6 (AV.int .i64 1)) (fun v7=>B (aa P 51 v5 v7) (fun v8=>B (am g v8) (fun v9=>B (tm.gt 0) (fun v10=>B (tm.gt 7) (fun v11=>B (aa P 51 v10 v11) (fun v12=>B (am g v12) (fun v13=>B (aa P 51 v0 v1) (fun v14=>B (aW g v14 v9) (fun r15=>B (aa P 51 v2 v4) (fun v16=>B (aW r15.2 v16 v13) (fun r17=>some (tm,r17.2)) tg) tg) tg) tg) tg) tg) tg) tg) tg) tg) tg) tg) tg) tg) tg) tg) tg) tg:=b8 rfl (by kernel_rfl)
def Gz:AC:=.reg [⟨none,.p2 (ag P .sub 3) (.tmp 7) (.tmp 1)⟩,⟨none,.p2 (ag P .geq 3) (.loc 0) (.cst (AV.int .i64 2))⟩] [(61,.loc 0)]
def GA:AC:=.reg [⟨none,.p2 (ag P .sub 3) (.tmp 7) (.cst (AV.int .i64 1))⟩] [(9,.loc 0)]
def GC:AC:=.reg [⟨none,.p2 (ag P .geq 3) (.tmp 9) (.cst (AV.int .i64 1))⟩] [(65,.loc 0)]
def ya:List (Nat×aw):=[(0,⟨none,.mv (.tmp 0)⟩),(1,⟨none,.mv (.tmp 9)⟩),(2,⟨none,.p2 (aa P 51) (.opi 0) (.opi 1)⟩),(3,⟨none,.ld1 (.opi 2)⟩),(4,⟨none,.mv (.tmp 0)⟩),(5,⟨none,.mv (.tmp 9)⟩),(6,⟨none,.p2 (ag P .sub 3) (.opi 5) (.cst (AV.int .i64 1))⟩),(7,⟨none,.p2 (aa P 51) (.opi 4) (.opi 6)⟩),(8,⟨none,.ld1 (.opi 7)⟩),(9,⟨none,.cl (cf 173) [.opi 3,.opi 8]⟩),(10,⟨none,.p1 (iG .not) (.opi 9)⟩)]
def GE:AC:=.draw 11 (ar #[0,0,3,7,0,0,32,112,240,511,1023] ya [9] 0 (ya.filter fun x=>x.2.i.eff)) [(78,10)]
theorem Wa:bY GE fun call tm h=>let g:=ac.mk h.bs (h.next+11);B (tm.gt 0) (fun v0=>B (tm.gt 9) (fun v1=>B (aa P 51 v0 v1) (fun v2=>B (am g v2) (fun v3=>B (tm.gt 0) (fun v4=>B (tm.gt 9) (fun v5=>B (ag P .sub 3 v5 (AV.int .i64 1)) (fun v6=>B (aa P 51 v4 v6) (fun v7=>B (am g v7) (fun v8=>B (call (.fn 173) [v3,v8] g) (fun r9=>B (iG .not r9.1) (fun v10=>some ((tm.up (some v10) 78),r9.2)) tg) tg) tg) tg) tg) tg) tg) tg) tg) tg) tg:=b8 rfl (by kernel_rfl)
def yd:List (Nat×aw):=[(0,⟨none,.mv (.tmp 0)⟩),(1,⟨none,.mv (.tmp 9)⟩),(2,⟨none,.mv (.tmp 0)⟩),(3,⟨none,.mv (.tmp 9)⟩),(4,⟨none,.p2 (ag P .sub 3) (.opi 3) (.cst (AV.int .i64 1))⟩),(5,⟨none,.mv (.tmp 0)⟩),(6,⟨none,.mv (.tmp 9)⟩),(7,⟨none,.p2 (ag P .sub 3) (.opi 6) (.cst (AV.int .i64 1))⟩),(8,⟨none,.p2 (aa P 51) (.opi 5) (.opi 7)⟩),(9,⟨none,.ld1 (.opi 8)⟩),(10,⟨none,.mv (.tmp 0)⟩),(11,⟨none,.mv (.tmp 9)⟩),(12,⟨none,.p2 (aa P 51) (.opi 10) (.opi 11)⟩),(13,⟨none,.ld1 (.opi 12)⟩),(14,⟨none,.p2 (aa P 51) (.opi 0) (.opi 1)⟩),(15,⟨none,.st1 (.opi 14) (.opi 9)⟩),(16,⟨none,.p2 (aa P 51) (.opi 2) (.opi 4)⟩),(17,⟨none,.st1 (.opi 16) (.opi 13)⟩)]
def GF:AC:=.draw 18 (ar #[0,0,0,0,8,0,0,64,224,480,0,0,3072,7168,16355,32739,65535,131071] yd [15,17] 0 (yd.filter fun x=>x.2.i.eff)) []
theorem Wb:bY GF fun call tm h=>let g:=ac.mk h.bs (h.next+18);B (tm.gt 0) (fun v0=>B (tm.gt 9) (fun v1=>B (tm.gt 0) (fun v2=>B (tm.gt 9) (fun v3=>B (ag P .sub 3 v3 (AV.int .i64 1)) (fun v4=>B (tm.gt 0) (fun v5=>B (tm.gt 9) (fun v6=>B (ag P .sub 3 v6 (AV.int .i64 1)) (fun v7=>B (aa P 51 v5 v7) (fun v8=>B (am g v8) (fun v9=>B (tm.gt 0) (fun v10=>B (tm.gt 9) (fun v11=>B (aa P 51 v10 v11) (fun v12=>B (am g v12) (fun v13=>B (aa P 51 v0 v1) (fun v14=>B (aW g v14 v9) (fun r15=>B (aa P 51 v2 v4) (fun v16=>B (aW r15.2 v16 v13) (fun r17=>some (tm,r17.2)) tg) tg) tg) tg) tg) tg) tg) tg) tg) tg) tg) tg) tg) tg) tg) tg) tg) tg:=b8 rfl (by kernel_rfl)
def GD:AC:=.seq (.seq GE (.cond (.tmp 78) (.exit 4) .skip)) GF
def GG:AC:=.reg [⟨none,.p2 (ag P .sub 3) (.tmp 9) (.cst (AV.int .i64 1))⟩] [(9,.loc 0)]
def vQ:AC:=.seq (.seq GC (.cond (.tmp 65) .skip (.exit 4))) (.seq (.block 5 GD) GG)
def GB:AC:=.loop vQ
def Gy:AC:=.seq Gz (.cond (.tmp 61) (.seq GA (.block 4 GB)) .skip)
def GH:AC:=.reg [⟨none,.p2 (ag P .sub 3) (.tmp 2) (.tmp 7)⟩,⟨none,.p2 (ag P .geq 3) (.loc 0) (.cst (AV.int .i64 2))⟩] [(98,.loc 0)]
def GI:AC:=.reg [⟨none,.p2 (ag P .add 3) (.tmp 7) (.cst (AV.int .i64 1))⟩] [(10,.loc 0)]
def GK:AC:=.reg [⟨none,.p2 (ag P .lss 3) (.tmp 10) (.tmp 2)⟩] [(103,.loc 0)]
def ye:List (Nat×aw):=[(0,⟨none,.mv (.tmp 0)⟩),(1,⟨none,.mv (.tmp 10)⟩),(2,⟨none,.p2 (aa P 51) (.opi 0) (.opi 1)⟩),(3,⟨none,.ld1 (.opi 2)⟩),(4,⟨none,.mv (.tmp 0)⟩),(5,⟨none,.mv (.tmp 10)⟩),(6,⟨none,.p2 (ag P .sub 3) (.opi 5) (.cst (AV.int .i64 1))⟩),(7,⟨none,.p2 (aa P 51) (.opi 4) (.opi 6)⟩),(8,⟨none,.ld1 (.opi 7)⟩),(9,⟨none,.cl (cf 173) [.opi 3,.opi 8]⟩),(10,⟨none,.p1 (iG .not) (.opi 9)⟩)]
def GM:AC:=.draw 11 (ar #[0,0,3,7,0,0,32,112,240,511,1023] ye [9] 0 (ye.filter fun x=>x.2.i.eff)) [(116,10)]
theorem Wc:bY GM fun call tm h=>let g:=ac.mk h.bs (h.next+11);B (tm.gt 0) (fun v0=>B (tm.gt 10) (fun v1=>B (aa P 51 v0 v1) (fun v2=>B (am g v2) (fun v3=>B (tm.gt 0) (fun v4=>B (tm.gt 10) (fun v5=>B (ag P .sub 3 v5 (AV.int .i64 1)) (fun v6=>B (aa P 51 v4 v6) (fun v7=>B (am g v7) (fun v8=>B (call (.fn 173) [v3,v8] g) (fun r9=>B (iG .not r9.1) (fun v10=>some ((tm.up (some v10) 116),r9.2)) tg) tg) tg) tg) tg) tg) tg) tg) tg) tg) tg:=b8 rfl (by kernel_rfl)
def yf:List (Nat×aw):=[(0,⟨none,.mv (.tmp 0)⟩),(1,⟨none,.mv (.tmp 10)⟩),(2,⟨none,.mv (.tmp 0)⟩),(3,⟨none,.mv (.tmp 10)⟩),(4,⟨none,.p2 (ag P .sub 3) (.opi 3) (.cst (AV.int .i64 1))⟩),(5,⟨none,.mv (.tmp 0)⟩),(6,⟨none,.mv (.tmp 10)⟩),(7,⟨none,.p2 (ag P .sub 3) (.opi 6) (.cst (AV.int .i64 1))⟩),(8,⟨none,.p2 (aa P 51) (.opi 5) (.opi 7)⟩),(9,⟨none,.ld1 (.opi 8)⟩),(10,⟨none,.mv (.tmp 0)⟩),(11,⟨none,.mv (.tmp 10)⟩),(12,⟨none,.p2 (aa P 51) (.opi 10) (.opi 11)⟩),(13,⟨none,.ld1 (.opi 12)⟩),(14,⟨none,.p2 (aa P 51) (.opi 0) (.opi 1)⟩),(15,⟨none,.st1 (.opi 14) (.opi 9)⟩),(16,⟨none,.p2 (aa P 51) (.opi 2) (.opi 4)⟩),(17,⟨none,.st1 (.opi 16) (.opi 13)⟩)]
def GN:AC:=.draw 18 (ar #[0,0,0,0,8,0,0,64,224,480,0,0,3072,7168,16355,32739,65535,131071] yf [15,17] 0 (yf.filter fun x=>x.2.i.eff)) []
theorem We:bY GN fun call tm h=>let g:=ac.mk h.bs (h.next+18);B (tm.gt 0) (fun v0=>B (tm.gt 10) (fun v1=>B (tm.gt 0) (fun v2=>B (tm.gt 10) (fun v3=>B (ag P .sub 3 v3 (AV.int .i64 1)) (fun v4=>B (tm.gt 0) (fun v5=>B (tm.gt 10) (fun v6=>B (ag P .sub 3 v6 (AV.int .i64 1)) (fun v7=>B (aa P 51 v5 v7) (fun v8=>B (am g v8) (fun v9=>B (tm.gt 0) (fun v10=>B (tm.gt 10) (fun v11=>B (aa P 51 v10 v11) (fun v12=>B (am g v12) (fun v13=>B (aa P 51 v0 v1) (fun v14=>B (aW g v14 v9) (fun r15=>B (aa P 51 v2 v4) (fun v16=>B (aW r15.2 v16 v13) (fun r17=>some (tm,r17.2)) tg) tg) tg) tg) tg) tg) tg) tg) tg) tg) tg) tg) tg) tg) tg) tg) tg) tg:=b8 rfl (by kernel_rfl)
def GL:AC:=.seq (.seq GM (.cond (.tmp 116) (.exit 6) .skip)) GN
def GO:AC:=.reg [⟨none,.p2 (ag P .add 3) (.tmp 10) (.cst (AV.int .i64 1))⟩] [(10,.loc 0)]
def vR:AC:=.seq (.seq GK (.cond (.tmp 103) .skip (.exit 6))) (.seq (.block 7 GL) GO)
def GJ:AC:=.loop vR
def qs:AC:=.seq GH (.cond (.tmp 98) (.seq GI (.block 6 GJ)) .skip)
def Gu:AC:=.seq (.seq Gv (.cond (.tmp 41) (.seq Gw .ret) .skip)) (.seq Gx (.seq Gy qs))
def Gr:AC:=.seq (.seq Gs (.cond (.tmp 37) (.seq Gt .ret) .skip)) Gu
def nr:AC:=.reg [⟨none,.p2 (ag P .add 3) (.tmp 8) (.cst (AV.int .i64 1))⟩] [(8,.loc 0)]
def AZ:AC:=.seq (.seq Gm (.cond (.tmp 14) .skip (.exit 0))) (.seq (.block 1 (.seq (.block 2 Gn) Gr)) nr)
def zbn:AC:=.loop AZ
def GP:AC:=.reg [] [(6,.cst (AV.bool false))]
def OY:AC:=.seq OZ (.seq (.seq O0 (.block 0 zbn)) (.seq GP .ret))
theorem cT:type_of% (kS qs rfl):=(kS qs rfl)
theorem cU:type_of% (kR nr rfl):=(kR nr rfl)
def IE:cA:=⟨(.seq OX OY),[.tmp 6],133,true⟩
theorem zew:ci P (keepF P) 172=some IE:=by kernel_rfl
def jb:=An (kR OX rfl)<|An (kR OZ rfl)<|An (kR O0 rfl)<|An (kR Gm rfl)<|An V8<|An (kR Gq rfl)<|An (kS vP rfl)<|An (kR Gs rfl)<|An (kR Gt rfl)<|An (kR Gv rfl)<|An (kR Gw rfl)<|An V9<|An (kR Gz rfl)<|An (kR GA rfl)<|An (kR GC rfl)<|An Wa<|An Wb<|An (kS GD rfl)<|An (kR GG rfl)<|An (kS vQ rfl)<|An (kS Gy rfl)<|An (kR GH rfl)<|An (kR GI rfl)<|An (kR GK rfl)<|An Wc<|An We<|An (kS GL rfl)<|An (kR GO rfl)<|An (kS vR rfl)<|An (kS Gu rfl)<|An (kS Gr rfl)<|An (kS AZ rfl)<|An (kR GP rfl)<|(kS OY rfl)
def O1:AC:=.reg [] [(4,.cst (AV.bool false))]
def O2:AC:=.reg [⟨none,.cl (cf 187) [.tmp 0]⟩,⟨some (.loc 0,true),.mv (.tmp 1)⟩,⟨some (.loc 1,true),.cl (cf 187) [.loc 0]⟩,⟨some (.loc 2,true),.p1 (iG .not) (.loc 0)⟩,⟨none,.pick (.loc 3) (.loc 0) (.cst (AV.bool false))⟩,⟨some (.loc 0,false),.mv (.tmp 0)⟩,⟨some (.loc 1,false),.mv (.tmp 1)⟩,⟨some (.loc 2,false),.p2 (ag P .lss 48) (.loc 1) (.loc 0)⟩,⟨none,.pick (.loc 3) (.cst (AV.bool true)) (.loc 0)⟩] [(4,.loc 0)]
def IF:cA:=⟨(.seq O1 (.seq O2 .ret)),[.tmp 4],17,true⟩
theorem zex:ci P (keepF P) 173=some IF:=by kernel_rfl
def zf1:=An (kR O1 rfl)<|(kR O2 rfl)
def O3:AC:=.reg [] [(8,.cst (AV.int .i64 0))]
def GW:List (Nat×aw):=[(0,⟨none,.mv (.tmp 0)⟩),(1,⟨none,.mv (.tmp 1)⟩),(2,⟨none,.mv (.tmp 0)⟩),(3,⟨none,.mv (.tmp 3)⟩),(4,⟨none,.mv (.tmp 0)⟩),(5,⟨none,.mv (.tmp 3)⟩),(6,⟨none,.p2 (aa P 51) (.opi 4) (.opi 5)⟩),(7,⟨none,.ld1 (.opi 6)⟩),(8,⟨none,.mv (.tmp 0)⟩),(9,⟨none,.mv (.tmp 1)⟩),(10,⟨none,.p2 (aa P 51) (.opi 8) (.opi 9)⟩),(11,⟨none,.ld1 (.opi 10)⟩),(12,⟨none,.p2 (aa P 51) (.opi 0) (.opi 1)⟩),(13,⟨none,.st1 (.opi 12) (.opi 7)⟩),(14,⟨none,.p2 (aa P 51) (.opi 2) (.opi 3)⟩),(15,⟨none,.st1 (.opi 14) (.opi 11)⟩)]
def O5:AC:=.draw 16 (ar #[0,0,0,0,0,0,48,112,0,0,768,1792,4083,8179,16383,32767] GW [13,15] 0 (GW.filter fun x=>x.2.i.eff)) []
theorem zco:bY O5 fun call tm h=>let g:=ac.mk h.bs (h.next+16);B (tm.gt 0) (fun v0=>B (tm.gt 1) (fun v1=>B (tm.gt 0) (fun v2=>B (tm.gt 3) (fun v3=>B (tm.gt 0) (fun v4=>B (tm.gt 3) (fun v5=>B (aa P 51 v4 v5) (fun v6=>B (am g v6) (fun v7=>B (tm.gt 0) (fun v8=>B (tm.gt 1) (fun v9=>B (aa P 51 v8 v9) (fun v10=>B (am g v10) (fun v11=>B (aa P 51 v0 v1) (fun v12=>B (aW g v12 v7) (fun r13=>B (aa P 51 v2 v3) (fun v14=>B (aW r13.2 v14 v11) (fun r15=>some (tm,r15.2)) tg) tg) tg) tg) tg) tg) tg) tg) tg) tg) tg) tg) tg) tg) tg) tg:=b8 rfl (by kernel_rfl)
def O6:AC:=.reg [⟨none,.p2 (ag P .add 3) (.tmp 1) (.cst (AV.int .i64 1))⟩,⟨none,.p2 (ag P .sub 3) (.tmp 2) (.cst (AV.int .i64 1))⟩] [(10,.loc 0),(9,.loc 1)]
def yg:List (Nat×aw):=[(0,⟨none,.mv (.tmp 9)⟩),(1,⟨none,.mv (.tmp 10)⟩),(2,⟨none,.p2 (ag P .leq 3) (.opi 0) (.opi 1)⟩),(3,⟨none,.mv (.opi 2)⟩),(4,⟨some (.opi 3,true),.mv (.tmp 0)⟩),(5,⟨some (.opi 3,true),.mv (.tmp 1)⟩),(6,⟨some (.opi 3,true),.p2 (aa P 51) (.opi 4) (.opi 5)⟩),(7,⟨some (.opi 3,true),.ld1 (.opi 6)⟩),(8,⟨some (.opi 3,true),.mv (.tmp 0)⟩),(9,⟨some (.opi 3,true),.mv (.tmp 9)⟩),(10,⟨some (.opi 3,true),.p2 (aa P 51) (.opi 8) (.opi 9)⟩),(11,⟨some (.opi 3,true),.ld1 (.opi 10)⟩),(12,⟨some (.opi 3,true),.cl (cf 173) [.opi 7,.opi 11]⟩),(13,⟨some (.opi 3,true),.p1 (iG .not) (.opi 12)⟩),(14,⟨none,.pick (.opi 3) (.opi 13) (.cst (AV.bool false))⟩)]
def GQ:AC:=.draw 15 (ar #[0,0,3,7,15,15,63,127,15,15,783,1807,4095,8191,16383] yg [12] 0 (yg.filter fun x=>x.2.i.eff)) [(43,14)]
theorem Wf:bY GQ fun call tm h=>let g:=ac.mk h.bs (h.next+15);B (tm.gt 9) (fun v0=>B (tm.gt 10) (fun v1=>B (ag P .leq 3 v0 v1) (fun v2=>B (cJ true v2 (tm.gt 0)) (fun v4=>B (cJ true v2 (tm.gt 1)) (fun v5=>B (cJ true v2 (aa P 51 v4 v5)) (fun v6=>B (cJ true v2 (am g v6)) (fun v7=>B (cJ true v2 (tm.gt 0)) (fun v8=>B (cJ true v2 (tm.gt 9)) (fun v9=>B (cJ true v2 (aa P 51 v8 v9)) (fun v10=>B (cJ true v2 (am g v10)) (fun v11=>B (match wanted true v2 with | true=>(call (.fn 173) [v7,v11] g) | false=>some (aJ,g)) (fun r12=>B (cJ true v2 (iG .not r12.1)) (fun v13=>B (cH (fun t=>match t with | true=>some v13 | false=>some (AV.bool false)) v2) (fun v14=>some ((tm.up (some v14) 43),r12.2)) tg) tg) tg) tg) tg) tg) tg) tg) tg) tg) tg) tg) tg) tg:=b8 rfl (by kernel_rfl)
def GR:AC:=.reg [⟨none,.p2 (ag P .add 3) (.tmp 9) (.cst (AV.int .i64 1))⟩] [(9,.loc 0)]
def vS:AC:=.seq (.seq GQ (.cond (.tmp 43) .skip (.exit 2))) (.block 3 GR)
def Uv:AC:=.loop vS
def yh:List (Nat×aw):=[(0,⟨none,.mv (.tmp 9)⟩),(1,⟨none,.mv (.tmp 10)⟩),(2,⟨none,.p2 (ag P .leq 3) (.opi 0) (.opi 1)⟩),(3,⟨none,.mv (.opi 2)⟩),(4,⟨some (.opi 3,true),.mv (.tmp 0)⟩),(5,⟨some (.opi 3,true),.mv (.tmp 1)⟩),(6,⟨some (.opi 3,true),.p2 (aa P 51) (.opi 4) (.opi 5)⟩),(7,⟨some (.opi 3,true),.ld1 (.opi 6)⟩),(8,⟨some (.opi 3,true),.mv (.tmp 0)⟩),(9,⟨some (.opi 3,true),.mv (.tmp 10)⟩),(10,⟨some (.opi 3,true),.p2 (aa P 51) (.opi 8) (.opi 9)⟩),(11,⟨some (.opi 3,true),.ld1 (.opi 10)⟩),(12,⟨some (.opi 3,true),.cl (cf 173) [.opi 7,.opi 11]⟩),(13,⟨none,.pick (.opi 3) (.opi 12) (.cst (AV.bool false))⟩)]
def GS:AC:=.draw 14 (ar #[0,0,3,7,15,15,63,127,15,15,783,1807,4095,8191] yh [12] 0 (yh.filter fun x=>x.2.i.eff)) [(59,13)]
theorem Wg:bY GS fun call tm h=>let g:=ac.mk h.bs (h.next+14);B (tm.gt 9) (fun v0=>B (tm.gt 10) (fun v1=>B (ag P .leq 3 v0 v1) (fun v2=>B (cJ true v2 (tm.gt 0)) (fun v4=>B (cJ true v2 (tm.gt 1)) (fun v5=>B (cJ true v2 (aa P 51 v4 v5)) (fun v6=>B (cJ true v2 (am g v6)) (fun v7=>B (cJ true v2 (tm.gt 0)) (fun v8=>B (cJ true v2 (tm.gt 10)) (fun v9=>B (cJ true v2 (aa P 51 v8 v9)) (fun v10=>B (cJ true v2 (am g v10)) (fun v11=>B (match wanted true v2 with | true=>(call (.fn 173) [v7,v11] g) | false=>some (aJ,g)) (fun r12=>B (cH (fun t=>match t with | true=>some r12.1 | false=>some (AV.bool false)) v2) (fun v13=>some ((tm.up (some v13) 59),r12.2)) tg) tg) tg) tg) tg) tg) tg) tg) tg) tg) tg) tg) tg:=b8 rfl (by kernel_rfl)
def GT:AC:=.reg [⟨none,.p2 (ag P .sub 3) (.tmp 10) (.cst (AV.int .i64 1))⟩] [(10,.loc 0)]
def vT:AC:=.seq (.seq GS (.cond (.tmp 59) .skip (.exit 4))) (.block 5 GT)
def Uw:AC:=.loop vT
def GU:AC:=.reg [⟨none,.p2 (ag P .gtr 3) (.tmp 9) (.tmp 10)⟩] [(64,.loc 0)]
def yj:List (Nat×aw):=[(0,⟨none,.mv (.tmp 0)⟩),(1,⟨none,.mv (.tmp 9)⟩),(2,⟨none,.mv (.tmp 0)⟩),(3,⟨none,.mv (.tmp 10)⟩),(4,⟨none,.mv (.tmp 0)⟩),(5,⟨none,.mv (.tmp 10)⟩),(6,⟨none,.p2 (aa P 51) (.opi 4) (.opi 5)⟩),(7,⟨none,.ld1 (.opi 6)⟩),(8,⟨none,.mv (.tmp 0)⟩),(9,⟨none,.mv (.tmp 9)⟩),(10,⟨none,.p2 (aa P 51) (.opi 8) (.opi 9)⟩),(11,⟨none,.ld1 (.opi 10)⟩),(12,⟨none,.p2 (aa P 51) (.opi 0) (.opi 1)⟩),(13,⟨none,.st1 (.opi 12) (.opi 7)⟩),(14,⟨none,.p2 (aa P 51) (.opi 2) (.opi 3)⟩),(15,⟨none,.st1 (.opi 14) (.opi 11)⟩)]
def GV:AC:=.draw 16 (ar #[0,0,0,0,0,0,48,112,0,0,768,1792,4083,8179,16383,32767] yj [13,15] 0 (yj.filter fun x=>x.2.i.eff)) []
theorem Wh:bY GV fun call tm h=>let g:=ac.mk h.bs (h.next+16);B (tm.gt 0) (fun v0=>B (tm.gt 9) (fun v1=>B (tm.gt 0) (fun v2=>B (tm.gt 10) (fun v3=>B (tm.gt 0) (fun v4=>B (tm.gt 10) (fun v5=>B (aa P 51 v4 v5) (fun v6=>B (am g v6) (fun v7=>B (tm.gt 0) (fun v8=>B (tm.gt 9) (fun v9=>B (aa P 51 v8 v9) (fun v10=>B (am g v10) (fun v11=>B (aa P 51 v0 v1) (fun v12=>B (aW g v12 v7) (fun r13=>B (aa P 51 v2 v3) (fun v14=>B (aW r13.2 v14 v11) (fun r15=>some (tm,r15.2)) tg) tg) tg) tg) tg) tg) tg) tg) tg) tg) tg) tg) tg) tg) tg) tg:=b8 rfl (by kernel_rfl)
def GX:AC:=.reg [⟨none,.p2 (ag P .add 3) (.tmp 9) (.cst (AV.int .i64 1))⟩] [(9,.loc 0)]
def GY:AC:=.reg [⟨none,.p2 (ag P .sub 3) (.tmp 10) (.cst (AV.int .i64 1))⟩] [(10,.loc 0)]
def qu:AC:=.seq (.seq GU (.cond (.tmp 64) (.exit 0) .skip)) (.seq GV (.seq GX GY))
def qt:AC:=.seq (.block 4 Uw) qu
def A6:AC:=.block 1 (.seq (.block 2 Uv) qt)
def zbo:AC:=.loop A6
def GZ:AC:=.reg [] [(8,.tmp 9)]
def O4:AC:=.seq O5 (.seq O6 (.seq (.block 0 zbo) (.seq GZ .ret)))
theorem gj:type_of% (kS qu rfl):=(kS qu rfl)
theorem gh:type_of% (kS qt rfl):=(kS qt rfl)
def IG:cA:=⟨(.seq O3 O4),[.tmp 8],84,true⟩
theorem zey:ci P (keepF P) 174=some IG:=by kernel_rfl
def qf:=An (kR O3 rfl)<|An zco<|An (kR O6 rfl)<|An Wf<|An (kR GR rfl)<|An (kS vS rfl)<|An Wg<|An (kR GT rfl)<|An (kS vT rfl)<|An (kR GU rfl)<|An Wh<|An (kR GX rfl)<|An (kR GY rfl)<|An (kB A6 rfl)<|An (kR GZ rfl)<|(kS O4 rfl)
def O8:AC:=.reg [] [(9,.cst (AV.bool false)),(8,.cst (AV.int .i64 0))]
def Hc:List (Nat×aw):=[(0,⟨none,.mv (.tmp 0)⟩),(1,⟨none,.mv (.tmp 1)⟩),(2,⟨none,.mv (.tmp 0)⟩),(3,⟨none,.mv (.tmp 3)⟩),(4,⟨none,.mv (.tmp 0)⟩),(5,⟨none,.mv (.tmp 3)⟩),(6,⟨none,.p2 (aa P 51) (.opi 4) (.opi 5)⟩),(7,⟨none,.ld1 (.opi 6)⟩),(8,⟨none,.mv (.tmp 0)⟩),(9,⟨none,.mv (.tmp 1)⟩),(10,⟨none,.p2 (aa P 51) (.opi 8) (.opi 9)⟩),(11,⟨none,.ld1 (.opi 10)⟩),(12,⟨none,.p2 (aa P 51) (.opi 0) (.opi 1)⟩),(13,⟨none,.st1 (.opi 12) (.opi 7)⟩),(14,⟨none,.p2 (aa P 51) (.opi 2) (.opi 3)⟩),(15,⟨none,.st1 (.opi 14) (.opi 11)⟩)]
def O9:AC:=.draw 16 (ar #[0,0,0,0,0,0,48,112,0,0,768,1792,4083,8179,16383,32767] Hc [13,15] 0 (Hc.filter fun x=>x.2.i.eff)) []
theorem zcp:bY O9 fun call tm h=>let g:=ac.mk h.bs (h.next+16);B (tm.gt 0) (fun v0=>B (tm.gt 1) (fun v1=>B (tm.gt 0) (fun v2=>B (tm.gt 3) (fun v3=>B (tm.gt 0) (fun v4=>B (tm.gt 3) (fun v5=>B (aa P 51 v4 v5) (fun v6=>B (am g v6) (fun v7=>B (tm.gt 0) (fun v8=>B (tm.gt 1) (fun v9=>B (aa P 51 v8 v9) (fun v10=>B (am g v10) (fun v11=>B (aa P 51 v0 v1) (fun v12=>B (aW g v12 v7) (fun r13=>B (aa P 51 v2 v3) (fun v14=>B (aW r13.2 v14 v11) (fun r15=>some (tm,r15.2)) tg) tg) tg) tg) tg) tg) tg) tg) tg) tg) tg) tg) tg) tg) tg) tg:=b8 rfl (by kernel_rfl)
def Pa:AC:=.reg [⟨none,.p2 (ag P .add 3) (.tmp 1) (.cst (AV.int .i64 1))⟩,⟨none,.p2 (ag P .sub 3) (.tmp 2) (.cst (AV.int .i64 1))⟩] [(11,.loc 0),(10,.loc 1)]
def yl:List (Nat×aw):=[(0,⟨none,.mv (.tmp 10)⟩),(1,⟨none,.mv (.tmp 11)⟩),(2,⟨none,.p2 (ag P .leq 3) (.opi 0) (.opi 1)⟩),(3,⟨none,.mv (.opi 2)⟩),(4,⟨some (.opi 3,true),.mv (.tmp 0)⟩),(5,⟨some (.opi 3,true),.mv (.tmp 10)⟩),(6,⟨some (.opi 3,true),.p2 (aa P 51) (.opi 4) (.opi 5)⟩),(7,⟨some (.opi 3,true),.ld1 (.opi 6)⟩),(8,⟨some (.opi 3,true),.mv (.tmp 0)⟩),(9,⟨some (.opi 3,true),.mv (.tmp 1)⟩),(10,⟨some (.opi 3,true),.p2 (aa P 51) (.opi 8) (.opi 9)⟩),(11,⟨some (.opi 3,true),.ld1 (.opi 10)⟩),(12,⟨some (.opi 3,true),.cl (cf 173) [.opi 7,.opi 11]⟩),(13,⟨none,.pick (.opi 3) (.opi 12) (.cst (AV.bool false))⟩)]
def G0:AC:=.draw 14 (ar #[0,0,3,7,15,15,63,127,15,15,783,1807,4095,8191] yl [12] 0 (yl.filter fun x=>x.2.i.eff)) [(43,13)]
theorem Wi:bY G0 fun call tm h=>let g:=ac.mk h.bs (h.next+14);B (tm.gt 10) (fun v0=>B (tm.gt 11) (fun v1=>B (ag P .leq 3 v0 v1) (fun v2=>B (cJ true v2 (tm.gt 0)) (fun v4=>B (cJ true v2 (tm.gt 10)) (fun v5=>B (cJ true v2 (aa P 51 v4 v5)) (fun v6=>B (cJ true v2 (am g v6)) (fun v7=>B (cJ true v2 (tm.gt 0)) (fun v8=>B (cJ true v2 (tm.gt 1)) (fun v9=>B (cJ true v2 (aa P 51 v8 v9)) (fun v10=>B (cJ true v2 (am g v10)) (fun v11=>B (match wanted true v2 with | true=>(call (.fn 173) [v7,v11] g) | false=>some (aJ,g)) (fun r12=>B (cH (fun t=>match t with | true=>some r12.1 | false=>some (AV.bool false)) v2) (fun v13=>some ((tm.up (some v13) 43),r12.2)) tg) tg) tg) tg) tg) tg) tg) tg) tg) tg) tg) tg) tg:=b8 rfl (by kernel_rfl)
def G1:AC:=.reg [⟨none,.p2 (ag P .add 3) (.tmp 10) (.cst (AV.int .i64 1))⟩] [(10,.loc 0)]
def Ba:AC:=.seq (.seq G0 (.cond (.tmp 43) .skip (.exit 0))) (.block 1 G1)
def Pb:AC:=.loop Ba
def ym:List (Nat×aw):=[(0,⟨none,.mv (.tmp 10)⟩),(1,⟨none,.mv (.tmp 11)⟩),(2,⟨none,.p2 (ag P .leq 3) (.opi 0) (.opi 1)⟩),(3,⟨none,.mv (.opi 2)⟩),(4,⟨some (.opi 3,true),.mv (.tmp 0)⟩),(5,⟨some (.opi 3,true),.mv (.tmp 11)⟩),(6,⟨some (.opi 3,true),.p2 (aa P 51) (.opi 4) (.opi 5)⟩),(7,⟨some (.opi 3,true),.ld1 (.opi 6)⟩),(8,⟨some (.opi 3,true),.mv (.tmp 0)⟩),(9,⟨some (.opi 3,true),.mv (.tmp 1)⟩),(10,⟨some (.opi 3,true),.p2 (aa P 51) (.opi 8) (.opi 9)⟩),(11,⟨some (.opi 3,true),.ld1 (.opi 10)⟩),(12,⟨some (.opi 3,true),.cl (cf 173) [.opi 7,.opi 11]⟩),(13,⟨some (.opi 3,true),.p1 (iG .not) (.opi 12)⟩),(14,⟨none,.pick (.opi 3) (.opi 13) (.cst (AV.bool false))⟩)]
def G4:AC:=.draw 15 (ar #[0,0,3,7,15,15,63,127,15,15,783,1807,4095,8191,16383] ym [12] 0 (ym.filter fun x=>x.2.i.eff)) [(60,14)]
theorem Wj:bY G4 fun call tm h=>let g:=ac.mk h.bs (h.next+15);B (tm.gt 10) (fun v0=>B (tm.gt 11) (fun v1=>B (ag P .leq 3 v0 v1) (fun v2=>B (cJ true v2 (tm.gt 0)) (fun v4=>B (cJ true v2 (tm.gt 11)) (fun v5=>B (cJ true v2 (aa P 51 v4 v5)) (fun v6=>B (cJ true v2 (am g v6)) (fun v7=>B (cJ true v2 (tm.gt 0)) (fun v8=>B (cJ true v2 (tm.gt 1)) (fun v9=>B (cJ true v2 (aa P 51 v8 v9)) (fun v10=>B (cJ true v2 (am g v10)) (fun v11=>B (match wanted true v2 with | true=>(call (.fn 173) [v7,v11] g) | false=>some (aJ,g)) (fun r12=>B (cJ true v2 (iG .not r12.1)) (fun v13=>B (cH (fun t=>match t with | true=>some v13 | false=>some (AV.bool false)) v2) (fun v14=>some ((tm.up (some v14) 60),r12.2)) tg) tg) tg) tg) tg) tg) tg) tg) tg) tg) tg) tg) tg) tg:=b8 rfl (by kernel_rfl)
def G6:AC:=.reg [⟨none,.p2 (ag P .sub 3) (.tmp 11) (.cst (AV.int .i64 1))⟩] [(11,.loc 0)]
def vU:AC:=.seq (.seq G4 (.cond (.tmp 60) .skip (.exit 2))) (.block 3 G6)
def G3:AC:=.loop vU
def G8:AC:=.reg [⟨none,.p2 (ag P .gtr 3) (.tmp 10) (.tmp 11)⟩] [(65,.loc 0)]
def yn:List (Nat×aw):=[(0,⟨none,.mv (.tmp 0)⟩),(1,⟨none,.mv (.tmp 11)⟩),(2,⟨none,.mv (.tmp 0)⟩),(3,⟨none,.mv (.tmp 1)⟩),(4,⟨none,.mv (.tmp 0)⟩),(5,⟨none,.mv (.tmp 1)⟩),(6,⟨none,.p2 (aa P 51) (.opi 4) (.opi 5)⟩),(7,⟨none,.ld1 (.opi 6)⟩),(8,⟨none,.mv (.tmp 0)⟩),(9,⟨none,.mv (.tmp 11)⟩),(10,⟨none,.p2 (aa P 51) (.opi 8) (.opi 9)⟩),(11,⟨none,.ld1 (.opi 10)⟩),(12,⟨none,.p2 (aa P 51) (.opi 0) (.opi 1)⟩),(13,⟨none,.st1 (.opi 12) (.opi 7)⟩),(14,⟨none,.p2 (aa P 51) (.opi 2) (.opi 3)⟩),(15,⟨none,.st1 (.opi 14) (.opi 11)⟩)]
def G9:AC:=.draw 16 (ar #[0,0,0,0,0,0,48,112,0,0,768,1792,4083,8179,16383,32767] yn [13,15] 0 (yn.filter fun x=>x.2.i.eff)) []
theorem Wk:bY G9 fun call tm h=>let g:=ac.mk h.bs (h.next+16);B (tm.gt 0) (fun v0=>B (tm.gt 11) (fun v1=>B (tm.gt 0) (fun v2=>B (tm.gt 1) (fun v3=>B (tm.gt 0) (fun v4=>B (tm.gt 1) (fun v5=>B (aa P 51 v4 v5) (fun v6=>B (am g v6) (fun v7=>B (tm.gt 0) (fun v8=>B (tm.gt 11) (fun v9=>B (aa P 51 v8 v9) (fun v10=>B (am g v10) (fun v11=>B (aa P 51 v0 v1) (fun v12=>B (aW g v12 v7) (fun r13=>B (aa P 51 v2 v3) (fun v14=>B (aW r13.2 v14 v11) (fun r15=>some (tm,r15.2)) tg) tg) tg) tg) tg) tg) tg) tg) tg) tg) tg) tg) tg) tg) tg) tg:=b8 rfl (by kernel_rfl)
def Ha:AC:=.reg [] [(9,.cst (AV.bool true)),(8,.tmp 11)]
def G7:AC:=.seq G8 (.cond (.tmp 65) (.seq G9 (.seq Ha .ret)) .skip)
def yp:List (Nat×aw):=[(0,⟨none,.mv (.tmp 0)⟩),(1,⟨none,.mv (.tmp 10)⟩),(2,⟨none,.mv (.tmp 0)⟩),(3,⟨none,.mv (.tmp 11)⟩),(4,⟨none,.mv (.tmp 0)⟩),(5,⟨none,.mv (.tmp 11)⟩),(6,⟨none,.p2 (aa P 51) (.opi 4) (.opi 5)⟩),(7,⟨none,.ld1 (.opi 6)⟩),(8,⟨none,.mv (.tmp 0)⟩),(9,⟨none,.mv (.tmp 10)⟩),(10,⟨none,.p2 (aa P 51) (.opi 8) (.opi 9)⟩),(11,⟨none,.ld1 (.opi 10)⟩),(12,⟨none,.p2 (aa P 51) (.opi 0) (.opi 1)⟩),(13,⟨none,.st1 (.opi 12) (.opi 7)⟩),(14,⟨none,.p2 (aa P 51) (.opi 2) (.opi 3)⟩),(15,⟨none,.st1 (.opi 14) (.opi 11)⟩)]
def Hb:AC:=.draw 16 (ar #[0,0,0,0,0,0,48,112,0,0,768,1792,4083,8179,16383,32767] yp [13,15] 0 (yp.filter fun x=>x.2.i.eff)) []
theorem Wl:bY Hb fun call tm h=>let g:=ac.mk h.bs (h.next+16);B (tm.gt 0) (fun v0=>B (tm.gt 10) (fun v1=>B (tm.gt 0) (fun v2=>B (tm.gt 11) (fun v3=>B (tm.gt 0) (fun v4=>B (tm.gt 11) (fun v5=>B (aa P 51 v4 v5) (fun v6=>B (am g v6) (fun v7=>B (tm.gt 0) (fun v8=>B (tm.gt 10) (fun v9=>B (aa P 51 v8 v9) (fun v10=>B (am g v10) (fun v11=>B (aa P 51 v0 v1) (fun v12=>B (aW g v12 v7) (fun r13=>B (aa P 51 v2 v3) (fun v14=>B (aW r13.2 v14 v11) (fun r15=>some (tm,r15.2)) tg) tg) tg) tg) tg) tg) tg) tg) tg) tg) tg) tg) tg) tg) tg) tg:=b8 rfl (by kernel_rfl)
def Hd:AC:=.reg [⟨none,.p2 (ag P .add 3) (.tmp 10) (.cst (AV.int .i64 1))⟩] [(10,.loc 0)]
def Hf:AC:=.reg [⟨none,.p2 (ag P .sub 3) (.tmp 11) (.cst (AV.int .i64 1))⟩] [(11,.loc 0)]
def yq:List (Nat×aw):=[(0,⟨none,.mv (.tmp 10)⟩),(1,⟨none,.mv (.tmp 11)⟩),(2,⟨none,.p2 (ag P .leq 3) (.opi 0) (.opi 1)⟩),(3,⟨none,.mv (.opi 2)⟩),(4,⟨some (.opi 3,true),.mv (.tmp 0)⟩),(5,⟨some (.opi 3,true),.mv (.tmp 10)⟩),(6,⟨some (.opi 3,true),.p2 (aa P 51) (.opi 4) (.opi 5)⟩),(7,⟨some (.opi 3,true),.ld1 (.opi 6)⟩),(8,⟨some (.opi 3,true),.mv (.tmp 0)⟩),(9,⟨some (.opi 3,true),.mv (.tmp 1)⟩),(10,⟨some (.opi 3,true),.p2 (aa P 51) (.opi 8) (.opi 9)⟩),(11,⟨some (.opi 3,true),.ld1 (.opi 10)⟩),(12,⟨some (.opi 3,true),.cl (cf 173) [.opi 7,.opi 11]⟩),(13,⟨none,.pick (.opi 3) (.opi 12) (.cst (AV.bool false))⟩)]
def Hh:AC:=.draw 14 (ar #[0,0,3,7,15,15,63,127,15,15,783,1807,4095,8191] yq [12] 0 (yq.filter fun x=>x.2.i.eff)) [(112,13)]
theorem Wm:bY Hh fun call tm h=>let g:=ac.mk h.bs (h.next+14);B (tm.gt 10) (fun v0=>B (tm.gt 11) (fun v1=>B (ag P .leq 3 v0 v1) (fun v2=>B (cJ true v2 (tm.gt 0)) (fun v4=>B (cJ true v2 (tm.gt 10)) (fun v5=>B (cJ true v2 (aa P 51 v4 v5)) (fun v6=>B (cJ true v2 (am g v6)) (fun v7=>B (cJ true v2 (tm.gt 0)) (fun v8=>B (cJ true v2 (tm.gt 1)) (fun v9=>B (cJ true v2 (aa P 51 v8 v9)) (fun v10=>B (cJ true v2 (am g v10)) (fun v11=>B (match wanted true v2 with | true=>(call (.fn 173) [v7,v11] g) | false=>some (aJ,g)) (fun r12=>B (cH (fun t=>match t with | true=>some r12.1 | false=>some (AV.bool false)) v2) (fun v13=>some ((tm.up (some v13) 112),r12.2)) tg) tg) tg) tg) tg) tg) tg) tg) tg) tg) tg) tg) tg:=b8 rfl (by kernel_rfl)
def Hi:AC:=.reg [⟨none,.p2 (ag P .add 3) (.tmp 10) (.cst (AV.int .i64 1))⟩] [(10,.loc 0)]
def vW:AC:=.seq (.seq Hh (.cond (.tmp 112) .skip (.exit 6))) (.block 7 Hi)
def Hg:AC:=.loop vW
def yr:List (Nat×aw):=[(0,⟨none,.mv (.tmp 10)⟩),(1,⟨none,.mv (.tmp 11)⟩),(2,⟨none,.p2 (ag P .leq 3) (.opi 0) (.opi 1)⟩),(3,⟨none,.mv (.opi 2)⟩),(4,⟨some (.opi 3,true),.mv (.tmp 0)⟩),(5,⟨some (.opi 3,true),.mv (.tmp 11)⟩),(6,⟨some (.opi 3,true),.p2 (aa P 51) (.opi 4) (.opi 5)⟩),(7,⟨some (.opi 3,true),.ld1 (.opi 6)⟩),(8,⟨some (.opi 3,true),.mv (.tmp 0)⟩),(9,⟨some (.opi 3,true),.mv (.tmp 1)⟩),(10,⟨some (.opi 3,true),.p2 (aa P 51) (.opi 8) (.opi 9)⟩),(11,⟨some (.opi 3,true),.ld1 (.opi 10)⟩),(12,⟨some (.opi 3,true),.cl (cf 173) [.opi 7,.opi 11]⟩),(13,⟨some (.opi 3,true),.p1 (iG .not) (.opi 12)⟩),(14,⟨none,.pick (.opi 3) (.opi 13) (.cst (AV.bool false))⟩)]
def Hk:AC:=.draw 15 (ar #[0,0,3,7,15,15,63,127,15,15,783,1807,4095,8191,16383] yr [12] 0 (yr.filter fun x=>x.2.i.eff)) [(129,14)]
theorem Wn:bY Hk fun call tm h=>let g:=ac.mk h.bs (h.next+15);B (tm.gt 10) (fun v0=>B (tm.gt 11) (fun v1=>B (ag P .leq 3 v0 v1) (fun v2=>B (cJ true v2 (tm.gt 0)) (fun v4=>B (cJ true v2 (tm.gt 11)) (fun v5=>B (cJ true v2 (aa P 51 v4 v5)) (fun v6=>B (cJ true v2 (am g v6)) (fun v7=>B (cJ true v2 (tm.gt 0)) (fun v8=>B (cJ true v2 (tm.gt 1)) (fun v9=>B (cJ true v2 (aa P 51 v8 v9)) (fun v10=>B (cJ true v2 (am g v10)) (fun v11=>B (match wanted true v2 with | true=>(call (.fn 173) [v7,v11] g) | false=>some (aJ,g)) (fun r12=>B (cJ true v2 (iG .not r12.1)) (fun v13=>B (cH (fun t=>match t with | true=>some v13 | false=>some (AV.bool false)) v2) (fun v14=>some ((tm.up (some v14) 129),r12.2)) tg) tg) tg) tg) tg) tg) tg) tg) tg) tg) tg) tg) tg) tg:=b8 rfl (by kernel_rfl)
def Hl:AC:=.reg [⟨none,.p2 (ag P .sub 3) (.tmp 11) (.cst (AV.int .i64 1))⟩] [(11,.loc 0)]
def vX:AC:=.seq (.seq Hk (.cond (.tmp 129) .skip (.exit 8))) (.block 9 Hl)
def Hj:AC:=.loop vX
def Hn:AC:=.reg [⟨none,.p2 (ag P .gtr 3) (.tmp 10) (.tmp 11)⟩] [(134,.loc 0)]
def yt:List (Nat×aw):=[(0,⟨none,.mv (.tmp 0)⟩),(1,⟨none,.mv (.tmp 10)⟩),(2,⟨none,.mv (.tmp 0)⟩),(3,⟨none,.mv (.tmp 11)⟩),(4,⟨none,.mv (.tmp 0)⟩),(5,⟨none,.mv (.tmp 11)⟩),(6,⟨none,.p2 (aa P 51) (.opi 4) (.opi 5)⟩),(7,⟨none,.ld1 (.opi 6)⟩),(8,⟨none,.mv (.tmp 0)⟩),(9,⟨none,.mv (.tmp 10)⟩),(10,⟨none,.p2 (aa P 51) (.opi 8) (.opi 9)⟩),(11,⟨none,.ld1 (.opi 10)⟩),(12,⟨none,.p2 (aa P 51) (.opi 0) (.opi 1)⟩),(13,⟨none,.st1 (.opi 12) (.opi 7)⟩),(14,⟨none,.p2 (aa P 51) (.opi 2) (.opi 3)⟩),(15,⟨none,.st1 (.opi 14) (.opi 11)⟩)]
def Ho:AC:=.draw 16 (ar #[0,0,0,0,0,0,48,112,0,0,768,1792,4083,8179,16383,32767] yt [13,15] 0 (yt.filter fun x=>x.2.i.eff)) []
theorem Wo:bY Ho fun call tm h=>let g:=ac.mk h.bs (h.next+16);B (tm.gt 0) (fun v0=>B (tm.gt 10) (fun v1=>B (tm.gt 0) (fun v2=>B (tm.gt 11) (fun v3=>B (tm.gt 0) (fun v4=>B (tm.gt 11) (fun v5=>B (aa P 51 v4 v5) (fun v6=>B (am g v6) (fun v7=>B (tm.gt 0) (fun v8=>B (tm.gt 10) (fun v9=>B (aa P 51 v8 v9) (fun v10=>B (am g v10) (fun v11=>B (aa P 51 v0 v1) (fun v12=>B (aW g v12 v7) (fun r13=>B (aa P 51 v2 v3) (fun v14=>B (aW r13.2 v14 v11) (fun r15=>some (tm,r15.2)) tg) tg) tg) tg) tg) tg) tg) tg) tg) tg) tg) tg) tg) tg) tg) tg:=b8 rfl (by kernel_rfl)
def Hp:AC:=.reg [⟨none,.p2 (ag P .add 3) (.tmp 10) (.cst (AV.int .i64 1))⟩] [(10,.loc 0)]
def Hq:AC:=.reg [⟨none,.p2 (ag P .sub 3) (.tmp 11) (.cst (AV.int .i64 1))⟩] [(11,.loc 0)]
def Hm:AC:=.seq (.seq Hn (.cond (.tmp 134) (.exit 4) .skip)) (.seq Ho (.seq Hp Hq))
def vV:AC:=.block 5 (.seq (.block 6 Hg) (.seq (.block 8 Hj) Hm))
def Ux:AC:=.loop vV
def yu:List (Nat×aw):=[(0,⟨none,.mv (.tmp 0)⟩),(1,⟨none,.mv (.tmp 11)⟩),(2,⟨none,.mv (.tmp 0)⟩),(3,⟨none,.mv (.tmp 1)⟩),(4,⟨none,.mv (.tmp 0)⟩),(5,⟨none,.mv (.tmp 1)⟩),(6,⟨none,.p2 (aa P 51) (.opi 4) (.opi 5)⟩),(7,⟨none,.ld1 (.opi 6)⟩),(8,⟨none,.mv (.tmp 0)⟩),(9,⟨none,.mv (.tmp 11)⟩),(10,⟨none,.p2 (aa P 51) (.opi 8) (.opi 9)⟩),(11,⟨none,.ld1 (.opi 10)⟩),(12,⟨none,.p2 (aa P 51) (.opi 0) (.opi 1)⟩),(13,⟨none,.st1 (.opi 12) (.opi 7)⟩),(14,⟨none,.p2 (aa P 51) (.opi 2) (.opi 3)⟩),(15,⟨none,.st1 (.opi 14) (.opi 11)⟩)]
def Hr:AC:=.draw 16 (ar #[0,0,0,0,0,0,48,112,0,0,768,1792,4083,8179,16383,32767] yu [13,15] 0 (yu.filter fun x=>x.2.i.eff)) []
theorem Wp:bY Hr fun call tm h=>let g:=ac.mk h.bs (h.next+16);B (tm.gt 0) (fun v0=>B (tm.gt 11) (fun v1=>B (tm.gt 0) (fun v2=>B (tm.gt 1) (fun v3=>B (tm.gt 0) (fun v4=>B (tm.gt 1) (fun v5=>B (aa P 51 v4 v5) (fun v6=>B (am g v6) (fun v7=>B (tm.gt 0) (fun v8=>B (tm.gt 11) (fun v9=>B (aa P 51 v8 v9) (fun v10=>B (am g v10) (fun v11=>B (aa P 51 v0 v1) (fun v12=>B (aW g v12 v7) (fun r13=>B (aa P 51 v2 v3) (fun v14=>B (aW r13.2 v14 v11) (fun r15=>some (tm,r15.2)) tg) tg) tg) tg) tg) tg) tg) tg) tg) tg) tg) tg) tg) tg) tg) tg:=b8 rfl (by kernel_rfl)
def Hs:AC:=.reg [] [(9,.cst (AV.bool false)),(8,.tmp 11)]
def He:AC:=.seq Hf (.seq (.block 4 Ux) (.seq Hr (.seq Hs .ret)))
def G2:AC:=.seq (.block 2 G3) (.seq G7 (.seq Hb (.seq Hd He)))
def O7:AC:=.seq O8 (.seq O9 (.seq Pa (.seq (.block 0 Pb) G2)))
def IH:cA:=⟨O7,[.tmp 8,.tmp 9],168,true⟩
theorem zez:ci P (keepF P) 175=some IH:=by kernel_rfl
def iV:=An (kR O8 rfl)<|An zcp<|An (kR Pa rfl)<|An Wi<|An (kR G1 rfl)<|An (kS Ba rfl)<|An Wj<|An (kR G6 rfl)<|An (kS vU rfl)<|An (kR G8 rfl)<|An Wk<|An (kR Ha rfl)<|An (kS G7 rfl)<|An Wl<|An (kR Hd rfl)<|An (kR Hf rfl)<|An Wm<|An (kR Hi rfl)<|An (kS vW rfl)<|An Wn<|An (kR Hl rfl)<|An (kS vX rfl)<|An (kR Hn rfl)<|An Wo<|An (kR Hp rfl)<|An (kR Hq rfl)<|An (kS Hm rfl)<|An (kB vV rfl)<|An Wp<|An (kR Hs rfl)<|An (kS He rfl)<|An (kS G2 rfl)<|(kS O7 rfl)
def Pd:AC:=.reg [] [(2,.cst (AV.int .i64 0))]
def Pf:AC:=.reg [⟨none,.p2 (ag P .geq 185) (.tmp 0) (.cst (AV.int .u64 4294967296))⟩] [(4,.loc 0)]
def Pg:AC:=.reg [⟨none,.p2 (ag P .shr 185) (.tmp 0) (.cst (AV.int .u64 32))⟩] [(0,.loc 0)]
def Ph:AC:=.reg [] [(2,.cst (AV.int .i64 32))]
def Hu:AC:=.reg [⟨none,.p2 (ag P .geq 185) (.tmp 0) (.cst (AV.int .u64 65536))⟩] [(8,.loc 0)]
def Hv:AC:=.reg [⟨none,.p2 (ag P .shr 185) (.tmp 0) (.cst (AV.int .u64 16))⟩] [(0,.loc 0)]
def Hw:AC:=.reg [⟨none,.p2 (ag P .add 3) (.tmp 2) (.cst (AV.int .i64 16))⟩] [(2,.loc 0)]
def Hy:AC:=.reg [⟨none,.p2 (ag P .geq 185) (.tmp 0) (.cst (AV.int .u64 256))⟩] [(14,.loc 0)]
def Hz:AC:=.reg [⟨none,.p2 (ag P .shr 185) (.tmp 0) (.cst (AV.int .u64 8))⟩] [(0,.loc 0)]
def HA:AC:=.reg [⟨none,.p2 (ag P .add 3) (.tmp 2) (.cst (AV.int .i64 8))⟩] [(2,.loc 0)]
def HB:AC:=.reg [⟨none,.p1 (eU P 185 5) (.tmp 0)⟩,⟨none,.p2 (kQ P 9) (.cst (AV.str [0,1,2,2,3,3,3,3,4,4,4,4,4,4,4,4,5,5,5,5,5,5,5,5,5,5,5,5,5,5,5,5,6,6,6,6,6,6,6,6,6,6,6,6,6,6,6,6,6,6,6,6,6,6,6,6,6,6,6,6,6,6,6,6,7,7,7,7,7,7,7,7,7,7,7,7,7,7,7,7,7,7,7,7,7,7,7,7,7,7,7,7,7,7,7,7,7,7,7,7,7,7,7,7,7,7,7,7,7,7,7,7,7,7,7,7,7,7,7,7,7,7,7,7,7,7,7,7,8,8,8,8,8,8,8,8,8,8,8,8,8,8,8,8,8,8,8,8,8,8,8,8,8,8,8,8,8,8,8,8,8,8,8,8,8,8,8,8,8,8,8,8,8,8,8,8,8,8,8,8,8,8,8,8,8,8,8,8,8,8,8,8,8,8,8,8,8,8,8,8,8,8,8,8,8,8,8,8,8,8,8,8,8,8,8,8,8,8,8,8,8,8,8,8,8,8,8,8,8,8,8,8,8,8,8,8,8,8,8,8,8,8,8,8,8,8,8,8,8,8,8,8,8,8,8,8])) (.loc 0)⟩,⟨none,.p1 (eU P 5 3) (.loc 0)⟩,⟨none,.p2 (ag P .add 3) (.tmp 2) (.loc 0)⟩] [(2,.loc 0)]
def Hx:AC:=.seq (.seq Hy (.cond (.tmp 14) (.seq Hz HA) .skip)) (.seq HB .ret)
def Ht:AC:=.seq (.seq Hu (.cond (.tmp 8) (.seq Hv Hw) .skip)) Hx
def Pe:AC:=.seq (.seq Pf (.cond (.tmp 4) (.seq Pg Ph) .skip)) Ht
def II:cA:=⟨(.seq Pd Pe),[.tmp 2],25,true⟩
theorem zeA:ci P (keepF P) 177=some II:=by kernel_rfl
def zc3:=An (kR Pd rfl)<|An (kR Pf rfl)<|An (kR Pg rfl)<|An (kR Ph rfl)<|An (kR Hu rfl)<|An (kR Hv rfl)<|An (kR Hw rfl)<|An (kR Hy rfl)<|An (kR Hz rfl)<|An (kR HA rfl)<|An (kR HB rfl)<|An (kS Hx rfl)<|An (kS Ht rfl)<|(kS Pe rfl)
def Pr:AC:=.reg [] [(8,.tmp 1)]
def Ps:AC:=.reg [⟨none,.p2 (ag P .mul 3) (.cst (AV.int .i64 2)) (.tmp 8)⟩,⟨none,.p2 (ag P .add 3) (.loc 0) (.cst (AV.int .i64 1))⟩] [(9,.loc 0)]
def Pu:AC:=.reg [⟨none,.p2 (ag P .geq 3) (.tmp 9) (.tmp 2)⟩] [(16,.loc 0)]
def yw:List (Nat×aw):=[(0,⟨none,.mv (.tmp 9)⟩),(1,⟨none,.p2 (ag P .add 3) (.opi 0) (.cst (AV.int .i64 1))⟩),(2,⟨none,.mv (.tmp 2)⟩),(3,⟨none,.p2 (ag P .lss 3) (.opi 1) (.opi 2)⟩),(4,⟨none,.mv (.opi 3)⟩),(5,⟨some (.opi 4,true),.mv (.tmp 0)⟩),(6,⟨some (.opi 4,true),.mv (.tmp 3)⟩),(7,⟨some (.opi 4,true),.mv (.tmp 9)⟩),(8,⟨some (.opi 4,true),.p2 (ag P .add 3) (.opi 6) (.opi 7)⟩),(9,⟨some (.opi 4,true),.p2 (aa P 51) (.opi 5) (.opi 8)⟩),(10,⟨some (.opi 4,true),.ld1 (.opi 9)⟩),(11,⟨some (.opi 4,true),.mv (.tmp 0)⟩),(12,⟨some (.opi 4,true),.mv (.tmp 3)⟩),(13,⟨some (.opi 4,true),.mv (.tmp 9)⟩),(14,⟨some (.opi 4,true),.p2 (ag P .add 3) (.opi 12) (.opi 13)⟩),(15,⟨some (.opi 4,true),.p2 (ag P .add 3) (.opi 14) (.cst (AV.int .i64 1))⟩),(16,⟨some (.opi 4,true),.p2 (aa P 51) (.opi 11) (.opi 15)⟩),(17,⟨some (.opi 4,true),.ld1 (.opi 16)⟩),(18,⟨some (.opi 4,true),.cl (cf 173) [.opi 10,.opi 17]⟩),(19,⟨none,.pick (.opi 4) (.opi 18) (.cst (AV.bool false))⟩)]
def HD:AC:=.draw 20 (ar #[0,1,0,7,15,31,31,31,223,511,1023,31,31,31,12319,28703,63519,129055,262143,524287] yw [18] 0 (yw.filter fun x=>x.2.i.eff)) [(36,19)]
theorem Wq:bY HD fun call tm h=>let g:=ac.mk h.bs (h.next+20);B (tm.gt 9) (fun v0=>B (ag P .add 3 v0 (AV.int .i64 1)) (fun v1=>B (tm.gt 2) (fun v2=>B (ag P .lss 3 v1 v2) (fun v3=>B (cJ true v3 (tm.gt 0)) (fun v5=>B (cJ true v3 (tm.gt 3)) (fun v6=>B (cJ true v3 (tm.gt 9)) (fun v7=>B (cJ true v3 (ag P .add 3 v6 v7)) (fun v8=>B (cJ true v3 (aa P 51 v5 v8)) (fun v9=>B (cJ true v3 (am g v9)) (fun v10=>B (cJ true v3 (tm.gt 0)) (fun v11=>B (cJ true v3 (tm.gt 3)) (fun v12=>B (cJ true v3 (tm.gt 9)) (fun v13=>B (cJ true v3 (ag P .add 3 v12 v13)) (fun v14=>B (cJ true v3 (ag P .add 3 v14 (AV.int .i64 1))) (fun v15=>B (cJ true v3 (aa P 51 v11 v15)) (fun v16=>B (cJ true v3 (am g v16)) (fun v17=>B (match wanted true v3 with | true=>(call (.fn 173) [v10,v17] g) | false=>some (aJ,g)) (fun r18=>B (cH (fun t=>match t with | true=>some r18.1 | false=>some (AV.bool false)) v3) (fun v19=>some ((tm.up (some v19) 36),r18.2)) tg) tg) tg) tg) tg) tg) tg) tg) tg) tg) tg) tg) tg) tg) tg) tg) tg) tg) tg:=b8 rfl (by kernel_rfl)
def HE:AC:=.reg [⟨none,.p2 (ag P .add 3) (.tmp 9) (.cst (AV.int .i64 1))⟩] [(9,.loc 0)]
def yx:List (Nat×aw):=[(0,⟨none,.mv (.tmp 0)⟩),(1,⟨none,.mv (.tmp 3)⟩),(2,⟨none,.mv (.tmp 8)⟩),(3,⟨none,.p2 (ag P .add 3) (.opi 1) (.opi 2)⟩),(4,⟨none,.p2 (aa P 51) (.opi 0) (.opi 3)⟩),(5,⟨none,.ld1 (.opi 4)⟩),(6,⟨none,.mv (.tmp 0)⟩),(7,⟨none,.mv (.tmp 3)⟩),(8,⟨none,.mv (.tmp 9)⟩),(9,⟨none,.p2 (ag P .add 3) (.opi 7) (.opi 8)⟩),(10,⟨none,.p2 (aa P 51) (.opi 6) (.opi 9)⟩),(11,⟨none,.ld1 (.opi 10)⟩),(12,⟨none,.cl (cf 173) [.opi 5,.opi 11]⟩),(13,⟨none,.p1 (iG .not) (.opi 12)⟩)]
def HF:AC:=.draw 14 (ar #[0,0,0,6,15,31,0,0,0,384,960,1984,4095,8191] yx [12] 0 (yx.filter fun x=>x.2.i.eff)) [(52,13)]
theorem Wr:bY HF fun call tm h=>let g:=ac.mk h.bs (h.next+14);B (tm.gt 0) (fun v0=>B (tm.gt 3) (fun v1=>B (tm.gt 8) (fun v2=>B (ag P .add 3 v1 v2) (fun v3=>B (aa P 51 v0 v3) (fun v4=>B (am g v4) (fun v5=>B (tm.gt 0) (fun v6=>B (tm.gt 3) (fun v7=>B (tm.gt 9) (fun v8=>B (ag P .add 3 v7 v8) (fun v9=>B (aa P 51 v6 v9) (fun v10=>B (am g v10) (fun v11=>B (call (.fn 173) [v5,v11] g) (fun r12=>B (iG .not r12.1) (fun v13=>some ((tm.up (some v13) 52),r12.2)) tg) tg) tg) tg) tg) tg) tg) tg) tg) tg) tg) tg) tg) tg:=b8 rfl (by kernel_rfl)
def yy:List (Nat×aw):=[(0,⟨none,.mv (.tmp 0)⟩),(1,⟨none,.mv (.tmp 3)⟩),(2,⟨none,.mv (.tmp 8)⟩),(3,⟨none,.p2 (ag P .add 3) (.opi 1) (.opi 2)⟩),(4,⟨none,.mv (.tmp 0)⟩),(5,⟨none,.mv (.tmp 3)⟩),(6,⟨none,.mv (.tmp 9)⟩),(7,⟨none,.p2 (ag P .add 3) (.opi 5) (.opi 6)⟩),(8,⟨none,.mv (.tmp 0)⟩),(9,⟨none,.mv (.tmp 3)⟩),(10,⟨none,.mv (.tmp 9)⟩),(11,⟨none,.p2 (ag P .add 3) (.opi 9) (.opi 10)⟩),(12,⟨none,.p2 (aa P 51) (.opi 8) (.opi 11)⟩),(13,⟨none,.ld1 (.opi 12)⟩),(14,⟨none,.mv (.tmp 0)⟩),(15,⟨none,.mv (.tmp 3)⟩),(16,⟨none,.mv (.tmp 8)⟩),(17,⟨none,.p2 (ag P .add 3) (.opi 15) (.opi 16)⟩),(18,⟨none,.p2 (aa P 51) (.opi 14) (.opi 17)⟩),(19,⟨none,.ld1 (.opi 18)⟩),(20,⟨none,.p2 (aa P 51) (.opi 0) (.opi 3)⟩),(21,⟨none,.st1 (.opi 20) (.opi 13)⟩),(22,⟨none,.p2 (aa P 51) (.opi 4) (.opi 7)⟩),(23,⟨none,.st1 (.opi 22) (.opi 19)⟩)]
def HG:AC:=.draw 24 (ar #[0,0,0,6,0,0,0,96,0,0,0,1536,3840,7936,0,0,0,98304,245760,507904,1048335,2096911,4194303,8388607] yy [21,23] 0 (yy.filter fun x=>x.2.i.eff)) []
theorem Ws:bY HG fun call tm h=>let g:=ac.mk h.bs (h.next+24);B (tm.gt 0) (fun v0=>B (tm.gt 3) (fun v1=>B (tm.gt 8) (fun v2=>B (ag P .add 3 v1 v2) (fun v3=>B (tm.gt 0) (fun v4=>B (tm.gt 3) (fun v5=>B (tm.gt 9) (fun v6=>B (ag P .add 3 v5 v6) (fun v7=>B (tm.gt 0) (fun v8=>B (tm.gt 3) (fun v9=>B (tm.gt 9) (fun v10=>B (ag P .add 3 v9 v10) (fun v11=>B (aa P 51 v8 v11) (fun v12=>B (am g v12) (fun v13=>B (tm.gt 0) (fun v14=>B (tm.gt 3) (fun v15=>B (tm.gt 8) (fun v16=>B (ag P .add 3 v15 v16) (fun v17=>B (aa P 51 v14 v17) (fun v18=>B (am g v18) (fun v19=>B (aa P 51 v0 v3) (fun v20=>B (aW g v20 v13) (fun r21=>B (aa P 51 v4 v7) (fun v22=>B (aW r21.2 v22 v19) (fun r23=>some (tm,r23.2)) tg) tg) tg) tg) tg) tg) tg) tg) tg) tg) tg) tg) tg) tg) tg) tg) tg) tg) tg) tg) tg) tg) tg) tg:=b8 rfl (by kernel_rfl)
def HH:AC:=.reg [] [(8,.tmp 9)]
def qv:AC:=.seq (.seq HF (.cond (.tmp 52) .ret .skip)) (.seq HG HH)
def Pt:AC:=.seq (.seq Pu (.cond (.tmp 16) (.exit 0) .skip)) (.seq (.seq HD (.cond (.tmp 36) HE .skip)) qv)
def Bb:AC:=.block 1 (.seq Ps Pt)
def zbp:AC:=.loop Bb
theorem qC:type_of% (kS qv rfl):=(kS qv rfl)
def IL:cA:=⟨(.seq Pr (.block 0 zbp)),[],76,true⟩
theorem zeD:ci P (keepF P) 182=some IL:=by kernel_rfl
def Ar:=An (kR Pr rfl)<|An (kR Ps rfl)<|An (kR Pu rfl)<|An Wq<|An (kR HE rfl)<|An Wr<|An Ws<|An (kR HH rfl)<|An (kS Pt rfl)<|(kB Bb rfl)
def Pv:AC:=.reg [] [(2,.cst (AV.int .u64 0))]
def Pw:AC:=.reg [⟨none,.p1 (eU P 3 154) (.tmp 0)⟩,⟨none,.cl (cf 144) [.loc 0]⟩,⟨none,.p2 (ag P .shl 154) (.cst (AV.int .u64 1)) (.loc 0)⟩] [(2,.loc 0)]
def IM:cA:=⟨(.seq Pv (.seq Pw .ret)),[.tmp 2],7,true⟩
theorem zeE:ci P (keepF P) 183=some IM:=by kernel_rfl
def zf2:=An (kR Pv rfl)<|(kR Pw rfl)
def Pz:AC:=.reg [] [(2,.cst (AV.int .u64 0))]
def HI:List (Nat×aw):=[(0,⟨none,.mv (.tmp 0)⟩),(1,⟨none,.p1 (aj) (.opi 0)⟩),(2,⟨none,.ld1 (.opi 1)⟩),(3,⟨none,.mv (.tmp 0)⟩),(4,⟨none,.p1 (aj) (.opi 3)⟩),(5,⟨none,.ld1 (.opi 4)⟩),(6,⟨none,.p2 (ag P .shl 257) (.opi 5) (.cst (AV.int .u64 13))⟩),(7,⟨none,.p2 (ag P .xor 257) (.opi 2) (.opi 6)⟩),(8,⟨none,.p1 (aj) (.opi 0)⟩),(9,⟨none,.st1 (.opi 8) (.opi 7)⟩)]
def PA:AC:=.draw 10 (ar #[0,1,3,0,8,24,56,127,255,511] HI [9] 0 (HI.filter fun x=>x.2.i.eff)) []
theorem zcq:bY PA fun call tm h=>let g:=ac.mk h.bs (h.next+10);B (tm.gt 0) (fun v0=>B (aj v0) (fun v1=>B (am g v1) (fun v2=>B (tm.gt 0) (fun v3=>B (aj v3) (fun v4=>B (am g v4) (fun v5=>B (ag P .shl 257 v5 (AV.int .u64 13)) (fun v6=>B (ag P .xor 257 v2 v6) (fun v7=>B (aj v0) (fun v8=>B (aW g v8 v7) (fun r9=>some (tm,r9.2)) tg) tg) tg) tg) tg) tg) tg) tg) tg) tg:=b8 rfl (by kernel_rfl)
def HJ:List (Nat×aw):=[(0,⟨none,.mv (.tmp 0)⟩),(1,⟨none,.p1 (aj) (.opi 0)⟩),(2,⟨none,.ld1 (.opi 1)⟩),(3,⟨none,.mv (.tmp 0)⟩),(4,⟨none,.p1 (aj) (.opi 3)⟩),(5,⟨none,.ld1 (.opi 4)⟩),(6,⟨none,.p2 (ag P .shr 257) (.opi 5) (.cst (AV.int .u64 7))⟩),(7,⟨none,.p2 (ag P .xor 257) (.opi 2) (.opi 6)⟩),(8,⟨none,.p1 (aj) (.opi 0)⟩),(9,⟨none,.st1 (.opi 8) (.opi 7)⟩)]
def PB:AC:=.draw 10 (ar #[0,1,3,0,8,24,56,127,255,511] HJ [9] 0 (HJ.filter fun x=>x.2.i.eff)) []
theorem zcr:bY PB fun call tm h=>let g:=ac.mk h.bs (h.next+10);B (tm.gt 0) (fun v0=>B (aj v0) (fun v1=>B (am g v1) (fun v2=>B (tm.gt 0) (fun v3=>B (aj v3) (fun v4=>B (am g v4) (fun v5=>B (ag P .shr 257 v5 (AV.int .u64 7)) (fun v6=>B (ag P .xor 257 v2 v6) (fun v7=>B (aj v0) (fun v8=>B (aW g v8 v7) (fun r9=>some (tm,r9.2)) tg) tg) tg) tg) tg) tg) tg) tg) tg) tg:=b8 rfl (by kernel_rfl)
def HK:List (Nat×aw):=[(0,⟨none,.mv (.tmp 0)⟩),(1,⟨none,.p1 (aj) (.opi 0)⟩),(2,⟨none,.ld1 (.opi 1)⟩),(3,⟨none,.mv (.tmp 0)⟩),(4,⟨none,.p1 (aj) (.opi 3)⟩),(5,⟨none,.ld1 (.opi 4)⟩),(6,⟨none,.p2 (ag P .shl 257) (.opi 5) (.cst (AV.int .u64 17))⟩),(7,⟨none,.p2 (ag P .xor 257) (.opi 2) (.opi 6)⟩),(8,⟨none,.p1 (aj) (.opi 0)⟩),(9,⟨none,.st1 (.opi 8) (.opi 7)⟩)]
def PC:AC:=.draw 10 (ar #[0,1,3,0,8,24,56,127,255,511] HK [9] 0 (HK.filter fun x=>x.2.i.eff)) []
theorem zcs:bY PC fun call tm h=>let g:=ac.mk h.bs (h.next+10);B (tm.gt 0) (fun v0=>B (aj v0) (fun v1=>B (am g v1) (fun v2=>B (tm.gt 0) (fun v3=>B (aj v3) (fun v4=>B (am g v4) (fun v5=>B (ag P .shl 257 v5 (AV.int .u64 17)) (fun v6=>B (ag P .xor 257 v2 v6) (fun v7=>B (aj v0) (fun v8=>B (aW g v8 v7) (fun r9=>some (tm,r9.2)) tg) tg) tg) tg) tg) tg) tg) tg) tg) tg:=b8 rfl (by kernel_rfl)
def PD:AC:=.reg [⟨none,.p1 (aj) (.tmp 0)⟩,⟨none,.ld1 (.loc 0)⟩] [(2,.loc 0)]
def Py:AC:=.seq Pz (.seq PA (.seq PB (.seq PC (.seq PD .ret))))
def IN:cA:=⟨Py,[.tmp 2],33,true⟩
theorem zeF:ci P (keepF P) 184=some IN:=by kernel_rfl
def zf3:=An (kR Pz rfl)<|An zcq<|An zcr<|An zcs<|An (kR PD rfl)<|(kS Py rfl)
def PE:AC:=.reg [] [(6,.cst (AV.int .i64 0))]
def PF:AC:=.reg [⟨none,.p2 (ag P .sub 3) (.tmp 1) (.cst (AV.int .i64 1))⟩,⟨none,.p2 (ag P .add 3) (.tmp 1) (.cst (AV.int .i64 1))⟩,⟨none,.cl (cf 186) [.tmp 0,.loc 1,.tmp 1,.loc 0,.tmp 2]⟩] [(6,.loc 0)]
def IP:cA:=⟨(.seq PE (.seq PF .ret)),[.tmp 6],15,true⟩
theorem zeG:ci P (keepF P) 185=some IP:=by kernel_rfl
def zf4:=An (kR PE rfl)<|(kR PF rfl)
def PH:AC:=.reg [] [(10,.cst (AV.int .i64 0))]
def PI:AC:=.reg [⟨none,.cl (cf 188) [.tmp 0,.tmp 1,.tmp 2,.tmp 4]⟩,⟨none,.p1 (aq 0) (.loc 0)⟩,⟨none,.p1 (aq 1) (.loc 1)⟩] [(2,.loc 0),(1,.loc 1)]
def PJ:AC:=.reg [⟨none,.cl (cf 188) [.tmp 0,.tmp 2,.tmp 3,.tmp 4]⟩,⟨none,.p1 (aq 0) (.loc 0)⟩,⟨none,.p1 (aq 1) (.loc 1)⟩] [(3,.loc 0),(2,.loc 1)]
def PK:AC:=.reg [⟨none,.cl (cf 188) [.tmp 0,.tmp 1,.tmp 2,.tmp 4]⟩,⟨none,.p1 (aq 0) (.loc 0)⟩,⟨none,.p1 (aq 1) (.loc 1)⟩] [(2,.loc 0),(1,.loc 1)]
def PL:AC:=.reg [] [(10,.tmp 2)]
def PG:AC:=.seq PH (.seq PI (.seq PJ (.seq PK (.seq PL .ret))))
def IQ:cA:=⟨PG,[.tmp 10],36,true⟩
theorem zeH:ci P (keepF P) 186=some IQ:=by kernel_rfl
def zf5:=An (kR PH rfl)<|An (kR PI rfl)<|An (kR PJ rfl)<|An (kR PK rfl)<|An (kR PL rfl)<|(kS PG rfl)
def PM:AC:=.reg [] [(2,.cst (AV.bool false))]
def PN:AC:=.reg [⟨none,.p2 (ag P .neq 48) (.tmp 0) (.tmp 0)⟩] [(2,.loc 0)]
def IR:cA:=⟨(.seq PM (.seq PN .ret)),[.tmp 2],6,true⟩
theorem zeI:ci P (keepF P) 187=some IR:=by kernel_rfl
def zf6:=An (kR PM rfl)<|(kR PN rfl)
def PO:AC:=.reg [] [(9,.cst (AV.int .i64 0)),(8,.cst (AV.int .i64 0))]
def HM:List (Nat×aw):=[(0,⟨none,.mv (.tmp 0)⟩),(1,⟨none,.mv (.tmp 2)⟩),(2,⟨none,.p2 (aa P 51) (.opi 0) (.opi 1)⟩),(3,⟨none,.ld1 (.opi 2)⟩),(4,⟨none,.mv (.tmp 0)⟩),(5,⟨none,.mv (.tmp 1)⟩),(6,⟨none,.p2 (aa P 51) (.opi 4) (.opi 5)⟩),(7,⟨none,.ld1 (.opi 6)⟩),(8,⟨none,.cl (cf 173) [.opi 3,.opi 7]⟩)]
def PQ:AC:=.draw 9 (ar #[0,0,3,7,0,0,48,112,255] HM [8] 0 (HM.filter fun x=>x.2.i.eff)) [(18,8)]
theorem zct:bY PQ fun call tm h=>let g:=ac.mk h.bs (h.next+9);B (tm.gt 0) (fun v0=>B (tm.gt 2) (fun v1=>B (aa P 51 v0 v1) (fun v2=>B (am g v2) (fun v3=>B (tm.gt 0) (fun v4=>B (tm.gt 1) (fun v5=>B (aa P 51 v4 v5) (fun v6=>B (am g v6) (fun v7=>B (call (.fn 173) [v3,v7] g) (fun r8=>some ((tm.up (some r8.1) 18),r8.2)) tg) tg) tg) tg) tg) tg) tg) tg) tg:=b8 rfl (by kernel_rfl)
def PR:AC:=.reg [⟨none,.p1 (aj) (.tmp 3)⟩,⟨none,.ld1 (.loc 0)⟩,⟨none,.p2 (ag P .add 3) (.loc 0) (.cst (AV.int .i64 1))⟩,⟨none,.p1 (aj) (.tmp 3)⟩,⟨none,.st1 (.loc 0) (.loc 1)⟩] []
def PT:AC:=.reg [] [(9,.tmp 1),(8,.tmp 2)]
def PP:AC:=.seq PQ (.cond (.tmp 18) (.seq PR (.seq PT .ret)) .skip)
def HL:AC:=.reg [] [(9,.tmp 2),(8,.tmp 1)]
def IS:cA:=⟨(.seq PO (.seq PP (.seq HL .ret))),[.tmp 8,.tmp 9],28,true⟩
theorem zeJ:ci P (keepF P) 188=some IS:=by kernel_rfl
def zc6:=An (kR PO rfl)<|An zct<|An (kR PR rfl)<|An (kR PT rfl)<|An (kS PP rfl)<|(kR HL rfl)
theorem eJ (a:Option (Nat×Nat)) (n c:Nat) (g:Option Nat):bL P 51 (.slice a n c g)=some (.int .i64 n):=fq (e:=48) (by kernel_rfl) a n c g
theorem tF (k:IntKind) (n:Int):eU P 3 154 (.int k n)=some (.int .u64 (IntKind.wrap .u64 n)):=oB (d:=(.int .i64)) (by kernel_rfl) (by kernel_rfl) k n
theorem WG:aC P 48=some 1:=by kernel_rfl
theorem Um:cF P 48=some 4:=by kernel_rfl
theorem TZ:cd P 48=some (AV.int .u32 0):=by kernel_rfl
theorem aB {k:IntKind} {b o n c i:Nat} {g:Option Nat} (hi:i<n):aa P 51 (.slice (some (b,o)) n c g) (.int k (i:Int))=some (.ptr (some (b,o+i*1))):=gq (e:=48) (by kernel_rfl) (by kernel_rfl) hi
theorem Cp (k:IntKind) (n:Int):eU P 3 257 (.int k n)=some (.int .u64 (IntKind.wrap .u64 n)):=oB (d:=(.int .i64)) (by kernel_rfl) (by kernel_rfl) k n
theorem TM:bQ P 257=some (.cells (az [(AV.int .u64 0)] .leaf 0) (ay 257 true) 1 false,dy):=by kernel_rfl
theorem tD (k:IntKind) (n:Int):eU P 154 3 (.int k n)=some (.int .i64 (IntKind.wrap .i64 n)):=oB (d:=(.int .u64)) (by kernel_rfl) (by kernel_rfl) k n
theorem xB:bQ P 3=some (.cells (az [(AV.int .i64 0)] .leaf 0) (ay 3 true) 1 false,dy):=by kernel_rfl
theorem tE (k:IntKind) (n:Int):eU P 185 5 (.int k n)=some (.int .u8 (IntKind.wrap .u8 n)):=oB (d:=(.int .u64)) (by kernel_rfl) (by kernel_rfl) k n
theorem Cu {k:IntKind} (l:List Nat) (i:Nat):kQ P 9 (.str l) (.int k (i:Int))=l[i]?.map fun c=>.int .u8 (c:Int):=zbI (by kernel_rfl) l i
theorem oi (k:IntKind) (n:Int):eU P 5 3 (.int k n)=some (.int .i64 (IntKind.wrap .i64 n)):=oB (d:=(.int .u8)) (by kernel_rfl) (by kernel_rfl) k n
end
end Go.Proofs.YtboobbebilegnaaGreat
namespace Go.Proofs.YtboobbebilegnaaGreat
open Go.Am
noncomputable section
def YQ:AC:=.reg [] [(0,.cst (AV.ptr none))]
def YR:AC:=.reg [⟨none,.al (fun (_:List AV)=>ez P 173 true) []⟩,⟨none,.cl (cf 107) []⟩,⟨none,.pn (bK P 177 [0,1,2]) [.loc 1,.loc 0,.cst (AV.int .u32 1)]⟩,⟨none,.al (l1 cV) [.loc 0]⟩] [(0,.loc 0)]
def U0:cA:=⟨(.seq YQ (.seq YR .ret)),[.tmp 0],5,true⟩
theorem zgu:ci P (keepF P) 50=some U0:=by kernel_rfl
def F50:=An (kR YQ rfl)<|(kR YR rfl)
def Y2:AC:=.reg [⟨none,.al (l1 cV) [.tmp 0]⟩] [(2,.cst (AV.ptr none)),(1,.loc 0)]
def Y4:AC:=.reg [⟨none,.ld1 (.tmp 1)⟩,⟨none,.cl (cf 108) [.loc 0]⟩,⟨none,.p1 (iG .not) (.loc 0)⟩] [(7,.loc 0)]
def Y5:AC:=.reg [] [(2,.cst (AV.ptr none))]
def Qq:AC:=.reg [⟨none,.cl (cf 50) []⟩,⟨none,.al (fun (_:List AV)=>bQ P 94) []⟩,⟨none,.st1 (.loc 0) (.loc 1)⟩] [(3,.loc 1)]
def Qs:AC:=.reg [⟨none,.ld1 (.tmp 1)⟩,⟨none,.cl (cf 57) [.loc 0]⟩] [(10,.loc 0)]
def Bf:AC:=.reg [] [(4,.tmp 11)]
def HO:List (Nat×aw):=[(0,⟨none,.ld1 (.tmp 3)⟩),(1,⟨none,.mv (.tmp 4)⟩),(2,⟨none,.ld1 (.tmp 1)⟩),(3,⟨none,.p1 (aj) (.opi 2)⟩),(4,⟨none,.p1 (ae P 177 0) (.opi 3)⟩),(5,⟨none,.ld1 (.opi 4)⟩),(6,⟨none,.mv (.tmp 4)⟩),(7,⟨none,.rd (fun vs h=>l2 (fun m k=>dY P 173 false m k h) vs) [.opi 5,.opi 6]⟩),(8,⟨none,.cl (cf 109) [.opi 0,.opi 1,.opi 7]⟩)]
def Qu:AC:=.draw 9 (ar #[0,0,0,4,12,28,0,124,255] HO [8] 0 (HO.filter fun x=>x.2.i.eff)) []
theorem zcv:bY Qu fun call tm h=>let g:=ac.mk h.bs (h.next+9);B (B (tm.gt 3) (fun a=>am g a) tg) (fun v0=>B (tm.gt 4) (fun v1=>B (B (tm.gt 1) (fun a=>am g a) tg) (fun v2=>B (aj v2) (fun v3=>B (ae P 177 0 v3) (fun v4=>B (am g v4) (fun v5=>B (tm.gt 4) (fun v6=>B ((fun vs h=>l2 (fun m k=>dY P 173 false m k h) vs) [v5,v6] g) (fun v7=>B (call (.fn 109) [v0,v1,v7] g) (fun r8=>some (tm,r8.2)) tg) tg) tg) tg) tg) tg) tg) tg) tg:=b8 rfl (by kernel_rfl)
def Bg:AC:=.block 1 Qu
def ns:Code:=ja (j9 P 54) [1,1,1,0,1,0] 0
def nu:Code:=ja (j9 P 54) [1,1,1,0,1,0] 1
def Qt:AC:=.rangeF (.tmp 10) [11] ns nu
theorem VU:bu P (keepF P 54) 29 ns=Bf:=by kernel_rfl
theorem VV:bu P (keepF P 54) 29 nu=Bg:=by kernel_rfl
def HP:List (Nat×aw):=[(0,⟨none,.ld1 (.tmp 3)⟩),(1,⟨none,.ld1 (.tmp 1)⟩),(2,⟨none,.p1 (aj) (.opi 1)⟩),(3,⟨none,.p1 (ae P 177 2) (.opi 2)⟩),(4,⟨none,.ld1 (.opi 3)⟩),(5,⟨none,.p1 (aj) (.opi 0)⟩),(6,⟨none,.p1 (ae P 177 2) (.opi 5)⟩),(7,⟨none,.st1 (.opi 6) (.opi 4)⟩)]
def vY:AC:=.draw 8 (ar #[0,0,2,6,14,31,63,127] HP [7] 0 (HP.filter fun x=>x.2.i.eff)) []
theorem zcw:bY vY fun call tm h=>let g:=ac.mk h.bs (h.next+8);B (B (tm.gt 3) (fun a=>am g a) tg) (fun v0=>B (B (tm.gt 1) (fun a=>am g a) tg) (fun v1=>B (aj v1) (fun v2=>B (ae P 177 2 v2) (fun v3=>B (am g v3) (fun v4=>B (aj v0) (fun v5=>B (ae P 177 2 v5) (fun v6=>B (aW g v6 v4) (fun r7=>some (tm,r7.2)) tg) tg) tg) tg) tg) tg) tg) tg:=b8 rfl (by kernel_rfl)
def vZ:AC:=.reg [⟨none,.ld1 (.tmp 3)⟩] [(2,.loc 0)]
def Qr:AC:=.seq (.seq Qs (.block 0 Qt)) (.seq vY (.seq vZ .ret))
def Y3:AC:=.seq (.seq Y4 (.cond (.tmp 7) (.seq Y5 .ret) .skip)) (.seq Qq Qr)
def U4:cA:=⟨(.seq Y2 Y3),[.tmp 2],29,false⟩
theorem zgy:ci P (keepF P) 54=some U4:=by kernel_rfl
def F54:=An (kR Y2 rfl)<|An (kR Y4 rfl)<|An (kR Y5 rfl)<|An (kR Qq rfl)<|An (kR Qs rfl)<|An (kR Bf rfl)<|An zcv<|An (kB Bg rfl)<|An zcw<|An (kR vZ rfl)<|An (kS Qr rfl)<|(kS Y3 rfl)
def Zf:AC:=.reg [⟨none,.al (l1 cV) [.tmp 0]⟩] [(2,.cst AV.nilFunc),(1,.loc 0)]
def Zg:AC:=.reg [⟨none,.pn (dH (Fn.func 112) 0) [.tmp 1]⟩] [(2,.loc 0)]
def U7:cA:=⟨(.seq Zf (.seq Zg .ret)),[.tmp 2],4,true⟩
theorem zgB:ci P (keepF P) 57=some U7:=by kernel_rfl
def F57:=An (kR Zf rfl)<|(kR Zg rfl)
def Zh:AC:=.reg [] [(7,.cst (AV.bool false)),(6,.cst (AV.int .i64 0)),(5,.cst (AV.int .i64 0)),(4,.cst (AV.str []))]
def Zi:AC:=.reg [⟨none,.cl (cf 115) [.tmp 0,.tmp 1]⟩,⟨none,.p1 (aq 0) (.loc 0)⟩,⟨none,.p1 (aq 1) (.loc 1)⟩,⟨none,.al (fun (_:List AV)=>bQ P 183) []⟩,⟨none,.ef (fun vs _ h=>l2 (eV 3 h) vs) [.loc 0,.loc 2]⟩] [(9,.loc 2),(8,.loc 1)]
def Qz:List (Nat×aw):=[(0,⟨none,.p1 (ae P 183 0) (.tmp 8)⟩),(1,⟨none,.ld1 (.opi 0)⟩),(2,⟨none,.p1 (ae P 183 1) (.tmp 8)⟩),(3,⟨none,.ld1 (.opi 2)⟩),(4,⟨none,.p1 (ae P 183 2) (.tmp 8)⟩),(5,⟨none,.ld1 (.opi 4)⟩),(6,⟨none,.mv (.tmp 9)⟩),(7,⟨none,.p2 (ag P .eql 38) (.opi 6) (.cst (AV.int .i64 0))⟩),(8,⟨none,.mv (.opi 1)⟩),(9,⟨none,.mv (.opi 3)⟩),(10,⟨none,.mv (.opi 5)⟩),(11,⟨none,.mv (.opi 7)⟩)]
def Zj:AC:=.draw 12 (ar #[0,1,0,4,0,16,0,64,3,271,831,2047] Qz [] 0 (Qz.filter fun x=>x.2.i.eff)) [(7,11),(6,10),(5,9),(4,8)]
theorem ze9:bY Zj fun call tm h=>let g:=ac.mk h.bs (h.next+12);B (B (tm.gt 8) (fun a=>ae P 183 0 a) tg) (fun v0=>B (am g v0) (fun v1=>B (B (tm.gt 8) (fun a=>ae P 183 1 a) tg) (fun v2=>B (am g v2) (fun v3=>B (B (tm.gt 8) (fun a=>ae P 183 2 a) tg) (fun v4=>B (am g v4) (fun v5=>B (tm.gt 9) (fun v6=>B (ag P .eql 38 v6 (AV.int .i64 0)) (fun v7=>some (((((tm.up (some v7) 7).up (some v5) 6).up (some v3) 5).up (some v1) 4),g)) tg) tg) tg) tg) tg) tg) tg) tg:=b8 rfl (by kernel_rfl)
def U8:cA:=⟨(.seq Zh (.seq Zi (.seq Zj .ret))),[.tmp 4,.tmp 5,.tmp 6,.tmp 7],24,true⟩
theorem zgC:ci P (keepF P) 58=some U8:=by kernel_rfl
def F58:=An (kR Zh rfl)<|An (kR Zi rfl)<|ze9
def zam:AC:=.reg [] [(5,.cst (AV.int .i64 0)),(4,.cst (AV.bool false))]
def zan:AC:=.reg [⟨none,.cl (cf 115) [.tmp 0,.tmp 1]⟩,⟨none,.p1 (aq 0) (.loc 0)⟩,⟨none,.p1 (aq 1) (.loc 1)⟩,⟨none,.al (fun (_:List AV)=>bQ P 183) []⟩,⟨none,.ef (fun vs _ h=>l2 (eV 3 h) vs) [.loc 0,.loc 2]⟩] [(5,.loc 2),(6,.loc 1)]
def zap:AC:=.reg [⟨none,.p2 (ag P .neq 38) (.tmp 5) (.cst (AV.int .i64 0))⟩] [(14,.loc 0)]
def zaq:AC:=.reg [] [(5,.tmp 5),(4,.cst (AV.bool false))]
def RM:AC:=.reg [⟨none,.p1 (ae P 183 2) (.tmp 6)⟩,⟨none,.ld1 (.loc 0)⟩,⟨none,.p2 (ag P .sub 3) (.loc 0) (.cst (AV.int .i64 1))⟩,⟨none,.p1 (ae P 183 2) (.tmp 6)⟩,⟨none,.st1 (.loc 0) (.loc 1)⟩] []
def RO:AC:=.reg [⟨none,.p1 (ae P 183 2) (.tmp 6)⟩,⟨none,.ld1 (.loc 0)⟩,⟨none,.p2 (ag P .gtr 3) (.loc 0) (.cst (AV.int .i64 0))⟩] [(22,.loc 0)]
def HT:List (Nat×aw):=[(0,⟨none,.mv (.tmp 0)⟩),(1,⟨none,.p1 (aj) (.opi 0)⟩),(2,⟨none,.p1 (ae P 177 0) (.opi 1)⟩),(3,⟨none,.ld1 (.opi 2)⟩),(4,⟨none,.mv (.tmp 1)⟩),(5,⟨none,.ldn 3 (.tmp 6)⟩),(6,⟨none,.ef (fun vs _ h=>l3 (fun m k v=>gJ P 173 m k v h) vs) [.opi 3,.opi 4,.opi 5]⟩)]
def RP:AC:=.draw 7 (ar #[0,1,3,7,0,0,63] HT [6] 0 (HT.filter fun x=>x.2.i.eff)) []
theorem zcz:bY RP fun call tm h=>let g:=ac.mk h.bs (h.next+7);B (tm.gt 0) (fun v0=>B (aj v0) (fun v1=>B (ae P 177 0 v1) (fun v2=>B (am g v2) (fun v3=>B (tm.gt 1) (fun v4=>B (B (tm.gt 6) (fun a=>di 3 g a) tg) (fun v5=>B ((fun vs _ h=>l3 (fun m k v=>gJ P 173 m k v h) vs) [v3,v4,v5] g.next g) (fun r6=>some (tm,r6.2)) tg) tg) tg) tg) tg) tg) tg:=b8 rfl (by kernel_rfl)
def RQ:AC:=.reg [] [(5,.cst (AV.int .i64 0)),(4,.cst (AV.bool false))]
def RN:AC:=.seq RO (.cond (.tmp 22) (.seq RP (.seq RQ .ret)) .skip)
def RR:AC:=.reg [⟨none,.p1 (aj) (.tmp 0)⟩,⟨none,.p1 (ae P 177 0) (.loc 0)⟩,⟨none,.ld1 (.loc 0)⟩,⟨none,.ef (fun vs _ h=>l2 (fun m k=>mJ P 173 m k h) vs) [.loc 0,.tmp 1]⟩] []
def HU:List (Nat×aw):=[(0,⟨none,.mv (.tmp 0)⟩),(1,⟨none,.p1 (aj) (.opi 0)⟩),(2,⟨none,.p1 (ae P 177 1) (.opi 1)⟩),(3,⟨none,.ld1 (.opi 2)⟩),(4,⟨none,.p1 (ae P 183 0) (.tmp 6)⟩),(5,⟨none,.ld1 (.opi 4)⟩),(6,⟨none,.mv (.tmp 1)⟩),(7,⟨none,.cl (cf 142) [.opi 3,.opi 5,.opi 6]⟩)]
def RS:AC:=.draw 8 (ar #[0,1,3,7,0,16,0,127] HU [7] 0 (HU.filter fun x=>x.2.i.eff)) []
theorem zcA:bY RS fun call tm h=>let g:=ac.mk h.bs (h.next+8);B (tm.gt 0) (fun v0=>B (aj v0) (fun v1=>B (ae P 177 1 v1) (fun v2=>B (am g v2) (fun v3=>B (B (tm.gt 6) (fun a=>ae P 183 0 a) tg) (fun v4=>B (am g v4) (fun v5=>B (tm.gt 1) (fun v6=>B (call (.fn 142) [v3,v5,v6] g) (fun r7=>some (tm,r7.2)) tg) tg) tg) tg) tg) tg) tg) tg:=b8 rfl (by kernel_rfl)
def RT:AC:=.reg [] [(5,.cst (AV.int .i64 0)),(4,.cst (AV.bool true))]
def RL:AC:=.seq (.seq RM RN) (.seq RR (.seq RS (.seq RT .ret)))
def zao:AC:=.seq (.seq zap (.cond (.tmp 14) (.seq zaq .ret) .skip)) RL
def Bt:cA:=⟨(.seq zam (.seq zan zao)),[.tmp 4,.tmp 5],42,true⟩
theorem zeK:ci P (keepF P) 92=some Bt:=by kernel_rfl
def F92:=An (kR zam rfl)<|An (kR zan rfl)<|An (kR zap rfl)<|An (kR zaq rfl)<|An (kR RM rfl)<|An (kR RO rfl)<|An zcz<|An (kR RQ rfl)<|An (kS RN rfl)<|An (kR RR rfl)<|An zcA<|An (kR RT rfl)<|An (kS RL rfl)<|(kS zao rfl)
def zat:AC:=.reg [] [(4,.cst (AV.int .i64 0))]
def zau:AC:=.reg [⟨none,.cl (cf 115) [.tmp 0,.tmp 1]⟩,⟨none,.p1 (aq 0) (.loc 0)⟩,⟨none,.p1 (aq 1) (.loc 1)⟩,⟨none,.al (fun (_:List AV)=>bQ P 183) []⟩,⟨none,.ef (fun vs _ h=>l2 (eV 3 h) vs) [.loc 0,.loc 2]⟩] [(6,.loc 2),(5,.loc 1)]
def zaw:AC:=.reg [⟨none,.p2 (ag P .neq 38) (.tmp 6) (.cst (AV.int .i64 0))⟩] [(13,.loc 0)]
def RU:AC:=.reg [] [(4,.tmp 6)]
def RV:AC:=.reg [⟨none,.p1 (ae P 183 2) (.tmp 5)⟩,⟨none,.ld1 (.loc 0)⟩,⟨none,.p2 (ag P .eql 3) (.loc 0) (.cst (AV.int .i64 65535))⟩] [(17,.loc 0)]
def RW:AC:=.reg [] [(4,.cst (AV.int .i64 12))]
def zax:AC:=.cond (.tmp 13) (.seq RU .ret) (.seq RV (.cond (.tmp 17) (.seq RW .ret) .skip))
def RY:AC:=.reg [⟨none,.p1 (ae P 183 2) (.tmp 5)⟩,⟨none,.ld1 (.loc 0)⟩,⟨none,.p2 (ag P .add 3) (.loc 0) (.cst (AV.int .i64 1))⟩,⟨none,.p1 (ae P 183 2) (.tmp 5)⟩,⟨none,.st1 (.loc 0) (.loc 1)⟩] []
def HV:List (Nat×aw):=[(0,⟨none,.mv (.tmp 0)⟩),(1,⟨none,.p1 (aj) (.opi 0)⟩),(2,⟨none,.p1 (ae P 177 0) (.opi 1)⟩),(3,⟨none,.ld1 (.opi 2)⟩),(4,⟨none,.mv (.tmp 1)⟩),(5,⟨none,.ldn 3 (.tmp 5)⟩),(6,⟨none,.ef (fun vs _ h=>l3 (fun m k v=>gJ P 173 m k v h) vs) [.opi 3,.opi 4,.opi 5]⟩)]
def RZ:AC:=.draw 7 (ar #[0,1,3,7,0,0,63] HV [6] 0 (HV.filter fun x=>x.2.i.eff)) []
theorem zcB:bY RZ fun call tm h=>let g:=ac.mk h.bs (h.next+7);B (tm.gt 0) (fun v0=>B (aj v0) (fun v1=>B (ae P 177 0 v1) (fun v2=>B (am g v2) (fun v3=>B (tm.gt 1) (fun v4=>B (B (tm.gt 5) (fun a=>di 3 g a) tg) (fun v5=>B ((fun vs _ h=>l3 (fun m k v=>gJ P 173 m k v h) vs) [v3,v4,v5] g.next g) (fun r6=>some (tm,r6.2)) tg) tg) tg) tg) tg) tg) tg:=b8 rfl (by kernel_rfl)
def R0:AC:=.reg [] [(4,.cst (AV.int .i64 0))]
def zav:AC:=.seq (.block 0 (.seq zaw zax)) (.seq RY (.seq RZ (.seq R0 .ret)))
def Bu:cA:=⟨(.seq zat (.seq zau zav)),[.tmp 4],31,true⟩
theorem zeL:ci P (keepF P) 98=some Bu:=by kernel_rfl
def F98:=An (kR zat rfl)<|An (kR zau rfl)<|An (kR zaw rfl)<|An (kR RU rfl)<|An (kR RV rfl)<|An (kR RW rfl)<|An (kC zax rfl)<|An (kR RY rfl)<|An zcB<|An (kR R0 rfl)<|(kS zav rfl)
def Lz:AC:=.reg [] [(0,.cst (AV.ptr none))]
def LA:AC:=.reg [⟨none,.pn (bK P 234 [0]) [.cst (AV.bool true)]⟩,⟨none,.al (l1 cV) [.loc 0]⟩] [(0,.loc 0)]
def H4:cA:=⟨(.seq Lz (.seq LA .ret)),[.tmp 0],3,true⟩
theorem zdV:ci P (keepF P) 107=some H4:=by kernel_rfl
def zfI:=An (kR Lz rfl)<|(kR LA rfl)
def LB:AC:=.reg [] [(2,.cst (AV.bool false))]
def LC:AC:=.reg [⟨none,.p2 (ag P .neq 94) (.tmp 0) (.cst (AV.ptr none))⟩,⟨some (.loc 0,true),.mv (.tmp 0)⟩,⟨some (.loc 1,true),.p1 (aj) (.loc 0)⟩,⟨some (.loc 2,true),.p1 (ae P 177 0) (.loc 0)⟩,⟨some (.loc 3,true),.ld1 (.loc 0)⟩,⟨some (.loc 4,true),.p2 (ag P .neq 173) (.loc 0) (.cst (AV.map none))⟩,⟨none,.pick (.loc 5) (.loc 0) (.cst (AV.bool false))⟩] [(2,.loc 0)]
def H5:cA:=⟨(.seq LB (.seq LC .ret)),[.tmp 2],12,true⟩
theorem zdW:ci P (keepF P) 108=some H5:=by kernel_rfl
def zfJ:=An (kR LB rfl)<|(kR LC rfl)
def LD:AC:=.reg [⟨none,.al (l1 cV) [.tmp 2]⟩] [(5,.loc 0)]
def CN:List (Nat×aw):=[(0,⟨none,.mv (.tmp 0)⟩),(1,⟨none,.p1 (aj) (.opi 0)⟩),(2,⟨none,.p1 (ae P 177 0) (.opi 1)⟩),(3,⟨none,.ld1 (.opi 2)⟩),(4,⟨none,.mv (.tmp 1)⟩),(5,⟨none,.ldn 3 (.tmp 5)⟩),(6,⟨none,.ef (fun vs _ h=>l3 (fun m k v=>gJ P 173 m k v h) vs) [.opi 3,.opi 4,.opi 5]⟩)]
def LE:AC:=.draw 7 (ar #[0,1,3,7,0,0,63] CN [6] 0 (CN.filter fun x=>x.2.i.eff)) []
theorem zcg:bY LE fun call tm h=>let g:=ac.mk h.bs (h.next+7);B (tm.gt 0) (fun v0=>B (aj v0) (fun v1=>B (ae P 177 0 v1) (fun v2=>B (am g v2) (fun v3=>B (tm.gt 1) (fun v4=>B (B (tm.gt 5) (fun a=>di 3 g a) tg) (fun v5=>B ((fun vs _ h=>l3 (fun m k v=>gJ P 173 m k v h) vs) [v3,v4,v5] g.next g) (fun r6=>some (tm,r6.2)) tg) tg) tg) tg) tg) tg) tg:=b8 rfl (by kernel_rfl)
def CO:List (Nat×aw):=[(0,⟨none,.mv (.tmp 0)⟩),(1,⟨none,.p1 (aj) (.opi 0)⟩),(2,⟨none,.p1 (ae P 177 1) (.opi 1)⟩),(3,⟨none,.ld1 (.opi 2)⟩),(4,⟨none,.p1 (ae P 183 0) (.tmp 5)⟩),(5,⟨none,.ld1 (.opi 4)⟩),(6,⟨none,.mv (.tmp 1)⟩),(7,⟨none,.cl (cf 151) [.opi 3,.opi 5,.opi 6]⟩)]
def LF:AC:=.draw 8 (ar #[0,1,3,7,0,16,0,127] CO [7] 0 (CO.filter fun x=>x.2.i.eff)) []
theorem zch:bY LF fun call tm h=>let g:=ac.mk h.bs (h.next+8);B (tm.gt 0) (fun v0=>B (aj v0) (fun v1=>B (ae P 177 1 v1) (fun v2=>B (am g v2) (fun v3=>B (B (tm.gt 5) (fun a=>ae P 183 0 a) tg) (fun v4=>B (am g v4) (fun v5=>B (tm.gt 1) (fun v6=>B (call (.fn 151) [v3,v5,v6] g) (fun r7=>some (tm,r7.2)) tg) tg) tg) tg) tg) tg) tg) tg:=b8 rfl (by kernel_rfl)
def LG:AC:=.reg [⟨none,.p1 (aj) (.tmp 0)⟩,⟨none,.p1 (ae P 177 2) (.loc 0)⟩,⟨none,.ld1 (.loc 0)⟩,⟨none,.p2 (ag P .add 48) (.tmp 1) (.cst (AV.int .u32 1))⟩,⟨none,.pn (kP max2) [.loc 1,.loc 0]⟩,⟨none,.p1 (aj) (.tmp 0)⟩,⟨none,.p1 (ae P 177 2) (.loc 0)⟩,⟨none,.st1 (.loc 0) (.loc 2)⟩] []
def H6:cA:=⟨(.seq LD (.seq LE (.seq LF LG))),[],30,true⟩
theorem zdX:ci P (keepF P) 109=some H6:=by kernel_rfl
def zfK:=An (kR LD rfl)<|An zcg<|An zch<|(kR LG rfl)
def LP:AC:=.reg [⟨none,.ld1 (.tmp 1)⟩,⟨none,.cl (cf 108) [.loc 0]⟩,⟨none,.p1 (iG .not) (.loc 0)⟩] [(7,.loc 0)]
def LQ:AC:=.reg [⟨none,.ld1 (.tmp 1)⟩,⟨none,.p1 (aj) (.loc 0)⟩,⟨none,.p1 (ae P 177 0) (.loc 0)⟩,⟨none,.ld1 (.loc 0)⟩,⟨none,.cl (cf 114) [.loc 0]⟩,⟨none,.cl (cf 113) [.loc 0]⟩,⟨none,.pn (l1 (bL P 51)) [.loc 0]⟩] [(15,.cst (AV.int .i64 0)),(14,.loc 0),(13,.loc 1)]
def CQ:AC:=.reg [⟨none,.p2 (ag P .lss 3) (.tmp 15) (.tmp 14)⟩] [(16,.loc 0)]
def CT:AC:=.reg [⟨none,.p2 (aa P 51) (.tmp 13) (.tmp 15)⟩,⟨none,.ld1 (.loc 0)⟩] [(4,.loc 0)]
def CU:AC:=.reg [⟨none,.cl (.tmp 0) [.tmp 4]⟩,⟨none,.p1 (iG .not) (.loc 0)⟩] [(22,.loc 0)]
def CS:AC:=.block 1 (.seq CT (.seq CU (.cond (.tmp 22) .ret .skip)))
def CV:AC:=.reg [⟨none,.p2 (ag P .add 3) (.tmp 15) (.cst (AV.int .i64 1))⟩] [(15,.loc 0)]
def CR:AC:=.seq (.cond (.tmp 16) .skip (.exit 0)) (.seq CS CV)
def vC:AC:=.seq CQ CR
def zba:AC:=.loop vC
def LO:AC:=.seq (.seq LP (.cond (.tmp 7) .ret .skip)) (.seq LQ (.block 0 zba))
def H9:cA:=⟨LO,[],24,true⟩
theorem zd0:ci P (keepF P) 112=some H9:=by kernel_rfl
def T5:=An (kR LP rfl)<|An (kR LQ rfl)<|An (kR CQ rfl)<|An (kR CT rfl)<|An (kR CU rfl)<|An (kB CS rfl)<|An (kR CV rfl)<|An (kS CR rfl)<|An (kS vC rfl)<|(kS LO rfl)
def LS:AC:=.reg [⟨none,.al (l1 cV) [.tmp 0]⟩] [(2,.cst AV.nilFunc),(1,.loc 0)]
def LT:AC:=.reg [⟨none,.pn (dH (Fn.func 152) 0) [.tmp 1]⟩] [(2,.loc 0)]
def Ia:cA:=⟨(.seq LS (.seq LT .ret)),[.tmp 2],4,true⟩
theorem zd1:ci P (keepF P) 114=some Ia:=by kernel_rfl
def zfN:=An (kR LS rfl)<|(kR LT rfl)
def LU:AC:=.reg [⟨none,.al (fun (_:List AV)=>bQ P 183) []⟩] [(5,.cst (AV.int .i64 0)),(4,.loc 0)]
def LW:AC:=.reg [⟨none,.cl (cf 108) [.tmp 0]⟩,⟨none,.p1 (iG .not) (.loc 0)⟩] [(10,.loc 0)]
def LY:AC:=.reg [⟨none,.pn (bK P 183 []) []⟩,⟨none,.ef (fun vs _ h=>l2 (eV 3 h) vs) [.tmp 4,.loc 0]⟩] [(5,.cst (AV.int .i64 1))]
def CW:AC:=.reg [⟨none,.p1 (aj) (.tmp 0)⟩,⟨none,.p1 (ae P 177 0) (.loc 0)⟩,⟨none,.ld1 (.loc 0)⟩,⟨none,.rd (fun vs h=>l2 (fun m k=>dY P 173 true m k h) vs) [.loc 0,.tmp 1]⟩,⟨none,.p1 (aq 0) (.loc 0)⟩,⟨none,.p1 (aq 1) (.loc 1)⟩,⟨none,.al (fun (_:List AV)=>bQ P 183) []⟩,⟨none,.ef (fun vs _ h=>l2 (eV 3 h) vs) [.loc 0,.loc 2]⟩] [(7,.loc 2),(6,.loc 1)]
def CY:AC:=.reg [⟨none,.p1 (iG .not) (.tmp 7)⟩] [(22,.loc 0)]
def CZ:AC:=.reg [⟨none,.pn (bK P 183 []) []⟩,⟨none,.ef (fun vs _ h=>l2 (eV 3 h) vs) [.tmp 4,.loc 0]⟩] [(5,.cst (AV.int .i64 5))]
def C1:AC:=.reg [⟨none,.ldn 3 (.tmp 6)⟩,⟨none,.ef (fun vs _ h=>l2 (eV 3 h) vs) [.tmp 4,.loc 0]⟩] [(5,.cst (AV.int .i64 0))]
def CX:AC:=.seq (.seq CY (.cond (.tmp 22) (.seq CZ .ret) .skip)) (.seq C1 .ret)
def LV:AC:=.seq (.seq LW (.cond (.tmp 10) (.seq LY .ret) .skip)) (.seq CW CX)
def Ib:cA:=⟨(.seq LU LV),[.cell 4 183,.tmp 5],25,true⟩
theorem zd2:ci P (keepF P) 115=some Ib:=by kernel_rfl
def zc0:=An (kR LU rfl)<|An (kR LW rfl)<|An (kR LY rfl)<|An (kR CW rfl)<|An (kR CY rfl)<|An (kR CZ rfl)<|An (kR C1 rfl)<|An (kS CX rfl)<|(kS LV rfl)
def Mh:AC:=.reg [] [(5,.cst (AV.bool false)),(4,.cst (AV.int .u32 0))]
def Mj:AC:=.reg [⟨none,.cl (cf 108) [.tmp 0]⟩,⟨none,.p1 (iG .not) (.loc 0)⟩] [(10,.loc 0)]
def Mk:AC:=.reg [] [(5,.cst (AV.bool false)),(4,.cst (AV.int .u32 0))]
def C8:AC:=.reg [⟨none,.p1 (aj) (.tmp 0)⟩,⟨none,.p1 (ae P 177 1) (.loc 0)⟩,⟨none,.ld1 (.loc 0)⟩,⟨none,.cl (cf 155) [.loc 0,.tmp 1]⟩,⟨none,.pn (l1 (bL P 51)) [.loc 0]⟩] [(18,.cst (AV.int .i64 0)),(17,.loc 0),(16,.loc 1)]
def C9:AC:=.reg [⟨none,.p2 (ag P .lss 3) (.tmp 18) (.tmp 17)⟩] [(19,.loc 0)]
def Dc:AC:=.reg [⟨none,.p2 (aa P 51) (.tmp 16) (.tmp 18)⟩,⟨none,.ld1 (.loc 0)⟩] [(7,.loc 0)]
def Dd:AC:=.reg [⟨none,.p1 (aj) (.tmp 0)⟩,⟨none,.p1 (ae P 177 0) (.loc 0)⟩,⟨none,.ld1 (.loc 0)⟩,⟨none,.rd (fun vs h=>l2 (fun m k=>dY P 173 false m k h) vs) [.loc 0,.tmp 7]⟩,⟨none,.p1 (rE P 183 0) (.loc 0)⟩,⟨none,.p2 (ag P .eql 9) (.loc 0) (.tmp 1)⟩] [(30,.loc 0)]
def De:AC:=.reg [] [(5,.cst (AV.bool true)),(4,.tmp 7)]
def Db:AC:=.seq Dc (.seq Dd (.cond (.tmp 30) (.seq De .ret) .skip))
def Df:AC:=.reg [⟨none,.p2 (ag P .add 3) (.tmp 18) (.cst (AV.int .i64 1))⟩] [(18,.loc 0)]
def Da:AC:=.seq (.cond (.tmp 19) .skip (.exit 0)) (.seq (.block 1 Db) Df)
def vD:AC:=.seq C9 Da
def Uo:AC:=.loop vD
def Dg:AC:=.reg [] [(5,.cst (AV.bool false)),(4,.cst (AV.int .u32 0))]
def Mi:AC:=.seq (.seq Mj (.cond (.tmp 10) (.seq Mk .ret) .skip)) (.seq (.seq C8 (.block 0 Uo)) (.seq Dg .ret))
def Ig:cA:=⟨(.seq Mh Mi),[.tmp 4,.tmp 5],33,true⟩
theorem zd7:ci P (keepF P) 120=some Ig:=by kernel_rfl
def K9:=An (kR Mh rfl)<|An (kR Mj rfl)<|An (kR Mk rfl)<|An (kR C8 rfl)<|An (kR C9 rfl)<|An (kR Dc rfl)<|An (kR Dd rfl)<|An (kR De rfl)<|An (kS Db rfl)<|An (kR Df rfl)<|An (kS Da rfl)<|An (kS vD rfl)<|An (kR Dg rfl)<|(kS Mi rfl)
def Mp:AC:=.reg [] [(7,.cst (AV.int .i64 0)),(6,.cst (AV.int .u32 0))]
def Mr:AC:=.reg [⟨none,.cl (cf 108) [.tmp 0]⟩,⟨none,.p1 (iG .not) (.loc 0)⟩] [(12,.loc 0)]
def Ms:AC:=.reg [] [(7,.cst (AV.int .i64 1)),(6,.cst (AV.int .u32 0))]
def Dm:AC:=.reg [⟨none,.cl (cf 156) [.tmp 0,.tmp 1]⟩] [(8,.loc 0)]
def Dn:AC:=.reg [⟨none,.p2 (ag P .neq 38) (.tmp 8) (.cst (AV.int .i64 0))⟩] [(16,.loc 0)]
def Dp:AC:=.reg [] [(7,.tmp 8),(6,.cst (AV.int .u32 0))]
def Dq:AC:=.reg [⟨none,.p1 (aj) (.tmp 0)⟩,⟨none,.p1 (ae P 177 2) (.loc 0)⟩,⟨none,.ld1 (.loc 0)⟩,⟨none,.p2 (ag P .eql 48) (.loc 0) (.cst (AV.int .u32 4294967295))⟩] [(20,.loc 0)]
def Dr:AC:=.reg [] [(7,.cst (AV.int .i64 12)),(6,.cst (AV.int .u32 0))]
def Do:AC:=.cond (.tmp 16) (.seq Dp .ret) (.seq Dq (.cond (.tmp 20) (.seq Dr .ret) .skip))
def Ds:AC:=.reg [⟨none,.p1 (aj) (.tmp 0)⟩,⟨none,.p1 (ae P 177 2) (.loc 0)⟩,⟨none,.ld1 (.loc 0)⟩] [(9,.loc 0)]
def Dt:AC:=.reg [⟨none,.pn (bK P 183 [0,1,2]) [.tmp 1,.tmp 2,.cst (AV.int .i64 1)]⟩,⟨none,.cl (cf 109) [.tmp 0,.tmp 9,.loc 0]⟩] []
def Du:AC:=.reg [] [(7,.cst (AV.int .i64 0)),(6,.tmp 9)]
def Dl:AC:=.seq (.seq Dm (.block 0 (.seq Dn Do))) (.seq Ds (.seq Dt (.seq Du .ret)))
def Mq:AC:=.seq (.seq Mr (.cond (.tmp 12) (.seq Ms .ret) .skip)) Dl
def rH:cA:=⟨(.seq Mp Mq),[.tmp 6,.tmp 7],37,true⟩
theorem zaB:ci P (keepF P) 122=some rH:=by kernel_rfl
def T6:=An (kR Mp rfl)<|An (kR Mr rfl)<|An (kR Ms rfl)<|An (kR Dm rfl)<|An (kR Dn rfl)<|An (kR Dp rfl)<|An (kR Dq rfl)<|An (kR Dr rfl)<|An (kC Do rfl)<|An (kR Ds rfl)<|An (kR Dt rfl)<|An (kR Du rfl)<|An (kS Dl rfl)<|(kS Mq rfl)
def M7:AC:=.reg [] [(6,.cst (AV.int .i64 0))]
def M9:AC:=.reg [⟨none,.cl (cf 163) [.tmp 0]⟩,⟨none,.p1 (iG .not) (.loc 0)⟩] [(11,.loc 0)]
def Na:AC:=.reg [] [(6,.cst (AV.int .i64 1))]
def xQ:List (Nat×aw):=[(0,⟨none,.mv (.tmp 0)⟩),(1,⟨none,.mv (.tmp 1)⟩),(2,⟨none,.cl (cf 164) [.opi 1]⟩),(3,⟨none,.p1 (aj) (.opi 0)⟩),(4,⟨none,.p1 (ae P 234 1) (.opi 3)⟩),(5,⟨none,.p2 (aa P 232) (.opi 4) (.opi 2)⟩),(6,⟨none,.mv (.opi 5)⟩)]
def DM:AC:=.draw 7 (ar #[0,0,2,1,9,31,63] xQ [2] 0 (xQ.filter fun x=>x.2.i.eff)) [(7,6)]
theorem VX:bY DM fun call tm h=>let g:=ac.mk h.bs (h.next+7);B (tm.gt 0) (fun v0=>B (tm.gt 1) (fun v1=>B (aj v0) (fun v3=>B (ae P 234 1 v3) (fun v4=>B (call (.fn 164) [v1] g) (fun r2=>B (aa P 232 v4 r2.1) (fun v5=>some ((tm.up (some v5) 7),r2.2)) tg) tg) tg) tg) tg) tg:=b8 rfl (by kernel_rfl)
def DN:AC:=.reg [⟨none,.p1 (aj) (.tmp 7)⟩,⟨none,.ld1 (.loc 0)⟩,⟨none,.cl (cf 165) [.loc 0,.tmp 2]⟩] [(8,.loc 0)]
def DQ:AC:=.reg [⟨none,.p2 (ag P .lss 3) (.tmp 8) (.cst (AV.int .i64 0))⟩] [(24,.loc 0)]
def DR:AC:=.reg [] [(6,.cst (AV.int .i64 5))]
def DS:AC:=.reg [⟨none,.p1 (aj) (.tmp 7)⟩,⟨none,.ld1 (.loc 0)⟩,⟨none,.p2 (ag P .add 3) (.tmp 8) (.cst (AV.int .i64 1))⟩,⟨none,.cl (cf 166) [.loc 1,.tmp 8,.loc 0]⟩,⟨none,.p1 (aj) (.tmp 7)⟩,⟨none,.st1 (.loc 0) (.loc 1)⟩] []
def DT:AC:=.reg [] [(6,.cst (AV.int .i64 0))]
def DO:AC:=.seq (.seq DQ (.cond (.tmp 24) (.seq DR .ret) .skip)) (.seq DS (.seq DT .ret))
def M8:AC:=.seq (.seq M9 (.cond (.tmp 11) (.seq Na .ret) .skip)) (.seq DM (.seq DN DO))
def In:cA:=⟨(.seq M7 M8),[.tmp 6],34,true⟩
theorem zee:ci P (keepF P) 142=some In:=by kernel_rfl
def zfT:=An (kR M7 rfl)<|An (kR M9 rfl)<|An (kR Na rfl)<|An VX<|An (kR DN rfl)<|An (kR DQ rfl)<|An (kR DR rfl)<|An (kR DS rfl)<|An (kR DT rfl)<|An (kS DO rfl)<|(kS M8 rfl)
def Nt:AC:=.reg [] [(6,.cst (AV.int .i64 0))]
def Nv:AC:=.reg [⟨none,.cl (cf 163) [.tmp 0]⟩,⟨none,.p1 (iG .not) (.loc 0)⟩] [(10,.loc 0)]
def Nw:AC:=.reg [] [(6,.cst (AV.int .i64 1))]
def xS:List (Nat×aw):=[(0,⟨none,.mv (.tmp 0)⟩),(1,⟨none,.mv (.tmp 1)⟩),(2,⟨none,.cl (cf 164) [.opi 1]⟩),(3,⟨none,.p1 (aj) (.opi 0)⟩),(4,⟨none,.p1 (ae P 234 1) (.opi 3)⟩),(5,⟨none,.p2 (aa P 232) (.opi 4) (.opi 2)⟩),(6,⟨none,.mv (.opi 5)⟩)]
def EE:AC:=.draw 7 (ar #[0,0,2,1,9,31,63] xS [2] 0 (xS.filter fun x=>x.2.i.eff)) [(7,6)]
theorem VZ:bY EE fun call tm h=>let g:=ac.mk h.bs (h.next+7);B (tm.gt 0) (fun v0=>B (tm.gt 1) (fun v1=>B (aj v0) (fun v3=>B (ae P 234 1 v3) (fun v4=>B (call (.fn 164) [v1] g) (fun r2=>B (aa P 232 v4 r2.1) (fun v5=>some ((tm.up (some v5) 7),r2.2)) tg) tg) tg) tg) tg) tg:=b8 rfl (by kernel_rfl)
def EG:AC:=.reg [⟨none,.p1 (aj) (.tmp 7)⟩,⟨none,.ld1 (.loc 0)⟩,⟨none,.cl (cf 179) [.loc 0,.tmp 2]⟩] [(21,.loc 0)]
def EH:AC:=.reg [] [(6,.cst (AV.int .i64 6))]
def EI:AC:=.reg [⟨none,.p1 (aj) (.tmp 7)⟩,⟨none,.ld1 (.loc 0)⟩,⟨none,.al (buildSliceN P 51 1 [0]) [.tmp 2]⟩,⟨none,.ef (fun vs id h=>l2 (fun s x=>aS P 51 s x id h) vs) [.loc 1,.loc 0]⟩,⟨none,.p1 (aj) (.tmp 7)⟩,⟨none,.st1 (.loc 0) (.loc 1)⟩] []
def EJ:AC:=.reg [] [(6,.cst (AV.int .i64 0))]
def EF:AC:=.seq (.seq EG (.cond (.tmp 21) (.seq EH .ret) .skip)) (.seq EI (.seq EJ .ret))
def Nu:AC:=.seq (.seq Nv (.cond (.tmp 10) (.seq Nw .ret) .skip)) (.seq EE EF)
def Ip:cA:=⟨(.seq Nt Nu),[.tmp 6],30,true⟩
theorem zeg:ci P (keepF P) 151=some Ip:=by kernel_rfl
def zfV:=An (kR Nt rfl)<|An (kR Nv rfl)<|An (kR Nw rfl)<|An VZ<|An (kR EG rfl)<|An (kR EH rfl)<|An (kR EI rfl)<|An (kR EJ rfl)<|An (kS EF rfl)<|(kS Nu rfl)
def NE:AC:=.reg [] [(4,.cst (AV.slice none 0 0 none))]
def NG:AC:=.reg [⟨none,.cl (cf 163) [.tmp 0]⟩,⟨none,.p1 (iG .not) (.loc 0)⟩] [(7,.loc 0)]
def NH:AC:=.reg [] [(4,.cst (AV.slice none 0 0 none))]
def xT:List (Nat×aw):=[(0,⟨none,.mv (.tmp 0)⟩),(1,⟨none,.mv (.tmp 1)⟩),(2,⟨none,.cl (cf 164) [.opi 1]⟩),(3,⟨none,.p1 (aj) (.opi 0)⟩),(4,⟨none,.p1 (ae P 234 1) (.opi 3)⟩),(5,⟨none,.p2 (aa P 232) (.opi 4) (.opi 2)⟩),(6,⟨none,.ld1 (.opi 5)⟩),(7,⟨none,.cl (cf 180) [.opi 6]⟩),(8,⟨none,.mv (.opi 7)⟩)]
def EQ:AC:=.draw 9 (ar #[0,0,2,1,9,31,63,127,255] xT [2,7] 0 (xT.filter fun x=>x.2.i.eff)) [(4,8)]
theorem V0:bY EQ fun call tm h=>let g:=ac.mk h.bs (h.next+9);B (tm.gt 0) (fun v0=>B (tm.gt 1) (fun v1=>B (aj v0) (fun v3=>B (ae P 234 1 v3) (fun v4=>B (call (.fn 164) [v1] g) (fun r2=>B (aa P 232 v4 r2.1) (fun v5=>B (am r2.2 v5) (fun v6=>B (call (.fn 180) [v6] r2.2) (fun r7=>some ((tm.up (some r7.1) 4),r7.2)) tg) tg) tg) tg) tg) tg) tg) tg:=b8 rfl (by kernel_rfl)
def NF:AC:=.seq (.seq NG (.cond (.tmp 7) (.seq NH .ret) .skip)) (.seq EQ .ret)
def Is:cA:=⟨(.seq NE NF),[.tmp 4],16,true⟩
theorem zej:ci P (keepF P) 155=some Is:=by kernel_rfl
def zfX:=An (kR NE rfl)<|An (kR NG rfl)<|An (kR NH rfl)<|An V0<|(kS NF rfl)
def NI:AC:=.reg [] [(4,.cst (AV.int .i64 0))]
def NK:AC:=.reg [⟨none,.p2 (ag P .eql 9) (.tmp 1) (.cst (AV.str []))⟩,⟨some (.loc 0,false),.mv (.tmp 1)⟩,⟨some (.loc 1,false),.pn (l1 (bL P 9)) [.loc 0]⟩,⟨some (.loc 2,false),.p2 (ag P .gtr 3) (.loc 0) (.cst (AV.int .i64 64))⟩,⟨none,.pick (.loc 3) (.cst (AV.bool true)) (.loc 0)⟩] [(13,.loc 0)]
def NL:AC:=.reg [] [(4,.cst (AV.int .i64 4))]
def ET:AC:=.reg [⟨none,.cl (cf 120) [.tmp 0,.tmp 1]⟩,⟨none,.p1 (aq 0) (.loc 0)⟩,⟨none,.p1 (aq 1) (.loc 1)⟩] [(6,.loc 0)]
def EU:AC:=.reg [] [(20,.tmp 6)]
def EV:AC:=.reg [] [(4,.cst (AV.int .i64 6))]
def ES:AC:=.seq ET (.seq EU (.cond (.tmp 20) (.seq EV .ret) .skip))
def EW:AC:=.reg [] [(4,.cst (AV.int .i64 0))]
def NJ:AC:=.seq (.seq NK (.cond (.tmp 13) (.seq NL .ret) .skip)) (.seq ES (.seq EW .ret))
def rJ:cA:=⟨(.seq NI NJ),[.tmp 4],21,true⟩
theorem zaD:ci P (keepF P) 156=some rJ:=by kernel_rfl
def Ld:=An (kR NI rfl)<|An (kR NK rfl)<|An (kR NL rfl)<|An (kR ET rfl)<|An (kR EU rfl)<|An (kR EV rfl)<|An (kS ES rfl)<|An (kR EW rfl)<|(kS NJ rfl)
def N1:AC:=.reg [] [(2,.cst (AV.bool false))]
def N2:AC:=.reg [⟨none,.p2 (ag P .neq 174) (.tmp 0) (.cst (AV.ptr none))⟩,⟨some (.loc 0,true),.mv (.tmp 0)⟩,⟨some (.loc 1,true),.p1 (aj) (.loc 0)⟩,⟨some (.loc 2,true),.p1 (ae P 234 0) (.loc 0)⟩,⟨some (.loc 3,true),.ld1 (.loc 0)⟩,⟨none,.pick (.loc 4) (.loc 0) (.cst (AV.bool false))⟩] [(2,.loc 0)]
def Iw:cA:=⟨(.seq N1 (.seq N2 .ret)),[.tmp 2],11,true⟩
theorem zen:ci P (keepF P) 163=some Iw:=by kernel_rfl
def zfZ:=An (kR N1 rfl)<|(kR N2 rfl)
def N3:AC:=.reg [] [(2,.cst (AV.int .u8 0))]
def N5:AC:=.reg [⟨none,.pn (l1 (bL P 9)) [.tmp 0]⟩] [(3,.loc 0)]
def N6:AC:=.reg [⟨none,.pn (l1 (bL P 9)) [.tmp 0]⟩] [(9,.cst (AV.int .i64 0)),(8,.loc 0)]
def Fj:AC:=.reg [⟨none,.p2 (ag P .lss 3) (.tmp 9) (.tmp 8)⟩] [(10,.loc 0)]
def Fl:AC:=.reg [] [(4,.tmp 9)]
def Fm:AC:=.reg [⟨none,.p2 (kQ P 9) (.tmp 0) (.tmp 4)⟩,⟨none,.p1 (eU P 5 3) (.loc 0)⟩,⟨none,.p2 (ag P .rem 3) (.tmp 4) (.cst (AV.int .i64 7))⟩,⟨none,.p2 (ag P .mul 3) (.loc 0) (.cst (AV.int .i64 2))⟩,⟨none,.p2 (ag P .add 3) (.loc 0) (.cst (AV.int .i64 1))⟩,⟨none,.p2 (ag P .mul 3) (.loc 3) (.loc 0)⟩,⟨none,.p2 (ag P .add 3) (.tmp 3) (.loc 0)⟩] [(3,.loc 0)]
def Fo:AC:=.reg [⟨none,.p2 (ag P .add 3) (.tmp 9) (.cst (AV.int .i64 1))⟩] [(9,.loc 0)]
def Fk:AC:=.seq (.cond (.tmp 10) .skip (.exit 0)) (.seq (.block 1 (.seq Fl Fm)) Fo)
def AS:AC:=.seq Fj Fk
def zbh:AC:=.loop AS
def Fp:AC:=.reg [⟨none,.p2 (ag P .rem 3) (.tmp 3) (.cst (AV.int .i64 16))⟩,⟨none,.p1 (eU P 3 5) (.loc 0)⟩] [(2,.loc 0)]
def N4:AC:=.seq N5 (.seq (.seq N6 (.block 0 zbh)) (.seq Fp .ret))
def uB:cA:=⟨(.seq N3 N4),[.tmp 2],27,true⟩
theorem zeo:ci P (keepF P) 164=some uB:=by kernel_rfl
def T7:=An (kR N3 rfl)<|An (kR N5 rfl)<|An (kR N6 rfl)<|An (kR Fj rfl)<|An (kR Fl rfl)<|An (kR Fm rfl)<|An (kR Fo rfl)<|An (kS Fk rfl)<|An (kS AS rfl)<|An (kR Fp rfl)<|(kS N4 rfl)
def N8:AC:=.reg [] [(4,.cst (AV.int .i64 0))]
def N9:AC:=.reg [⟨none,.pn (l1 (bL P 51)) [.tmp 0]⟩] [(8,.cst (AV.int .i64 0)),(7,.loc 0)]
def Oa:AC:=.reg [⟨none,.p2 (ag P .lss 3) (.tmp 8) (.tmp 7)⟩] [(9,.loc 0)]
def Fs:AC:=.reg [] [(5,.tmp 8)]
def Ft:AC:=.reg [⟨none,.p2 (aa P 51) (.tmp 0) (.tmp 5)⟩,⟨none,.ld1 (.loc 0)⟩,⟨none,.p2 (ag P .eql 48) (.tmp 1) (.loc 0)⟩] [(16,.loc 0)]
def Fu:AC:=.reg [] [(4,.tmp 5)]
def Fq:AC:=.seq Fs (.seq Ft (.cond (.tmp 16) (.seq Fu .ret) .skip))
def Fv:AC:=.reg [⟨none,.p2 (ag P .add 3) (.tmp 8) (.cst (AV.int .i64 1))⟩] [(8,.loc 0)]
def Ob:AC:=.seq (.cond (.tmp 9) .skip (.exit 0)) (.seq (.block 1 Fq) Fv)
def AT:AC:=.seq Oa Ob
def zbi:AC:=.loop AT
def Fw:AC:=.reg [] [(4,.cst (AV.int .i64 (-1)))]
def N7:AC:=.seq N8 (.seq (.seq N9 (.block 0 zbi)) (.seq Fw .ret))
def Ix:cA:=⟨N7,[.tmp 4],19,true⟩
theorem zep:ci P (keepF P) 165=some Ix:=by kernel_rfl
def Le:=An (kR N8 rfl)<|An (kR N9 rfl)<|An (kR Oa rfl)<|An (kR Fs rfl)<|An (kR Ft rfl)<|An (kR Fu rfl)<|An (kS Fq rfl)<|An (kR Fv rfl)<|An (kS Ob rfl)<|An (kS AT rfl)<|An (kR Fw rfl)<|(kS N7 rfl)
def Oc:AC:=.reg [] [(6,.cst (AV.slice none 0 0 none))]
def Od:AC:=.reg [⟨none,.pn (l1 (bL P 51)) [.tmp 0]⟩,⟨none,.pn (aU P 51 true true true) [.tmp 0,.tmp 1,.tmp 2,.loc 0]⟩] []
def Of:AC:=.reg [⟨none,.p2 (ag P .eql 3) (.tmp 1) (.tmp 2)⟩] [(16,.loc 0)]
def Og:AC:=.reg [] [(6,.tmp 0)]
def Fy:AC:=.reg [⟨none,.pn (l1 (bL P 51)) [.tmp 0]⟩] [(7,.loc 0)]
def xW:List (Nat×aw):=[(0,⟨none,.mv (.tmp 0)⟩),(1,⟨none,.mv (.tmp 1)⟩),(2,⟨none,.pn (aU P 51 false true false) [.opi 0,.opi 1]⟩),(3,⟨none,.mv (.tmp 0)⟩),(4,⟨none,.mv (.tmp 2)⟩),(5,⟨none,.pn (aU P 51 true false false) [.opi 3,.opi 4]⟩),(6,⟨none,.ef (fun vs id h=>l2 (fun s x=>aS P 51 s x id h) vs) [.opi 2,.opi 5]⟩),(7,⟨none,.mv (.opi 6)⟩)]
def Fz:AC:=.draw 8 (ar #[0,0,3,0,0,24,63,127] xW [6] 0 (xW.filter fun x=>x.2.i.eff)) [(0,7)]
theorem V3:bY Fz fun call tm h=>let g:=ac.mk h.bs (h.next+8);B (tm.gt 0) (fun v0=>B (tm.gt 1) (fun v1=>B (aU P 51 false true false [v0,v1]) (fun v2=>B (tm.gt 0) (fun v3=>B (tm.gt 2) (fun v4=>B (aU P 51 true false false [v3,v4]) (fun v5=>B ((fun vs id h=>l2 (fun s x=>aS P 51 s x id h) vs) [v2,v5] g.next g) (fun r6=>some ((tm.up (some r6.1) 0),r6.2)) tg) tg) tg) tg) tg) tg) tg:=b8 rfl (by kernel_rfl)
def FA:AC:=.reg [⟨none,.pn (l1 (bL P 51)) [.tmp 0]⟩,⟨none,.pn (aU P 51 true true false) [.tmp 0,.loc 0,.tmp 7]⟩,⟨none,.ef (fun vs _ h=>l1 (fun d=>oA P 51 d h) vs) [.loc 0]⟩] []
def FB:AC:=.reg [] [(6,.tmp 0)]
def Fx:AC:=.seq Fy (.seq Fz (.seq FA (.seq FB .ret)))
def Oe:AC:=.seq (.seq Of (.cond (.tmp 16) (.seq Og .ret) .skip)) Fx
def Iy:cA:=⟨(.seq Oc (.seq Od Oe)),[.tmp 6],33,true⟩
theorem zeq:ci P (keepF P) 166=some Iy:=by kernel_rfl
def zf0:=An (kR Oc rfl)<|An (kR Od rfl)<|An (kR Of rfl)<|An (kR Og rfl)<|An (kR Fy rfl)<|An V3<|An (kR FA rfl)<|An (kR FB rfl)<|An (kS Fx rfl)<|(kS Oe rfl)
def Pi:AC:=.reg [] [(4,.cst (AV.bool false))]
def Pj:AC:=.reg [⟨none,.cl (cf 165) [.tmp 0,.tmp 1]⟩,⟨none,.p2 (ag P .geq 3) (.loc 0) (.cst (AV.int .i64 0))⟩] [(4,.loc 0)]
def IJ:cA:=⟨(.seq Pi (.seq Pj .ret)),[.tmp 4],9,true⟩
theorem zeB:ci P (keepF P) 179=some IJ:=by kernel_rfl
def zc4:=An (kR Pi rfl)<|(kR Pj rfl)
def Pm:AC:=.reg [] [(2,.cst (AV.slice none 0 0 none))]
def Po:AC:=.reg [⟨none,.p2 (ag P .eql 51) (.tmp 0) (.cst (AV.slice none 0 0 none))⟩] [(4,.loc 0)]
def Pp:AC:=.reg [] [(2,.cst (AV.slice none 0 0 none))]
def HC:AC:=.reg [⟨none,.al (buildSliceN P 51 0 []) []⟩,⟨none,.ef (fun vs id h=>l2 (fun s x=>aS P 51 s x id h) vs) [.loc 0,.tmp 0]⟩] [(2,.loc 0)]
def Pn:AC:=.seq (.seq Po (.cond (.tmp 4) (.seq Pp .ret) .skip)) (.seq HC .ret)
def IK:cA:=⟨(.seq Pm Pn),[.tmp 2],8,true⟩
theorem zeC:ci P (keepF P) 180=some IK:=by kernel_rfl
def zc5:=An (kR Pm rfl)<|An (kR Po rfl)<|An (kR Pp rfl)<|An (kR HC rfl)<|(kS Pn rfl)
theorem TU:ez P 173 true=some (.map [] 0,zj):=zbX (kt:=48) (e:=183) (by kernel_rfl)
theorem tB (m0:Option Nat) (p1:Option (Nat×Nat)) (n2:Int):bK P 177 [0,1,2] [(AV.map m0),(AV.ptr p1),(AV.int .u32 n2)]=some (.agg [(AV.map m0),(AV.ptr p1),(AV.int .u32 n2)]):=by kernel_rfl
theorem WX:bQ P 94=some (.cells (az [(AV.ptr none)] .leaf 0) (ay 94 true) 1 false,dy):=by kernel_rfl
theorem cQ (b o:Nat):ae P 177 0 (.ptr (some (b,o)))=some (.ptr (some (b,o+0))):=by kernel_rfl
theorem tN {h:ac} {b c:Nat} {es:List aG} (hb:h.bs.gt b=some (.map es c)) (ha:gD .u32 es) (n:Int):dY P 173 false (.map (some b)) (.int .u32 n) h=some (match es.find? (d7 .u32 n) with | some x=>fN false x.val true | none=>fN false (AV.agg [(AV.str []),(AV.int .i64 0),(AV.int .i64 0)]) false):=SH (kt:=48) (e:=183) (by kernel_rfl) (by kernel_rfl) (by kernel_rfl) hb ha n
theorem jW (b o:Nat):ae P 177 2 (.ptr (some (b,o)))=some (.ptr (some (b,o+2))):=by kernel_rfl
theorem fc:bQ P 183=some (.cells (az [(AV.str []),(AV.int .i64 0),(AV.int .i64 0)] .leaf 0) (ay 183 true) 3 false,dy):=by kernel_rfl
theorem jX (b o:Nat):ae P 183 0 (.ptr (some (b,o)))=some (.ptr (some (b,o+0))):=by kernel_rfl
theorem u_9:P.underlying 9=some .string:=by kernel_rfl
theorem s_9:aC P 9=some 1:=by kernel_rfl
theorem b_9:cF P 9=some 16:=by kernel_rfl
theorem z_9:cd P 9=some (AV.str []):=by kernel_rfl
theorem tI (b o:Nat):ae P 183 1 (.ptr (some (b,o)))=some (.ptr (some (b,o+1))):=by kernel_rfl
theorem fX (b o:Nat):ae P 183 2 (.ptr (some (b,o)))=some (.ptr (some (b,o+2))):=by kernel_rfl
theorem dc (l:List Nat):bL P 9 (.str l)=some (.int .i64 l.length):=Vx (by kernel_rfl) l
theorem tO {h:ac} {b c:Nat} {es:List aG} (hb:h.bs.gt b=some (.map es c)) (ha:gD .u32 es) (n:Int) (v:AV):gJ P 173 (.map (some b)) (.int .u32 n) v h=some (aJ,h.put b (.map (gw .u32 n v c es) (if es.any (d7 .u32 n) then c else c+1))):=zbZ (kt:=48) (e:=183) (by kernel_rfl) (by kernel_rfl) hb ha n v
theorem TT {h:ac} {b c:Nat} {es:List aG} (hb:h.bs.gt b=some (.map es c)) (ha:gD .u32 es) (n:Int):mJ P 173 (.map (some b)) (.int .u32 n) h=some (aJ,h.put b (.map (qg .u32 n es) c)):=zbV (kt:=48) (e:=183) (by kernel_rfl) (by kernel_rfl) hb ha n
theorem mU (b o:Nat):ae P 177 1 (.ptr (some (b,o)))=some (.ptr (some (b,o+1))):=by kernel_rfl
theorem Cn (b0:Bool):bK P 234 [0] [(AV.bool b0)]=some (.agg [(AV.bool b0),(AV.slice none 0 0 none),(AV.slice none 0 0 none),(AV.slice none 0 0 none),(AV.slice none 0 0 none),(AV.slice none 0 0 none),(AV.slice none 0 0 none),(AV.slice none 0 0 none),(AV.slice none 0 0 none),(AV.slice none 0 0 none),(AV.slice none 0 0 none),(AV.slice none 0 0 none),(AV.slice none 0 0 none),(AV.slice none 0 0 none),(AV.slice none 0 0 none),(AV.slice none 0 0 none),(AV.slice none 0 0 none)]):=by kernel_rfl
theorem Jj (x:Option (Nat×Nat)):ag P .neq 94 (.ptr x) (.ptr none)=some (.bool x.isSome):=ou (e:=177) (by kernel_rfl)
theorem TV (x:Option Nat):ag P .neq 173 (.map x) (.map none)=some (.bool x.isSome):=za7 (e:=48) (f:=183) (by kernel_rfl)
theorem KZ:bK P 183 [] []=some (.agg [(AV.str []),(AV.int .i64 0),(AV.int .i64 0)]):=by kernel_rfl
theorem mt {h:ac} {b c:Nat} {es:List aG} (hb:h.bs.gt b=some (.map es c)) (ha:gD .u32 es) (n:Int):dY P 173 true (.map (some b)) (.int .u32 n) h=some (match es.find? (d7 .u32 n) with | some x=>fN true x.val true | none=>fN true (AV.agg [(AV.str []),(AV.int .i64 0),(AV.int .i64 0)]) false):=SH (kt:=48) (e:=183) (by kernel_rfl) (by kernel_rfl) (by kernel_rfl) hb ha n
theorem tK (v0 v1 v2:AV):rE P 183 0 (.agg [v0,v1,v2])=some v0:=by kernel_rfl
theorem tC (s0:List Nat) (n1:Int) (n2:Int):bK P 183 [0,1,2] [(AV.str s0),(AV.int .i64 n1),(AV.int .i64 n2)]=some (.agg [(AV.str s0),(AV.int .i64 n1),(AV.int .i64 n2)]):=by kernel_rfl
theorem mV (b o:Nat):ae P 234 1 (.ptr (some (b,o)))=some (.ptr (some (b,o+1))):=by kernel_rfl
theorem tL {k:IntKind} {b o i:Nat} (hi:i<16):aa P 232 (.ptr (some (b,o))) (.int k (i:Int))=some (.ptr (some (b,o+i*1))):=Sp (e:=51) (by kernel_rfl) (by kernel_rfl) hi
theorem TH:P.underlying 51=some (.slice 48):=by kernel_rfl
theorem u0 (n0:Int):buildSliceN P 51 1 [0] [(AV.int .u32 n0)]=some (.cells (az [(AV.int .u32 n0)] .leaf 0) [] 1 false,sliceTo 1):=by kernel_rfl
theorem TX (x:Option (Nat×Nat)):ag P .neq 174 (.ptr x) (.ptr none)=some (.bool x.isSome):=ou (e:=234) (by kernel_rfl)
theorem Ct (b o:Nat):ae P 234 0 (.ptr (some (b,o)))=some (.ptr (some (b,o+0))):=by kernel_rfl
theorem TO (k:IntKind) (n:Int):eU P 3 5 (.int k n)=some (.int .u8 (IntKind.wrap .u8 n)):=oB (d:=(.int .i64)) (by kernel_rfl) (by kernel_rfl) k n
theorem Ap {a:Option (Nat×Nat)} {n c lo hi mx:Nat} {g:Option Nat} {k k' k'':IntKind} (h:mx<=c) (h':hi<=mx) (h'':lo<=hi):aU P 51 true true true [.slice a n c g,.int k (lo:Int),.int k' (hi:Int),.int k'' (mx:Int)]=some (.slice (a.map fun p=>(p.1,p.2+lo*1)) (hi - lo) (mx - lo) none):=zcN (e:=48) (by kernel_rfl) (by kernel_rfl) h h' h''
theorem Ak {a:Option (Nat×Nat)} {n c hi:Nat} {g:Option Nat} {k:IntKind} (hg:Aq g 1=true) (h:hi<=c):aU P 51 false true false [.slice a n c g,.int k (hi:Int)]=some (.slice (a.map fun p=>(p.1,p.2+0*1)) (hi - 0) (c - 0) g):=Tw (e:=48) (by kernel_rfl) (by kernel_rfl) hg h
theorem Al {a:Option (Nat×Nat)} {n c lo:Nat} {g:Option Nat} {k:IntKind} (hg:Aq g 1=true) (h:lo<=n):aU P 51 true false false [.slice a n c g,.int k (lo:Int)]=some (.slice (a.map fun p=>(p.1,p.2+lo*1)) (n - lo) (c - lo) g):=Tx (e:=48) (by kernel_rfl) (by kernel_rfl) hg h
theorem Ao {a:Option (Nat×Nat)} {n c lo hi:Nat} {g:Option Nat} {k k':IntKind} (hg:Aq g 1=true) (h:hi<=c) (h':lo<=hi):aU P 51 true true false [.slice a n c g,.int k (lo:Int),.int k' (hi:Int)]=some (.slice (a.map fun p=>(p.1,p.2+lo*1)) (hi - lo) (c - lo) g):=zcM (e:=48) (by kernel_rfl) (by kernel_rfl) hg h h'
theorem Jh (x:Option (Nat×Nat)) (n c:Nat) (g:Option Nat):ag P .eql 51 (.slice x n c g) (.slice none 0 0 none)=some (.bool x.isNone):=AG (e:=48) (by kernel_rfl)
theorem K3:buildSliceN P 51 0 [] []=some (.cells (az [] .leaf 0) [] 0 false,sliceTo 0):=by kernel_rfl
end
end Go.Proofs.YtboobbebilegnaaGreat
namespace Go.Proofs.YtboobbebilegnaaGreat
open Go.Am
noncomputable section
def zdL:AC:=.reg [] [(2,.cst (AV.ptr none))]
def zdN:AC:=.reg [⟨none,.p2 (ag P .eql 31) (.tmp 0) (.cst (AV.ptr none))⟩,⟨some (.loc 0,false),.mv (.tmp 0)⟩,⟨some (.loc 1,false),.cl (cf 48) [.loc 0]⟩,⟨some (.loc 2,false),.p2 (ag P .eql 33) (.loc 0) (.cst (AV.ptr none))⟩,⟨none,.pick (.loc 3) (.cst (AV.bool true)) (.loc 0)⟩] [(10,.loc 0)]
def zdO:AC:=.reg [] [(2,.cst (AV.ptr none))]
def zay:AC:=.reg [⟨none,.cl (cf 48) [.tmp 0]⟩,⟨none,.cl (cf 49) [.loc 0]⟩] [(3,.loc 0)]
def zaz:AC:=.reg [⟨none,.cl (cf 50) []⟩,⟨none,.p2 (ag P .quo 3) (.tmp 3) (.cst (AV.int .i64 2))⟩,⟨none,.cl (cf 51) [.loc 0,.tmp 3]⟩,⟨none,.pn (bK P 97 [0,1,2]) [.tmp 0,.loc 2,.loc 0]⟩,⟨none,.al (l1 cV) [.loc 0]⟩] [(2,.loc 0)]
def zdM:AC:=.seq (.seq zdN (.cond (.tmp 10) (.seq zdO .ret) .skip)) (.seq zay (.seq zaz .ret))
def fn9:cA:=⟨(.seq zdL zdM),[.tmp 2],22,true⟩
theorem f9A:ci P (keepF P) 9=some fn9:=by kernel_rfl
def F9:=An (kR zdL rfl)<|An (kR zdN rfl)<|An (kR zdO rfl)<|An (kR zay rfl)<|An (kR zaz rfl)<|(kS zdM rfl)
def Xn:AC:=.reg [] [(6,.cst (AV.ptr none))]
def Xp:AC:=.reg [⟨none,.cl (cf 49) [.tmp 0]⟩,⟨none,.p2 (ag P .eql 3) (.loc 0) (.cst (AV.int .i64 0))⟩] [(9,.loc 0)]
def Xq:AC:=.reg [] [(6,.cst (AV.ptr none))]
def LH:AC:=.reg [⟨none,.cl (cf 52) [.tmp 2]⟩,⟨none,.pn (bK P 117 [0,1,2]) [.tmp 0,.tmp 1,.loc 0]⟩,⟨none,.al (l1 cV) [.loc 0]⟩] [(6,.loc 0)]
def Xo:AC:=.seq (.seq Xp (.cond (.tmp 9) (.seq Xq .ret) .skip)) (.seq LH .ret)
def UL:cA:=⟨(.seq Xn Xo),[.tmp 6],16,true⟩
theorem zgf:ci P (keepF P) 10=some UL:=by kernel_rfl
def F10:=An (kR Xn rfl)<|An (kR Xp rfl)<|An (kR Xq rfl)<|An (kR LH rfl)<|(kS Xo rfl)
def Xr:AC:=.reg [] [(2,.cst (AV.ptr none))]
def Xt:AC:=.reg [⟨none,.p2 (ag P .lss 3) (.tmp 0) (.cst (AV.int .i64 256))⟩,⟨some (.loc 0,false),.mv (.tmp 0)⟩,⟨some (.loc 1,false),.p2 (ag P .gtr 3) (.loc 0) (.cst (AV.int .i64 2048))⟩,⟨none,.pick (.loc 2) (.cst (AV.bool true)) (.loc 0)⟩] [(8,.loc 0)]
def Xu:AC:=.reg [] [(2,.cst (AV.ptr none))]
def Mg:AC:=.reg [⟨none,.al (l2 (dE P 118)) [.tmp 0,.tmp 0]⟩,⟨none,.pn (bK P 120 [0]) [.loc 0]⟩,⟨none,.al (l1 cV) [.loc 0]⟩] [(2,.loc 0)]
def Xs:AC:=.seq (.seq Xt (.cond (.tmp 8) (.seq Xu .ret) .skip)) (.seq Mg .ret)
def UM:cA:=⟨(.seq Xr Xs),[.tmp 2],13,true⟩
theorem zgg:ci P (keepF P) 11=some UM:=by kernel_rfl
def F11:=An (kR Xr rfl)<|An (kR Xt rfl)<|An (kR Xu rfl)<|An (kR Mg rfl)<|(kS Xs rfl)
def XJ:AC:=.reg [⟨none,.al (l1 cV) [.tmp 0]⟩,⟨none,.al (fun (_:List AV)=>bQ P 46) []⟩] [(2,.loc 0),(1,.loc 1)]
def XL:AC:=.reg [⟨none,.ld1 (.tmp 1)⟩,⟨none,.cl (cf 53) [.loc 0]⟩,⟨none,.p1 (iG .not) (.loc 0)⟩] [(8,.loc 0)]
def XM:AC:=.reg [⟨none,.st1 (.tmp 2) (.cst (AV.slice none 0 0 none))⟩] []
def NR:AC:=.reg [⟨none,.ld1 (.tmp 1)⟩,⟨none,.p1 (aj) (.loc 0)⟩,⟨none,.p1 (ae P 97 1) (.loc 0)⟩,⟨none,.ld1 (.loc 0)⟩,⟨none,.cl (cf 57) [.loc 0]⟩] [(13,.loc 0)]
def AQ:AC:=.reg [] [(3,.tmp 14)]
def NS:AC:=.reg [⟨none,.ld1 (.tmp 1)⟩,⟨none,.p1 (aj) (.loc 0)⟩,⟨none,.p1 (ae P 97 1) (.loc 0)⟩,⟨none,.ld1 (.loc 0)⟩,⟨none,.cl (cf 60) [.loc 0,.tmp 3]⟩,⟨none,.p1 (aq 0) (.loc 0)⟩,⟨none,.p1 (aq 1) (.loc 1)⟩,⟨none,.al (fun (_:List AV)=>bQ P 50) []⟩,⟨none,.ef (fun vs _ h=>l2 (eV 4 h) vs) [.loc 0,.loc 2]⟩] [(4,.loc 1)]
def NT:AC:=.reg [⟨none,.ld1 (.tmp 2)⟩,⟨none,.ldn 4 (.tmp 4)⟩,⟨none,.al (buildSliceN P 46 1 [0]) [.loc 0]⟩,⟨none,.ef (fun vs id h=>l2 (fun s x=>aS P 46 s x id h) vs) [.loc 2,.loc 0]⟩,⟨none,.st1 (.tmp 2) (.loc 0)⟩] []
def AR:AC:=.block 1 (.seq NS NT)
def nn:Code:=ja (j9 P 15) [1,1,0,1,0] 0
def nq:Code:=ja (j9 P 15) [1,1,0,1,0] 1
def zbg:AC:=.rangeF (.tmp 13) [14] nn nq
theorem VS:bu P (keepF P 15) 29 nn=AQ:=by kernel_rfl
theorem VT:bu P (keepF P 15) 29 nq=AR:=by kernel_rfl
def NU:AC:=.reg [⟨none,.ld1 (.tmp 2)⟩,⟨none,.st1 (.tmp 2) (.loc 0)⟩] []
def XK:AC:=.seq (.seq XL (.cond (.tmp 8) (.seq XM .ret) .skip)) (.seq (.seq NR (.block 0 zbg)) (.seq NU .ret))
def UQ:cA:=⟨(.seq XJ XK),[.cell 2 46],29,false⟩
theorem zgk:ci P (keepF P) 15=some UQ:=by kernel_rfl
def F15:=An (kR XJ rfl)<|An (kR XL rfl)<|An (kR XM rfl)<|An (kR NR rfl)<|An (kR AQ rfl)<|An (kR NS rfl)<|An (kR NT rfl)<|An (kB AR rfl)<|An (kR NU rfl)<|(kS XK rfl)
def XT:AC:=.reg [] [(2,.cst (AV.int .i64 0))]
def XV:AC:=.reg [⟨none,.cl (cf 53) [.tmp 0]⟩,⟨none,.p1 (iG .not) (.loc 0)⟩] [(5,.loc 0)]
def XW:AC:=.reg [] [(2,.cst (AV.int .i64 0))]
def Pk:AC:=.reg [⟨none,.p1 (aj) (.tmp 0)⟩,⟨none,.p1 (ae P 97 2) (.loc 0)⟩,⟨none,.ld1 (.loc 0)⟩,⟨none,.cl (cf 61) [.loc 0]⟩] [(2,.loc 0)]
def XU:AC:=.seq (.seq XV (.cond (.tmp 5) (.seq XW .ret) .skip)) (.seq Pk .ret)
def US:cA:=⟨(.seq XT XU),[.tmp 2],11,true⟩
theorem zgm:ci P (keepF P) 17=some US:=by kernel_rfl
def F17:=An (kR XT rfl)<|An (kR XV rfl)<|An (kR XW rfl)<|An (kR Pk rfl)<|(kS XU rfl)
def X6:AC:=.reg [⟨none,.al (l1 cV) [.tmp 0]⟩,⟨none,.al (l1 cV) [.tmp 1]⟩,⟨none,.al (l1 cV) [.tmp 2]⟩] [(6,.cst (AV.int .i64 0)),(5,.loc 0),(4,.loc 1),(3,.loc 2)]
def X7:AC:=.reg [⟨none,.ld1 (.tmp 3)⟩,⟨none,.pn (dH (Fn.func 67) 0) [.tmp 3,.tmp 4,.tmp 5]⟩,⟨none,.cl (cf 66) [.loc 1,.loc 0]⟩] [(6,.loc 0)]
def UV:cA:=⟨(.seq X6 (.seq X7 .ret)),[.tmp 6],10,true⟩
theorem zgp:ci P (keepF P) 21=some UV:=by kernel_rfl
def F21:=An (kR X6 rfl)<|(kR X7 rfl)
def YI:AC:=.reg [] [(2,.cst (AV.ptr none))]
def YK:AC:=.reg [⟨none,.cl (cf 106) [.tmp 0]⟩,⟨none,.p1 (iG .not) (.loc 0)⟩] [(5,.loc 0)]
def YL:AC:=.reg [] [(2,.cst (AV.ptr none))]
def Qm:AC:=.reg [⟨none,.p1 (aj) (.tmp 0)⟩,⟨none,.p1 (ae P 117 0) (.loc 0)⟩,⟨none,.ld1 (.loc 0)⟩] [(2,.loc 0)]
def YJ:AC:=.seq (.seq YK (.cond (.tmp 5) (.seq YL .ret) .skip)) (.seq Qm .ret)
def UY:cA:=⟨(.seq YI YJ),[.tmp 2],10,true⟩
theorem zgs:ci P (keepF P) 48=some UY:=by kernel_rfl
def F48:=An (kR YI rfl)<|An (kR YK rfl)<|An (kR YL rfl)<|An (kR Qm rfl)<|(kS YJ rfl)
def YM:AC:=.reg [] [(2,.cst (AV.int .i64 0))]
def YO:AC:=.reg [⟨none,.p2 (ag P .eql 33) (.tmp 0) (.cst (AV.ptr none))⟩] [(4,.loc 0)]
def YP:AC:=.reg [] [(2,.cst (AV.int .i64 0))]
def Qn:AC:=.reg [⟨none,.p1 (aj) (.tmp 0)⟩,⟨none,.p1 (ae P 120 0) (.loc 0)⟩,⟨none,.ld1 (.loc 0)⟩,⟨none,.pn (l1 (bL P 118)) [.loc 0]⟩] [(2,.loc 0)]
def YN:AC:=.seq (.seq YO (.cond (.tmp 4) (.seq YP .ret) .skip)) (.seq Qn .ret)
def UZ:cA:=⟨(.seq YM YN),[.tmp 2],10,true⟩
theorem zgt:ci P (keepF P) 49=some UZ:=by kernel_rfl
def F49:=An (kR YM rfl)<|An (kR YO rfl)<|An (kR YP rfl)<|An (kR Qn rfl)<|(kS YN rfl)
def YS:AC:=.reg [] [(4,.cst (AV.ptr none))]
def YU:AC:=.reg [⟨none,.p2 (ag P .lss 3) (.tmp 0) (.cst (AV.int .i64 0))⟩,⟨some (.loc 0,false),.mv (.tmp 0)⟩,⟨some (.loc 1,false),.mv (.tmp 1)⟩,⟨some (.loc 2,false),.p2 (ag P .geq 3) (.loc 1) (.loc 0)⟩,⟨none,.pick (.loc 3) (.cst (AV.bool true)) (.loc 0)⟩,⟨some (.loc 0,false),.mv (.tmp 1)⟩,⟨some (.loc 1,false),.p2 (ag P .gtr 3) (.loc 0) (.cst (AV.int .i64 2048))⟩,⟨none,.pick (.loc 2) (.cst (AV.bool true)) (.loc 0)⟩] [(15,.loc 0)]
def YV:AC:=.reg [] [(4,.cst (AV.ptr none))]
def Qo:AC:=.reg [⟨none,.p2 (ag P .sub 3) (.tmp 1) (.cst (AV.int .i64 1))⟩,⟨none,.p2 (ag P .quo 3) (.loc 0) (.cst (AV.int .i64 256))⟩,⟨none,.p2 (ag P .add 3) (.loc 0) (.cst (AV.int .i64 1))⟩,⟨none,.al (l2 (dE P 178)) [.loc 0,.loc 0]⟩,⟨none,.pn (bK P 180 [0,1,2]) [.tmp 0,.tmp 1,.loc 0]⟩,⟨none,.al (l1 cV) [.loc 0]⟩] [(4,.loc 0)]
def YT:AC:=.seq (.seq YU (.cond (.tmp 15) (.seq YV .ret) .skip)) (.seq Qo .ret)
def U1:cA:=⟨(.seq YS YT),[.tmp 4],25,true⟩
theorem zgv:ci P (keepF P) 51=some U1:=by kernel_rfl
def F51:=An (kR YS rfl)<|An (kR YU rfl)<|An (kR YV rfl)<|An (kR Qo rfl)<|(kS YT rfl)
def YW:AC:=.reg [] [(2,.cst (AV.slice none 0 0 none))]
def YY:AC:=.reg [⟨none,.p2 (ag P .eql 24) (.tmp 0) (.cst (AV.slice none 0 0 none))⟩] [(4,.loc 0)]
def YZ:AC:=.reg [] [(2,.cst (AV.slice none 0 0 none))]
def Qp:AC:=.reg [⟨none,.al (buildSliceN P 24 0 []) []⟩,⟨none,.ef (fun vs id h=>l2 (fun s x=>aS P 24 s x id h) vs) [.loc 0,.tmp 0]⟩] [(2,.loc 0)]
def YX:AC:=.seq (.seq YY (.cond (.tmp 4) (.seq YZ .ret) .skip)) (.seq Qp .ret)
def U2:cA:=⟨(.seq YW YX),[.tmp 2],8,true⟩
theorem zgw:ci P (keepF P) 52=some U2:=by kernel_rfl
def F52:=An (kR YW rfl)<|An (kR YY rfl)<|An (kR YZ rfl)<|An (kR Qp rfl)<|(kS YX rfl)
def Y0:AC:=.reg [] [(2,.cst (AV.bool false))]
def Y1:AC:=.reg [⟨none,.p2 (ag P .neq 29) (.tmp 0) (.cst (AV.ptr none))⟩,⟨some (.loc 0,true),.mv (.tmp 0)⟩,⟨some (.loc 1,true),.p1 (aj) (.loc 0)⟩,⟨some (.loc 2,true),.p1 (ae P 97 1) (.loc 0)⟩,⟨some (.loc 3,true),.ld1 (.loc 0)⟩,⟨some (.loc 4,true),.p2 (ag P .neq 94) (.loc 0) (.cst (AV.ptr none))⟩,⟨none,.pick (.loc 5) (.loc 0) (.cst (AV.bool false))⟩] [(2,.loc 0)]
def U3:cA:=⟨(.seq Y0 (.seq Y1 .ret)),[.tmp 2],12,true⟩
theorem zgx:ci P (keepF P) 53=some U3:=by kernel_rfl
def F53:=An (kR Y0 rfl)<|(kR Y1 rfl)
def Zk:AC:=.reg [] [(4,.cst (AV.int .i64 0))]
def Zm:AC:=.reg [⟨none,.cl (cf 116) [.tmp 0,.tmp 1]⟩] [(5,.loc 0)]
def Zn:AC:=.reg [⟨none,.p2 (ag P .neq 38) (.tmp 5) (.cst (AV.int .i64 0))⟩] [(12,.loc 0)]
def Zo:AC:=.reg [] [(4,.tmp 5)]
def Zl:AC:=.seq Zm (.seq Zn (.cond (.tmp 12) (.seq Zo .ret) .skip))
def QC:AC:=.reg [⟨none,.cl (cf 117) [.tmp 0,.tmp 1]⟩,⟨none,.p1 (aq 0) (.loc 0)⟩,⟨none,.p1 (aq 1) (.loc 1)⟩] [(7,.loc 0),(6,.loc 1)]
def QE:AC:=.reg [⟨none,.p1 (aj) (.tmp 6)⟩,⟨none,.ld1 (.loc 0)⟩,⟨none,.p2 (ag P .and 185) (.loc 0) (.tmp 7)⟩,⟨none,.p2 (ag P .neq 185) (.loc 0) (.cst (AV.int .u64 0))⟩] [(25,.loc 0)]
def QF:AC:=.reg [] [(4,.cst (AV.int .i64 6))]
def QG:AC:=.reg [⟨none,.p1 (aj) (.tmp 6)⟩,⟨none,.ld1 (.loc 0)⟩,⟨none,.p2 (ag P .or 185) (.loc 0) (.tmp 7)⟩,⟨none,.p1 (aj) (.tmp 6)⟩,⟨none,.st1 (.loc 0) (.loc 1)⟩] []
def QH:AC:=.reg [] [(4,.cst (AV.int .i64 0))]
def QD:AC:=.seq (.seq QE (.cond (.tmp 25) (.seq QF .ret) .skip)) (.seq QG (.seq QH .ret))
def U9:cA:=⟨(.seq Zk (.seq Zl (.seq QC QD))),[.tmp 4],32,true⟩
theorem zgD:ci P (keepF P) 59=some U9:=by kernel_rfl
def F59:=An (kR Zk rfl)<|An (kR Zm rfl)<|An (kR Zn rfl)<|An (kR Zo rfl)<|An (kS Zl rfl)<|An (kR QC rfl)<|An (kR QE rfl)<|An (kR QF rfl)<|An (kR QG rfl)<|An (kR QH rfl)<|(kS QD rfl)
def Zp:AC:=.reg [⟨none,.al (fun (_:List AV)=>bQ P 50) []⟩] [(5,.cst (AV.bool false)),(4,.loc 0)]
def Zq:AC:=.reg [⟨none,.cl (cf 58) [.tmp 0,.tmp 1]⟩,⟨none,.p1 (aq 0) (.loc 0)⟩,⟨none,.p1 (aq 1) (.loc 1)⟩,⟨none,.p1 (aq 2) (.loc 2)⟩,⟨none,.p1 (aq 3) (.loc 3)⟩] [(9,.loc 0),(8,.loc 1),(7,.loc 2),(6,.loc 3)]
def Zr:AC:=.reg [⟨none,.pn (l1 (bL P 9)) [.tmp 6]⟩,⟨none,.pn (bK P 50 [0,1,2,3]) [.tmp 1,.tmp 7,.tmp 8,.loc 0]⟩,⟨none,.ef (fun vs _ h=>l2 (eV 4 h) vs) [.tmp 4,.loc 0]⟩] [(5,.tmp 9)]
def Va:cA:=⟨(.seq Zp (.seq Zq (.seq Zr .ret))),[.cell 4 50,.tmp 5],25,true⟩
theorem zgE:ci P (keepF P) 60=some Va:=by kernel_rfl
def F60:=An (kR Zp rfl)<|An (kR Zq rfl)<|(kR Zr rfl)
def Zs:AC:=.reg [] [(2,.cst (AV.int .i64 0))]
def Zu:AC:=.reg [⟨none,.al (fun (_:List AV)=>bQ P 3) []⟩,⟨none,.st1 (.loc 0) (.cst (AV.int .i64 0))⟩] [(3,.loc 1)]
def Zv:AC:=.reg [⟨none,.cl (cf 118) [.tmp 0]⟩] [(5,.loc 0)]
def QK:AC:=.skip
theorem zfa:Ub QK .normal:=zaK
def QI:AC:=.reg [⟨none,.ld1 (.tmp 3)⟩,⟨none,.p2 (ag P .add 3) (.loc 0) (.cst (AV.int .i64 1))⟩,⟨none,.st1 (.tmp 3) (.loc 0)⟩] []
def Bh:AC:=.block 1 QI
def qW:Code:=ja (j9 P 61) [1,1,0,1,0] 0
def qX:Code:=ja (j9 P 61) [1,1,0,1,0] 1
def zdC:AC:=.rangeF (.tmp 5) [6] qW qX
theorem zcc:bu P (keepF P 61) 10 qW=QK:=by kernel_rfl
theorem zcd:bu P (keepF P 61) 10 qX=Bh:=by kernel_rfl
def QJ:AC:=.reg [⟨none,.ld1 (.tmp 3)⟩] [(2,.loc 0)]
def Zt:AC:=.seq Zu (.seq (.seq Zv (.block 0 zdC)) (.seq QJ .ret))
def Vb:cA:=⟨(.seq Zs Zt),[.tmp 2],10,false⟩
theorem zgF:ci P (keepF P) 61=some Vb:=by kernel_rfl
def F61:=An (kR Zs rfl)<|An (kR Zu rfl)<|An (kR Zv rfl)<|An zfa<|An (kR QI rfl)<|An (kB Bh rfl)<|An (kR QJ rfl)<|(kS Zt rfl)
def ZO:AC:=.reg [] [(4,.cst (AV.int .i64 0))]
def ZQ:AC:=.reg [⟨none,.cl (cf 123) [.tmp 0]⟩] [(5,.loc 0)]
def ZR:AC:=.reg [⟨none,.p2 (ag P .neq 38) (.tmp 5) (.cst (AV.int .i64 0))⟩] [(11,.loc 0)]
def ZS:AC:=.reg [] [(4,.tmp 5)]
def ZP:AC:=.seq ZQ (.seq ZR (.cond (.tmp 11) (.seq ZS .ret) .skip))
def Re:AC:=.reg [⟨none,.p1 (aj) (.tmp 0)⟩,⟨none,.p1 (ae P 117 3) (.loc 0)⟩,⟨none,.ld1 (.loc 0)⟩] [(6,.loc 0)]
def Rf:AC:=.reg [⟨none,.p1 (aj) (.tmp 0)⟩,⟨none,.p1 (ae P 117 3) (.loc 0)⟩,⟨none,.ld1 (.loc 0)⟩,⟨none,.p2 (ag P .add 3) (.loc 0) (.cst (AV.int .i64 1))⟩,⟨none,.p1 (aj) (.tmp 0)⟩,⟨none,.p1 (ae P 117 3) (.loc 0)⟩,⟨none,.st1 (.loc 0) (.loc 2)⟩] []
def Rh:AC:=.reg [⟨none,.p1 (aj) (.tmp 0)⟩,⟨none,.p1 (ae P 117 1) (.loc 0)⟩,⟨none,.ld1 (.loc 0)⟩,⟨none,.p2 (ag P .neq 3) (.tmp 6) (.loc 0)⟩] [(29,.loc 0)]
def Rj:AC:=.reg [⟨none,.cl (.tmp 1) []⟩] [(4,.loc 0)]
def Rl:AC:=.reg [⟨none,.pn (dH (Fn.func 124) 1) [.tmp 0]⟩] [(7,.loc 0)]
def Rm:AC:=.reg [⟨none,.cl (.tmp 7) []⟩] [(35,.loc 0)]
def Rn:AC:=.reg [⟨none,.cl (.tmp 1) []⟩] []
def Ro:AC:=.reg [⟨none,.cl (cf 125) [.tmp 0]⟩] []
def Rp:AC:=.reg [] [(4,.cst (AV.int .i64 8))]
def Rk:AC:=.seq (.seq Rl (.seq Rm (.cond (.tmp 35) Rn .skip))) (.seq Ro (.seq Rp .ret))
def Rg:AC:=.seq (.seq Rh (.cond (.tmp 29) (.seq Rj .ret) .skip)) Rk
def Vg:cA:=⟨(.seq ZO (.seq ZP (.seq Re (.seq Rf Rg)))),[.tmp 4],40,true⟩
theorem zgK:ci P (keepF P) 66=some Vg:=by kernel_rfl
def F66:=An (kR ZO rfl)<|An (kR ZQ rfl)<|An (kR ZR rfl)<|An (kR ZS rfl)<|An (kS ZP rfl)<|An (kR Re rfl)<|An (kR Rf rfl)<|An (kR Rh rfl)<|An (kR Rj rfl)<|An (kR Rl rfl)<|An (kR Rm rfl)<|An (kR Rn rfl)<|An (kR Ro rfl)<|An (kR Rp rfl)<|An (kS Rk rfl)<|(kS Rg rfl)
def ZT:AC:=.reg [] [(3,.cst (AV.int .i64 0))]
def Rq:List (Nat×aw):=[(0,⟨none,.ld1 (.tmp 0)⟩),(1,⟨none,.p1 (aj) (.opi 0)⟩),(2,⟨none,.p1 (ae P 117 0) (.opi 1)⟩),(3,⟨none,.ld1 (.opi 2)⟩),(4,⟨none,.ld1 (.tmp 1)⟩),(5,⟨none,.ld1 (.tmp 2)⟩),(6,⟨none,.cl (cf 68) [.opi 3,.opi 4,.opi 5]⟩),(7,⟨none,.mv (.opi 6)⟩)]
def ZU:AC:=.draw 8 (ar #[0,1,3,7,0,0,63,127] Rq [6] 0 (Rq.filter fun x=>x.2.i.eff)) [(3,7)]
theorem zfc:bY ZU fun call tm h=>let g:=ac.mk h.bs (h.next+8);B (B (tm.gt 0) (fun a=>am g a) tg) (fun v0=>B (aj v0) (fun v1=>B (ae P 117 0 v1) (fun v2=>B (am g v2) (fun v3=>B (B (tm.gt 1) (fun a=>am g a) tg) (fun v4=>B (B (tm.gt 2) (fun a=>am g a) tg) (fun v5=>B (call (.fn 68) [v3,v4,v5] g) (fun r6=>some ((tm.up (some r6.1) 3),r6.2)) tg) tg) tg) tg) tg) tg) tg:=b8 rfl (by kernel_rfl)
def Vh:cA:=⟨(.seq ZT (.seq ZU .ret)),[.tmp 3],11,true⟩
theorem zgL:ci P (keepF P) 67=some Vh:=by kernel_rfl
def F67:=An (kR ZT rfl)<|zfc
def ZV:AC:=.reg [] [(6,.cst (AV.int .i64 0))]
def ZW:AC:=.reg [⟨none,.cl (cf 126) [.tmp 0,.tmp 1]⟩,⟨none,.p1 (aq 0) (.loc 0)⟩,⟨none,.p1 (aq 1) (.loc 1)⟩] [(8,.loc 0),(7,.loc 1)]
def ZY:AC:=.reg [⟨none,.p2 (ag P .neq 38) (.tmp 8) (.cst (AV.int .i64 0))⟩] [(15,.loc 0)]
def Rr:AC:=.reg [] [(6,.tmp 8)]
def Rs:AC:=.reg [⟨none,.pn (l1 (bL P 9)) [.tmp 2]⟩,⟨none,.p2 (ag P .gtr 3) (.loc 0) (.cst (AV.int .i64 64))⟩] [(19,.loc 0)]
def Rt:AC:=.reg [] [(6,.cst (AV.int .i64 3))]
def ZZ:AC:=.cond (.tmp 15) (.seq Rr .ret) (.seq Rs (.cond (.tmp 19) (.seq Rt .ret) .skip))
def Ru:AC:=.reg [⟨none,.pn (bK P 207 []) []⟩,⟨none,.p1 (aj) (.tmp 7)⟩,⟨none,.p1 (ae P 209 1) (.loc 0)⟩,⟨none,.ef (fun vs _ h=>l2 (eV 64 h) vs) [.loc 0,.loc 2]⟩] []
def Rv:AC:=.reg [⟨none,.p1 (aj) (.tmp 7)⟩,⟨none,.p1 (ae P 209 1) (.loc 0)⟩,⟨none,.pn (aU P 207 false false false) [.loc 0]⟩,⟨none,.ef (fun vs _ h=>l2 (fun d x=>kI P 42 d x h) vs) [.loc 0,.tmp 2]⟩] []
def Rx:AC:=.reg [⟨none,.p1 (aj) (.tmp 7)⟩,⟨none,.p1 (ae P 209 2) (.loc 0)⟩,⟨none,.st1 (.loc 0) (.cst (AV.bool true))⟩] []
def Ry:AC:=.reg [] [(6,.cst (AV.int .i64 0))]
def ZX:AC:=.seq (.block 0 (.seq ZY ZZ)) (.seq Ru (.seq Rv (.seq Rx (.seq Ry .ret))))
def Vi:cA:=⟨(.seq ZV (.seq ZW ZX)),[.tmp 6],36,true⟩
theorem zgM:ci P (keepF P) 68=some Vi:=by kernel_rfl
def F68:=An (kR ZV rfl)<|An (kR ZW rfl)<|An (kR ZY rfl)<|An (kR Rr rfl)<|An (kR Rs rfl)<|An (kR Rt rfl)<|An (kC ZZ rfl)<|An (kR Ru rfl)<|An (kR Rv rfl)<|An (kR Rx rfl)<|An (kR Ry rfl)<|(kS ZX rfl)
def Lx:AC:=.reg [] [(2,.cst (AV.bool false))]
def Ly:AC:=.reg [⟨none,.p2 (ag P .neq 31) (.tmp 0) (.cst (AV.ptr none))⟩,⟨some (.loc 0,true),.mv (.tmp 0)⟩,⟨some (.loc 1,true),.p1 (aj) (.loc 0)⟩,⟨some (.loc 2,true),.p1 (ae P 117 0) (.loc 0)⟩,⟨some (.loc 3,true),.ld1 (.loc 0)⟩,⟨some (.loc 4,true),.p2 (ag P .neq 33) (.loc 0) (.cst (AV.ptr none))⟩,⟨none,.pick (.loc 5) (.loc 0) (.cst (AV.bool false))⟩] [(2,.loc 0)]
def H3:cA:=⟨(.seq Lx (.seq Ly .ret)),[.tmp 2],12,true⟩
theorem zdU:ci P (keepF P) 106=some H3:=by kernel_rfl
def zfH:=An (kR Lx rfl)<|(kR Ly rfl)
def LI:AC:=.reg [] [(2,.cst (AV.bool false))]
def LJ:AC:=.reg [⟨none,.p2 (ag P .neq 95) (.tmp 0) (.cst (AV.ptr none))⟩,⟨some (.loc 0,true),.mv (.tmp 0)⟩,⟨some (.loc 1,true),.p1 (aj) (.loc 0)⟩,⟨some (.loc 2,true),.p1 (ae P 180 1) (.loc 0)⟩,⟨some (.loc 3,true),.ld1 (.loc 0)⟩,⟨some (.loc 4,true),.p2 (ag P .gtr 3) (.loc 0) (.cst (AV.int .i64 0))⟩,⟨none,.pick (.loc 5) (.loc 0) (.cst (AV.bool false))⟩] [(2,.loc 0)]
def H7:cA:=⟨(.seq LI (.seq LJ .ret)),[.tmp 2],12,true⟩
theorem zdY:ci P (keepF P) 110=some H7:=by kernel_rfl
def zfL:=An (kR LI rfl)<|(kR LJ rfl)
def L4:AC:=.reg [] [(4,.cst (AV.int .i64 0))]
def L5:AC:=.reg [⟨none,.cl (cf 110) [.tmp 0]⟩,⟨none,.p1 (iG .not) (.loc 0)⟩] [(5,.loc 0)]
def Ma:AC:=.reg [] [(4,.cst (AV.int .i64 1))]
def C2:AC:=.reg [⟨none,.p1 (aj) (.tmp 0)⟩,⟨none,.p1 (ae P 180 0) (.loc 0)⟩,⟨none,.ld1 (.loc 0)⟩,⟨none,.p2 (ag P .lss 3) (.tmp 1) (.loc 0)⟩,⟨some (.loc 0,false),.mv (.tmp 1)⟩,⟨some (.loc 1,false),.mv (.tmp 0)⟩,⟨some (.loc 2,false),.p1 (aj) (.loc 0)⟩,⟨some (.loc 3,false),.p1 (ae P 180 1) (.loc 0)⟩,⟨some (.loc 4,false),.ld1 (.loc 0)⟩,⟨some (.loc 5,false),.p2 (ag P .geq 3) (.loc 4) (.loc 0)⟩,⟨none,.pick (.loc 6) (.cst (AV.bool true)) (.loc 0)⟩] [(9,.loc 0)]
def C3:AC:=.reg [] [(4,.cst (AV.int .i64 2))]
def L7:AC:=.cond (.tmp 5) (.seq Ma .ret) (.seq C2 (.cond (.tmp 9) (.seq C3 .ret) .skip))
def C4:AC:=.reg [] [(4,.cst (AV.int .i64 0))]
def LZ:AC:=.seq L4 (.seq (.block 0 (.seq L5 L7)) (.seq C4 .ret))
def Ic:cA:=⟨LZ,[.tmp 4],24,true⟩
theorem zd3:ci P (keepF P) 116=some Ic:=by kernel_rfl
def zaV:=An (kR L4 rfl)<|An (kR L5 rfl)<|An (kR Ma rfl)<|An (kR C2 rfl)<|An (kR C3 rfl)<|An (kC L7 rfl)<|An (kR C4 rfl)<|(kS LZ rfl)
def Mb:AC:=.reg [] [(5,.cst (AV.int .u64 0)),(4,.cst (AV.ptr none))]
def C6:List (Nat×aw):=[(0,⟨none,.mv (.tmp 0)⟩),(1,⟨none,.p1 (aj) (.opi 0)⟩),(2,⟨none,.p1 (ae P 180 2) (.opi 1)⟩),(3,⟨none,.ld1 (.opi 2)⟩),(4,⟨none,.mv (.tmp 1)⟩),(5,⟨none,.p2 (ag P .quo 3) (.opi 4) (.cst (AV.int .i64 256))⟩),(6,⟨none,.mv (.tmp 1)⟩),(7,⟨none,.p2 (ag P .rem 3) (.opi 6) (.cst (AV.int .i64 256))⟩),(8,⟨none,.p2 (ag P .quo 3) (.opi 7) (.cst (AV.int .i64 64))⟩),(9,⟨none,.p2 (aa P 178) (.opi 3) (.opi 5)⟩),(10,⟨none,.p2 (aa P 187) (.opi 9) (.opi 8)⟩),(11,⟨none,.mv (.tmp 1)⟩),(12,⟨none,.p2 (ag P .rem 3) (.opi 11) (.cst (AV.int .i64 64))⟩),(13,⟨none,.p2 (ag P .shl 185) (.cst (AV.int .u64 1)) (.opi 12)⟩),(14,⟨none,.mv (.opi 10)⟩),(15,⟨none,.mv (.opi 13)⟩)]
def Mc:AC:=.draw 16 (ar #[0,1,3,7,0,16,0,64,192,63,1023,0,2048,6144,2047,32767] C6 [] 0 (C6.filter fun x=>x.2.i.eff)) [(5,15),(4,14)]
theorem zci:bY Mc fun call tm h=>let g:=ac.mk h.bs (h.next+16);B (tm.gt 0) (fun v0=>B (aj v0) (fun v1=>B (ae P 180 2 v1) (fun v2=>B (am g v2) (fun v3=>B (tm.gt 1) (fun v4=>B (ag P .quo 3 v4 (AV.int .i64 256)) (fun v5=>B (tm.gt 1) (fun v6=>B (ag P .rem 3 v6 (AV.int .i64 256)) (fun v7=>B (ag P .quo 3 v7 (AV.int .i64 64)) (fun v8=>B (aa P 178 v3 v5) (fun v9=>B (aa P 187 v9 v8) (fun v10=>B (tm.gt 1) (fun v11=>B (ag P .rem 3 v11 (AV.int .i64 64)) (fun v12=>B (ag P .shl 185 (AV.int .u64 1) v12) (fun v13=>some (((tm.up (some v13) 5).up (some v10) 4),g)) tg) tg) tg) tg) tg) tg) tg) tg) tg) tg) tg) tg) tg) tg:=b8 rfl (by kernel_rfl)
def Id:cA:=⟨(.seq Mb (.seq Mc .ret)),[.tmp 4,.tmp 5],20,true⟩
theorem zd4:ci P (keepF P) 117=some Id:=by kernel_rfl
def zfO:=An (kR Mb rfl)<|zci
def Md:AC:=.reg [⟨none,.al (l1 cV) [.tmp 0]⟩] [(2,.cst AV.nilFunc),(1,.loc 0)]
def Me:AC:=.reg [⟨none,.pn (dH (Fn.func 153) 0) [.tmp 1]⟩] [(2,.loc 0)]
def Ie:cA:=⟨(.seq Md (.seq Me .ret)),[.tmp 2],4,true⟩
theorem zd5:ci P (keepF P) 118=some Ie:=by kernel_rfl
def zfP:=An (kR Md rfl)<|(kR Me rfl)
def Mu:AC:=.reg [] [(2,.cst (AV.int .i64 0))]
def Mv:AC:=.reg [⟨none,.cl (cf 106) [.tmp 0]⟩,⟨none,.p1 (iG .not) (.loc 0)⟩] [(3,.loc 0)]
def Mx:AC:=.reg [] [(2,.cst (AV.int .i64 1))]
def Dv:AC:=.reg [⟨none,.p1 (aj) (.tmp 0)⟩,⟨none,.p1 (ae P 117 4) (.loc 0)⟩,⟨none,.ld1 (.loc 0)⟩] [(7,.loc 0)]
def Dw:AC:=.reg [] [(2,.cst (AV.int .i64 8))]
def Mw:AC:=.cond (.tmp 3) (.seq Mx .ret) (.seq Dv (.cond (.tmp 7) (.seq Dw .ret) .skip))
def Dx:AC:=.reg [] [(2,.cst (AV.int .i64 0))]
def Mt:AC:=.seq Mu (.seq (.block 0 (.seq Mv Mw)) (.seq Dx .ret))
def Ii:cA:=⟨Mt,[.tmp 2],12,true⟩
theorem zd9:ci P (keepF P) 123=some Ii:=by kernel_rfl
def zc1:=An (kR Mu rfl)<|An (kR Mv rfl)<|An (kR Mx rfl)<|An (kR Dv rfl)<|An (kR Dw rfl)<|An (kC Mw rfl)<|An (kR Dx rfl)<|(kS Mt rfl)
def Mz:AC:=.reg [] [(5,.cst (AV.int .i64 0)),(4,.cst (AV.ptr none))]
def MA:AC:=.reg [⟨none,.p2 (ag P .eql 33) (.tmp 0) (.cst (AV.ptr none))⟩,⟨some (.loc 0,false),.mv (.tmp 0)⟩,⟨some (.loc 1,false),.p1 (aj) (.loc 0)⟩,⟨some (.loc 2,false),.p1 (ae P 120 0) (.loc 0)⟩,⟨some (.loc 3,false),.ld1 (.loc 0)⟩,⟨some (.loc 4,false),.pn (l1 (bL P 118)) [.loc 0]⟩,⟨some (.loc 5,false),.p2 (ag P .eql 3) (.loc 0) (.cst (AV.int .i64 0))⟩,⟨none,.pick (.loc 6) (.cst (AV.bool true)) (.loc 0)⟩] [(6,.loc 0)]
def MC:AC:=.reg [] [(5,.cst (AV.int .i64 1)),(4,.cst (AV.ptr none))]
def Dy:AC:=.reg [⟨none,.p2 (ag P .lss 3) (.tmp 1) (.cst (AV.int .i64 0))⟩,⟨some (.loc 0,false),.mv (.tmp 1)⟩,⟨some (.loc 1,false),.mv (.tmp 0)⟩,⟨some (.loc 2,false),.p1 (aj) (.loc 0)⟩,⟨some (.loc 3,false),.p1 (ae P 120 0) (.loc 0)⟩,⟨some (.loc 4,false),.ld1 (.loc 0)⟩,⟨some (.loc 5,false),.pn (l1 (bL P 118)) [.loc 0]⟩,⟨some (.loc 6,false),.p2 (ag P .geq 3) (.loc 5) (.loc 0)⟩,⟨none,.pick (.loc 7) (.cst (AV.bool true)) (.loc 0)⟩] [(17,.loc 0)]
def Dz:AC:=.reg [] [(5,.cst (AV.int .i64 2)),(4,.cst (AV.ptr none))]
def MB:AC:=.cond (.tmp 6) (.seq MC .ret) (.seq Dy (.cond (.tmp 17) (.seq Dz .ret) .skip))
def DA:AC:=.reg [⟨none,.p1 (aj) (.tmp 0)⟩,⟨none,.p1 (ae P 120 0) (.loc 0)⟩,⟨none,.ld1 (.loc 0)⟩,⟨none,.p2 (aa P 118) (.loc 0) (.tmp 1)⟩] [(5,.cst (AV.int .i64 0)),(4,.loc 0)]
def My:AC:=.seq Mz (.seq (.block 0 (.seq MA MB)) (.seq DA .ret))
def Ij:cA:=⟨My,[.tmp 4,.tmp 5],35,true⟩
theorem zea:ci P (keepF P) 126=some Ij:=by kernel_rfl
def zaW:=An (kR Mz rfl)<|An (kR MA rfl)<|An (kR MC rfl)<|An (kR Dy rfl)<|An (kR Dz rfl)<|An (kC MB rfl)<|An (kR DA rfl)<|(kS My rfl)
def Ny:AC:=.reg [⟨none,.ld1 (.tmp 1)⟩,⟨none,.cl (cf 110) [.loc 0]⟩,⟨none,.p1 (iG .not) (.loc 0)⟩] [(6,.loc 0)]
def Nz:AC:=.reg [⟨none,.ld1 (.tmp 1)⟩,⟨none,.p1 (aj) (.loc 0)⟩,⟨none,.p1 (ae P 180 0) (.loc 0)⟩,⟨none,.ld1 (.loc 0)⟩] [(3,.loc 0)]
def EK:AC:=.reg [⟨none,.ld1 (.tmp 1)⟩,⟨none,.p1 (aj) (.loc 0)⟩,⟨none,.p1 (ae P 180 1) (.loc 0)⟩,⟨none,.ld1 (.loc 0)⟩,⟨none,.p2 (ag P .lss 3) (.tmp 3) (.loc 0)⟩] [(16,.loc 0)]
def EM:AC:=.reg [⟨none,.ld1 (.tmp 1)⟩,⟨none,.cl (cf 154) [.loc 0,.tmp 3]⟩,⟨some (.loc 0,true),.mv (.tmp 0)⟩,⟨some (.loc 1,true),.mv (.tmp 3)⟩,⟨some (.loc 2,true),.cl (.loc 1) [.loc 0]⟩,⟨some (.loc 3,true),.p1 (iG .not) (.loc 0)⟩,⟨none,.pick (.loc 4) (.loc 0) (.cst (AV.bool false))⟩] [(27,.loc 0)]
def EN:AC:=.reg [⟨none,.p2 (ag P .add 3) (.tmp 3) (.cst (AV.int .i64 1))⟩] [(3,.loc 0)]
def EL:AC:=.seq (.block 1 (.seq EM (.cond (.tmp 27) .ret .skip))) EN
def vH:AC:=.seq (.seq EK (.cond (.tmp 16) .skip (.exit 0))) EL
def zbf:AC:=.loop vH
def Nx:AC:=.seq (.seq Ny (.cond (.tmp 6) .ret .skip)) (.seq Nz (.block 0 zbf))
def Iq:cA:=⟨Nx,[],28,true⟩
theorem zeh:ci P (keepF P) 153=some Iq:=by kernel_rfl
def Lc:=An (kR Ny rfl)<|An (kR Nz rfl)<|An (kR EK rfl)<|An (kR EM rfl)<|An (kR EN rfl)<|An (kS EL rfl)<|An (kS vH rfl)<|(kS Nx rfl)
def NA:AC:=.reg [] [(4,.cst (AV.bool false))]
def NC:AC:=.reg [⟨none,.cl (cf 116) [.tmp 0,.tmp 1]⟩,⟨none,.p2 (ag P .neq 38) (.loc 0) (.cst (AV.int .i64 0))⟩] [(10,.loc 0)]
def ND:AC:=.reg [] [(4,.cst (AV.bool false))]
def EO:AC:=.reg [⟨none,.cl (cf 117) [.tmp 0,.tmp 1]⟩,⟨none,.p1 (aq 0) (.loc 0)⟩,⟨none,.p1 (aq 1) (.loc 1)⟩] [(6,.loc 0),(5,.loc 1)]
def EP:AC:=.reg [⟨none,.p1 (aj) (.tmp 5)⟩,⟨none,.ld1 (.loc 0)⟩,⟨none,.p2 (ag P .and 185) (.loc 0) (.tmp 6)⟩,⟨none,.p2 (ag P .eql 185) (.loc 0) (.cst (AV.int .u64 0))⟩] [(4,.loc 0)]
def NB:AC:=.seq (.seq NC (.cond (.tmp 10) (.seq ND .ret) .skip)) (.seq EO (.seq EP .ret))
def Ir:cA:=⟨(.seq NA NB),[.tmp 4],23,true⟩
theorem zei:ci P (keepF P) 154=some Ir:=by kernel_rfl
def zfW:=An (kR NA rfl)<|An (kR NC rfl)<|An (kR ND rfl)<|An (kR EO rfl)<|An (kR EP rfl)<|(kS NB rfl)
def NM:AC:=.reg [] [(5,.cst (AV.int .i64 0)),(4,.cst (AV.str []))]
def NN:AC:=.reg [⟨none,.cl (cf 126) [.tmp 0,.tmp 1]⟩,⟨none,.p1 (aq 0) (.loc 0)⟩,⟨none,.p1 (aq 1) (.loc 1)⟩] [(7,.loc 0),(6,.loc 1)]
def NP:AC:=.reg [⟨none,.p2 (ag P .neq 38) (.tmp 7) (.cst (AV.int .i64 0))⟩] [(15,.loc 0)]
def NQ:AC:=.reg [] [(5,.tmp 7),(4,.cst (AV.str []))]
def EX:AC:=.reg [⟨none,.p1 (aj) (.tmp 6)⟩,⟨none,.p1 (ae P 209 1) (.loc 0)⟩,⟨none,.pn (aU P 207 false false false) [.loc 0]⟩,⟨none,.rd (fun vs h=>l1 (fun v=>jr P 5 v h) vs) [.loc 0]⟩] [(5,.cst (AV.int .i64 0)),(4,.loc 0)]
def NO:AC:=.seq (.seq NP (.cond (.tmp 15) (.seq NQ .ret) .skip)) (.seq EX .ret)
def It:cA:=⟨(.seq NM (.seq NN NO)),[.tmp 4,.tmp 5],22,true⟩
theorem zek:ci P (keepF P) 158=some It:=by kernel_rfl
def zc2:=An (kR NM rfl)<|An (kR NN rfl)<|An (kR NP rfl)<|An (kR NQ rfl)<|An (kR EX rfl)<|(kS NO rfl)
theorem tM (a:Option (Nat×Nat)) (n c:Nat) (g:Option Nat):bL P 46 (.slice a n c g)=some (.int .i64 n):=fq (e:=50) (by kernel_rfl) a n c g
theorem cS (a:Option (Nat×Nat)) (n c:Nat) (g:Option Nat):bL P 41 (.slice a n c g)=some (.int .i64 n):=fq (e:=9) (by kernel_rfl) a n c g
theorem W6 (x:Option (Nat×Nat)):ag P .eql 31 (.ptr x) (.ptr none)=some (.bool x.isNone):=vp (e:=117) (by kernel_rfl)
theorem qG {k:IntKind} {b o n c i:Nat} {g:Option Nat} (hi:i<n):aa P 41 (.slice (some (b,o)) n c g) (.int k (i:Int))=some (.ptr (some (b,o+i*1))):=gq (e:=9) (by kernel_rfl) (by kernel_rfl) hi
theorem xD (x:Option (Nat×Nat)):ag P .eql 29 (.ptr x) (.ptr none)=some (.bool x.isNone):=vp (e:=97) (by kernel_rfl)
theorem zhb:aC P 50=some 4:=by kernel_rfl
theorem zga:cF P 50=some 32:=by kernel_rfl
theorem zhC:cd P 50=some (AV.agg [(AV.int .u32 0),(AV.int .i64 0),(AV.int .i64 0),(AV.int .i64 0)]):=by kernel_rfl
theorem W8 {k:IntKind} {b o n c i:Nat} {g:Option Nat} (hi:i<n):aa P 46 (.slice (some (b,o)) n c g) (.int k (i:Int))=some (.ptr (some (b,o+i*4))):=gq (e:=50) (by kernel_rfl) (by kernel_rfl) hi
theorem l7 (x:Option (Nat×Nat)):ag P .eql 33 (.ptr x) (.ptr none)=some (.bool x.isNone):=vp (e:=120) (by kernel_rfl)
theorem uj (p0:Option (Nat×Nat)) (p1:Option (Nat×Nat)) (p2:Option (Nat×Nat)):bK P 97 [0,1,2] [(AV.ptr p0),(AV.ptr p1),(AV.ptr p2)]=some (.agg [(AV.ptr p0),(AV.ptr p1),(AV.ptr p2)]):=by kernel_rfl
theorem tA (p0:Option (Nat×Nat)) (n1:Int) (a2:Option (Nat×Nat)) (l2 c2:Nat) (g2:Option Nat):bK P 117 [0,1,2] [(AV.ptr p0),(AV.int .i64 n1),(AV.slice a2 l2 c2 g2)]=some (.agg [(AV.ptr p0),(AV.int .i64 n1),(AV.slice a2 l2 c2 g2),(AV.int .i64 0),(AV.bool false)]):=by kernel_rfl
theorem WW:bQ P 46=some (.cells (az [(AV.slice none 0 0 none)] .leaf 0) (ay 46 true) 1 false,dy):=by kernel_rfl
theorem zhe:P.underlying 46=some (.slice 50):=by kernel_rfl
theorem fY (b o:Nat):ae P 97 1 (.ptr (some (b,o)))=some (.ptr (some (b,o+1))):=by kernel_rfl
theorem oh:bQ P 50=some (.cells (az [(AV.int .u32 0),(AV.int .i64 0),(AV.int .i64 0),(AV.int .i64 0)] .leaf 0) (ay 50 true) 4 false,dy):=by kernel_rfl
theorem K1 (n0:Int) (n1:Int) (n2:Int) (n3:Int):buildSliceN P 46 1 [0] [(AV.agg [AV.int .u32 n0,AV.int .i64 n1,AV.int .i64 n2,AV.int .i64 n3])]=some (.cells (az [AV.int .u32 n0,AV.int .i64 n1,AV.int .i64 n2,AV.int .i64 n3] .leaf 0) [] 4 false,sliceTo 1):=by kernel_rfl
theorem pp (b o:Nat):ae P 97 2 (.ptr (some (b,o)))=some (.ptr (some (b,o+2))):=by kernel_rfl
theorem zcV:P.underlying 41=some (.slice 9):=by kernel_rfl
theorem pi (s0:List Nat):buildSliceN P 41 1 [0] [(AV.str s0)]=some (.cells (az [(AV.str s0)] .leaf 0) [] 1 false,sliceTo 1):=by kernel_rfl
theorem oo (a:Option (Nat×Nat)) (n c:Nat) (g:Option Nat):bL P 24 (.slice a n c g)=some (.int .i64 n):=fq (e:=3) (by kernel_rfl) a n c g
theorem Cv {k:IntKind} {l:List Nat} {hi:Nat} (h:hi<=l.length):aU P 9 false true false [.str l,.int k (hi:Int)]=some (.str (l.take hi)):=KF (by kernel_rfl) h
theorem jV (b o:Nat):ae P 117 0 (.ptr (some (b,o)))=some (.ptr (some (b,o+0))):=by kernel_rfl
theorem eI (b o:Nat):ae P 120 0 (.ptr (some (b,o)))=some (.ptr (some (b,o+0))):=by kernel_rfl
theorem zfz:P.underlying 118=some (.slice 209):=by kernel_rfl
theorem jv (a:Option (Nat×Nat)) (n c:Nat) (g:Option Nat):bL P 118 (.slice a n c g)=some (.int .i64 n):=fq (e:=209) (by kernel_rfl) a n c g
theorem lD (n0:Int) (n1:Int) (a2:Option (Nat×Nat)) (l2 c2:Nat) (g2:Option Nat):bK P 180 [0,1,2] [(AV.int .i64 n0),(AV.int .i64 n1),(AV.slice a2 l2 c2 g2)]=some (.agg [(AV.int .i64 n0),(AV.int .i64 n1),(AV.slice a2 l2 c2 g2)]):=by kernel_rfl
theorem W5 (x:Option (Nat×Nat)) (n c:Nat) (g:Option Nat):ag P .eql 24 (.slice x n c g) (.slice none 0 0 none)=some (.bool x.isNone):=AG (e:=3) (by kernel_rfl)
theorem W9 (x:Option (Nat×Nat)):ag P .neq 29 (.ptr x) (.ptr none)=some (.bool x.isSome):=ou (e:=97) (by kernel_rfl)
theorem kj (n0:Int) (n1:Int) (n2:Int) (n3:Int):bK P 50 [0,1,2,3] [(AV.int .u32 n0),(AV.int .i64 n1),(AV.int .i64 n2),(AV.int .i64 n3)]=some (.agg [(AV.int .u32 n0),(AV.int .i64 n1),(AV.int .i64 n2),(AV.int .i64 n3)]):=by kernel_rfl
theorem Cr (b o:Nat):ae P 117 3 (.ptr (some (b,o)))=some (.ptr (some (b,o+3))):=by kernel_rfl
theorem Cq (b o:Nat):ae P 117 1 (.ptr (some (b,o)))=some (.ptr (some (b,o+1))):=by kernel_rfl
theorem jY (b o:Nat):ae P 209 1 (.ptr (some (b,o)))=some (.ptr (some (b,o+64))):=by kernel_rfl
theorem zfA:P.underlying 207=some (.array 64 5):=by kernel_rfl
theorem zfB:P.underlying 42=some (.slice 5):=by kernel_rfl
theorem u_5:P.underlying 5=some (.int .u8):=by kernel_rfl
theorem s_5:aC P 5=some 1:=by kernel_rfl
theorem jZ (b o:Nat):ae P 209 2 (.ptr (some (b,o)))=some (.ptr (some (b,o+128))):=by kernel_rfl
theorem pj (b o:Nat):ae P 97 0 (.ptr (some (b,o)))=some (.ptr (some (b,o+0))):=by kernel_rfl
theorem K5 (b o:Nat):ae P 50 2 (.ptr (some (b,o)))=some (.ptr (some (b,o+2))):=by kernel_rfl
theorem lE (a:Option (Nat×Nat)) (n c:Nat) (g:Option Nat):bL P 42 (.slice a n c g)=some (.int .i64 n):=fq (e:=5) (by kernel_rfl) a n c g
theorem Xa (x:Option (Nat×Nat)):ag P .neq 31 (.ptr x) (.ptr none)=some (.bool x.isSome):=ou (e:=117) (by kernel_rfl)
theorem Xb (x:Option (Nat×Nat)):ag P .neq 33 (.ptr x) (.ptr none)=some (.bool x.isSome):=ou (e:=120) (by kernel_rfl)
theorem Xc (x:Option (Nat×Nat)):ag P .neq 95 (.ptr x) (.ptr none)=some (.bool x.isSome):=ou (e:=180) (by kernel_rfl)
theorem dL (b o:Nat):ae P 180 1 (.ptr (some (b,o)))=some (.ptr (some (b,o+1))):=by kernel_rfl
theorem iE (b o:Nat):ae P 180 0 (.ptr (some (b,o)))=some (.ptr (some (b,o+0))):=by kernel_rfl
theorem tH (b o:Nat):ae P 180 2 (.ptr (some (b,o)))=some (.ptr (some (b,o+2))):=by kernel_rfl
theorem zaR:P.underlying 178=some (.slice 187):=by kernel_rfl
theorem zaM:aC P 187=some 4:=by kernel_rfl
theorem Xm:cF P 187=some 32:=by kernel_rfl
theorem zaT:cd P 187=some (AV.agg [(AV.int .u64 0),(AV.int .u64 0),(AV.int .u64 0),(AV.int .u64 0)]):=by kernel_rfl
theorem TQ {k:IntKind} {b o n c i:Nat} {g:Option Nat} (hi:i<n):aa P 178 (.slice (some (b,o)) n c g) (.int k (i:Int))=some (.ptr (some (b,o+i*4))):=gq (e:=187) (by kernel_rfl) (by kernel_rfl) hi
theorem TS {k:IntKind} {b o i:Nat} (hi:i<4):aa P 187 (.ptr (some (b,o))) (.int k (i:Int))=some (.ptr (some (b,o+i*1))):=Sp (e:=185) (by kernel_rfl) (by kernel_rfl) hi
theorem tG (b o:Nat):ae P 117 4 (.ptr (some (b,o)))=some (.ptr (some (b,o+4))):=by kernel_rfl
theorem zfr:aC P 209=some 129:=by kernel_rfl
theorem zdf:cF P 209=some 129:=by kernel_rfl
theorem om {k:IntKind} {b o n c i:Nat} {g:Option Nat} (hi:i<n):aa P 118 (.slice (some (b,o)) n c g) (.int k (i:Int))=some (.ptr (some (b,o+i*129))):=gq (e:=209) (by kernel_rfl) (by kernel_rfl) hi
end
end Go.Proofs.YtboobbebilegnaaGreat
namespace Go.Proofs.YtboobbebilegnaaGreat
open Go.Am
noncomputable section
def zdx:AC:=.reg [⟨none,.al (l1 cV) [.tmp 0]⟩] [(2,.cst (AV.bool false)),(1,.loc 0)]
def zdA:AC:=.reg [⟨none,.ldn 3 (.tmp 1)⟩,⟨none,.cl (cf 7) [.loc 0]⟩,⟨none,.p1 (iG .not) (.loc 0)⟩] [(20,.loc 0)]
def zdB:AC:=.reg [⟨none,.cl (cf 8) []⟩] [(2,.loc 0)]
def Yc:AC:=.reg [⟨none,.cl (cf 11) [.cst (AV.int .i64 256)]⟩,⟨none,.cl (cf 10) [.loc 0,.cst (AV.int .i64 (-1)),.cst (AV.slice none 0 0 none)]⟩,⟨none,.cl (cf 9) [.loc 0]⟩] [(3,.loc 0)]
def Ye:AC:=.reg [⟨none,.p2 (ag P .eql 29) (.tmp 3) (.cst (AV.ptr none))⟩] [(26,.loc 0)]
def Yf:AC:=.reg [] [(2,.cst (AV.bool false))]
def Yh:AC:=.reg [] [(4,.cst (AV.slice none 0 0 none))]
def Yi:AC:=.reg [] [(5,.cst (AV.int .i64 0))]
def Yj:AC:=.reg [⟨none,.p1 (ae P 26 0) (.tmp 1)⟩,⟨none,.ld1 (.loc 0)⟩,⟨none,.pn (l1 (bL P 22)) [.loc 0]⟩,⟨none,.p2 (ag P .lss 3) (.tmp 5) (.loc 0)⟩] [(31,.loc 0)]
def Yk:AC:=.reg [⟨none,.cl (cf 12) [.tmp 3]⟩] [(6,.loc 0)]
def Yl:AC:=.reg [⟨none,.p1 (ae P 26 0) (.tmp 1)⟩,⟨none,.ld1 (.loc 0)⟩,⟨none,.p2 (aa P 22) (.loc 0) (.tmp 5)⟩,⟨none,.ldn 3 (.loc 0)⟩,⟨none,.cl (cf 13) [.tmp 6,.tmp 4,.loc 0]⟩,⟨none,.p1 (aq 0) (.loc 0)⟩,⟨none,.p1 (aq 1) (.loc 1)⟩] [(8,.loc 0),(7,.loc 1)]
def Yn:AC:=.reg [⟨none,.p2 (ag P .neq 38) (.tmp 8) (.cst (AV.int .i64 0))⟩,⟨some (.loc 0,true),.mv (.tmp 8)⟩,⟨some (.loc 1,true),.p2 (ag P .neq 38) (.loc 0) (.cst (AV.int .i64 7))⟩,⟨none,.pick (.loc 2) (.loc 0) (.cst (AV.bool false))⟩] [(52,.loc 0)]
def Yo:AC:=.reg [] [(2,.cst (AV.bool false))]
def Yq:AC:=.reg [⟨none,.p2 (ag P .eql 38) (.tmp 8) (.cst (AV.int .i64 0))⟩,⟨some (.loc 0,true),.p1 (ae P 26 0) (.tmp 1)⟩,⟨some (.loc 1,true),.ld1 (.loc 0)⟩,⟨some (.loc 2,true),.mv (.tmp 5)⟩,⟨some (.loc 3,true),.p2 (aa P 22) (.loc 1) (.loc 0)⟩,⟨some (.loc 4,true),.p1 (ae P 44 2) (.loc 0)⟩,⟨some (.loc 5,true),.ld1 (.loc 0)⟩,⟨some (.loc 6,true),.p1 (iG .not) (.loc 0)⟩,⟨none,.pick (.loc 7) (.loc 0) (.cst (AV.bool false))⟩] [(63,.loc 0)]
def Ys:AC:=.reg [⟨none,.cl (cf 14) [.tmp 6]⟩,⟨none,.p2 (ag P .neq 38) (.loc 0) (.cst (AV.int .i64 0))⟩] [(66,.loc 0)]
def Yt:AC:=.reg [] [(2,.cst (AV.bool false))]
def Yu:AC:=.reg [] [(4,.tmp 7)]
def Yr:AC:=.seq (.seq Ys (.cond (.tmp 66) (.seq Yt .ret) .skip)) Yu
def Yv:AC:=.reg [] [(10,.cst (AV.int .i64 0)),(9,.cst (AV.int .i64 0))]
def Yw:AC:=.reg [⟨none,.cl (cf 15) [.tmp 3]⟩] [(11,.loc 0)]
def Yy:AC:=.reg [] [(12,.cst (AV.int .i64 0))]
def YA:AC:=.reg [⟨none,.pn (l1 (bL P 46)) [.tmp 11]⟩,⟨none,.p2 (ag P .lss 3) (.tmp 12) (.loc 0)⟩] [(73,.loc 0)]
def YB:AC:=.reg [⟨none,.p2 (aa P 46) (.tmp 11) (.tmp 12)⟩,⟨none,.p1 (ae P 50 2) (.loc 0)⟩,⟨none,.ld1 (.loc 0)⟩,⟨none,.p2 (ag P .add 3) (.tmp 9) (.loc 0)⟩] [(9,.loc 0)]
def YC:AC:=.reg [⟨none,.p2 (ag P .add 3) (.tmp 12) (.cst (AV.int .i64 1))⟩] [(12,.loc 0)]
def Qi:AC:=.seq (.seq YA (.cond (.tmp 73) .skip (.exit 2))) (.seq (.block 3 YB) YC)
def Yz:AC:=.loop Qi
def Qj:AC:=.reg [] [(13,.cst (AV.int .i64 0))]
def YE:AC:=.reg [⟨none,.pn (l1 (bL P 35)) [.tmp 4]⟩,⟨none,.p2 (ag P .lss 3) (.tmp 13) (.loc 0)⟩] [(86,.loc 0)]
def YF:AC:=.reg [⟨none,.p2 (aa P 35) (.tmp 4) (.tmp 13)⟩,⟨none,.p1 (ae P 53 0) (.loc 0)⟩,⟨none,.ld1 (.loc 0)⟩,⟨none,.pn (l1 (bL P 9)) [.loc 0]⟩,⟨none,.p2 (ag P .add 3) (.loc 0) (.cst (AV.int .i64 63))⟩,⟨none,.p2 (ag P .quo 3) (.loc 0) (.cst (AV.int .i64 64))⟩,⟨none,.p2 (ag P .add 3) (.tmp 10) (.loc 0)⟩] [(10,.loc 0)]
def YG:AC:=.reg [⟨none,.p2 (ag P .add 3) (.tmp 13) (.cst (AV.int .i64 1))⟩] [(13,.loc 0)]
def Qk:AC:=.seq (.seq YE (.cond (.tmp 86) .skip (.exit 4))) (.seq (.block 5 YF) YG)
def YD:AC:=.loop Qk
def YH:AC:=.reg [⟨none,.pn (l1 (bL P 46)) [.tmp 11]⟩,⟨none,.cl (cf 16) [.tmp 4]⟩,⟨none,.p2 (ag P .neq 3) (.loc 1) (.loc 0)⟩,⟨some (.loc 0,false),.mv (.tmp 3)⟩,⟨some (.loc 1,false),.cl (cf 17) [.loc 0]⟩,⟨some (.loc 2,false),.mv (.tmp 11)⟩,⟨some (.loc 3,false),.pn (l1 (bL P 46)) [.loc 0]⟩,⟨some (.loc 4,false),.p2 (ag P .sub 3) (.cst (AV.int .i64 128)) (.loc 0)⟩,⟨some (.loc 5,false),.p2 (ag P .neq 3) (.loc 3) (.loc 0)⟩,⟨none,.pick (.loc 6) (.cst (AV.bool true)) (.loc 0)⟩,⟨some (.loc 0,false),.mv (.tmp 9)⟩,⟨some (.loc 1,false),.mv (.tmp 10)⟩,⟨some (.loc 2,false),.p2 (ag P .neq 3) (.loc 1) (.loc 0)⟩,⟨none,.pick (.loc 3) (.cst (AV.bool true)) (.loc 0)⟩] [(116,.loc 0)]
def P3:AC:=.reg [] [(2,.cst (AV.bool false))]
def P6:AC:=.reg [] [(14,.cst (AV.int .i64 0))]
def P7:AC:=.reg [⟨none,.pn (l1 (bL P 35)) [.tmp 4]⟩,⟨none,.p2 (ag P .lss 3) (.tmp 14) (.loc 0)⟩] [(120,.loc 0)]
def P8:AC:=.reg [⟨none,.cl (cf 12) [.tmp 3]⟩] [(15,.loc 0)]
def Qa:AC:=.reg [⟨none,.p2 (aa P 35) (.tmp 4) (.tmp 14)⟩,⟨none,.p1 (ae P 53 0) (.loc 0)⟩,⟨none,.ld1 (.loc 0)⟩,⟨none,.cl (cf 18) [.tmp 15,.loc 0]⟩,⟨none,.p1 (aq 0) (.loc 0)⟩,⟨none,.p1 (aq 1) (.loc 1)⟩] [(17,.loc 0),(16,.loc 1)]
def Qc:AC:=.reg [⟨none,.p2 (ag P .neq 38) (.tmp 17) (.cst (AV.int .i64 0))⟩,⟨some (.loc 0,false),.mv (.tmp 16)⟩,⟨some (.loc 1,false),.mv (.tmp 4)⟩,⟨some (.loc 2,false),.mv (.tmp 14)⟩,⟨some (.loc 3,false),.p2 (aa P 35) (.loc 1) (.loc 0)⟩,⟨some (.loc 4,false),.p1 (ae P 53 1) (.loc 0)⟩,⟨some (.loc 5,false),.ld1 (.loc 0)⟩,⟨some (.loc 6,false),.cl (cf 19) [.loc 5,.loc 0]⟩,⟨some (.loc 7,false),.p1 (iG .not) (.loc 0)⟩,⟨none,.pick (.loc 8) (.cst (AV.bool true)) (.loc 0)⟩] [(146,.loc 0)]
def Qd:AC:=.reg [] [(2,.cst (AV.bool false))]
def P9:AC:=.seq Qa (.seq Qc (.cond (.tmp 146) (.seq Qd .ret) .skip))
def Qe:AC:=.reg [⟨none,.p2 (ag P .add 3) (.tmp 14) (.cst (AV.int .i64 1))⟩] [(14,.loc 0)]
def Be:AC:=.seq (.seq P7 (.cond (.tmp 120) .skip (.exit 6))) (.seq (.block 7 (.seq P8 P9)) Qe)
def zbr:AC:=.loop Be
def Ql:AC:=.seq (.seq YH (.cond (.tmp 116) (.seq P3 .ret) .skip)) (.seq P6 (.block 6 zbr))
def Yx:AC:=.seq (.seq Yy (.block 2 Yz)) (.seq (.seq Qj (.block 4 YD)) Ql)
def Yp:AC:=.seq (.seq Yq (.cond (.tmp 63) Yr .skip)) (.seq Yv (.seq Yw Yx))
def Ym:AC:=.seq (.seq Yn (.cond (.tmp 52) (.seq Yo .ret) .skip)) Yp
def Qf:AC:=.reg [⟨none,.p2 (ag P .add 3) (.tmp 5) (.cst (AV.int .i64 1))⟩] [(5,.loc 0)]
def Qh:AC:=.seq (.seq Yj (.cond (.tmp 31) .skip (.exit 0))) (.seq (.block 1 (.seq Yk (.seq Yl Ym))) Qf)
def zdz:AC:=.loop Qh
def Qg:AC:=.reg [⟨none,.cl (cf 8) []⟩] [(2,.loc 0)]
def Yg:AC:=.seq Yh (.seq (.seq Yi (.block 0 zdz)) (.seq Qg .ret))
def Yd:AC:=.seq (.seq Ye (.cond (.tmp 26) (.seq Yf .ret) .skip)) Yg
def zdy:AC:=.seq (.seq zdA (.cond (.tmp 20) (.seq zdB .ret) .skip)) (.seq Yc Yd)
def fn3:cA:=⟨(.seq zdx zdy),[.tmp 2],148,true⟩
theorem f3A:ci P (keepF P) 3=some fn3:=by kernel_rfl
def F3:=An (kR zdx rfl)<|An (kR zdA rfl)<|An (kR zdB rfl)<|An (kR Yc rfl)<|An (kR Ye rfl)<|An (kR Yf rfl)<|An (kR Yh rfl)<|An (kR Yi rfl)<|An (kR Yj rfl)<|An (kR Yk rfl)<|An (kR Yl rfl)<|An (kR Yn rfl)<|An (kR Yo rfl)<|An (kR Yq rfl)<|An (kR Ys rfl)<|An (kR Yt rfl)<|An (kR Yu rfl)<|An (kS Yr rfl)<|An (kR Yv rfl)<|An (kR Yw rfl)<|An (kR Yy rfl)<|An (kR YA rfl)<|An (kR YB rfl)<|An (kR YC rfl)<|An (kS Qi rfl)<|An (kR Qj rfl)<|An (kR YE rfl)<|An (kR YF rfl)<|An (kR YG rfl)<|An (kS Qk rfl)<|An (kR YH rfl)<|An (kR P3 rfl)<|An (kR P6 rfl)<|An (kR P7 rfl)<|An (kR P8 rfl)<|An (kR Qa rfl)<|An (kR Qc rfl)<|An (kR Qd rfl)<|An (kS P9 rfl)<|An (kR Qe rfl)<|An (kS Be rfl)<|An (kS Ql rfl)<|An (kS Yx rfl)<|An (kS Yp rfl)<|An (kS Ym rfl)<|An (kR Qf rfl)<|An (kS Qh rfl)<|An (kR Qg rfl)<|An (kS Yg rfl)<|An (kS Yd rfl)<|(kS zdy rfl)
def zdG:AC:=.reg [⟨none,.al (l1 cV) [.tmp 0]⟩] [(2,.cst (AV.bool false)),(1,.loc 0)]
def zdI:AC:=.reg [] [(3,.cst (AV.int .i64 0))]
def zdJ:AC:=.reg [⟨none,.p1 (ae P 26 0) (.tmp 1)⟩,⟨none,.ld1 (.loc 0)⟩,⟨none,.pn (l1 (bL P 22)) [.loc 0]⟩,⟨none,.p2 (ag P .lss 3) (.tmp 3) (.loc 0)⟩,⟨some (.loc 0,true),.mv (.tmp 3)⟩,⟨some (.loc 1,true),.p2 (ag P .lss 3) (.loc 0) (.cst (AV.int .i64 40))⟩,⟨none,.pick (.loc 2) (.loc 0) (.cst (AV.bool false))⟩] [(13,.loc 0)]
def Z1:AC:=.reg [⟨none,.p1 (ae P 26 0) (.tmp 1)⟩,⟨none,.ld1 (.loc 0)⟩,⟨none,.p2 (aa P 22) (.loc 0) (.tmp 3)⟩,⟨none,.p1 (ae P 44 0) (.loc 0)⟩,⟨none,.ld1 (.loc 0)⟩,⟨none,.pn (l1 (bL P 41)) [.loc 0]⟩,⟨none,.p2 (ag P .gtr 3) (.loc 0) (.cst (AV.int .i64 5))⟩,⟨some (.loc 0,false),.p1 (ae P 26 0) (.tmp 1)⟩,⟨some (.loc 1,false),.ld1 (.loc 0)⟩,⟨some (.loc 2,false),.mv (.tmp 3)⟩,⟨some (.loc 3,false),.p2 (aa P 22) (.loc 1) (.loc 0)⟩,⟨some (.loc 4,false),.p1 (ae P 44 1) (.loc 0)⟩,⟨some (.loc 5,false),.ld1 (.loc 0)⟩,⟨some (.loc 6,false),.pn (l1 (bL P 42)) [.loc 0]⟩,⟨some (.loc 7,false),.p2 (ag P .gtr 3) (.loc 0) (.cst (AV.int .i64 5))⟩,⟨none,.pick (.loc 8) (.cst (AV.bool true)) (.loc 0)⟩] [(33,.loc 0)]
def Z2:AC:=.reg [] [(2,.cst (AV.bool false))]
def Z3:AC:=.reg [] [(4,.cst (AV.int .i64 0))]
def Z4:AC:=.reg [⟨none,.p1 (ae P 26 0) (.tmp 1)⟩,⟨none,.ld1 (.loc 0)⟩,⟨none,.p2 (aa P 22) (.loc 0) (.tmp 3)⟩,⟨none,.p1 (ae P 44 0) (.loc 0)⟩,⟨none,.ld1 (.loc 0)⟩,⟨none,.pn (l1 (bL P 41)) [.loc 0]⟩,⟨none,.p2 (ag P .lss 3) (.tmp 4) (.loc 0)⟩] [(42,.loc 0)]
def Z6:AC:=.reg [⟨none,.p1 (ae P 26 0) (.tmp 1)⟩,⟨none,.ld1 (.loc 0)⟩,⟨none,.p2 (aa P 22) (.loc 0) (.tmp 3)⟩,⟨none,.p1 (ae P 44 0) (.loc 0)⟩,⟨none,.ld1 (.loc 0)⟩,⟨none,.p2 (aa P 41) (.loc 0) (.tmp 4)⟩,⟨none,.ld1 (.loc 0)⟩,⟨none,.pn (l1 (bL P 9)) [.loc 0]⟩,⟨none,.p2 (ag P .gtr 3) (.loc 0) (.cst (AV.int .i64 256))⟩] [(55,.loc 0)]
def Z7:AC:=.reg [] [(2,.cst (AV.bool false))]
def Z5:AC:=.block 3 (.seq Z6 (.cond (.tmp 55) (.seq Z7 .ret) .skip))
def Z8:AC:=.reg [⟨none,.p2 (ag P .add 3) (.tmp 4) (.cst (AV.int .i64 1))⟩] [(4,.loc 0)]
def RA:AC:=.seq (.seq Z4 (.cond (.tmp 42) .skip (.exit 2))) (.seq Z5 Z8)
def zdH:AC:=.loop RA
def Z0:AC:=.seq (.seq Z1 (.cond (.tmp 33) (.seq Z2 .ret) .skip)) (.seq Z3 (.block 2 zdH))
def Z9:AC:=.reg [⟨none,.p2 (ag P .add 3) (.tmp 3) (.cst (AV.int .i64 1))⟩] [(3,.loc 0)]
def zbs:AC:=.seq (.seq zdJ (.cond (.tmp 13) .skip (.exit 0))) (.seq (.block 1 Z0) Z9)
def zgc:AC:=.loop zbs
def zaa:AC:=.reg [⟨none,.p1 (ae P 26 0) (.tmp 1)⟩,⟨none,.ld1 (.loc 0)⟩,⟨none,.pn (l1 (bL P 22)) [.loc 0]⟩,⟨none,.p2 (ag P .leq 3) (.loc 0) (.cst (AV.int .i64 30))⟩,⟨some (.loc 0,true),.p1 (ae P 26 2) (.tmp 1)⟩,⟨some (.loc 1,true),.ld1 (.loc 0)⟩,⟨some (.loc 2,true),.pn (l1 (bL P 24)) [.loc 0]⟩,⟨some (.loc 3,true),.p2 (ag P .leq 3) (.loc 0) (.cst (AV.int .i64 20))⟩,⟨none,.pick (.loc 4) (.loc 0) (.cst (AV.bool false))⟩] [(2,.loc 0)]
def zdF:AC:=.seq zdG (.seq (.seq zdI (.block 0 zgc)) (.seq zaa .ret))
def fn7:cA:=⟨zdF,[.tmp 2],66,true⟩
theorem f7A:ci P (keepF P) 7=some fn7:=by kernel_rfl
def F7:=An (kR zdG rfl)<|An (kR zdI rfl)<|An (kR zdJ rfl)<|An (kR Z1 rfl)<|An (kR Z2 rfl)<|An (kR Z3 rfl)<|An (kR Z4 rfl)<|An (kR Z6 rfl)<|An (kR Z7 rfl)<|An (kB Z5 rfl)<|An (kR Z8 rfl)<|An (kS RA rfl)<|An (kS Z0 rfl)<|An (kR Z9 rfl)<|An (kS zbs rfl)<|An (kR zaa rfl)<|(kS zdF rfl)
def Xv:AC:=.reg [] [(2,.cst (AV.ptr none))]
def Xx:AC:=.reg [⟨none,.cl (cf 53) [.tmp 0]⟩,⟨none,.p1 (iG .not) (.loc 0)⟩] [(5,.loc 0)]
def Xy:AC:=.reg [] [(2,.cst (AV.ptr none))]
def DB:List (Nat×aw):=[(0,⟨none,.mv (.tmp 0)⟩),(1,⟨none,.mv (.tmp 0)⟩),(2,⟨none,.p1 (aj) (.opi 1)⟩),(3,⟨none,.p1 (ae P 97 1) (.opi 2)⟩),(4,⟨none,.ld1 (.opi 3)⟩),(5,⟨none,.cl (cf 54) [.opi 4]⟩),(6,⟨none,.mv (.tmp 0)⟩),(7,⟨none,.p1 (aj) (.opi 6)⟩),(8,⟨none,.p1 (ae P 97 2) (.opi 7)⟩),(9,⟨none,.ld1 (.opi 8)⟩),(10,⟨none,.cl (cf 55) [.opi 9]⟩),(11,⟨none,.pn (bK P 99 [0,1,2]) [.opi 0,.opi 5,.opi 10]⟩),(12,⟨none,.al (l1 cV) [.opi 11]⟩),(13,⟨none,.mv (.opi 12)⟩)]
def MD:AC:=.draw 14 (ar #[0,0,2,6,14,30,0,64,192,448,1022,2047,4095,8191] DB [5,10] 0 (DB.filter fun x=>x.2.i.eff)) [(2,13)]
theorem zck:bY MD fun call tm h=>let g:=ac.mk h.bs (h.next+14);B (tm.gt 0) (fun v0=>B (tm.gt 0) (fun v1=>B (aj v1) (fun v2=>B (ae P 97 1 v2) (fun v3=>B (am g v3) (fun v4=>B (tm.gt 0) (fun v6=>B (aj v6) (fun v7=>B (ae P 97 2 v7) (fun v8=>B (am g v8) (fun v9=>B (call (.fn 54) [v4] g) (fun r5=>aV (Ck (am r5.2 v8) (fun w=>bT (AV.same w v9) (true)) tk) (B (call (.fn 55) [v9] r5.2) (fun r10=>B (bK P 99 [0,1,2] [v0,r5.1,r10.1]) (fun v11=>B (B (l1 cV [v11]) (fun y=>some (y.2 (Nat.add h.next 12))) tg) (fun v12=>B (B (l1 cV [v11]) (fun y=>some (some y.1)) tg) (fun b12=>match b12 with | none=>some ((tm.up (some v12) 2),r10.2) | some b12=>some ((tm.up (some v12) 2),(ac.mk (r10.2.bs.up (some b12) (Nat.add h.next 12)) r10.2.next))) tg) tg) tg) tg)) tg) tg) tg) tg) tg) tg) tg) tg) tg) tg:=b8 rfl (by kernel_rfl)
def Xw:AC:=.seq (.seq Xx (.cond (.tmp 5) (.seq Xy .ret) .skip)) (.seq MD .ret)
def UN:cA:=⟨(.seq Xv Xw),[.tmp 2],19,true⟩
theorem zgh:ci P (keepF P) 12=some UN:=by kernel_rfl
def F12:=An (kR Xv rfl)<|An (kR Xx rfl)<|An (kR Xy rfl)<|An zck<|(kS Xw rfl)
def Xz:AC:=.reg [⟨none,.al (l1 cV) [.tmp 2]⟩] [(7,.cst (AV.int .i64 0)),(6,.cst (AV.slice none 0 0 none)),(5,.loc 0)]
def XB:AC:=.reg [] [(8,.cst (AV.int .i64 0))]
def XC:AC:=.reg [⟨none,.p1 (ae P 44 0) (.tmp 5)⟩,⟨none,.ld1 (.loc 0)⟩,⟨none,.pn (l1 (bL P 41)) [.loc 0]⟩,⟨none,.p2 (ag P .lss 3) (.tmp 8) (.loc 0)⟩] [(19,.loc 0)]
def MJ:AC:=.reg [⟨none,.p1 (ae P 44 0) (.tmp 5)⟩,⟨none,.ld1 (.loc 0)⟩,⟨none,.p2 (aa P 41) (.loc 0) (.tmp 8)⟩,⟨none,.ld1 (.loc 0)⟩,⟨none,.cl (cf 18) [.tmp 0,.loc 0]⟩,⟨none,.p1 (aq 0) (.loc 0)⟩,⟨none,.p1 (aq 1) (.loc 1)⟩] [(10,.loc 0),(9,.loc 1)]
def ML:AC:=.reg [⟨none,.p2 (ag P .neq 38) (.tmp 10) (.cst (AV.int .i64 0))⟩] [(33,.loc 0)]
def MM:AC:=.reg [] [(7,.tmp 10),(6,.tmp 1)]
def DD:List (Nat×aw):=[(0,⟨none,.mv (.tmp 1)⟩),(1,⟨none,.mv (.tmp 1)⟩),(2,⟨none,.pn (l1 (bL P 35)) [.opi 1]⟩),(3,⟨none,.mv (.tmp 1)⟩),(4,⟨none,.pn (l1 (bL P 35)) [.opi 3]⟩),(5,⟨none,.pn (aU P 35 false true true) [.opi 0,.opi 2,.opi 4]⟩),(6,⟨none,.p1 (ae P 44 0) (.tmp 5)⟩),(7,⟨none,.ld1 (.opi 6)⟩),(8,⟨none,.mv (.tmp 8)⟩),(9,⟨none,.p2 (aa P 41) (.opi 7) (.opi 8)⟩),(10,⟨none,.ld1 (.opi 9)⟩),(11,⟨none,.mv (.tmp 9)⟩),(12,⟨none,.pn (bK P 53 [0,1]) [.opi 10,.opi 11]⟩),(13,⟨none,.al (buildSliceN P 35 1 [0]) [.opi 12]⟩),(14,⟨none,.ef (fun vs id h=>l2 (fun s x=>aS P 35 s x id h) vs) [.opi 5,.opi 13]⟩),(15,⟨none,.mv (.opi 14)⟩)]
def MN:AC:=.draw 16 (ar #[0,0,2,0,8,31,0,64,0,448,960,0,4032,8128,16383,32767] DD [14] 0 (DD.filter fun x=>x.2.i.eff)) [(1,15)]
theorem zcl:bY MN fun call tm h=>let g:=ac.mk h.bs (h.next+16);B (tm.gt 1) (fun v0=>B (tm.gt 1) (fun v1=>B (l1 (bL P 35) [v1]) (fun v2=>B (tm.gt 1) (fun v3=>B (l1 (bL P 35) [v3]) (fun v4=>B (aU P 35 false true true [v0,v2,v4]) (fun v5=>B (B (tm.gt 5) (fun a=>ae P 44 0 a) tg) (fun v6=>B (am g v6) (fun v7=>B (tm.gt 8) (fun v8=>B (aa P 41 v7 v8) (fun v9=>B (am g v9) (fun v10=>B (tm.gt 9) (fun v11=>B (bK P 53 [0,1] [v10,v11]) (fun v12=>B (B (buildSliceN P 35 1 [0] [v12]) (fun y=>some (y.2 (Nat.add h.next 13))) tg) (fun v13=>B (B (buildSliceN P 35 1 [0] [v12]) (fun y=>some (some y.1)) tg) (fun b13=>match b13 with | none=>B ((fun vs id h=>l2 (fun s x=>aS P 35 s x id h) vs) [v5,v13] g.next g) (fun r14=>some ((tm.up (some r14.1) 1),r14.2)) tg | some b13=>B ((fun vs id h=>l2 (fun s x=>aS P 35 s x id h) vs) [v5,v13] (ac.mk (g.bs.up (some b13) (Nat.add h.next 13)) g.next).next (ac.mk (g.bs.up (some b13) (Nat.add h.next 13)) g.next)) (fun r14=>some ((tm.up (some r14.1) 1),r14.2)) tg) tg) tg) tg) tg) tg) tg) tg) tg) tg) tg) tg) tg) tg) tg) tg:=b8 rfl (by kernel_rfl)
def MK:AC:=.seq (.seq ML (.cond (.tmp 33) (.seq MM .ret) .skip)) MN
def MO:AC:=.reg [⟨none,.p2 (ag P .add 3) (.tmp 8) (.cst (AV.int .i64 1))⟩] [(8,.loc 0)]
def M1:AC:=.seq (.seq XC (.cond (.tmp 19) .skip (.exit 0))) (.seq (.block 1 (.seq MJ MK)) MO)
def zdv:AC:=.loop M1
def MP:AC:=.reg [] [(11,.cst (AV.int .i64 0))]
def MQ:AC:=.reg [⟨none,.p1 (ae P 44 1) (.tmp 5)⟩,⟨none,.ld1 (.loc 0)⟩,⟨none,.pn (l1 (bL P 42)) [.loc 0]⟩,⟨none,.p2 (ag P .lss 3) (.tmp 11) (.loc 0)⟩,⟨some (.loc 0,true),.mv (.tmp 1)⟩,⟨some (.loc 1,true),.pn (l1 (bL P 35)) [.loc 0]⟩,⟨some (.loc 2,true),.p2 (ag P .gtr 3) (.loc 0) (.cst (AV.int .i64 0))⟩,⟨none,.pick (.loc 3) (.loc 0) (.cst (AV.bool false))⟩] [(60,.loc 0)]
def MR:AC:=.reg [⟨none,.p1 (ae P 44 1) (.tmp 5)⟩,⟨none,.ld1 (.loc 0)⟩,⟨none,.p2 (aa P 42) (.loc 0) (.tmp 11)⟩,⟨none,.ld1 (.loc 0)⟩,⟨none,.p1 (eU P 5 3) (.loc 0)⟩,⟨none,.pn (l1 (bL P 35)) [.tmp 1]⟩,⟨none,.p2 (ag P .rem 3) (.loc 1) (.loc 0)⟩] [(12,.loc 0)]
def MS:AC:=.reg [⟨none,.p2 (aa P 35) (.tmp 1) (.tmp 12)⟩,⟨none,.p1 (ae P 53 1) (.loc 0)⟩,⟨none,.ld1 (.loc 0)⟩,⟨none,.cl (cf 35) [.tmp 0,.loc 0]⟩] [(13,.loc 0)]
def MU:AC:=.reg [⟨none,.p2 (ag P .neq 38) (.tmp 13) (.cst (AV.int .i64 0))⟩] [(80,.loc 0)]
def MV:AC:=.reg [] [(7,.tmp 13),(6,.tmp 1)]
def MW:AC:=.reg [] [(14,.cst (AV.slice none 0 0 none))]
def MX:AC:=.reg [⟨none,.pn (aU P 35 false true false) [.tmp 1,.tmp 12]⟩,⟨none,.ef (fun vs id h=>l2 (fun s x=>aS P 35 s x id h) vs) [.tmp 14,.loc 0]⟩] [(14,.loc 0)]
def MY:AC:=.reg [⟨none,.p2 (ag P .add 3) (.tmp 12) (.cst (AV.int .i64 1))⟩,⟨none,.pn (aU P 35 true false false) [.tmp 1,.loc 0]⟩,⟨none,.ef (fun vs id h=>l2 (fun s x=>aS P 35 s x id h) vs) [.tmp 14,.loc 0]⟩] [(1,.loc 0)]
def MT:AC:=.seq (.seq MU (.cond (.tmp 80) (.seq MV .ret) .skip)) (.seq MW (.seq MX MY))
def MZ:AC:=.reg [⟨none,.p2 (ag P .add 3) (.tmp 11) (.cst (AV.int .i64 1))⟩] [(11,.loc 0)]
def AM:AC:=.seq (.seq MQ (.cond (.tmp 60) .skip (.exit 2))) (.seq (.block 3 (.seq MR (.seq MS MT))) MZ)
def zbb:AC:=.loop AM
def M0:AC:=.reg [⟨none,.cl (cf 33) [.tmp 0]⟩] [(7,.loc 0),(6,.tmp 1)]
def XA:AC:=.seq (.seq XB (.block 0 zdv)) (.seq (.seq MP (.block 2 zbb)) (.seq M0 .ret))
def UO:cA:=⟨(.seq Xz XA),[.tmp 6,.tmp 7],97,true⟩
theorem zgi:ci P (keepF P) 13=some UO:=by kernel_rfl
def T0:=An (kR Xz rfl)<|An (kR XB rfl)<|An (kR XC rfl)<|An (kR MJ rfl)<|An (kR ML rfl)<|An (kR MM rfl)<|An zcl<|An (kS MK rfl)<|An (kR MO rfl)<|An (kS M1 rfl)<|An (kR MP rfl)<|An (kR MQ rfl)<|An (kR MR rfl)<|An (kR MS rfl)<|An (kR MU rfl)<|An (kR MV rfl)<|An (kR MW rfl)<|An (kR MX rfl)<|An (kR MY rfl)<|An (kS MT rfl)<|An (kR MZ rfl)<|An (kS AM rfl)<|An (kR M0 rfl)<|(kS XA rfl)
def XE:AC:=.reg [⟨none,.al (l1 cV) [.tmp 0]⟩] [(2,.cst (AV.int .i64 0)),(1,.loc 0)]
def XG:AC:=.reg [⟨none,.ld1 (.tmp 1)⟩,⟨none,.cl (cf 56) [.loc 0]⟩] [(3,.loc 0)]
def XH:AC:=.reg [⟨none,.p2 (ag P .neq 38) (.tmp 3) (.cst (AV.int .i64 0))⟩] [(14,.loc 0)]
def XI:AC:=.reg [] [(2,.tmp 3)]
def XF:AC:=.seq XG (.seq XH (.cond (.tmp 14) (.seq XI .ret) .skip))
def Nk:AC:=.reg [⟨none,.ld1 (.tmp 1)⟩,⟨none,.p1 (aj) (.loc 0)⟩,⟨none,.p1 (ae P 99 3) (.loc 0)⟩,⟨none,.st1 (.loc 0) (.cst (AV.bool true))⟩] []
def Nl:AC:=.reg [⟨none,.ld1 (.tmp 1)⟩,⟨none,.p1 (aj) (.loc 0)⟩,⟨none,.p1 (ae P 99 0) (.loc 0)⟩,⟨none,.ld1 (.loc 0)⟩,⟨none,.p1 (aj) (.loc 0)⟩,⟨none,.p1 (ae P 97 0) (.loc 0)⟩,⟨none,.ld1 (.loc 0)⟩,⟨none,.cl (cf 48) [.loc 0]⟩,⟨none,.cl (cf 49) [.loc 0]⟩] [(4,.loc 0)]
def Nm:AC:=.reg [⟨none,.p2 (ag P .quo 3) (.tmp 4) (.cst (AV.int .i64 2))⟩,⟨none,.cl (cf 51) [.loc 0,.tmp 4]⟩,⟨none,.al (fun (_:List AV)=>bQ P 95) []⟩,⟨none,.st1 (.loc 0) (.loc 1)⟩] [(5,.loc 1)]
def No:AC:=.reg [⟨none,.ld1 (.tmp 1)⟩,⟨none,.p1 (aj) (.loc 0)⟩,⟨none,.p1 (ae P 99 1) (.loc 0)⟩,⟨none,.ld1 (.loc 0)⟩,⟨none,.cl (cf 57) [.loc 0]⟩] [(36,.loc 0)]
def AO:AC:=.reg [] [(6,.tmp 37)]
def Np:AC:=.reg [⟨none,.ld1 (.tmp 1)⟩,⟨none,.p1 (aj) (.loc 0)⟩,⟨none,.p1 (ae P 99 1) (.loc 0)⟩,⟨none,.ld1 (.loc 0)⟩,⟨none,.cl (cf 58) [.loc 0,.tmp 6]⟩,⟨none,.p1 (aq 0) (.loc 0)⟩,⟨none,.p1 (aq 1) (.loc 1)⟩,⟨none,.p1 (aq 2) (.loc 2)⟩,⟨none,.p1 (aq 3) (.loc 3)⟩] [(8,.loc 2)]
def Nq:AC:=.reg [⟨none,.ld1 (.tmp 5)⟩,⟨none,.cl (cf 59) [.loc 0,.tmp 8]⟩] []
def AP:AC:=.block 1 (.seq Np Nq)
def nl:Code:=ja (j9 P 14) [1,1,1,1,1,0,1,0] 0
def nm:Code:=ja (j9 P 14) [1,1,1,1,1,0,1,0] 1
def zbe:AC:=.rangeF (.tmp 36) [37] nl nm
theorem VP:bu P (keepF P 14) 69 nl=AO:=by kernel_rfl
theorem VQ:bu P (keepF P 14) 69 nm=AP:=by kernel_rfl
def ED:List (Nat×aw):=[(0,⟨none,.ld1 (.tmp 1)⟩),(1,⟨none,.p1 (aj) (.opi 0)⟩),(2,⟨none,.p1 (ae P 99 0) (.opi 1)⟩),(3,⟨none,.ld1 (.opi 2)⟩),(4,⟨none,.ld1 (.tmp 1)⟩),(5,⟨none,.p1 (aj) (.opi 4)⟩),(6,⟨none,.p1 (ae P 99 0) (.opi 5)⟩),(7,⟨none,.ld1 (.opi 6)⟩),(8,⟨none,.ld1 (.tmp 1)⟩),(9,⟨none,.p1 (aj) (.opi 8)⟩),(10,⟨none,.p1 (ae P 99 1) (.opi 9)⟩),(11,⟨none,.ld1 (.opi 10)⟩),(12,⟨none,.ld1 (.tmp 5)⟩),(13,⟨none,.p1 (aj) (.opi 3)⟩),(14,⟨none,.p1 (ae P 97 1) (.opi 13)⟩),(15,⟨none,.st1 (.opi 14) (.opi 11)⟩),(16,⟨none,.p1 (aj) (.opi 7)⟩),(17,⟨none,.p1 (ae P 97 2) (.opi 16)⟩),(18,⟨none,.st1 (.opi 17) (.opi 12)⟩)]
def Nr:AC:=.draw 19 (ar #[0,1,3,7,0,16,48,112,0,256,768,1792,0,4095,12287,28671,65535,131071,262143] ED [15,18] 0 (ED.filter fun x=>x.2.i.eff)) []
theorem zcm:bY Nr fun call tm h=>let g:=ac.mk h.bs (h.next+19);B (B (tm.gt 1) (fun a=>am g a) tg) (fun v0=>B (aj v0) (fun v1=>B (ae P 99 0 v1) (fun v2=>B (am g v2) (fun v3=>B (B (tm.gt 1) (fun a=>am g a) tg) (fun v4=>B (aj v4) (fun v5=>B (ae P 99 0 v5) (fun v6=>B (am g v6) (fun v7=>B (B (tm.gt 1) (fun a=>am g a) tg) (fun v8=>B (aj v8) (fun v9=>B (ae P 99 1 v9) (fun v10=>B (am g v10) (fun v11=>B (B (tm.gt 5) (fun a=>am g a) tg) (fun v12=>B (aj v3) (fun v13=>B (ae P 97 1 v13) (fun v14=>B (aW g v14 v11) (fun r15=>aV (Ck (B (tm.gt 5) (fun a=>am r15.2 a) tg) (fun w=>bT (AV.same w v12) (true)) tk) (B (aj v7) (fun v16=>B (ae P 97 2 v16) (fun v17=>B (aW r15.2 v17 v12) (fun r18=>some (tm,r18.2)) tg) tg) tg)) tg) tg) tg) tg) tg) tg) tg) tg) tg) tg) tg) tg) tg) tg) tg) tg:=b8 rfl (by kernel_rfl)
def Ns:AC:=.reg [] [(2,.cst (AV.int .i64 0))]
def Nn:AC:=.seq (.seq No (.block 0 zbe)) (.seq Nr (.seq Ns .ret))
def XD:AC:=.seq XE (.seq XF (.seq Nk (.seq Nl (.seq Nm Nn))))
def UP:cA:=⟨XD,[.tmp 2],69,false⟩
theorem zgj:ci P (keepF P) 14=some UP:=by kernel_rfl
def F14:=An (kR XE rfl)<|An (kR XG rfl)<|An (kR XH rfl)<|An (kR XI rfl)<|An (kS XF rfl)<|An (kR Nk rfl)<|An (kR Nl rfl)<|An (kR Nm rfl)<|An (kR No rfl)<|An (kR AO rfl)<|An (kR Np rfl)<|An (kR Nq rfl)<|An (kB AP rfl)<|An zcm<|An (kR Ns rfl)<|An (kS Nn rfl)<|(kS XD rfl)
def XN:AC:=.reg [] [(2,.cst (AV.int .i64 0))]
def XP:AC:=.reg [] [(3,.cst (AV.slice none 0 0 none))]
def XS:AC:=.reg [] [(4,.cst (AV.int .i64 0))]
def Ox:AC:=.reg [⟨none,.pn (l1 (bL P 35)) [.tmp 0]⟩,⟨none,.p2 (ag P .lss 3) (.tmp 4) (.loc 0)⟩] [(12,.loc 0)]
def Oy:AC:=.reg [] [(5,.cst (AV.int .i64 0))]
def Oz:AC:=.reg [⟨none,.p2 (aa P 35) (.tmp 0) (.tmp 4)⟩,⟨none,.p1 (ae P 53 0) (.loc 0)⟩,⟨none,.ld1 (.loc 0)⟩,⟨none,.pn (l1 (bL P 9)) [.loc 0]⟩,⟨none,.p2 (ag P .lss 3) (.tmp 5) (.loc 0)⟩] [(22,.loc 0)]
def FV:List (Nat×aw):=[(0,⟨none,.mv (.tmp 0)⟩),(1,⟨none,.mv (.tmp 4)⟩),(2,⟨none,.p2 (aa P 35) (.opi 0) (.opi 1)⟩),(3,⟨none,.p1 (ae P 53 0) (.opi 2)⟩),(4,⟨none,.ld1 (.opi 3)⟩),(5,⟨none,.mv (.tmp 5)⟩),(6,⟨none,.mv (.tmp 5)⟩),(7,⟨none,.p2 (ag P .add 3) (.opi 6) (.cst (AV.int .i64 64))⟩),(8,⟨none,.mv (.tmp 0)⟩),(9,⟨none,.mv (.tmp 4)⟩),(10,⟨none,.p2 (aa P 35) (.opi 8) (.opi 9)⟩),(11,⟨none,.p1 (ae P 53 0) (.opi 10)⟩),(12,⟨none,.ld1 (.opi 11)⟩),(13,⟨none,.pn (l1 (bL P 9)) [.opi 12]⟩),(14,⟨none,.pn (kP min2) [.opi 7,.opi 13]⟩),(15,⟨none,.pn (aU P 9 true true false) [.opi 4,.opi 5,.opi 14]⟩),(16,⟨none,.mv (.opi 15)⟩)]
def OA:AC:=.draw 17 (ar #[0,0,3,7,15,0,0,64,0,0,768,1792,3840,7936,16320,32767,65535] FV [] 0 (FV.filter fun x=>x.2.i.eff)) [(6,16)]
theorem zcn:bY OA fun call tm h=>let g:=ac.mk h.bs (h.next+17);B (tm.gt 0) (fun v0=>B (tm.gt 4) (fun v1=>B (aa P 35 v0 v1) (fun v2=>B (ae P 53 0 v2) (fun v3=>B (am g v3) (fun v4=>B (tm.gt 5) (fun v5=>B (tm.gt 5) (fun v6=>B (ag P .add 3 v6 (AV.int .i64 64)) (fun v7=>B (tm.gt 0) (fun v8=>B (tm.gt 4) (fun v9=>B (aa P 35 v8 v9) (fun v10=>B (ae P 53 0 v10) (fun v11=>B (am g v11) (fun v12=>B (l1 (bL P 9) [v12]) (fun v13=>B (kP min2 [v7,v13]) (fun v14=>B (aU P 9 true true false [v4,v5,v14]) (fun v15=>some ((tm.up (some v15) 6),g)) tg) tg) tg) tg) tg) tg) tg) tg) tg) tg) tg) tg) tg) tg) tg) tg:=b8 rfl (by kernel_rfl)
def OB:AC:=.reg [] [(7,.cst (AV.bool false))]
def OD:AC:=.reg [] [(8,.cst (AV.int .i64 0))]
def OE:AC:=.reg [⟨none,.pn (l1 (bL P 41)) [.tmp 3]⟩,⟨none,.p2 (ag P .lss 3) (.tmp 8) (.loc 0)⟩] [(44,.loc 0)]
def OF:AC:=.reg [⟨some (.tmp 7,false),.mv (.tmp 3)⟩,⟨some (.tmp 7,false),.mv (.tmp 8)⟩,⟨some (.tmp 7,false),.p2 (aa P 41) (.loc 1) (.loc 0)⟩,⟨some (.tmp 7,false),.ld1 (.loc 0)⟩,⟨some (.tmp 7,false),.mv (.tmp 6)⟩,⟨some (.tmp 7,false),.p2 (ag P .eql 9) (.loc 1) (.loc 0)⟩,⟨none,.pick (.tmp 7) (.cst (AV.bool true)) (.loc 0)⟩] [(7,.loc 0)]
def OG:AC:=.reg [⟨none,.p2 (ag P .add 3) (.tmp 8) (.cst (AV.int .i64 1))⟩] [(8,.loc 0)]
def AX:AC:=.seq (.seq OE (.cond (.tmp 44) .skip (.exit 4))) (.seq (.block 5 OF) OG)
def zbl:AC:=.loop AX
def OH:AC:=.reg [⟨none,.p1 (iG .not) (.tmp 7)⟩] [(57,.loc 0)]
def OI:AC:=.reg [⟨none,.al (buildSliceN P 41 1 [0]) [.tmp 6]⟩,⟨none,.ef (fun vs id h=>l2 (fun s x=>aS P 41 s x id h) vs) [.tmp 3,.loc 0]⟩] [(3,.loc 0)]
def OC:AC:=.seq (.seq OD (.block 4 zbl)) (.seq OH (.cond (.tmp 57) OI .skip))
def OJ:AC:=.reg [⟨none,.p2 (ag P .add 3) (.tmp 5) (.cst (AV.int .i64 64))⟩] [(5,.loc 0)]
def AW:AC:=.seq (.seq Oz (.cond (.tmp 22) .skip (.exit 2))) (.seq (.block 3 (.seq OA (.seq OB OC))) OJ)
def zbk:AC:=.loop AW
def OK:AC:=.reg [⟨none,.p2 (ag P .add 3) (.tmp 4) (.cst (AV.int .i64 1))⟩] [(4,.loc 0)]
def OM:AC:=.seq (.seq Ox (.cond (.tmp 12) .skip (.exit 0))) (.seq (.block 1 (.seq Oy (.block 2 zbk))) OK)
def zdw:AC:=.loop OM
def OL:AC:=.reg [⟨none,.pn (l1 (bL P 41)) [.tmp 3]⟩] [(2,.loc 0)]
def XO:AC:=.seq XP (.seq (.seq XS (.block 0 zdw)) (.seq OL .ret))
def UR:cA:=⟨(.seq XN XO),[.tmp 2],64,true⟩
theorem zgl:ci P (keepF P) 16=some UR:=by kernel_rfl
def Jl:=An (kR XN rfl)<|An (kR XP rfl)<|An (kR XS rfl)<|An (kR Ox rfl)<|An (kR Oy rfl)<|An (kR Oz rfl)<|An zcn<|An (kR OB rfl)<|An (kR OD rfl)<|An (kR OE rfl)<|An (kR OF rfl)<|An (kR OG rfl)<|An (kS AX rfl)<|An (kR OH rfl)<|An (kR OI rfl)<|An (kS OC rfl)<|An (kR OJ rfl)<|An (kS AW rfl)<|An (kR OK rfl)<|An (kS OM rfl)<|An (kR OL rfl)<|(kS XO rfl)
def XX:AC:=.reg [⟨none,.al (l1 cV) [.tmp 0]⟩,⟨none,.al (l1 cV) [.tmp 1]⟩,⟨none,.al (fun (_:List AV)=>bQ P 51) []⟩] [(5,.cst (AV.int .i64 0)),(4,.loc 0),(3,.loc 1),(2,.loc 2)]
def XY:AC:=.reg [⟨none,.ld1 (.tmp 2)⟩,⟨none,.pn (dH (Fn.func 63) 0) [.tmp 3,.tmp 2,.tmp 4]⟩,⟨none,.cl (cf 62) [.loc 1,.loc 0]⟩] [(5,.loc 0)]
def X0:AC:=.reg [⟨none,.p2 (ag P .neq 38) (.tmp 5) (.cst (AV.int .i64 0))⟩] [(10,.loc 0)]
def X1:AC:=.reg [⟨none,.st1 (.tmp 4) (.cst (AV.slice none 0 0 none))⟩] [(5,.tmp 5)]
def PU:AC:=.reg [⟨none,.ld1 (.tmp 4)⟩,⟨none,.st1 (.tmp 4) (.loc 0)⟩] [(5,.cst (AV.int .i64 0))]
def XZ:AC:=.seq (.seq X0 (.cond (.tmp 10) (.seq X1 .ret) .skip)) (.seq PU .ret)
def UT:cA:=⟨(.seq XX (.seq XY XZ)),[.cell 4 51,.tmp 5],13,true⟩
theorem zgn:ci P (keepF P) 18=some UT:=by kernel_rfl
def F18:=An (kR XX rfl)<|An (kR XY rfl)<|An (kR X0 rfl)<|An (kR X1 rfl)<|An (kR PU rfl)<|(kS XZ rfl)
def X2:AC:=.reg [] [(4,.cst (AV.bool false))]
def X4:AC:=.reg [⟨none,.pn (l1 (bL P 51)) [.tmp 0]⟩,⟨none,.pn (l1 (bL P 51)) [.tmp 1]⟩,⟨none,.p2 (ag P .neq 3) (.loc 1) (.loc 0)⟩] [(10,.loc 0)]
def X5:AC:=.reg [] [(4,.cst (AV.bool false))]
def PV:AC:=.reg [] [(5,.cst (AV.int .i64 0))]
def PW:AC:=.reg [⟨none,.pn (l1 (bL P 51)) [.tmp 0]⟩,⟨none,.p2 (ag P .lss 3) (.tmp 5) (.loc 0)⟩] [(14,.loc 0)]
def HN:List (Nat×aw):=[(0,⟨none,.mv (.tmp 0)⟩),(1,⟨none,.mv (.tmp 5)⟩),(2,⟨none,.p2 (aa P 51) (.opi 0) (.opi 1)⟩),(3,⟨none,.ld1 (.opi 2)⟩),(4,⟨none,.mv (.tmp 1)⟩),(5,⟨none,.mv (.tmp 5)⟩),(6,⟨none,.p2 (aa P 51) (.opi 4) (.opi 5)⟩),(7,⟨none,.ld1 (.opi 6)⟩),(8,⟨none,.p2 (ag P .neq 48) (.opi 3) (.opi 7)⟩)]
def PY:AC:=.draw 9 (ar #[0,0,3,7,0,0,48,112,255] HN [] 0 (HN.filter fun x=>x.2.i.eff)) [(25,8)]
theorem zcu:bY PY fun call tm h=>let g:=ac.mk h.bs (h.next+9);B (tm.gt 0) (fun v0=>B (tm.gt 5) (fun v1=>B (aa P 51 v0 v1) (fun v2=>B (am g v2) (fun v3=>B (tm.gt 1) (fun v4=>B (tm.gt 5) (fun v5=>B (aa P 51 v4 v5) (fun v6=>B (am g v6) (fun v7=>B (ag P .neq 48 v3 v7) (fun v8=>some ((tm.up (some v8) 25),g)) tg) tg) tg) tg) tg) tg) tg) tg) tg:=b8 rfl (by kernel_rfl)
def PZ:AC:=.reg [] [(4,.cst (AV.bool false))]
def PX:AC:=.block 1 (.seq PY (.cond (.tmp 25) (.seq PZ .ret) .skip))
def P0:AC:=.reg [⟨none,.p2 (ag P .add 3) (.tmp 5) (.cst (AV.int .i64 1))⟩] [(5,.loc 0)]
def Bc:AC:=.seq (.seq PW (.cond (.tmp 14) .skip (.exit 0))) (.seq PX P0)
def zbq:AC:=.loop Bc
def P1:AC:=.reg [] [(4,.cst (AV.bool true))]
def X3:AC:=.seq (.seq X4 (.cond (.tmp 10) (.seq X5 .ret) .skip)) (.seq (.seq PV (.block 0 zbq)) (.seq P1 .ret))
def UU:cA:=⟨(.seq X2 X3),[.tmp 4],26,true⟩
theorem zgo:ci P (keepF P) 19=some UU:=by kernel_rfl
def F19:=An (kR X2 rfl)<|An (kR X4 rfl)<|An (kR X5 rfl)<|An (kR PV rfl)<|An (kR PW rfl)<|An zcu<|An (kR PZ rfl)<|An (kB PX rfl)<|An (kR P0 rfl)<|An (kS Bc rfl)<|An (kR P1 rfl)<|(kS X3 rfl)
def X8:AC:=.reg [⟨none,.al (l1 cV) [.tmp 0]⟩] [(2,.cst (AV.int .i64 0)),(1,.loc 0)]
def X9:AC:=.reg [⟨none,.ld1 (.tmp 1)⟩,⟨none,.pn (dH (Fn.func 85) 0) [.tmp 1]⟩,⟨none,.cl (cf 62) [.loc 1,.loc 0]⟩] [(2,.loc 0)]
def UW:cA:=⟨(.seq X8 (.seq X9 .ret)),[.tmp 2],6,true⟩
theorem zgq:ci P (keepF P) 33=some UW:=by kernel_rfl
def F33:=An (kR X8 rfl)<|(kR X9 rfl)
def Ya:AC:=.reg [⟨none,.al (l1 cV) [.tmp 0]⟩] [(4,.cst (AV.int .i64 0)),(2,.loc 0)]
def Yb:AC:=.reg [⟨none,.ld1 (.tmp 2)⟩,⟨none,.pn (dH (Fn.func 91) 0) [.tmp 2]⟩,⟨none,.cl (cf 90) [.loc 1,.tmp 1,.loc 0]⟩] [(4,.loc 0)]
def UX:cA:=⟨(.seq Ya (.seq Yb .ret)),[.tmp 4],9,true⟩
theorem zgr:ci P (keepF P) 35=some UX:=by kernel_rfl
def F35:=An (kR Ya rfl)<|(kR Yb rfl)
def Y6:AC:=.reg [] [(2,.cst (AV.ptr none))]
def Y8:AC:=.reg [⟨none,.cl (cf 110) [.tmp 0]⟩,⟨none,.p1 (iG .not) (.loc 0)⟩] [(5,.loc 0)]
def Y9:AC:=.reg [] [(2,.cst (AV.ptr none))]
def HQ:List (Nat×aw):=[(0,⟨none,.mv (.tmp 0)⟩),(1,⟨none,.p1 (aj) (.opi 0)⟩),(2,⟨none,.p1 (ae P 180 0) (.opi 1)⟩),(3,⟨none,.ld1 (.opi 2)⟩),(4,⟨none,.mv (.tmp 0)⟩),(5,⟨none,.p1 (aj) (.opi 4)⟩),(6,⟨none,.p1 (ae P 180 1) (.opi 5)⟩),(7,⟨none,.ld1 (.opi 6)⟩),(8,⟨none,.mv (.tmp 0)⟩),(9,⟨none,.p1 (aj) (.opi 8)⟩),(10,⟨none,.p1 (ae P 180 2) (.opi 9)⟩),(11,⟨none,.ld1 (.opi 10)⟩),(12,⟨none,.cl (cf 111) [.opi 11]⟩),(13,⟨none,.pn (bK P 180 [0,1,2]) [.opi 3,.opi 7,.opi 12]⟩),(14,⟨none,.al (l1 cV) [.opi 13]⟩),(15,⟨none,.mv (.opi 14)⟩)]
def Qv:AC:=.draw 16 (ar #[0,1,3,7,0,16,48,112,0,256,768,1792,3840,8191,16383,32767] HQ [12] 0 (HQ.filter fun x=>x.2.i.eff)) [(2,15)]
theorem zcx:bY Qv fun call tm h=>let g:=ac.mk h.bs (h.next+16);B (tm.gt 0) (fun v0=>B (aj v0) (fun v1=>B (ae P 180 0 v1) (fun v2=>B (am g v2) (fun v3=>B (tm.gt 0) (fun v4=>B (aj v4) (fun v5=>B (ae P 180 1 v5) (fun v6=>B (am g v6) (fun v7=>B (tm.gt 0) (fun v8=>B (aj v8) (fun v9=>B (ae P 180 2 v9) (fun v10=>B (am g v10) (fun v11=>B (call (.fn 111) [v11] g) (fun r12=>aV (Ck (am r12.2 v2) (fun w=>bT (AV.same w v3) (Ck (am r12.2 v6) (fun w=>bT (AV.same w v7) (true)) tk)) tk) (B (bK P 180 [0,1,2] [v3,v7,r12.1]) (fun v13=>B (B (l1 cV [v13]) (fun y=>some (y.2 (Nat.add h.next 14))) tg) (fun v14=>B (B (l1 cV [v13]) (fun y=>some (some y.1)) tg) (fun b14=>match b14 with | none=>some ((tm.up (some v14) 2),r12.2) | some b14=>some ((tm.up (some v14) 2),(ac.mk (r12.2.bs.up (some b14) (Nat.add h.next 14)) r12.2.next))) tg) tg) tg)) tg) tg) tg) tg) tg) tg) tg) tg) tg) tg) tg) tg) tg:=b8 rfl (by kernel_rfl)
def Y7:AC:=.seq (.seq Y8 (.cond (.tmp 5) (.seq Y9 .ret) .skip)) (.seq Qv .ret)
def U5:cA:=⟨(.seq Y6 Y7),[.tmp 2],21,true⟩
theorem zgz:ci P (keepF P) 55=some U5:=by kernel_rfl
def F55:=An (kR Y6 rfl)<|An (kR Y8 rfl)<|An (kR Y9 rfl)<|An zcx<|(kS Y7 rfl)
def Zb:AC:=.reg [] [(2,.cst (AV.int .i64 0))]
def Zc:AC:=.reg [⟨none,.p2 (ag P .eql 36) (.tmp 0) (.cst (AV.ptr none))⟩,⟨some (.loc 0,false),.mv (.tmp 0)⟩,⟨some (.loc 1,false),.p1 (aj) (.loc 0)⟩,⟨some (.loc 2,false),.p1 (ae P 99 0) (.loc 0)⟩,⟨some (.loc 3,false),.ld1 (.loc 0)⟩,⟨some (.loc 4,false),.p2 (ag P .eql 29) (.loc 0) (.cst (AV.ptr none))⟩,⟨none,.pick (.loc 5) (.cst (AV.bool true)) (.loc 0)⟩] [(3,.loc 0)]
def Ze:AC:=.reg [] [(2,.cst (AV.int .i64 1))]
def Qw:AC:=.reg [⟨none,.p1 (aj) (.tmp 0)⟩,⟨none,.p1 (ae P 99 3) (.loc 0)⟩,⟨none,.ld1 (.loc 0)⟩] [(13,.loc 0)]
def Qx:AC:=.reg [] [(2,.cst (AV.int .i64 17))]
def Zd:AC:=.cond (.tmp 3) (.seq Ze .ret) (.seq Qw (.cond (.tmp 13) (.seq Qx .ret) .skip))
def Qy:AC:=.reg [] [(2,.cst (AV.int .i64 0))]
def Za:AC:=.seq Zb (.seq (.block 0 (.seq Zc Zd)) (.seq Qy .ret))
def U6:cA:=⟨Za,[.tmp 2],18,true⟩
theorem zgA:ci P (keepF P) 56=some U6:=by kernel_rfl
def F56:=An (kR Zb rfl)<|An (kR Zc rfl)<|An (kR Ze rfl)<|An (kR Qw rfl)<|An (kR Qx rfl)<|An (kC Zd rfl)<|An (kR Qy rfl)<|(kS Za rfl)
def Zw:AC:=.reg [⟨none,.al (l1 cV) [.tmp 0]⟩,⟨none,.al (fun (_:List AV)=>bQ P 38) []⟩] [(4,.loc 0),(2,.loc 1)]
def Zy:AC:=.reg [⟨none,.ld1 (.tmp 2)⟩,⟨none,.cl (cf 56) [.loc 0]⟩] [(5,.loc 0)]
def Zz:AC:=.reg [⟨none,.p2 (ag P .neq 38) (.tmp 5) (.cst (AV.int .i64 0))⟩] [(9,.loc 0)]
def ZA:AC:=.reg [⟨none,.st1 (.tmp 4) (.tmp 5)⟩] []
def Zx:AC:=.seq Zy (.seq Zz (.cond (.tmp 9) (.seq ZA .ret) .skip))
def QL:AC:=.dfr [⟨none,.pn (dH (Fn.func 119) 0) [.tmp 2,.tmp 4]⟩] [] 14 [.loc 0]
def QM:AC:=.reg [⟨none,.cl (.tmp 1) []⟩,⟨none,.st1 (.tmp 4) (.loc 0)⟩] []
def Vc:cA:=⟨(.seq Zw (.seq Zx (.seq QL (.seq QM .ret)))),[.cell 4 38],14,false⟩
theorem zgG:ci P (keepF P) 62=some Vc:=by kernel_rfl
def F62:=An (kR Zw rfl)<|An (kR Zy rfl)<|An (kR Zz rfl)<|An (kR ZA rfl)<|An (kS Zx rfl)<|An (zeS (c:=QL) rfl)<|(kR QM rfl)
def ZC:AC:=.reg [] [(3,.cst (AV.int .i64 0))]
def ZD:AC:=.reg [⟨none,.ld1 (.tmp 0)⟩,⟨none,.cl (cf 64) [.loc 0]⟩,⟨none,.pn (l1 (bL P 41)) [.loc 0]⟩] [(11,.cst (AV.int .i64 0)),(10,.loc 0),(9,.loc 1)]
def ZE:AC:=.reg [⟨none,.p2 (ag P .lss 3) (.tmp 11) (.tmp 10)⟩] [(12,.loc 0)]
def QN:AC:=.reg [⟨none,.p2 (aa P 41) (.tmp 9) (.tmp 11)⟩,⟨none,.ld1 (.loc 0)⟩] [(5,.loc 0)]
def QO:AC:=.reg [⟨none,.ld1 (.tmp 1)⟩,⟨none,.cl (cf 65) [.loc 0,.tmp 5]⟩,⟨none,.p1 (aq 0) (.loc 0)⟩,⟨none,.p1 (aq 1) (.loc 1)⟩] [(7,.loc 0),(6,.loc 1)]
def QR:AC:=.reg [⟨none,.p2 (ag P .neq 38) (.tmp 7) (.cst (AV.int .i64 0))⟩] [(22,.loc 0)]
def QS:AC:=.reg [] [(3,.tmp 7)]
def QT:AC:=.reg [⟨none,.ld1 (.tmp 2)⟩,⟨none,.al (buildSliceN P 51 1 [0]) [.tmp 6]⟩,⟨none,.ef (fun vs id h=>l2 (fun s x=>aS P 51 s x id h) vs) [.loc 1,.loc 0]⟩,⟨none,.st1 (.tmp 2) (.loc 0)⟩] []
def QP:AC:=.seq (.seq QR (.cond (.tmp 22) (.seq QS .ret) .skip)) QT
def QU:AC:=.reg [⟨none,.p2 (ag P .add 3) (.tmp 11) (.cst (AV.int .i64 1))⟩] [(11,.loc 0)]
def ZF:AC:=.seq (.cond (.tmp 12) .skip (.exit 0)) (.seq (.block 1 (.seq QN (.seq QO QP))) QU)
def QW:AC:=.seq ZE ZF
def zdD:AC:=.loop QW
def QV:AC:=.reg [] [(3,.cst (AV.int .i64 0))]
def ZB:AC:=.seq ZC (.seq (.seq ZD (.block 0 zdD)) (.seq QV .ret))
def Vd:cA:=⟨ZB,[.tmp 3],29,true⟩
theorem zgH:ci P (keepF P) 63=some Vd:=by kernel_rfl
def F63:=An (kR ZC rfl)<|An (kR ZD rfl)<|An (kR ZE rfl)<|An (kR QN rfl)<|An (kR QO rfl)<|An (kR QR rfl)<|An (kR QS rfl)<|An (kR QT rfl)<|An (kS QP rfl)<|An (kR QU rfl)<|An (kS ZF rfl)<|An (kS QW rfl)<|An (kR QV rfl)<|(kS ZB rfl)
def ZG:AC:=.reg [] [(2,.cst (AV.slice none 0 0 none))]
def ZI:AC:=.reg [] [(3,.cst (AV.slice none 0 0 none))]
def QY:AC:=.reg [⟨none,.pn (l1 (bL P 9)) [.tmp 0]⟩] [(4,.loc 0)]
def QZ:AC:=.reg [⟨none,.p2 (ag P .eql 3) (.tmp 4) (.cst (AV.int .i64 0))⟩] [(7,.loc 0)]
def Q4:AC:=.reg [⟨none,.p2 (ag P .leq 3) (.tmp 4) (.cst (AV.int .i64 64))⟩] [(10,.loc 0)]
def Q5:AC:=.reg [⟨none,.al (buildSliceN P 41 1 [0]) [.tmp 0]⟩,⟨none,.ef (fun vs id h=>l2 (fun s x=>aS P 41 s x id h) vs) [.tmp 3,.loc 0]⟩] [(3,.loc 0)]
def Q0:AC:=.cond (.tmp 7) (.exit 0) (.seq Q4 (.cond (.tmp 10) (.seq Q5 (.exit 0)) .skip))
def HS:List (Nat×aw):=[(0,⟨none,.mv (.tmp 3)⟩),(1,⟨none,.mv (.tmp 0)⟩),(2,⟨none,.pn (aU P 9 false true false) [.opi 1,.cst (AV.int .i64 64)]⟩),(3,⟨none,.al (buildSliceN P 41 1 [0]) [.opi 2]⟩),(4,⟨none,.ef (fun vs id h=>l2 (fun s x=>aS P 41 s x id h) vs) [.opi 0,.opi 3]⟩),(5,⟨none,.mv (.tmp 0)⟩),(6,⟨none,.pn (aU P 9 true false false) [.opi 5,.cst (AV.int .i64 64)]⟩),(7,⟨none,.mv (.opi 4)⟩),(8,⟨none,.mv (.opi 6)⟩)]
def Q6:AC:=.draw 9 (ar #[0,0,2,6,15,0,32,31,255] HS [4] 0 (HS.filter fun x=>x.2.i.eff)) [(0,8),(3,7)]
theorem zcy:bY Q6 fun call tm h=>let g:=ac.mk h.bs (h.next+9);B (tm.gt 3) (fun v0=>B (tm.gt 0) (fun v1=>B (aU P 9 false true false [v1,(AV.int .i64 64)]) (fun v2=>B (B (buildSliceN P 41 1 [0] [v2]) (fun y=>some (y.2 (Nat.add h.next 3))) tg) (fun v3=>B (tm.gt 0) (fun v5=>B (aU P 9 true false false [v5,(AV.int .i64 64)]) (fun v6=>B (B (buildSliceN P 41 1 [0] [v2]) (fun y=>some (some y.1)) tg) (fun b3=>match b3 with | none=>B ((fun vs id h=>l2 (fun s x=>aS P 41 s x id h) vs) [v0,v3] g.next g) (fun r4=>some (((tm.up (some v6) 0).up (some r4.1) 3),r4.2)) tg | some b3=>B ((fun vs id h=>l2 (fun s x=>aS P 41 s x id h) vs) [v0,v3] (ac.mk (g.bs.up (some b3) (Nat.add h.next 3)) g.next).next (ac.mk (g.bs.up (some b3) (Nat.add h.next 3)) g.next)) (fun r4=>some (((tm.up (some v6) 0).up (some r4.1) 3),r4.2)) tg) tg) tg) tg) tg) tg) tg) tg:=b8 rfl (by kernel_rfl)
def Bj:AC:=.block 1 (.seq (.seq QY (.block 2 (.seq QZ Q0))) Q6)
def zdE:AC:=.loop Bj
def Q7:AC:=.reg [] [(2,.tmp 3)]
def Q8:AC:=.seq ZI (.seq .skip (.seq (.block 0 zdE) (.seq Q7 .ret)))
def ZH:AC:=.scope Q8
theorem zfb:zc8 ZH Q8:=zha
def Ve:cA:=⟨(.seq ZG ZH),[.tmp 2],25,true⟩
theorem zgI:ci P (keepF P) 64=some Ve:=by kernel_rfl
def F64:=An (kR ZG rfl)<|An (kR ZI rfl)<|An (kR QY rfl)<|An (kR QZ rfl)<|An (kR Q4 rfl)<|An (kR Q5 rfl)<|An (kC Q0 rfl)<|An zcy<|An (kB Bj rfl)<|An (kR Q7 rfl)<|An (kS Q8 rfl)<|zfb
def ZJ:AC:=.reg [] [(5,.cst (AV.int .i64 0)),(4,.cst (AV.int .u32 0))]
def ZL:AC:=.reg [⟨none,.p1 (aj) (.tmp 0)⟩,⟨none,.p1 (ae P 99 1) (.loc 0)⟩,⟨none,.ld1 (.loc 0)⟩,⟨none,.cl (cf 120) [.loc 0,.tmp 1]⟩,⟨none,.p1 (aq 0) (.loc 0)⟩,⟨none,.p1 (aq 1) (.loc 1)⟩] [(7,.loc 0),(6,.loc 1)]
def ZM:AC:=.reg [] [(19,.tmp 7)]
def ZN:AC:=.reg [⟨none,.p1 (aj) (.tmp 0)⟩,⟨none,.p1 (ae P 99 1) (.loc 0)⟩,⟨none,.ld1 (.loc 0)⟩,⟨none,.cl (cf 98) [.loc 0,.tmp 6]⟩] [(5,.loc 0),(4,.tmp 6)]
def ZK:AC:=.seq ZL (.seq ZM (.cond (.tmp 19) (.seq ZN .ret) .skip))
def Q9:AC:=.reg [⟨none,.p1 (aj) (.tmp 0)⟩,⟨none,.p1 (ae P 99 2) (.loc 0)⟩,⟨none,.ld1 (.loc 0)⟩,⟨none,.cl (cf 121) [.loc 0]⟩,⟨none,.p1 (aq 0) (.loc 0)⟩,⟨none,.p1 (aq 1) (.loc 1)⟩] [(9,.loc 0),(8,.loc 1)]
def Rb:AC:=.reg [⟨none,.p2 (ag P .neq 38) (.tmp 9) (.cst (AV.int .i64 0))⟩] [(36,.loc 0)]
def Rc:AC:=.reg [] [(5,.tmp 9),(4,.cst (AV.int .u32 0))]
def Rd:AC:=.reg [⟨none,.p1 (aj) (.tmp 0)⟩,⟨none,.p1 (ae P 99 1) (.loc 0)⟩,⟨none,.ld1 (.loc 0)⟩,⟨none,.cl (cf 122) [.loc 0,.tmp 1,.tmp 8]⟩,⟨none,.p1 (aq 0) (.loc 0)⟩,⟨none,.p1 (aq 1) (.loc 1)⟩] [(5,.loc 0),(4,.loc 1)]
def Ra:AC:=.seq (.seq Rb (.cond (.tmp 36) (.seq Rc .ret) .skip)) (.seq Rd .ret)
def Vf:cA:=⟨(.seq ZJ (.seq ZK (.seq Q9 Ra))),[.tmp 4,.tmp 5],47,true⟩
theorem zgJ:ci P (keepF P) 65=some Vf:=by kernel_rfl
def F65:=An (kR ZJ rfl)<|An (kR ZL rfl)<|An (kR ZM rfl)<|An (kR ZN rfl)<|An (kS ZK rfl)<|An (kR Q9 rfl)<|An (kR Rb rfl)<|An (kR Rc rfl)<|An (kR Rd rfl)<|(kS Ra rfl)
def zac:AC:=.reg [⟨none,.al (fun (_:List AV)=>bQ P 38) []⟩] [(1,.loc 0)]
def zad:AC:=.reg [⟨none,.ld1 (.tmp 0)⟩,⟨none,.p1 (aj) (.loc 0)⟩,⟨none,.p1 (ae P 99 1) (.loc 0)⟩,⟨none,.ld1 (.loc 0)⟩,⟨none,.cl (cf 57) [.loc 0]⟩] [(14,.loc 0)]
def RJ:AC:=.reg [] [(2,.tmp 15)]
def RB:AC:=.reg [⟨none,.ld1 (.tmp 0)⟩,⟨none,.p1 (aj) (.loc 0)⟩,⟨none,.p1 (ae P 99 0) (.loc 0)⟩,⟨none,.ld1 (.loc 0)⟩,⟨none,.p1 (aj) (.loc 0)⟩,⟨none,.p1 (ae P 97 1) (.loc 0)⟩,⟨none,.ld1 (.loc 0)⟩,⟨none,.cl (cf 60) [.loc 0,.tmp 2]⟩,⟨none,.p1 (aq 0) (.loc 0)⟩,⟨none,.p1 (aq 1) (.loc 1)⟩,⟨none,.al (fun (_:List AV)=>bQ P 50) []⟩,⟨none,.ef (fun vs _ h=>l2 (eV 4 h) vs) [.loc 0,.loc 2]⟩] [(4,.loc 2)]
def RC:AC:=.reg [] [(28,.tmp 4)]
def RD:AC:=.reg [⟨none,.ld1 (.tmp 0)⟩,⟨none,.p1 (aj) (.loc 0)⟩,⟨none,.p1 (ae P 99 1) (.loc 0)⟩,⟨none,.ld1 (.loc 0)⟩,⟨none,.cl (cf 58) [.loc 0,.tmp 2]⟩,⟨none,.p1 (aq 0) (.loc 0)⟩,⟨none,.p1 (aq 1) (.loc 1)⟩,⟨none,.p1 (aq 2) (.loc 2)⟩,⟨none,.p1 (aq 3) (.loc 3)⟩] [(6,.loc 2),(5,.loc 3)]
def RF:AC:=.reg [⟨none,.ld1 (.tmp 0)⟩,⟨none,.p1 (aj) (.loc 0)⟩,⟨none,.p1 (ae P 99 0) (.loc 0)⟩,⟨none,.ld1 (.loc 0)⟩,⟨none,.p1 (aj) (.loc 0)⟩,⟨none,.p1 (ae P 97 0) (.loc 0)⟩,⟨none,.ld1 (.loc 0)⟩,⟨none,.cl (cf 21) [.loc 0,.tmp 6,.tmp 5]⟩] [(9,.loc 0)]
def RG:AC:=.reg [⟨none,.p2 (ag P .neq 38) (.tmp 9) (.cst (AV.int .i64 0))⟩] [(51,.loc 0)]
def RH:AC:=.reg [⟨none,.st1 (.tmp 1) (.tmp 9)⟩] []
def RE:AC:=.seq RF (.seq RG (.cond (.tmp 51) (.seq RH .ret) .skip))
def zae:AC:=.seq (.seq RB (.seq RC (.cond (.tmp 28) (.exit 1) .skip))) (.seq RD RE)
def RK:AC:=.block 1 zae
def qY:Code:=ja (j9 P 85) [1,0,1,0] 0
def qZ:Code:=ja (j9 P 85) [1,0,1,0] 1
def zdK:AC:=.rangeF (.tmp 14) [15] qY qZ
theorem zce:bu P (keepF P 85) 61 qY=RJ:=by kernel_rfl
theorem zcf:bu P (keepF P 85) 61 qZ=RK:=by kernel_rfl
def RI:AC:=.reg [⟨none,.ld1 (.tmp 0)⟩,⟨none,.p1 (aj) (.loc 0)⟩,⟨none,.p1 (ae P 99 0) (.loc 0)⟩,⟨none,.ld1 (.loc 0)⟩,⟨none,.p1 (aj) (.loc 0)⟩,⟨none,.p1 (ae P 97 0) (.loc 0)⟩,⟨none,.ld1 (.loc 0)⟩,⟨none,.cl (cf 86) [.loc 0]⟩,⟨none,.st1 (.tmp 1) (.loc 0)⟩] []
def zab:AC:=.seq zac (.seq (.seq zad (.block 0 zdK)) (.seq RI .ret))
def Vj:cA:=⟨zab,[.cell 1 38],61,false⟩
theorem zgN:ci P (keepF P) 85=some Vj:=by kernel_rfl
def F85:=An (kR zac rfl)<|An (kR zad rfl)<|An (kR RJ rfl)<|An (kR RB rfl)<|An (kR RC rfl)<|An (kR RD rfl)<|An (kR RF rfl)<|An (kR RG rfl)<|An (kR RH rfl)<|An (kS RE rfl)<|An (kS zae rfl)<|An (kB RK rfl)<|An (kR RI rfl)<|(kS zab rfl)
def zaf:AC:=.reg [⟨none,.al (l1 cV) [.tmp 0]⟩] [(2,.cst (AV.int .i64 0)),(1,.loc 0)]
def zag:AC:=.reg [⟨none,.ld1 (.tmp 1)⟩,⟨none,.pn (dH (Fn.func 135) 0) [.tmp 1]⟩,⟨none,.cl (cf 66) [.loc 1,.loc 0]⟩] [(2,.loc 0)]
def Vk:cA:=⟨(.seq zaf (.seq zag .ret)),[.tmp 2],6,true⟩
theorem zgO:ci P (keepF P) 86=some Vk:=by kernel_rfl
def F86:=An (kR zaf rfl)<|(kR zag rfl)
def zah:AC:=.reg [⟨none,.al (l1 cV) [.tmp 1]⟩,⟨none,.al (l1 cV) [.tmp 2]⟩] [(6,.cst (AV.int .i64 0)),(5,.loc 0),(4,.loc 1)]
def zai:AC:=.reg [⟨none,.pn (dH (Fn.func 141) 0) [.tmp 4,.tmp 5]⟩,⟨none,.cl (cf 62) [.tmp 0,.loc 0]⟩] [(6,.loc 0)]
def Vl:cA:=⟨(.seq zah (.seq zai .ret)),[.tmp 6],10,true⟩
theorem zgP:ci P (keepF P) 90=some Vl:=by kernel_rfl
def F90:=An (kR zah rfl)<|(kR zai rfl)
def zaj:AC:=.reg [] [(3,.cst (AV.int .i64 0))]
def zak:AC:=.reg [⟨none,.ld1 (.tmp 1)⟩,⟨none,.p1 (aj) (.loc 0)⟩,⟨none,.p1 (ae P 99 1) (.loc 0)⟩,⟨none,.ld1 (.loc 0)⟩,⟨none,.cl (cf 92) [.loc 0,.tmp 0]⟩,⟨none,.p1 (aq 0) (.loc 0)⟩,⟨none,.p1 (aq 1) (.loc 1)⟩] [(5,.loc 0)]
def zal:AC:=.reg [] [(3,.tmp 5)]
def Vm:cA:=⟨(.seq zaj (.seq zak (.seq zal .ret))),[.tmp 3],16,true⟩
theorem zgQ:ci P (keepF P) 91=some Vm:=by kernel_rfl
def F91:=An (kR zaj rfl)<|An (kR zak rfl)<|(kR zal rfl)
def LK:AC:=.reg [] [(2,.cst (AV.slice none 0 0 none))]
def LM:AC:=.reg [⟨none,.p2 (ag P .eql 178) (.tmp 0) (.cst (AV.slice none 0 0 none))⟩] [(4,.loc 0)]
def LN:AC:=.reg [] [(2,.cst (AV.slice none 0 0 none))]
def CP:AC:=.reg [⟨none,.al (buildSliceN P 178 0 []) []⟩,⟨none,.ef (fun vs id h=>l2 (fun s x=>aS P 178 s x id h) vs) [.loc 0,.tmp 0]⟩] [(2,.loc 0)]
def LL:AC:=.seq (.seq LM (.cond (.tmp 4) (.seq LN .ret) .skip)) (.seq CP .ret)
def H8:cA:=⟨(.seq LK LL),[.tmp 2],8,true⟩
theorem zdZ:ci P (keepF P) 111=some H8:=by kernel_rfl
def zfM:=An (kR LK rfl)<|An (kR LM rfl)<|An (kR LN rfl)<|An (kR CP rfl)<|(kS LL rfl)
def C7:List (Nat×aw):=[(0,⟨none,.ld1 (.tmp 0)⟩),(1,⟨none,.ld1 (.tmp 0)⟩),(2,⟨none,.p1 (aj) (.opi 1)⟩),(3,⟨none,.p1 (ae P 99 3) (.opi 2)⟩),(4,⟨none,.ld1 (.opi 3)⟩),(5,⟨none,.mv (.opi 4)⟩),(6,⟨some (.opi 5,false),.ld1 (.tmp 1)⟩),(7,⟨some (.opi 5,false),.p2 (ag P .neq 38) (.opi 6) (.cst (AV.int .i64 0))⟩),(8,⟨none,.pick (.opi 5) (.cst (AV.bool true)) (.opi 7)⟩),(9,⟨none,.p1 (aj) (.opi 0)⟩),(10,⟨none,.p1 (ae P 99 3) (.opi 9)⟩),(11,⟨none,.st1 (.opi 10) (.opi 8)⟩)]
def Mf:AC:=.draw 12 (ar #[0,0,2,6,14,30,62,126,254,511,1023,2047] C7 [11] 0 (C7.filter fun x=>x.2.i.eff)) []
theorem zcj:bY Mf fun call tm h=>let g:=ac.mk h.bs (h.next+12);B (B (tm.gt 0) (fun a=>am g a) tg) (fun v0=>B (B (tm.gt 0) (fun a=>am g a) tg) (fun v1=>B (aj v1) (fun v2=>B (ae P 99 3 v2) (fun v3=>B (am g v3) (fun v4=>B (cJ false v4 (B (tm.gt 1) (fun a=>am g a) tg)) (fun v6=>B (cJ false v4 (ag P .neq 38 v6 (AV.int .i64 0))) (fun v7=>B (cH (fun t=>match t with | true=>some (AV.bool true) | false=>some v7) v4) (fun v8=>B (aj v0) (fun v9=>B (ae P 99 3 v9) (fun v10=>B (aW g v10 v8) (fun r11=>some (tm,r11.2)) tg) tg) tg) tg) tg) tg) tg) tg) tg) tg) tg:=b8 rfl (by kernel_rfl)
def If:cA:=⟨Mf,[],13,true⟩
theorem zd6:ci P (keepF P) 119=some If:=by kernel_rfl
def zfQ:=zcj
def Ml:AC:=.reg [⟨none,.al (l1 cV) [.tmp 0]⟩,⟨none,.al (fun (_:List AV)=>bQ P 3) []⟩,⟨none,.al (fun (_:List AV)=>bQ P 38) []⟩] [(3,.loc 0),(2,.loc 1),(1,.loc 2)]
def Mn:AC:=.reg [⟨none,.ld1 (.tmp 1)⟩,⟨none,.cl (cf 110) [.loc 0]⟩,⟨none,.p1 (iG .not) (.loc 0)⟩] [(7,.loc 0)]
def Mo:AC:=.reg [⟨none,.st1 (.tmp 2) (.cst (AV.int .i64 0))⟩,⟨none,.st1 (.tmp 3) (.cst (AV.int .i64 1))⟩] []
def Dh:AC:=.reg [⟨none,.ld1 (.tmp 1)⟩,⟨none,.cl (cf 118) [.loc 0]⟩] [(9,.loc 0)]
def vE:AC:=.reg [] [(4,.tmp 10)]
def Di:AC:=.reg [⟨none,.ld1 (.tmp 1)⟩,⟨none,.cl (cf 59) [.loc 0,.tmp 4]⟩] []
def Dj:AC:=.reg [⟨none,.st1 (.tmp 2) (.tmp 4)⟩,⟨none,.st1 (.tmp 3) (.cst (AV.int .i64 0))⟩] []
def vF:AC:=.block 1 (.seq Di (.seq Dj .ret))
def kA:Code:=ja (j9 P 121) [1,1,0,1,0] 0
def kE:Code:=ja (j9 P 121) [1,1,0,1,0] 1
def Up:AC:=.rangeF (.tmp 9) [10] kA kE
theorem Ta:bu P (keepF P 121) 15 kA=vE:=by kernel_rfl
theorem Tb:bu P (keepF P 121) 15 kE=vF:=by kernel_rfl
def Dk:AC:=.reg [⟨none,.st1 (.tmp 2) (.cst (AV.int .i64 0))⟩,⟨none,.st1 (.tmp 3) (.cst (AV.int .i64 7))⟩] []
def Mm:AC:=.seq (.seq Mn (.cond (.tmp 7) (.seq Mo .ret) .skip)) (.seq (.seq Dh (.block 0 Up)) (.seq Dk .ret))
def Ih:cA:=⟨(.seq Ml Mm),[.cell 2 3,.cell 3 38],15,false⟩
theorem zd8:ci P (keepF P) 121=some Ih:=by kernel_rfl
def La:=An (kR Ml rfl)<|An (kR Mn rfl)<|An (kR Mo rfl)<|An (kR Dh rfl)<|An (kR vE rfl)<|An (kR Di rfl)<|An (kR Dj rfl)<|An (kB vF rfl)<|An (kR Dk rfl)<|(kS Mm rfl)
def ME:AC:=.reg [] [(1,.cst (AV.int .i64 0))]
def MF:AC:=.reg [⟨none,.ld1 (.tmp 0)⟩,⟨none,.p1 (aj) (.loc 0)⟩,⟨none,.p1 (ae P 117 0) (.loc 0)⟩,⟨none,.ld1 (.loc 0)⟩,⟨none,.cl (cf 136) [.loc 0]⟩] []
def MG:AC:=.reg [] [(1,.cst (AV.int .i64 0))]
def Ik:cA:=⟨(.seq ME (.seq MF (.seq MG .ret))),[.tmp 1],7,true⟩
theorem zeb:ci P (keepF P) 135=some Ik:=by kernel_rfl
def zfR:=An (kR ME rfl)<|An (kR MF rfl)<|(kR MG rfl)
def MH:AC:=.reg [] [(2,.cst (AV.int .i64 0))]
def MI:AC:=.reg [⟨none,.cl (cf 160) [.tmp 0,cf 161]⟩] [(2,.loc 0)]
def Il:cA:=⟨(.seq MH (.seq MI .ret)),[.tmp 2],5,true⟩
theorem zec:ci P (keepF P) 136=some Il:=by kernel_rfl
def zfS:=An (kR MH rfl)<|(kR MI rfl)
def M3:AC:=.reg [] [(2,.cst (AV.int .i64 0))]
def M4:AC:=.reg [⟨none,.ld1 (.tmp 0)⟩,⟨none,.pn (l1 (bL P 51)) [.loc 0]⟩] [(8,.cst (AV.int .i64 0)),(7,.loc 0),(6,.loc 1)]
def M5:AC:=.reg [⟨none,.p2 (ag P .lss 3) (.tmp 8) (.tmp 7)⟩] [(9,.loc 0)]
def DE:AC:=.reg [⟨none,.p2 (aa P 51) (.tmp 6) (.tmp 8)⟩,⟨none,.ld1 (.loc 0)⟩] [(4,.loc 0)]
def DG:AC:=.reg [⟨none,.ld1 (.tmp 1)⟩,⟨none,.cl (.loc 0) [.tmp 4]⟩] [(5,.loc 0)]
def DH:AC:=.reg [⟨none,.p2 (ag P .neq 38) (.tmp 5) (.cst (AV.int .i64 0))⟩] [(16,.loc 0)]
def DJ:AC:=.reg [] [(2,.tmp 5)]
def DF:AC:=.seq DG (.seq DH (.cond (.tmp 16) (.seq DJ .ret) .skip))
def DK:AC:=.reg [⟨none,.p2 (ag P .add 3) (.tmp 8) (.cst (AV.int .i64 1))⟩] [(8,.loc 0)]
def M6:AC:=.seq (.cond (.tmp 9) .skip (.exit 0)) (.seq (.block 1 (.seq DE DF)) DK)
def AN:AC:=.seq M5 M6
def zbc:AC:=.loop AN
def DL:AC:=.reg [] [(2,.cst (AV.int .i64 0))]
def M2:AC:=.seq M3 (.seq (.seq M4 (.block 0 zbc)) (.seq DL .ret))
def Im:cA:=⟨M2,[.tmp 2],19,true⟩
theorem zed:ci P (keepF P) 141=some Im:=by kernel_rfl
def Lb:=An (kR M3 rfl)<|An (kR M4 rfl)<|An (kR M5 rfl)<|An (kR DE rfl)<|An (kR DG rfl)<|An (kR DH rfl)<|An (kR DJ rfl)<|An (kS DF rfl)<|An (kR DK rfl)<|An (kS M6 rfl)<|An (kS AN rfl)<|An (kR DL rfl)<|(kS M2 rfl)
def NV:AC:=.reg [] [(4,.cst (AV.int .i64 0))]
def NX:AC:=.reg [⟨none,.p2 (ag P .eql 33) (.tmp 0) (.cst (AV.ptr none))⟩] [(9,.loc 0)]
def NY:AC:=.reg [] [(4,.cst (AV.int .i64 0))]
def EZ:AC:=.reg [] [(5,.cst (AV.int .i64 0))]
def E0:AC:=.reg [⟨none,.p1 (aj) (.tmp 0)⟩,⟨none,.p1 (ae P 120 0) (.loc 0)⟩,⟨none,.ld1 (.loc 0)⟩,⟨none,.pn (l1 (bL P 118)) [.loc 0]⟩] [(15,.cst (AV.int .i64 0)),(14,.loc 0)]
def E3:AC:=.reg [⟨none,.p2 (ag P .lss 3) (.tmp 15) (.tmp 14)⟩] [(16,.loc 0)]
def E5:AC:=.reg [] [(6,.tmp 15)]
def E6:AC:=.reg [⟨none,.p1 (aj) (.tmp 0)⟩,⟨none,.p1 (ae P 120 0) (.loc 0)⟩,⟨none,.ld1 (.loc 0)⟩,⟨none,.p2 (aa P 118) (.loc 0) (.tmp 6)⟩] [(7,.loc 0)]
def E8:AC:=.reg [⟨none,.p1 (aj) (.tmp 7)⟩,⟨none,.p1 (ae P 209 2) (.loc 0)⟩,⟨none,.ld1 (.loc 0)⟩,⟨none,.p1 (iG .not) (.loc 0)⟩] [(28,.loc 0)]
def xU:List (Nat×aw):=[(0,⟨none,.mv (.tmp 7)⟩),(1,⟨none,.p1 (aj) (.opi 0)⟩),(2,⟨none,.p1 (ae P 209 1) (.opi 1)⟩),(3,⟨none,.ldn 64 (.opi 2)⟩),(4,⟨none,.mv (.tmp 7)⟩),(5,⟨none,.p1 (aj) (.opi 4)⟩),(6,⟨none,.p1 (ae P 209 0) (.opi 5)⟩),(7,⟨none,.ldn 64 (.opi 6)⟩),(8,⟨none,.p2 (ag P .neq 207) (.opi 3) (.opi 7)⟩)]
def Fa:AC:=.draw 9 (ar #[0,1,3,7,0,16,48,112,255] xU [] 0 (xU.filter fun x=>x.2.i.eff)) [(37,8)]
theorem V1:bY Fa fun call tm h=>let g:=ac.mk h.bs (h.next+9);B (tm.gt 7) (fun v0=>B (aj v0) (fun v1=>B (ae P 209 1 v1) (fun v2=>B (di 64 g v2) (fun v3=>B (tm.gt 7) (fun v4=>B (aj v4) (fun v5=>B (ae P 209 0 v5) (fun v6=>B (di 64 g v6) (fun v7=>B (ag P .neq 207 v3 v7) (fun v8=>some ((tm.up (some v8) 37),g)) tg) tg) tg) tg) tg) tg) tg) tg) tg:=b8 rfl (by kernel_rfl)
def xV:List (Nat×aw):=[(0,⟨none,.mv (.tmp 7)⟩),(1,⟨none,.p1 (aj) (.opi 0)⟩),(2,⟨none,.p1 (ae P 209 0) (.opi 1)⟩),(3,⟨none,.pn (aU P 207 false false false) [.opi 2]⟩),(4,⟨none,.mv (.tmp 7)⟩),(5,⟨none,.p1 (aj) (.opi 4)⟩),(6,⟨none,.p1 (ae P 209 1) (.opi 5)⟩),(7,⟨none,.mv (.tmp 1)⟩),(8,⟨none,.mv (.tmp 5)⟩),(9,⟨none,.cl (.opi 7) [.opi 8]⟩),(10,⟨none,.pn (kP min2) [.opi 9,.cst (AV.int .i64 64)]⟩),(11,⟨none,.pn (aU P 207 false true false) [.opi 6,.opi 10]⟩),(12,⟨none,.ef (fun vs _ h=>l2 (fun d x=>kI P 42 d x h) vs) [.opi 3,.opi 11]⟩)]
def Fb:AC:=.draw 13 (ar #[0,1,3,7,0,16,48,0,0,384,896,2032,4095] xV [9,12] 0 (xV.filter fun x=>x.2.i.eff)) []
theorem V2:bY Fb fun call tm h=>let g:=ac.mk h.bs (h.next+13);B (tm.gt 7) (fun v0=>B (aj v0) (fun v1=>B (ae P 209 0 v1) (fun v2=>B (aU P 207 false false false [v2]) (fun v3=>B (tm.gt 7) (fun v4=>B (aj v4) (fun v5=>B (ae P 209 1 v5) (fun v6=>B (tm.gt 1) (fun v7=>B (tm.gt 5) (fun v8=>B (gF call [v8] g v7) (fun r9=>B (kP min2 [r9.1,(AV.int .i64 64)]) (fun v10=>B (aU P 207 false true false [v6,v10]) (fun v11=>B ((fun vs _ h=>l2 (fun d x=>kI P 42 d x h) vs) [v3,v11] r9.2.next r9.2) (fun r12=>some (tm,r12.2)) tg) tg) tg) tg) tg) tg) tg) tg) tg) tg) tg) tg) tg:=b8 rfl (by kernel_rfl)
def Fd:AC:=.reg [⟨none,.p1 (aj) (.tmp 7)⟩,⟨none,.p1 (ae P 209 0) (.loc 0)⟩,⟨none,.ldn 64 (.loc 0)⟩,⟨none,.p1 (aj) (.tmp 7)⟩,⟨none,.p1 (ae P 209 1) (.loc 0)⟩,⟨none,.ef (fun vs _ h=>l2 (eV 64 h) vs) [.loc 0,.loc 2]⟩,⟨none,.p1 (aj) (.tmp 7)⟩,⟨none,.p1 (ae P 209 2) (.loc 0)⟩,⟨none,.st1 (.loc 0) (.cst (AV.bool false))⟩] []
def Ff:AC:=.reg [⟨none,.p2 (ag P .add 3) (.tmp 5) (.cst (AV.int .i64 1))⟩] [(5,.loc 0)]
def E9:AC:=.seq (.seq Fa (.cond (.tmp 37) Fb .skip)) (.seq Fd Ff)
def E7:AC:=.seq (.seq E8 (.cond (.tmp 28) (.exit 1) .skip)) E9
def Fg:AC:=.reg [⟨none,.p2 (ag P .add 3) (.tmp 15) (.cst (AV.int .i64 1))⟩] [(15,.loc 0)]
def E4:AC:=.seq (.block 1 (.seq E5 (.seq E6 E7))) Fg
def vI:AC:=.seq E3 (.seq (.cond (.tmp 16) .skip (.exit 0)) E4)
def Uq:AC:=.loop vI
def Fh:AC:=.reg [] [(4,.tmp 5)]
def EY:AC:=.seq EZ (.seq (.seq E0 (.block 0 Uq)) (.seq Fh .ret))
def NW:AC:=.seq (.seq NX (.cond (.tmp 9) (.seq NY .ret) .skip)) EY
def Iu:cA:=⟨(.seq NV NW),[.tmp 4],65,true⟩
theorem zel:ci P (keepF P) 160=some Iu:=by kernel_rfl
def Jm:=An (kR NV rfl)<|An (kR NX rfl)<|An (kR NY rfl)<|An (kR EZ rfl)<|An (kR E0 rfl)<|An (kR E3 rfl)<|An (kR E5 rfl)<|An (kR E6 rfl)<|An (kR E8 rfl)<|An V1<|An V2<|An (kR Fd rfl)<|An (kR Ff rfl)<|An (kS E9 rfl)<|An (kS E7 rfl)<|An (kR Fg rfl)<|An (kS E4 rfl)<|An (kS vI rfl)<|An (kR Fh rfl)<|An (kS EY rfl)<|(kS NW rfl)
def NZ:AC:=.reg [] [(2,.cst (AV.int .i64 0))]
def N0:AC:=.reg [] [(2,.cst (AV.int .i64 64))]
def Iv:cA:=⟨(.seq NZ (.seq N0 .ret)),[.tmp 2],3,true⟩
theorem zem:ci P (keepF P) 161=some Iv:=by kernel_rfl
def zfY:=An (kR NZ rfl)<|(kR N0 rfl)
theorem bM (b o:Nat):ae P 26 0 (.ptr (some (b,o)))=some (.ptr (some (b,o+0))):=by kernel_rfl
theorem cR (a:Option (Nat×Nat)) (n c:Nat) (g:Option Nat):bL P 22 (.slice a n c g)=some (.int .i64 n):=fq (e:=44) (by kernel_rfl) a n c g
theorem Ji {k:IntKind} {b o n c i:Nat} {g:Option Nat} (hi:i<n):aa P 22 (.slice (some (b,o)) n c g) (.int k (i:Int))=some (.ptr (some (b,o+i*3))):=gq (e:=44) (by kernel_rfl) (by kernel_rfl) hi
theorem u6 (b o:Nat):ae P 44 2 (.ptr (some (b,o)))=some (.ptr (some (b,o+2))):=by kernel_rfl
theorem fP (a:Option (Nat×Nat)) (n c:Nat) (g:Option Nat):bL P 35 (.slice a n c g)=some (.int .i64 n):=fq (e:=53) (by kernel_rfl) a n c g
theorem zcJ:aC P 53=some 2:=by kernel_rfl
theorem za5:cF P 53=some 40:=by kernel_rfl
theorem zcZ:cd P 53=some (AV.agg [(AV.str []),(AV.slice none 0 0 none)]):=by kernel_rfl
theorem qF {k:IntKind} {b o n c i:Nat} {g:Option Nat} (hi:i<n):aa P 35 (.slice (some (b,o)) n c g) (.int k (i:Int))=some (.ptr (some (b,o+i*2))):=gq (e:=53) (by kernel_rfl) (by kernel_rfl) hi
theorem l9 (b o:Nat):ae P 53 0 (.ptr (some (b,o)))=some (.ptr (some (b,o+0))):=by kernel_rfl
theorem u7 (b o:Nat):ae P 53 1 (.ptr (some (b,o)))=some (.ptr (some (b,o+1))):=by kernel_rfl
theorem eT (b o:Nat):ae P 44 0 (.ptr (some (b,o)))=some (.ptr (some (b,o+0))):=by kernel_rfl
theorem gY (b o:Nat):ae P 44 1 (.ptr (some (b,o)))=some (.ptr (some (b,o+1))):=by kernel_rfl
theorem l8 (b o:Nat):ae P 26 2 (.ptr (some (b,o)))=some (.ptr (some (b,o+2))):=by kernel_rfl
theorem uk (p0:Option (Nat×Nat)) (p1:Option (Nat×Nat)) (p2:Option (Nat×Nat)):bK P 99 [0,1,2] [(AV.ptr p0),(AV.ptr p1),(AV.ptr p2)]=some (.agg [(AV.ptr p0),(AV.ptr p1),(AV.ptr p2),(AV.bool false)]):=by kernel_rfl
theorem Ai {a:Option (Nat×Nat)} {n c hi mx:Nat} {g:Option Nat} {k' k'':IntKind} (h:mx<=c) (h':hi<=mx):aU P 35 false true true [.slice a n c g,.int k' (hi:Int),.int k'' (mx:Int)]=some (.slice (a.map fun p=>(p.1,p.2+0*2)) (hi - 0) (mx - 0) none):=zcL (e:=53) (by kernel_rfl) (by kernel_rfl) h h'
theorem Ag (s0:List Nat) (a1:Option (Nat×Nat)) (l1 c1:Nat) (g1:Option Nat):bK P 53 [0,1] [(AV.str s0),(AV.slice a1 l1 c1 g1)]=some (.agg [(AV.str s0),(AV.slice a1 l1 c1 g1)]):=by kernel_rfl
theorem K0 (s0:List Nat) (a1:Option (Nat×Nat)) (l1 c1:Nat) (g1:Option Nat):buildSliceN P 35 1 [0] [(AV.agg [AV.str s0,AV.slice a1 l1 c1 g1])]=some (.cells (az [AV.str s0,AV.slice a1 l1 c1 g1] .leaf 0) [] 2 false,sliceTo 1):=by kernel_rfl
theorem zcU:P.underlying 35=some (.slice 53):=by kernel_rfl
theorem W7 {k:IntKind} {b o n c i:Nat} {g:Option Nat} (hi:i<n):aa P 42 (.slice (some (b,o)) n c g) (.int k (i:Int))=some (.ptr (some (b,o+i*1))):=gq (e:=5) (by kernel_rfl) (by kernel_rfl) hi
theorem Ah {a:Option (Nat×Nat)} {n c hi:Nat} {g:Option Nat} {k:IntKind} (hg:Aq g 2=true) (h:hi<=c):aU P 35 false true false [.slice a n c g,.int k (hi:Int)]=some (.slice (a.map fun p=>(p.1,p.2+0*2)) (hi - 0) (c - 0) g):=Tw (e:=53) (by kernel_rfl) (by kernel_rfl) hg h
theorem Aj {a:Option (Nat×Nat)} {n c lo:Nat} {g:Option Nat} {k:IntKind} (hg:Aq g 2=true) (h:lo<=n):aU P 35 true false false [.slice a n c g,.int k (lo:Int)]=some (.slice (a.map fun p=>(p.1,p.2+lo*2)) (n - lo) (c - lo) g):=Tx (e:=53) (by kernel_rfl) (by kernel_rfl) hg h
theorem ma (b o:Nat):ae P 99 3 (.ptr (some (b,o)))=some (.ptr (some (b,o+3))):=by kernel_rfl
theorem fZ (b o:Nat):ae P 99 0 (.ptr (some (b,o)))=some (.ptr (some (b,o+0))):=by kernel_rfl
theorem WY:bQ P 95=some (.cells (az [(AV.ptr none)] .leaf 0) (ay 95 true) 1 false,dy):=by kernel_rfl
theorem cO (b o:Nat):ae P 99 1 (.ptr (some (b,o)))=some (.ptr (some (b,o+1))):=by kernel_rfl
theorem Jf:bQ P 51=some (.cells (az [(AV.slice none 0 0 none)] .leaf 0) (ay 51 true) 1 false,dy):=by kernel_rfl
theorem Jg (x:Option (Nat×Nat)):ag P .eql 36 (.ptr x) (.ptr none)=some (.bool x.isNone):=vp (e:=99) (by kernel_rfl)
theorem xC:bQ P 38=some (.cells (az [(AV.int .i64 0)] .leaf 0) (ay 38 true) 1 false,dy):=by kernel_rfl
theorem Cw {k:IntKind} {l:List Nat} {lo:Nat} (h:lo<=l.length):aU P 9 true false false [.str l,.int k (lo:Int)]=some (.str (l.drop lo)):=KG (by kernel_rfl) h
theorem pq (b o:Nat):ae P 99 2 (.ptr (some (b,o)))=some (.ptr (some (b,o+2))):=by kernel_rfl
theorem TP (x:Option (Nat×Nat)) (n c:Nat) (g:Option Nat):ag P .eql 178 (.slice x n c g) (.slice none 0 0 none)=some (.bool x.isNone):=AG (e:=187) (by kernel_rfl)
theorem Co:buildSliceN P 178 0 [] []=some (.cells (az [] .leaf 0) [] 0 false,sliceTo 0):=by kernel_rfl
theorem tJ (b o:Nat):ae P 209 0 (.ptr (some (b,o)))=some (.ptr (some (b,o+0))):=by kernel_rfl
end
end Go.Proofs.YtboobbebilegnaaGreat
/- A part of the proof of the law PoolLoads. -/
import Derived.Test.YtboobbebilegnaaGreatProg
import Derived.Test.YtboobbebilegnaaGreatLoAmE
set_option linter.unusedVariables false
set_option linter.unusedSimpArgs false
set_option linter.constructorNameAsVariable false
set_option linter.defProp false
set_option maxRecDepth 20000

namespace Go.Proofs.YtboobbebilegnaaGreat
open Go.Am
noncomputable section
theorem An {a b:Prop} (x:a) (y:b):a/\b:=⟨x,y⟩
theorem kR (c:AC) {is:List GIns} {outs:List (Nat×Opd)} (hc:c=.reg is outs):RRegG c is outs:=kReg hc
theorem kS (c:AC) {a b:AC} (hc:c=.seq a b):RSeq c a b:=kSeq hc
theorem kB (c:AC) {a:AC} {id:Nat} (hc:c=.block id a):RBlk c id a:=kBlk hc
theorem kC (c:AC) {a b:AC} {t:Nat} (hc:c=.cond (.tmp t) a b):RCnd c t a b:=kCnd hc
abbrev P:Program:=Tryz.prog
def c95_1:AC:=.reg [⟨none,.pn (l1 (len1 P 51)) [.tmp 0]⟩] [(2,.loc 0)]
def c95_2:AC:=.reg [⟨none,.p1 (conv1 P 3 154) (.tmp 2)⟩,⟨none,.cl (cf 144) [.loc 0]⟩,⟨none,.cl (cf 143) [.tmp 0,.cst (AV.int .i64 0),.tmp 2,.loc 0]⟩] []
def fn95:FnA:=⟨(.seq c95_1 c95_2),[],11,true⟩
theorem f95A:fnA P (keepF P) 95=some fn95:=by kernel_rfl
def F95:=An (kR c95_1 rfl)<|(kR c95_2 rfl)
def c143_1:AC:=.reg [] [(8,.cst (AV.bool true))]
def c143_3:AC:=.reg [] [(9,.cst (AV.bool true))]
def c143_8:AC:=.reg [⟨none,.p2 (bin2 P .sub 3) (.tmp 2) (.tmp 1)⟩] [(10,.loc 0)]
def c143_11:AC:=.reg [⟨none,.p2 (bin2 P .leq 3) (.tmp 10) (.cst (AV.int .i64 12))⟩] [(23,.loc 0)]
def c143_14:AC:=.reg [⟨none,.cl (cf 167) [.tmp 0,.tmp 1,.tmp 2]⟩] []
def c143_19:AC:=.reg [⟨none,.p2 (bin2 P .eql 3) (.tmp 3) (.cst (AV.int .i64 0))⟩] [(29,.loc 0)]
def c143_22:AC:=.reg [⟨none,.cl (cf 168) [.tmp 0,.tmp 1,.tmp 2]⟩] []
def c143_27:AC:=.reg [⟨none,.p1 (un1 .not) (.tmp 8)⟩] [(35,.loc 0)]
def c143_30:AC:=.reg [⟨none,.cl (cf 169) [.tmp 0,.tmp 1,.tmp 2]⟩] []
def c143_31:AC:=.reg [⟨none,.p2 (bin2 P .sub 3) (.tmp 3) (.cst (AV.int .i64 1))⟩] [(3,.loc 0)]
def c143_34:AC:=.reg [⟨none,.cl (cf 170) [.tmp 0,.tmp 1,.tmp 2]⟩,⟨none,.p1 (nthTuple 0) (.loc 0)⟩,⟨none,.p1 (nthTuple 1) (.loc 1)⟩] [(12,.loc 0),(11,.loc 1)]
def c143_37:AC:=.reg [⟨none,.p2 (bin2 P .eql 248) (.tmp 12) (.cst (AV.int .i64 2))⟩] [(50,.loc 0)]
def c143_40:AC:=.reg [⟨none,.cl (cf 171) [.tmp 0,.tmp 1,.tmp 2]⟩] []
def c143_42:AC:=.reg [⟨none,.p2 (bin2 P .sub 3) (.tmp 2) (.cst (AV.int .i64 1))⟩,⟨none,.p2 (bin2 P .sub 3) (.tmp 11) (.tmp 1)⟩,⟨none,.p2 (bin2 P .sub 3) (.loc 1) (.loc 0)⟩] [(11,.loc 0)]
def c143_43:AC:=.reg [] [(12,.cst (AV.int .i64 1))]
def c143_36:AC:=.seq c143_37 (.cond (.tmp 50) (.seq c143_40 (.seq c143_42 c143_43)) .skip)
def c143_47:AC:=.reg [⟨some (.tmp 8,true),.mv (.tmp 9)⟩,⟨none,.pick (.tmp 8) (.loc 0) (.cst (AV.bool false))⟩,⟨some (.loc 0,true),.mv (.tmp 12)⟩,⟨some (.loc 1,true),.p2 (bin2 P .eql 248) (.loc 0) (.cst (AV.int .i64 1))⟩,⟨none,.pick (.loc 2) (.loc 0) (.cst (AV.bool false))⟩] [(68,.loc 0)]
def c143_50:AC:=.reg [⟨none,.cl (cf 172) [.tmp 0,.tmp 1,.tmp 2]⟩] [(72,.loc 0)]
def c143_48:AC:=.cond (.tmp 68) (.seq c143_50 (.cond (.tmp 72) .ret .skip)) .skip
def c143_57g:List (Nat×GIns):=[(0,⟨none,.mv (.tmp 1)⟩),(1,⟨none,.p2 (bin2 P .gtr 3) (.opi 0) (.cst (AV.int .i64 0))⟩),(2,⟨none,.mv (.opi 1)⟩),(3,⟨some (.opi 2,true),.mv (.tmp 0)⟩),(4,⟨some (.opi 2,true),.mv (.tmp 1)⟩),(5,⟨some (.opi 2,true),.p2 (bin2 P .sub 3) (.opi 4) (.cst (AV.int .i64 1))⟩),(6,⟨some (.opi 2,true),.p2 (indexAddr2 P 51) (.opi 3) (.opi 5)⟩),(7,⟨some (.opi 2,true),.ld1 (.opi 6)⟩),(8,⟨some (.opi 2,true),.mv (.tmp 0)⟩),(9,⟨some (.opi 2,true),.mv (.tmp 11)⟩),(10,⟨some (.opi 2,true),.p2 (indexAddr2 P 51) (.opi 8) (.opi 9)⟩),(11,⟨some (.opi 2,true),.ld1 (.opi 10)⟩),(12,⟨some (.opi 2,true),.cl (cf 173) [.opi 7,.opi 11]⟩),(13,⟨some (.opi 2,true),.p1 (un1 .not) (.opi 12)⟩),(14,⟨none,.pick (.opi 2) (.opi 13) (.cst (AV.bool false))⟩)]
def c143_57:AC:=.draw 15 (stagesOf #[0,1,3,7,7,23,63,127,7,7,775,1799,4095,8191,16383] c143_57g [12] 0 (c143_57g.filter fun x=>x.2.i.eff)) [(87,14)]
theorem r143_57:RReg c143_57 fun call tm h=>let g:=Heap.mk h.bs (h.next+15);B (tm.gt 1) (fun v0=>B (bin2 P .gtr 3 v0 (AV.int .i64 0)) (fun v1=>B (Wt? true v1 (tm.gt 0)) (fun v3=>B (Wt? true v1 (tm.gt 1)) (fun v4=>B (Wt? true v1 (bin2 P .sub 3 v4 (AV.int .i64 1))) (fun v5=>B (Wt? true v1 (indexAddr2 P 51 v3 v5)) (fun v6=>B (Wt? true v1 (load1 g v6)) (fun v7=>B (Wt? true v1 (tm.gt 0)) (fun v8=>B (Wt? true v1 (tm.gt 11)) (fun v9=>B (Wt? true v1 (indexAddr2 P 51 v8 v9)) (fun v10=>B (Wt? true v1 (load1 g v10)) (fun v11=>B (match wanted true v1 with | true=>(call (.fn 173) [v7,v11] g) | false=>some (undefA,g)) (fun r12=>B (Wt? true v1 (un1 .not r12.1)) (fun v13=>B (eBool (fun t=>match t with | true=>some v13 | false=>some (AV.bool false)) v1) (fun v14=>some ((tm.up (some v14) 87),r12.2)) tg) tg) tg) tg) tg) tg) tg) tg) tg) tg) tg) tg) tg) tg:=kDrw rfl (by kernel_rfl)
def c143_60:AC:=.reg [⟨none,.cl (cf 174) [.tmp 0,.tmp 1,.tmp 2,.tmp 11]⟩] [(13,.loc 0)]
def c143_62:AC:=.reg [] [(1,.tmp 13)]
def c143_58:AC:=.cond (.tmp 87) (.seq c143_60 (.seq c143_62 (.exit 1))) .skip
def c143_66:AC:=.reg [⟨none,.cl (cf 175) [.tmp 0,.tmp 1,.tmp 2,.tmp 11]⟩,⟨none,.p1 (nthTuple 0) (.loc 0)⟩,⟨none,.p1 (nthTuple 1) (.loc 1)⟩] [(15,.loc 0),(14,.loc 1)]
def c143_68:AC:=.reg [] [(9,.tmp 15)]
def c143_70:AC:=.reg [⟨none,.p2 (bin2 P .sub 3) (.tmp 14) (.tmp 1)⟩,⟨none,.p2 (bin2 P .sub 3) (.tmp 2) (.tmp 14)⟩] [(17,.loc 0),(16,.loc 1)]
def c143_72:AC:=.reg [⟨none,.p2 (bin2 P .quo 3) (.tmp 10) (.cst (AV.int .i64 8))⟩] [(18,.loc 0)]
def c143_74:AC:=.reg [⟨none,.p2 (bin2 P .lss 3) (.tmp 16) (.tmp 17)⟩] [(113,.loc 0)]
def c143_77:AC:=.reg [⟨none,.p2 (bin2 P .geq 3) (.tmp 16) (.tmp 18)⟩] [(8,.loc 0)]
def c143_79:AC:=.reg [⟨none,.cl (cf 143) [.tmp 0,.tmp 1,.tmp 14,.tmp 3]⟩] []
def c143_80:AC:=.reg [⟨none,.p2 (bin2 P .add 3) (.tmp 14) (.cst (AV.int .i64 1))⟩] [(1,.loc 0)]
def c143_82:AC:=.reg [⟨none,.p2 (bin2 P .geq 3) (.tmp 17) (.tmp 18)⟩] [(8,.loc 0)]
def c143_84:AC:=.reg [⟨none,.p2 (bin2 P .add 3) (.tmp 14) (.cst (AV.int .i64 1))⟩,⟨none,.cl (cf 143) [.tmp 0,.loc 0,.tmp 2,.tmp 3]⟩] []
def c143_85:AC:=.reg [] [(2,.tmp 14)]
def c143_75:AC:=.cond (.tmp 113) (.seq c143_77 (.seq c143_79 c143_80)) (.seq c143_82 (.seq c143_84 c143_85))
def c143_67:AC:=.seq c143_68 (.seq c143_70 (.seq c143_72 (.seq c143_74 c143_75)))
def c143_65:AC:=.seq c143_66 c143_67
def c143_55:AC:=.seq (.seq c143_57 c143_58) c143_65
def c143_45:AC:=.seq (.seq c143_47 c143_48) c143_55
def c143_33:AC:=.seq c143_34 (.seq c143_36 c143_45)
def c143_25:AC:=.seq (.seq c143_27 (.cond (.tmp 35) (.seq c143_30 c143_31) .skip)) c143_33
def c143_17:AC:=.seq (.seq c143_19 (.cond (.tmp 29) (.seq c143_22 .ret) .skip)) c143_25
def c143_9:AC:=.seq (.seq c143_11 (.cond (.tmp 23) (.seq c143_14 .ret) .skip)) c143_17
def c143_6:AC:=.block 1 (.seq c143_8 c143_9)
def c143_5:AC:=.loop c143_6
theorem r143_65:type_of% (kS c143_65 rfl):=(kS c143_65 rfl)
theorem r143_55:type_of% (kS c143_55 rfl):=(kS c143_55 rfl)
theorem r143_45:type_of% (kS c143_45 rfl):=(kS c143_45 rfl)
theorem r143_33:type_of% (kS c143_33 rfl):=(kS c143_33 rfl)
def fn143:FnA:=⟨(.seq c143_1 (.seq c143_3 (.block 0 c143_5))),[],134,true⟩
theorem f143A:fnA P (keepF P) 143=some fn143:=by kernel_rfl
def F143:=An (kR c143_1 rfl)<|An (kR c143_3 rfl)<|An (kR c143_8 rfl)<|An (kR c143_11 rfl)<|An (kR c143_14 rfl)<|An (kR c143_19 rfl)<|An (kR c143_22 rfl)<|An (kR c143_27 rfl)<|An (kR c143_30 rfl)<|An (kR c143_31 rfl)<|An (kR c143_34 rfl)<|An (kR c143_37 rfl)<|An (kR c143_40 rfl)<|An (kR c143_42 rfl)<|An (kR c143_43 rfl)<|An (kS c143_36 rfl)<|An (kR c143_47 rfl)<|An (kR c143_50 rfl)<|An (kC c143_48 rfl)<|An r143_57<|An (kR c143_60 rfl)<|An (kR c143_62 rfl)<|An (kC c143_58 rfl)<|An (kR c143_66 rfl)<|An (kR c143_68 rfl)<|An (kR c143_70 rfl)<|An (kR c143_72 rfl)<|An (kR c143_74 rfl)<|An (kR c143_77 rfl)<|An (kR c143_79 rfl)<|An (kR c143_80 rfl)<|An (kR c143_82 rfl)<|An (kR c143_84 rfl)<|An (kR c143_85 rfl)<|An (kC c143_75 rfl)<|An (kS c143_67 rfl)<|An (kS c143_25 rfl)<|An (kS c143_17 rfl)<|An (kS c143_9 rfl)<|(kB c143_6 rfl)
def c144_1:AC:=.reg [] [(2,.cst (AV.int .i64 0))]
def c144_5:AC:=.reg [⟨none,.p1 (conv1 P 154 48) (.tmp 0)⟩,⟨none,.cl (cf 176) [.loc 0]⟩] [(2,.loc 0)]
def c144_9:AC:=.reg [⟨none,.cl (cf 177) [.tmp 0]⟩] [(2,.loc 0)]
def c144_2:AC:=.seq (.cond (.cst (AV.bool false)) (.seq c144_5 .ret) .skip) (.seq c144_9 .ret)
def fn144:FnA:=⟨(.seq c144_1 c144_2),[.tmp 2],8,true⟩
theorem f144A:fnA P (keepF P) 144=some fn144:=by kernel_rfl
def F144:=An (kR c144_1 rfl)<|An (kR c144_5 rfl)<|An (kR c144_9 rfl)<|(kS c144_2 rfl)
def c167_1:AC:=.reg [⟨none,.p2 (bin2 P .add 3) (.tmp 1) (.cst (AV.int .i64 1))⟩] [(6,.loc 0)]
def c167_6:AC:=.reg [⟨none,.p2 (bin2 P .lss 3) (.tmp 6) (.tmp 2)⟩] [(12,.loc 0)]
def c167_13:AC:=.reg [] [(7,.tmp 6)]
def c167_18g:List (Nat×GIns):=[(0,⟨none,.mv (.tmp 7)⟩),(1,⟨none,.mv (.tmp 1)⟩),(2,⟨none,.p2 (bin2 P .gtr 3) (.opi 0) (.opi 1)⟩),(3,⟨none,.mv (.opi 2)⟩),(4,⟨some (.opi 3,true),.mv (.tmp 0)⟩),(5,⟨some (.opi 3,true),.mv (.tmp 7)⟩),(6,⟨some (.opi 3,true),.p2 (indexAddr2 P 51) (.opi 4) (.opi 5)⟩),(7,⟨some (.opi 3,true),.ld1 (.opi 6)⟩),(8,⟨some (.opi 3,true),.mv (.tmp 0)⟩),(9,⟨some (.opi 3,true),.mv (.tmp 7)⟩),(10,⟨some (.opi 3,true),.p2 (bin2 P .sub 3) (.opi 9) (.cst (AV.int .i64 1))⟩),(11,⟨some (.opi 3,true),.p2 (indexAddr2 P 51) (.opi 8) (.opi 10)⟩),(12,⟨some (.opi 3,true),.ld1 (.opi 11)⟩),(13,⟨some (.opi 3,true),.cl (cf 173) [.opi 7,.opi 12]⟩),(14,⟨none,.pick (.opi 3) (.opi 13) (.cst (AV.bool false))⟩)]
def c167_18:AC:=.draw 15 (stagesOf #[0,0,3,7,15,15,63,127,15,15,527,1807,3855,8191,16383] c167_18g [13] 0 (c167_18g.filter fun x=>x.2.i.eff)) [(30,14)]
theorem r167_18:RReg c167_18 fun call tm h=>let g:=Heap.mk h.bs (h.next+15);B (tm.gt 7) (fun v0=>B (tm.gt 1) (fun v1=>B (bin2 P .gtr 3 v0 v1) (fun v2=>B (Wt? true v2 (tm.gt 0)) (fun v4=>B (Wt? true v2 (tm.gt 7)) (fun v5=>B (Wt? true v2 (indexAddr2 P 51 v4 v5)) (fun v6=>B (Wt? true v2 (load1 g v6)) (fun v7=>B (Wt? true v2 (tm.gt 0)) (fun v8=>B (Wt? true v2 (tm.gt 7)) (fun v9=>B (Wt? true v2 (bin2 P .sub 3 v9 (AV.int .i64 1))) (fun v10=>B (Wt? true v2 (indexAddr2 P 51 v8 v10)) (fun v11=>B (Wt? true v2 (load1 g v11)) (fun v12=>B (match wanted true v2 with | true=>(call (.fn 173) [v7,v12] g) | false=>some (undefA,g)) (fun r13=>B (eBool (fun t=>match t with | true=>some r13.1 | false=>some (AV.bool false)) v2) (fun v14=>some ((tm.up (some v14) 30),r13.2)) tg) tg) tg) tg) tg) tg) tg) tg) tg) tg) tg) tg) tg) tg:=kDrw rfl (by kernel_rfl)
def c167_24g:List (Nat×GIns):=[(0,⟨none,.mv (.tmp 0)⟩),(1,⟨none,.mv (.tmp 7)⟩),(2,⟨none,.mv (.tmp 0)⟩),(3,⟨none,.mv (.tmp 7)⟩),(4,⟨none,.p2 (bin2 P .sub 3) (.opi 3) (.cst (AV.int .i64 1))⟩),(5,⟨none,.mv (.tmp 0)⟩),(6,⟨none,.mv (.tmp 7)⟩),(7,⟨none,.p2 (bin2 P .sub 3) (.opi 6) (.cst (AV.int .i64 1))⟩),(8,⟨none,.p2 (indexAddr2 P 51) (.opi 5) (.opi 7)⟩),(9,⟨none,.ld1 (.opi 8)⟩),(10,⟨none,.mv (.tmp 0)⟩),(11,⟨none,.mv (.tmp 7)⟩),(12,⟨none,.p2 (indexAddr2 P 51) (.opi 10) (.opi 11)⟩),(13,⟨none,.ld1 (.opi 12)⟩),(14,⟨none,.p2 (indexAddr2 P 51) (.opi 0) (.opi 1)⟩),(15,⟨none,.st1 (.opi 14) (.opi 9)⟩),(16,⟨none,.p2 (indexAddr2 P 51) (.opi 2) (.opi 4)⟩),(17,⟨none,.st1 (.opi 16) (.opi 13)⟩)]
def c167_24:AC:=.draw 18 (stagesOf #[0,0,0,0,8,0,0,64,224,480,0,0,3072,7168,16355,32739,65535,131071] c167_24g [15,17] 0 (c167_24g.filter fun x=>x.2.i.eff)) []
theorem r167_24:RReg c167_24 fun call tm h=>let g:=Heap.mk h.bs (h.next+18);B (tm.gt 0) (fun v0=>B (tm.gt 7) (fun v1=>B (tm.gt 0) (fun v2=>B (tm.gt 7) (fun v3=>B (bin2 P .sub 3 v3 (AV.int .i64 1)) (fun v4=>B (tm.gt 0) (fun v5=>B (tm.gt 7) (fun v6=>B (bin2 P .sub 3 v6 (AV.int .i64 1)) (fun v7=>B (indexAddr2 P 51 v5 v7) (fun v8=>B (load1 g v8) (fun v9=>B (tm.gt 0) (fun v10=>B (tm.gt 7) (fun v11=>B (indexAddr2 P 51 v10 v11) (fun v12=>B (load1 g v12) (fun v13=>B (indexAddr2 P 51 v0 v1) (fun v14=>B (store1 g v14 v9) (fun r15=>B (indexAddr2 P 51 v2 v4) (fun v16=>B (store1 r15.2 v16 v13) (fun r17=>some (tm,r17.2)) tg) tg) tg) tg) tg) tg) tg) tg) tg) tg) tg) tg) tg) tg) tg) tg) tg) tg:=kDrw rfl (by kernel_rfl)
def c167_25:AC:=.reg [⟨none,.p2 (bin2 P .sub 3) (.tmp 7) (.cst (AV.int .i64 1))⟩] [(7,.loc 0)]
def c167_16:AC:=.seq (.seq c167_18 (.cond (.tmp 30) .skip (.exit 2))) (.seq (.block 3 c167_24) c167_25)
def c167_15:AC:=.loop c167_16
def c167_26:AC:=.reg [⟨none,.p2 (bin2 P .add 3) (.tmp 6) (.cst (AV.int .i64 1))⟩] [(6,.loc 0)]
def c167_4:AC:=.seq (.seq c167_6 (.cond (.tmp 12) .skip (.exit 0))) (.seq (.block 1 (.seq c167_13 (.block 2 c167_15))) c167_26)
def c167_3:AC:=.loop c167_4
def fn167:FnA:=⟨(.seq c167_1 (.block 0 c167_3)),[],49,true⟩
theorem f167A:fnA P (keepF P) 167=some fn167:=by kernel_rfl
def F167:=An (kR c167_1 rfl)<|An (kR c167_6 rfl)<|An (kR c167_13 rfl)<|An r167_18<|An r167_24<|An (kR c167_25 rfl)<|An (kS c167_16 rfl)<|An (kR c167_26 rfl)<|(kS c167_4 rfl)
def c168_1:AC:=.reg [] [(6,.tmp 1)]
def c168_3:AC:=.reg [] [(7,.cst (AV.int .i64 0))]
def c168_5:AC:=.reg [⟨none,.p2 (bin2 P .sub 3) (.tmp 2) (.tmp 1)⟩] [(8,.loc 0)]
def c168_8:AC:=.reg [⟨none,.p2 (bin2 P .sub 3) (.tmp 8) (.cst (AV.int .i64 1))⟩,⟨none,.p2 (bin2 P .quo 3) (.loc 0) (.cst (AV.int .i64 2))⟩] [(9,.loc 0)]
def c168_13:AC:=.reg [⟨none,.p2 (bin2 P .geq 3) (.tmp 9) (.cst (AV.int .i64 0))⟩] [(19,.loc 0)]
def c168_19:AC:=.reg [⟨none,.cl (cf 182) [.tmp 0,.tmp 9,.tmp 8,.tmp 6]⟩] []
def c168_20:AC:=.reg [⟨none,.p2 (bin2 P .sub 3) (.tmp 9) (.cst (AV.int .i64 1))⟩] [(9,.loc 0)]
def c168_11:AC:=.seq (.seq c168_13 (.cond (.tmp 19) .skip (.exit 0))) (.seq (.block 1 c168_19) c168_20)
def c168_10:AC:=.loop c168_11
def c168_22:AC:=.reg [⟨none,.p2 (bin2 P .sub 3) (.tmp 8) (.cst (AV.int .i64 1))⟩] [(10,.loc 0)]
def c168_27:AC:=.reg [⟨none,.p2 (bin2 P .geq 3) (.tmp 10) (.cst (AV.int .i64 0))⟩] [(30,.loc 0)]
def c168_34g:List (Nat×GIns):=[(0,⟨none,.mv (.tmp 0)⟩),(1,⟨none,.mv (.tmp 6)⟩),(2,⟨none,.mv (.tmp 0)⟩),(3,⟨none,.mv (.tmp 6)⟩),(4,⟨none,.mv (.tmp 10)⟩),(5,⟨none,.p2 (bin2 P .add 3) (.opi 3) (.opi 4)⟩),(6,⟨none,.mv (.tmp 0)⟩),(7,⟨none,.mv (.tmp 6)⟩),(8,⟨none,.mv (.tmp 10)⟩),(9,⟨none,.p2 (bin2 P .add 3) (.opi 7) (.opi 8)⟩),(10,⟨none,.p2 (indexAddr2 P 51) (.opi 6) (.opi 9)⟩),(11,⟨none,.ld1 (.opi 10)⟩),(12,⟨none,.mv (.tmp 0)⟩),(13,⟨none,.mv (.tmp 6)⟩),(14,⟨none,.p2 (indexAddr2 P 51) (.opi 12) (.opi 13)⟩),(15,⟨none,.ld1 (.opi 14)⟩),(16,⟨none,.p2 (indexAddr2 P 51) (.opi 0) (.opi 1)⟩),(17,⟨none,.st1 (.opi 16) (.opi 11)⟩),(18,⟨none,.p2 (indexAddr2 P 51) (.opi 2) (.opi 5)⟩),(19,⟨none,.st1 (.opi 18) (.opi 15)⟩)]
def c168_34:AC:=.draw 20 (stagesOf #[0,0,0,0,0,24,0,0,0,384,960,1984,0,0,12288,28672,65475,131011,262143,524287] c168_34g [17,19] 0 (c168_34g.filter fun x=>x.2.i.eff)) []
theorem r168_34:RReg c168_34 fun call tm h=>let g:=Heap.mk h.bs (h.next+20);B (tm.gt 0) (fun v0=>B (tm.gt 6) (fun v1=>B (tm.gt 0) (fun v2=>B (tm.gt 6) (fun v3=>B (tm.gt 10) (fun v4=>B (bin2 P .add 3 v3 v4) (fun v5=>B (tm.gt 0) (fun v6=>B (tm.gt 6) (fun v7=>B (tm.gt 10) (fun v8=>B (bin2 P .add 3 v7 v8) (fun v9=>B (indexAddr2 P 51 v6 v9) (fun v10=>B (load1 g v10) (fun v11=>B (tm.gt 0) (fun v12=>B (tm.gt 6) (fun v13=>B (indexAddr2 P 51 v12 v13) (fun v14=>B (load1 g v14) (fun v15=>B (indexAddr2 P 51 v0 v1) (fun v16=>B (store1 g v16 v11) (fun r17=>B (indexAddr2 P 51 v2 v5) (fun v18=>B (store1 r17.2 v18 v15) (fun r19=>some (tm,r19.2)) tg) tg) tg) tg) tg) tg) tg) tg) tg) tg) tg) tg) tg) tg) tg) tg) tg) tg) tg) tg:=kDrw rfl (by kernel_rfl)
def c168_35:AC:=.reg [⟨none,.cl (cf 182) [.tmp 0,.tmp 7,.tmp 10,.tmp 6]⟩] []
def c168_36:AC:=.reg [⟨none,.p2 (bin2 P .sub 3) (.tmp 10) (.cst (AV.int .i64 1))⟩] [(10,.loc 0)]
def c168_25:AC:=.seq (.seq c168_27 (.cond (.tmp 30) .skip (.exit 2))) (.seq (.block 3 (.seq c168_34 c168_35)) c168_36)
def c168_24:AC:=.loop c168_25
def c168_6:AC:=.seq (.seq c168_8 (.block 0 c168_10)) (.seq c168_22 (.block 2 c168_24))
def fn168:FnA:=⟨(.seq c168_1 (.seq c168_3 (.seq c168_5 c168_6))),[],56,true⟩
theorem f168A:fnA P (keepF P) 168=some fn168:=by kernel_rfl
def F168:=An (kR c168_1 rfl)<|An (kR c168_3 rfl)<|An (kR c168_5 rfl)<|An (kR c168_8 rfl)<|An (kR c168_13 rfl)<|An (kR c168_19 rfl)<|An (kR c168_20 rfl)<|An (kS c168_11 rfl)<|An (kR c168_22 rfl)<|An (kR c168_27 rfl)<|An r168_34<|An (kR c168_35 rfl)<|An (kR c168_36 rfl)<|An (kS c168_25 rfl)<|(kS c168_6 rfl)
def c169_1:AC:=.reg [⟨none,.p2 (bin2 P .sub 3) (.tmp 2) (.tmp 1)⟩] [(6,.loc 0)]
def c169_3:AC:=.reg [⟨none,.p2 (bin2 P .geq 3) (.tmp 6) (.cst (AV.int .i64 8))⟩] [(15,.loc 0)]
def c169_6:AC:=.reg [⟨none,.p1 (conv1 P 3 257) (.tmp 6)⟩,⟨none,.al (fun (_:List AV)=>allocN P 257) []⟩,⟨none,.st1 (.loc 0) (.loc 1)⟩] [(7,.loc 1)]
def c169_8:AC:=.reg [⟨none,.cl (cf 183) [.tmp 6]⟩] [(8,.loc 0)]
def c169_10:AC:=.reg [⟨none,.p2 (bin2 P .quo 3) (.tmp 6) (.cst (AV.int .i64 4))⟩,⟨none,.p2 (bin2 P .mul 3) (.loc 0) (.cst (AV.int .i64 2))⟩,⟨none,.p2 (bin2 P .add 3) (.tmp 1) (.loc 0)⟩,⟨none,.p2 (bin2 P .sub 3) (.loc 0) (.cst (AV.int .i64 1))⟩] [(9,.loc 0)]
def c169_15:AC:=.reg [⟨none,.p2 (bin2 P .quo 3) (.tmp 6) (.cst (AV.int .i64 4))⟩,⟨none,.p2 (bin2 P .mul 3) (.loc 0) (.cst (AV.int .i64 2))⟩,⟨none,.p2 (bin2 P .add 3) (.tmp 1) (.loc 0)⟩,⟨none,.p2 (bin2 P .add 3) (.loc 0) (.cst (AV.int .i64 1))⟩,⟨none,.p2 (bin2 P .leq 3) (.tmp 9) (.loc 0)⟩] [(33,.loc 0)]
def c169_22:AC:=.reg [⟨none,.cl (cf 184) [.tmp 7]⟩,⟨none,.p2 (bin2 P .sub 154) (.tmp 8) (.cst (AV.int .u64 1))⟩,⟨none,.p2 (bin2 P .and 154) (.loc 1) (.loc 0)⟩,⟨none,.p1 (conv1 P 154 3) (.loc 0)⟩] [(10,.loc 0)]
def c169_25:AC:=.reg [⟨none,.p2 (bin2 P .geq 3) (.tmp 10) (.tmp 6)⟩] [(43,.loc 0)]
def c169_27:AC:=.reg [⟨none,.p2 (bin2 P .sub 3) (.tmp 10) (.tmp 6)⟩] [(10,.loc 0)]
def c169_29g:List (Nat×GIns):=[(0,⟨none,.mv (.tmp 0)⟩),(1,⟨none,.mv (.tmp 9)⟩),(2,⟨none,.mv (.tmp 0)⟩),(3,⟨none,.mv (.tmp 1)⟩),(4,⟨none,.mv (.tmp 10)⟩),(5,⟨none,.p2 (bin2 P .add 3) (.opi 3) (.opi 4)⟩),(6,⟨none,.mv (.tmp 0)⟩),(7,⟨none,.mv (.tmp 1)⟩),(8,⟨none,.mv (.tmp 10)⟩),(9,⟨none,.p2 (bin2 P .add 3) (.opi 7) (.opi 8)⟩),(10,⟨none,.p2 (indexAddr2 P 51) (.opi 6) (.opi 9)⟩),(11,⟨none,.ld1 (.opi 10)⟩),(12,⟨none,.mv (.tmp 0)⟩),(13,⟨none,.mv (.tmp 9)⟩),(14,⟨none,.p2 (indexAddr2 P 51) (.opi 12) (.opi 13)⟩),(15,⟨none,.ld1 (.opi 14)⟩),(16,⟨none,.p2 (indexAddr2 P 51) (.opi 0) (.opi 1)⟩),(17,⟨none,.st1 (.opi 16) (.opi 11)⟩),(18,⟨none,.p2 (indexAddr2 P 51) (.opi 2) (.opi 5)⟩),(19,⟨none,.st1 (.opi 18) (.opi 15)⟩)]
def c169_29:AC:=.draw 20 (stagesOf #[0,0,0,0,0,24,0,0,0,384,960,1984,0,0,12288,28672,65475,131011,262143,524287] c169_29g [17,19] 0 (c169_29g.filter fun x=>x.2.i.eff)) []
theorem r169_29:RReg c169_29 fun call tm h=>let g:=Heap.mk h.bs (h.next+20);B (tm.gt 0) (fun v0=>B (tm.gt 9) (fun v1=>B (tm.gt 0) (fun v2=>B (tm.gt 1) (fun v3=>B (tm.gt 10) (fun v4=>B (bin2 P .add 3 v3 v4) (fun v5=>B (tm.gt 0) (fun v6=>B (tm.gt 1) (fun v7=>B (tm.gt 10) (fun v8=>B (bin2 P .add 3 v7 v8) (fun v9=>B (indexAddr2 P 51 v6 v9) (fun v10=>B (load1 g v10) (fun v11=>B (tm.gt 0) (fun v12=>B (tm.gt 9) (fun v13=>B (indexAddr2 P 51 v12 v13) (fun v14=>B (load1 g v14) (fun v15=>B (indexAddr2 P 51 v0 v1) (fun v16=>B (store1 g v16 v11) (fun r17=>B (indexAddr2 P 51 v2 v5) (fun v18=>B (store1 r17.2 v18 v15) (fun r19=>some (tm,r19.2)) tg) tg) tg) tg) tg) tg) tg) tg) tg) tg) tg) tg) tg) tg) tg) tg) tg) tg) tg) tg:=kDrw rfl (by kernel_rfl)
def c169_21:AC:=.seq c169_22 (.seq (.seq c169_25 (.cond (.tmp 43) c169_27 .skip)) c169_29)
def c169_30:AC:=.reg [⟨none,.p2 (bin2 P .add 3) (.tmp 9) (.cst (AV.int .i64 1))⟩] [(9,.loc 0)]
def c169_13:AC:=.seq (.seq c169_15 (.cond (.tmp 33) .skip (.exit 0))) (.seq (.block 1 c169_21) c169_30)
def c169_12:AC:=.loop c169_13
def c169_4:AC:=.cond (.tmp 15) (.seq c169_6 (.seq c169_8 (.seq c169_10 (.block 0 c169_12)))) .skip
def fn169:FnA:=⟨(.seq c169_1 (.seq c169_3 c169_4)),[],65,true⟩
theorem f169A:fnA P (keepF P) 169=some fn169:=by kernel_rfl
def F169:=An (kR c169_1 rfl)<|An (kR c169_3 rfl)<|An (kR c169_6 rfl)<|An (kR c169_8 rfl)<|An (kR c169_10 rfl)<|An (kR c169_15 rfl)<|An (kR c169_22 rfl)<|An (kR c169_25 rfl)<|An (kR c169_27 rfl)<|An (kS c169_21 rfl)<|An (kR c169_30 rfl)<|An (kS c169_13 rfl)<|(kC c169_4 rfl)
def c170_1:AC:=.reg [] [(7,.cst (AV.int .i64 0)),(6,.cst (AV.int .i64 0))]
def c170_3:AC:=.reg [⟨none,.p2 (bin2 P .sub 3) (.tmp 2) (.tmp 1)⟩] [(8,.loc 0)]
def c170_5:AC:=.reg [⟨none,.al (fun (_:List AV)=>allocN P 3) []⟩] [(9,.loc 0)]
def c170_7:AC:=.reg [⟨none,.p2 (bin2 P .quo 3) (.tmp 8) (.cst (AV.int .i64 4))⟩,⟨none,.p2 (bin2 P .mul 3) (.loc 0) (.cst (AV.int .i64 1))⟩,⟨none,.p2 (bin2 P .add 3) (.tmp 1) (.loc 0)⟩] [(10,.loc 0)]
def c170_9:AC:=.reg [⟨none,.p2 (bin2 P .quo 3) (.tmp 8) (.cst (AV.int .i64 4))⟩,⟨none,.p2 (bin2 P .mul 3) (.loc 0) (.cst (AV.int .i64 2))⟩,⟨none,.p2 (bin2 P .add 3) (.tmp 1) (.loc 0)⟩] [(11,.loc 0)]
def c170_11:AC:=.reg [⟨none,.p2 (bin2 P .quo 3) (.tmp 8) (.cst (AV.int .i64 4))⟩,⟨none,.p2 (bin2 P .mul 3) (.loc 0) (.cst (AV.int .i64 3))⟩,⟨none,.p2 (bin2 P .add 3) (.tmp 1) (.loc 0)⟩] [(12,.loc 0)]
def c170_14:AC:=.reg [⟨none,.p2 (bin2 P .geq 3) (.tmp 8) (.cst (AV.int .i64 8))⟩] [(32,.loc 0)]
def c170_18:AC:=.reg [⟨none,.p2 (bin2 P .geq 3) (.tmp 8) (.cst (AV.int .i64 50))⟩] [(34,.loc 0)]
def c170_21:AC:=.reg [⟨none,.cl (cf 185) [.tmp 0,.tmp 10,.tmp 9]⟩] [(10,.loc 0)]
def c170_23:AC:=.reg [⟨none,.cl (cf 185) [.tmp 0,.tmp 11,.tmp 9]⟩] [(11,.loc 0)]
def c170_24:AC:=.reg [⟨none,.cl (cf 185) [.tmp 0,.tmp 12,.tmp 9]⟩] [(12,.loc 0)]
def c170_17:AC:=.seq c170_18 (.cond (.tmp 34) (.seq c170_21 (.seq c170_23 c170_24)) .skip)
def c170_26:AC:=.reg [⟨none,.cl (cf 186) [.tmp 0,.tmp 10,.tmp 11,.tmp 12,.tmp 9]⟩] [(11,.loc 0)]
def c170_29:AC:=.reg [⟨none,.ld1 (.tmp 9)⟩] [(49,.loc 0)]
def c170_32:AC:=.reg [⟨none,.p2 (bin2 P .eql 3) (.tmp 49) (.cst (AV.int .i64 0))⟩] [(51,.loc 0)]
def c170_35:AC:=.reg [] [(7,.cst (AV.int .i64 1)),(6,.tmp 11)]
def c170_38:AC:=.reg [⟨none,.p2 (bin2 P .eql 3) (.tmp 49) (.cst (AV.int .i64 12))⟩] [(54,.loc 0)]
def c170_41:AC:=.reg [] [(7,.cst (AV.int .i64 2)),(6,.tmp 11)]
def c170_44:AC:=.reg [] [(7,.cst (AV.int .i64 0)),(6,.tmp 11)]
def c170_37:AC:=.seq c170_38 (.cond (.tmp 54) (.seq c170_41 .ret) (.seq c170_44 .ret))
def c170_30:AC:=.block 0 (.seq c170_32 (.cond (.tmp 51) (.seq c170_35 .ret) c170_37))
def c170_28:AC:=.seq c170_29 c170_30
def c170_12:AC:=.seq (.seq c170_14 (.cond (.tmp 32) (.seq c170_17 c170_26) .skip)) c170_28
def c170_4:AC:=.seq c170_5 (.seq c170_7 (.seq c170_9 (.seq c170_11 c170_12)))
theorem r170_28:type_of% (kS c170_28 rfl):=(kS c170_28 rfl)
def fn170:FnA:=⟨(.seq c170_1 (.seq c170_3 c170_4)),[.tmp 6,.tmp 7],57,true⟩
theorem f170A:fnA P (keepF P) 170=some fn170:=by kernel_rfl
def F170:=An (kR c170_1 rfl)<|An (kR c170_3 rfl)<|An (kR c170_5 rfl)<|An (kR c170_7 rfl)<|An (kR c170_9 rfl)<|An (kR c170_11 rfl)<|An (kR c170_14 rfl)<|An (kR c170_18 rfl)<|An (kR c170_21 rfl)<|An (kR c170_23 rfl)<|An (kR c170_24 rfl)<|An (kS c170_17 rfl)<|An (kR c170_26 rfl)<|An (kR c170_29 rfl)<|An (kR c170_32 rfl)<|An (kR c170_35 rfl)<|An (kR c170_38 rfl)<|An (kR c170_41 rfl)<|An (kR c170_44 rfl)<|An (kS c170_37 rfl)<|An (kB c170_30 rfl)<|An (kS c170_12 rfl)<|(kS c170_4 rfl)
def c171_1:AC:=.reg [] [(6,.tmp 1)]
def c171_3:AC:=.reg [⟨none,.p2 (bin2 P .sub 3) (.tmp 2) (.cst (AV.int .i64 1))⟩] [(7,.loc 0)]
def c171_8:AC:=.reg [⟨none,.p2 (bin2 P .lss 3) (.tmp 6) (.tmp 7)⟩] [(13,.loc 0)]
def c171_14g:List (Nat×GIns):=[(0,⟨none,.mv (.tmp 0)⟩),(1,⟨none,.mv (.tmp 6)⟩),(2,⟨none,.mv (.tmp 0)⟩),(3,⟨none,.mv (.tmp 7)⟩),(4,⟨none,.mv (.tmp 0)⟩),(5,⟨none,.mv (.tmp 7)⟩),(6,⟨none,.p2 (indexAddr2 P 51) (.opi 4) (.opi 5)⟩),(7,⟨none,.ld1 (.opi 6)⟩),(8,⟨none,.mv (.tmp 0)⟩),(9,⟨none,.mv (.tmp 6)⟩),(10,⟨none,.p2 (indexAddr2 P 51) (.opi 8) (.opi 9)⟩),(11,⟨none,.ld1 (.opi 10)⟩),(12,⟨none,.p2 (indexAddr2 P 51) (.opi 0) (.opi 1)⟩),(13,⟨none,.st1 (.opi 12) (.opi 7)⟩),(14,⟨none,.p2 (indexAddr2 P 51) (.opi 2) (.opi 3)⟩),(15,⟨none,.st1 (.opi 14) (.opi 11)⟩)]
def c171_14:AC:=.draw 16 (stagesOf #[0,0,0,0,0,0,48,112,0,0,768,1792,4083,8179,16383,32767] c171_14g [13,15] 0 (c171_14g.filter fun x=>x.2.i.eff)) []
theorem r171_14:RReg c171_14 fun call tm h=>let g:=Heap.mk h.bs (h.next+16);B (tm.gt 0) (fun v0=>B (tm.gt 6) (fun v1=>B (tm.gt 0) (fun v2=>B (tm.gt 7) (fun v3=>B (tm.gt 0) (fun v4=>B (tm.gt 7) (fun v5=>B (indexAddr2 P 51 v4 v5) (fun v6=>B (load1 g v6) (fun v7=>B (tm.gt 0) (fun v8=>B (tm.gt 6) (fun v9=>B (indexAddr2 P 51 v8 v9) (fun v10=>B (load1 g v10) (fun v11=>B (indexAddr2 P 51 v0 v1) (fun v12=>B (store1 g v12 v7) (fun r13=>B (indexAddr2 P 51 v2 v3) (fun v14=>B (store1 r13.2 v14 v11) (fun r15=>some (tm,r15.2)) tg) tg) tg) tg) tg) tg) tg) tg) tg) tg) tg) tg) tg) tg) tg) tg:=kDrw rfl (by kernel_rfl)
def c171_16:AC:=.reg [⟨none,.p2 (bin2 P .add 3) (.tmp 6) (.cst (AV.int .i64 1))⟩] [(6,.loc 0)]
def c171_17:AC:=.reg [⟨none,.p2 (bin2 P .sub 3) (.tmp 7) (.cst (AV.int .i64 1))⟩] [(7,.loc 0)]
def c171_6:AC:=.seq (.seq c171_8 (.cond (.tmp 13) .skip (.exit 0))) (.block 1 (.seq c171_14 (.seq c171_16 c171_17)))
def c171_5:AC:=.loop c171_6
def fn171:FnA:=⟨(.seq c171_1 (.seq c171_3 (.block 0 c171_5))),[],32,true⟩
theorem f171A:fnA P (keepF P) 171=some fn171:=by kernel_rfl
def F171:=An (kR c171_1 rfl)<|An (kR c171_3 rfl)<|An (kR c171_8 rfl)<|An r171_14<|An (kR c171_16 rfl)<|An (kR c171_17 rfl)<|(kS c171_6 rfl)
def c172_1:AC:=.reg [] [(6,.cst (AV.bool false))]
def c172_3:AC:=.reg [⟨none,.p2 (bin2 P .add 3) (.tmp 1) (.cst (AV.int .i64 1))⟩] [(7,.loc 0)]
def c172_6:AC:=.reg [] [(8,.cst (AV.int .i64 0))]
def c172_11:AC:=.reg [⟨none,.p2 (bin2 P .lss 3) (.tmp 8) (.cst (AV.int .i64 5))⟩] [(14,.loc 0)]
def c172_22g:List (Nat×GIns):=[(0,⟨none,.mv (.tmp 7)⟩),(1,⟨none,.mv (.tmp 2)⟩),(2,⟨none,.p2 (bin2 P .lss 3) (.opi 0) (.opi 1)⟩),(3,⟨none,.mv (.opi 2)⟩),(4,⟨some (.opi 3,true),.mv (.tmp 0)⟩),(5,⟨some (.opi 3,true),.mv (.tmp 7)⟩),(6,⟨some (.opi 3,true),.p2 (indexAddr2 P 51) (.opi 4) (.opi 5)⟩),(7,⟨some (.opi 3,true),.ld1 (.opi 6)⟩),(8,⟨some (.opi 3,true),.mv (.tmp 0)⟩),(9,⟨some (.opi 3,true),.mv (.tmp 7)⟩),(10,⟨some (.opi 3,true),.p2 (bin2 P .sub 3) (.opi 9) (.cst (AV.int .i64 1))⟩),(11,⟨some (.opi 3,true),.p2 (indexAddr2 P 51) (.opi 8) (.opi 10)⟩),(12,⟨some (.opi 3,true),.ld1 (.opi 11)⟩),(13,⟨some (.opi 3,true),.cl (cf 173) [.opi 7,.opi 12]⟩),(14,⟨some (.opi 3,true),.p1 (un1 .not) (.opi 13)⟩),(15,⟨none,.pick (.opi 3) (.opi 14) (.cst (AV.bool false))⟩)]
def c172_22:AC:=.draw 16 (stagesOf #[0,0,3,7,15,15,63,127,15,15,527,1807,3855,8191,16383,32767] c172_22g [13] 0 (c172_22g.filter fun x=>x.2.i.eff)) [(32,15)]
theorem r172_22:RReg c172_22 fun call tm h=>let g:=Heap.mk h.bs (h.next+16);B (tm.gt 7) (fun v0=>B (tm.gt 2) (fun v1=>B (bin2 P .lss 3 v0 v1) (fun v2=>B (Wt? true v2 (tm.gt 0)) (fun v4=>B (Wt? true v2 (tm.gt 7)) (fun v5=>B (Wt? true v2 (indexAddr2 P 51 v4 v5)) (fun v6=>B (Wt? true v2 (load1 g v6)) (fun v7=>B (Wt? true v2 (tm.gt 0)) (fun v8=>B (Wt? true v2 (tm.gt 7)) (fun v9=>B (Wt? true v2 (bin2 P .sub 3 v9 (AV.int .i64 1))) (fun v10=>B (Wt? true v2 (indexAddr2 P 51 v8 v10)) (fun v11=>B (Wt? true v2 (load1 g v11)) (fun v12=>B (match wanted true v2 with | true=>(call (.fn 173) [v7,v12] g) | false=>some (undefA,g)) (fun r13=>B (Wt? true v2 (un1 .not r13.1)) (fun v14=>B (eBool (fun t=>match t with | true=>some v14 | false=>some (AV.bool false)) v2) (fun v15=>some ((tm.up (some v15) 32),r13.2)) tg) tg) tg) tg) tg) tg) tg) tg) tg) tg) tg) tg) tg) tg) tg:=kDrw rfl (by kernel_rfl)
def c172_27:AC:=.reg [⟨none,.p2 (bin2 P .add 3) (.tmp 7) (.cst (AV.int .i64 1))⟩] [(7,.loc 0)]
def c172_20:AC:=.seq (.seq c172_22 (.cond (.tmp 32) .skip (.exit 2))) (.block 3 c172_27)
def c172_19:AC:=.loop c172_20
def c172_30:AC:=.reg [⟨none,.p2 (bin2 P .eql 3) (.tmp 7) (.tmp 2)⟩] [(37,.loc 0)]
def c172_33:AC:=.reg [] [(6,.cst (AV.bool true))]
def c172_38:AC:=.reg [⟨none,.p2 (bin2 P .sub 3) (.tmp 2) (.tmp 1)⟩,⟨none,.p2 (bin2 P .lss 3) (.loc 0) (.cst (AV.int .i64 50))⟩] [(41,.loc 0)]
def c172_41:AC:=.reg [] [(6,.cst (AV.bool false))]
def c172_45g:List (Nat×GIns):=[(0,⟨none,.mv (.tmp 0)⟩),(1,⟨none,.mv (.tmp 7)⟩),(2,⟨none,.mv (.tmp 0)⟩),(3,⟨none,.mv (.tmp 7)⟩),(4,⟨none,.p2 (bin2 P .sub 3) (.opi 3) (.cst (AV.int .i64 1))⟩),(5,⟨none,.mv (.tmp 0)⟩),(6,⟨none,.mv (.tmp 7)⟩),(7,⟨none,.p2 (bin2 P .sub 3) (.opi 6) (.cst (AV.int .i64 1))⟩),(8,⟨none,.p2 (indexAddr2 P 51) (.opi 5) (.opi 7)⟩),(9,⟨none,.ld1 (.opi 8)⟩),(10,⟨none,.mv (.tmp 0)⟩),(11,⟨none,.mv (.tmp 7)⟩),(12,⟨none,.p2 (indexAddr2 P 51) (.opi 10) (.opi 11)⟩),(13,⟨none,.ld1 (.opi 12)⟩),(14,⟨none,.p2 (indexAddr2 P 51) (.opi 0) (.opi 1)⟩),(15,⟨none,.st1 (.opi 14) (.opi 9)⟩),(16,⟨none,.p2 (indexAddr2 P 51) (.opi 2) (.opi 4)⟩),(17,⟨none,.st1 (.opi 16) (.opi 13)⟩)]
def c172_45:AC:=.draw 18 (stagesOf #[0,0,0,0,8,0,0,64,224,480,0,0,3072,7168,16355,32739,65535,131071] c172_45g [15,17] 0 (c172_45g.filter fun x=>x.2.i.eff)) []
theorem r172_45:RReg c172_45 fun call tm h=>let g:=Heap.mk h.bs (h.next+18);B (tm.gt 0) (fun v0=>B (tm.gt 7) (fun v1=>B (tm.gt 0) (fun v2=>B (tm.gt 7) (fun v3=>B (bin2 P .sub 3 v3 (AV.int .i64 1)) (fun v4=>B (tm.gt 0) (fun v5=>B (tm.gt 7) (fun v6=>B (bin2 P .sub 3 v6 (AV.int .i64 1)) (fun v7=>B (indexAddr2 P 51 v5 v7) (fun v8=>B (load1 g v8) (fun v9=>B (tm.gt 0) (fun v10=>B (tm.gt 7) (fun v11=>B (indexAddr2 P 51 v10 v11) (fun v12=>B (load1 g v12) (fun v13=>B (indexAddr2 P 51 v0 v1) (fun v14=>B (store1 g v14 v9) (fun r15=>B (indexAddr2 P 51 v2 v4) (fun v16=>B (store1 r15.2 v16 v13) (fun r17=>some (tm,r17.2)) tg) tg) tg) tg) tg) tg) tg) tg) tg) tg) tg) tg) tg) tg) tg) tg) tg) tg:=kDrw rfl (by kernel_rfl)
def c172_48:AC:=.reg [⟨none,.p2 (bin2 P .sub 3) (.tmp 7) (.tmp 1)⟩,⟨none,.p2 (bin2 P .geq 3) (.loc 0) (.cst (AV.int .i64 2))⟩] [(61,.loc 0)]
def c172_51:AC:=.reg [⟨none,.p2 (bin2 P .sub 3) (.tmp 7) (.cst (AV.int .i64 1))⟩] [(9,.loc 0)]
def c172_56:AC:=.reg [⟨none,.p2 (bin2 P .geq 3) (.tmp 9) (.cst (AV.int .i64 1))⟩] [(65,.loc 0)]
def c172_64g:List (Nat×GIns):=[(0,⟨none,.mv (.tmp 0)⟩),(1,⟨none,.mv (.tmp 9)⟩),(2,⟨none,.p2 (indexAddr2 P 51) (.opi 0) (.opi 1)⟩),(3,⟨none,.ld1 (.opi 2)⟩),(4,⟨none,.mv (.tmp 0)⟩),(5,⟨none,.mv (.tmp 9)⟩),(6,⟨none,.p2 (bin2 P .sub 3) (.opi 5) (.cst (AV.int .i64 1))⟩),(7,⟨none,.p2 (indexAddr2 P 51) (.opi 4) (.opi 6)⟩),(8,⟨none,.ld1 (.opi 7)⟩),(9,⟨none,.cl (cf 173) [.opi 3,.opi 8]⟩),(10,⟨none,.p1 (un1 .not) (.opi 9)⟩)]
def c172_64:AC:=.draw 11 (stagesOf #[0,0,3,7,0,0,32,112,240,511,1023] c172_64g [9] 0 (c172_64g.filter fun x=>x.2.i.eff)) [(78,10)]
theorem r172_64:RReg c172_64 fun call tm h=>let g:=Heap.mk h.bs (h.next+11);B (tm.gt 0) (fun v0=>B (tm.gt 9) (fun v1=>B (indexAddr2 P 51 v0 v1) (fun v2=>B (load1 g v2) (fun v3=>B (tm.gt 0) (fun v4=>B (tm.gt 9) (fun v5=>B (bin2 P .sub 3 v5 (AV.int .i64 1)) (fun v6=>B (indexAddr2 P 51 v4 v6) (fun v7=>B (load1 g v7) (fun v8=>B (call (.fn 173) [v3,v8] g) (fun r9=>B (un1 .not r9.1) (fun v10=>some ((tm.up (some v10) 78),r9.2)) tg) tg) tg) tg) tg) tg) tg) tg) tg) tg) tg:=kDrw rfl (by kernel_rfl)
def c172_68g:List (Nat×GIns):=[(0,⟨none,.mv (.tmp 0)⟩),(1,⟨none,.mv (.tmp 9)⟩),(2,⟨none,.mv (.tmp 0)⟩),(3,⟨none,.mv (.tmp 9)⟩),(4,⟨none,.p2 (bin2 P .sub 3) (.opi 3) (.cst (AV.int .i64 1))⟩),(5,⟨none,.mv (.tmp 0)⟩),(6,⟨none,.mv (.tmp 9)⟩),(7,⟨none,.p2 (bin2 P .sub 3) (.opi 6) (.cst (AV.int .i64 1))⟩),(8,⟨none,.p2 (indexAddr2 P 51) (.opi 5) (.opi 7)⟩),(9,⟨none,.ld1 (.opi 8)⟩),(10,⟨none,.mv (.tmp 0)⟩),(11,⟨none,.mv (.tmp 9)⟩),(12,⟨none,.p2 (indexAddr2 P 51) (.opi 10) (.opi 11)⟩),(13,⟨none,.ld1 (.opi 12)⟩),(14,⟨none,.p2 (indexAddr2 P 51) (.opi 0) (.opi 1)⟩),(15,⟨none,.st1 (.opi 14) (.opi 9)⟩),(16,⟨none,.p2 (indexAddr2 P 51) (.opi 2) (.opi 4)⟩),(17,⟨none,.st1 (.opi 16) (.opi 13)⟩)]
def c172_68:AC:=.draw 18 (stagesOf #[0,0,0,0,8,0,0,64,224,480,0,0,3072,7168,16355,32739,65535,131071] c172_68g [15,17] 0 (c172_68g.filter fun x=>x.2.i.eff)) []
theorem r172_68:RReg c172_68 fun call tm h=>let g:=Heap.mk h.bs (h.next+18);B (tm.gt 0) (fun v0=>B (tm.gt 9) (fun v1=>B (tm.gt 0) (fun v2=>B (tm.gt 9) (fun v3=>B (bin2 P .sub 3 v3 (AV.int .i64 1)) (fun v4=>B (tm.gt 0) (fun v5=>B (tm.gt 9) (fun v6=>B (bin2 P .sub 3 v6 (AV.int .i64 1)) (fun v7=>B (indexAddr2 P 51 v5 v7) (fun v8=>B (load1 g v8) (fun v9=>B (tm.gt 0) (fun v10=>B (tm.gt 9) (fun v11=>B (indexAddr2 P 51 v10 v11) (fun v12=>B (load1 g v12) (fun v13=>B (indexAddr2 P 51 v0 v1) (fun v14=>B (store1 g v14 v9) (fun r15=>B (indexAddr2 P 51 v2 v4) (fun v16=>B (store1 r15.2 v16 v13) (fun r17=>some (tm,r17.2)) tg) tg) tg) tg) tg) tg) tg) tg) tg) tg) tg) tg) tg) tg) tg) tg) tg) tg:=kDrw rfl (by kernel_rfl)
def c172_62:AC:=.seq (.seq c172_64 (.cond (.tmp 78) (.exit 4) .skip)) c172_68
def c172_69:AC:=.reg [⟨none,.p2 (bin2 P .sub 3) (.tmp 9) (.cst (AV.int .i64 1))⟩] [(9,.loc 0)]
def c172_54:AC:=.seq (.seq c172_56 (.cond (.tmp 65) .skip (.exit 4))) (.seq (.block 5 c172_62) c172_69)
def c172_53:AC:=.loop c172_54
def c172_47:AC:=.seq c172_48 (.cond (.tmp 61) (.seq c172_51 (.block 4 c172_53)) .skip)
def c172_72:AC:=.reg [⟨none,.p2 (bin2 P .sub 3) (.tmp 2) (.tmp 7)⟩,⟨none,.p2 (bin2 P .geq 3) (.loc 0) (.cst (AV.int .i64 2))⟩] [(98,.loc 0)]
def c172_75:AC:=.reg [⟨none,.p2 (bin2 P .add 3) (.tmp 7) (.cst (AV.int .i64 1))⟩] [(10,.loc 0)]
def c172_80:AC:=.reg [⟨none,.p2 (bin2 P .lss 3) (.tmp 10) (.tmp 2)⟩] [(103,.loc 0)]
def c172_88g:List (Nat×GIns):=[(0,⟨none,.mv (.tmp 0)⟩),(1,⟨none,.mv (.tmp 10)⟩),(2,⟨none,.p2 (indexAddr2 P 51) (.opi 0) (.opi 1)⟩),(3,⟨none,.ld1 (.opi 2)⟩),(4,⟨none,.mv (.tmp 0)⟩),(5,⟨none,.mv (.tmp 10)⟩),(6,⟨none,.p2 (bin2 P .sub 3) (.opi 5) (.cst (AV.int .i64 1))⟩),(7,⟨none,.p2 (indexAddr2 P 51) (.opi 4) (.opi 6)⟩),(8,⟨none,.ld1 (.opi 7)⟩),(9,⟨none,.cl (cf 173) [.opi 3,.opi 8]⟩),(10,⟨none,.p1 (un1 .not) (.opi 9)⟩)]
def c172_88:AC:=.draw 11 (stagesOf #[0,0,3,7,0,0,32,112,240,511,1023] c172_88g [9] 0 (c172_88g.filter fun x=>x.2.i.eff)) [(116,10)]
theorem r172_88:RReg c172_88 fun call tm h=>let g:=Heap.mk h.bs (h.next+11);B (tm.gt 0) (fun v0=>B (tm.gt 10) (fun v1=>B (indexAddr2 P 51 v0 v1) (fun v2=>B (load1 g v2) (fun v3=>B (tm.gt 0) (fun v4=>B (tm.gt 10) (fun v5=>B (bin2 P .sub 3 v5 (AV.int .i64 1)) (fun v6=>B (indexAddr2 P 51 v4 v6) (fun v7=>B (load1 g v7) (fun v8=>B (call (.fn 173) [v3,v8] g) (fun r9=>B (un1 .not r9.1) (fun v10=>some ((tm.up (some v10) 116),r9.2)) tg) tg) tg) tg) tg) tg) tg) tg) tg) tg) tg:=kDrw rfl (by kernel_rfl)
def c172_92g:List (Nat×GIns):=[(0,⟨none,.mv (.tmp 0)⟩),(1,⟨none,.mv (.tmp 10)⟩),(2,⟨none,.mv (.tmp 0)⟩),(3,⟨none,.mv (.tmp 10)⟩),(4,⟨none,.p2 (bin2 P .sub 3) (.opi 3) (.cst (AV.int .i64 1))⟩),(5,⟨none,.mv (.tmp 0)⟩),(6,⟨none,.mv (.tmp 10)⟩),(7,⟨none,.p2 (bin2 P .sub 3) (.opi 6) (.cst (AV.int .i64 1))⟩),(8,⟨none,.p2 (indexAddr2 P 51) (.opi 5) (.opi 7)⟩),(9,⟨none,.ld1 (.opi 8)⟩),(10,⟨none,.mv (.tmp 0)⟩),(11,⟨none,.mv (.tmp 10)⟩),(12,⟨none,.p2 (indexAddr2 P 51) (.opi 10) (.opi 11)⟩),(13,⟨none,.ld1 (.opi 12)⟩),(14,⟨none,.p2 (indexAddr2 P 51) (.opi 0) (.opi 1)⟩),(15,⟨none,.st1 (.opi 14) (.opi 9)⟩),(16,⟨none,.p2 (indexAddr2 P 51) (.opi 2) (.opi 4)⟩),(17,⟨none,.st1 (.opi 16) (.opi 13)⟩)]
def c172_92:AC:=.draw 18 (stagesOf #[0,0,0,0,8,0,0,64,224,480,0,0,3072,7168,16355,32739,65535,131071] c172_92g [15,17] 0 (c172_92g.filter fun x=>x.2.i.eff)) []
theorem r172_92:RReg c172_92 fun call tm h=>let g:=Heap.mk h.bs (h.next+18);B (tm.gt 0) (fun v0=>B (tm.gt 10) (fun v1=>B (tm.gt 0) (fun v2=>B (tm.gt 10) (fun v3=>B (bin2 P .sub 3 v3 (AV.int .i64 1)) (fun v4=>B (tm.gt 0) (fun v5=>B (tm.gt 10) (fun v6=>B (bin2 P .sub 3 v6 (AV.int .i64 1)) (fun v7=>B (indexAddr2 P 51 v5 v7) (fun v8=>B (load1 g v8) (fun v9=>B (tm.gt 0) (fun v10=>B (tm.gt 10) (fun v11=>B (indexAddr2 P 51 v10 v11) (fun v12=>B (load1 g v12) (fun v13=>B (indexAddr2 P 51 v0 v1) (fun v14=>B (store1 g v14 v9) (fun r15=>B (indexAddr2 P 51 v2 v4) (fun v16=>B (store1 r15.2 v16 v13) (fun r17=>some (tm,r17.2)) tg) tg) tg) tg) tg) tg) tg) tg) tg) tg) tg) tg) tg) tg) tg) tg) tg) tg:=kDrw rfl (by kernel_rfl)
def c172_86:AC:=.seq (.seq c172_88 (.cond (.tmp 116) (.exit 6) .skip)) c172_92
def c172_93:AC:=.reg [⟨none,.p2 (bin2 P .add 3) (.tmp 10) (.cst (AV.int .i64 1))⟩] [(10,.loc 0)]
def c172_78:AC:=.seq (.seq c172_80 (.cond (.tmp 103) .skip (.exit 6))) (.seq (.block 7 c172_86) c172_93)
def c172_77:AC:=.loop c172_78
def c172_71:AC:=.seq c172_72 (.cond (.tmp 98) (.seq c172_75 (.block 6 c172_77)) .skip)
def c172_36:AC:=.seq (.seq c172_38 (.cond (.tmp 41) (.seq c172_41 .ret) .skip)) (.seq c172_45 (.seq c172_47 c172_71))
def c172_28:AC:=.seq (.seq c172_30 (.cond (.tmp 37) (.seq c172_33 .ret) .skip)) c172_36
def c172_95:AC:=.reg [⟨none,.p2 (bin2 P .add 3) (.tmp 8) (.cst (AV.int .i64 1))⟩] [(8,.loc 0)]
def c172_9:AC:=.seq (.seq c172_11 (.cond (.tmp 14) .skip (.exit 0))) (.seq (.block 1 (.seq (.block 2 c172_19) c172_28)) c172_95)
def c172_8:AC:=.loop c172_9
def c172_97:AC:=.reg [] [(6,.cst (AV.bool false))]
def c172_2:AC:=.seq c172_3 (.seq (.seq c172_6 (.block 0 c172_8)) (.seq c172_97 .ret))
theorem r172_71:type_of% (kS c172_71 rfl):=(kS c172_71 rfl)
theorem r172_95:type_of% (kR c172_95 rfl):=(kR c172_95 rfl)
def fn172:FnA:=⟨(.seq c172_1 c172_2),[.tmp 6],133,true⟩
theorem f172A:fnA P (keepF P) 172=some fn172:=by kernel_rfl
def F172:=An (kR c172_1 rfl)<|An (kR c172_3 rfl)<|An (kR c172_6 rfl)<|An (kR c172_11 rfl)<|An r172_22<|An (kR c172_27 rfl)<|An (kS c172_20 rfl)<|An (kR c172_30 rfl)<|An (kR c172_33 rfl)<|An (kR c172_38 rfl)<|An (kR c172_41 rfl)<|An r172_45<|An (kR c172_48 rfl)<|An (kR c172_51 rfl)<|An (kR c172_56 rfl)<|An r172_64<|An r172_68<|An (kS c172_62 rfl)<|An (kR c172_69 rfl)<|An (kS c172_54 rfl)<|An (kS c172_47 rfl)<|An (kR c172_72 rfl)<|An (kR c172_75 rfl)<|An (kR c172_80 rfl)<|An r172_88<|An r172_92<|An (kS c172_86 rfl)<|An (kR c172_93 rfl)<|An (kS c172_78 rfl)<|An (kS c172_36 rfl)<|An (kS c172_28 rfl)<|An (kS c172_9 rfl)<|An (kR c172_97 rfl)<|(kS c172_2 rfl)
def c173_1:AC:=.reg [] [(4,.cst (AV.bool false))]
def c173_3:AC:=.reg [⟨none,.cl (cf 187) [.tmp 0]⟩,⟨some (.loc 0,true),.mv (.tmp 1)⟩,⟨some (.loc 1,true),.cl (cf 187) [.loc 0]⟩,⟨some (.loc 2,true),.p1 (un1 .not) (.loc 0)⟩,⟨none,.pick (.loc 3) (.loc 0) (.cst (AV.bool false))⟩,⟨some (.loc 0,false),.mv (.tmp 0)⟩,⟨some (.loc 1,false),.mv (.tmp 1)⟩,⟨some (.loc 2,false),.p2 (bin2 P .lss 48) (.loc 1) (.loc 0)⟩,⟨none,.pick (.loc 3) (.cst (AV.bool true)) (.loc 0)⟩] [(4,.loc 0)]
def fn173:FnA:=⟨(.seq c173_1 (.seq c173_3 .ret)),[.tmp 4],17,true⟩
theorem f173A:fnA P (keepF P) 173=some fn173:=by kernel_rfl
def F173:=An (kR c173_1 rfl)<|(kR c173_3 rfl)
def c174_1:AC:=.reg [] [(8,.cst (AV.int .i64 0))]
def c174_3g:List (Nat×GIns):=[(0,⟨none,.mv (.tmp 0)⟩),(1,⟨none,.mv (.tmp 1)⟩),(2,⟨none,.mv (.tmp 0)⟩),(3,⟨none,.mv (.tmp 3)⟩),(4,⟨none,.mv (.tmp 0)⟩),(5,⟨none,.mv (.tmp 3)⟩),(6,⟨none,.p2 (indexAddr2 P 51) (.opi 4) (.opi 5)⟩),(7,⟨none,.ld1 (.opi 6)⟩),(8,⟨none,.mv (.tmp 0)⟩),(9,⟨none,.mv (.tmp 1)⟩),(10,⟨none,.p2 (indexAddr2 P 51) (.opi 8) (.opi 9)⟩),(11,⟨none,.ld1 (.opi 10)⟩),(12,⟨none,.p2 (indexAddr2 P 51) (.opi 0) (.opi 1)⟩),(13,⟨none,.st1 (.opi 12) (.opi 7)⟩),(14,⟨none,.p2 (indexAddr2 P 51) (.opi 2) (.opi 3)⟩),(15,⟨none,.st1 (.opi 14) (.opi 11)⟩)]
def c174_3:AC:=.draw 16 (stagesOf #[0,0,0,0,0,0,48,112,0,0,768,1792,4083,8179,16383,32767] c174_3g [13,15] 0 (c174_3g.filter fun x=>x.2.i.eff)) []
theorem r174_3:RReg c174_3 fun call tm h=>let g:=Heap.mk h.bs (h.next+16);B (tm.gt 0) (fun v0=>B (tm.gt 1) (fun v1=>B (tm.gt 0) (fun v2=>B (tm.gt 3) (fun v3=>B (tm.gt 0) (fun v4=>B (tm.gt 3) (fun v5=>B (indexAddr2 P 51 v4 v5) (fun v6=>B (load1 g v6) (fun v7=>B (tm.gt 0) (fun v8=>B (tm.gt 1) (fun v9=>B (indexAddr2 P 51 v8 v9) (fun v10=>B (load1 g v10) (fun v11=>B (indexAddr2 P 51 v0 v1) (fun v12=>B (store1 g v12 v7) (fun r13=>B (indexAddr2 P 51 v2 v3) (fun v14=>B (store1 r13.2 v14 v11) (fun r15=>some (tm,r15.2)) tg) tg) tg) tg) tg) tg) tg) tg) tg) tg) tg) tg) tg) tg) tg) tg:=kDrw rfl (by kernel_rfl)
def c174_5:AC:=.reg [⟨none,.p2 (bin2 P .add 3) (.tmp 1) (.cst (AV.int .i64 1))⟩,⟨none,.p2 (bin2 P .sub 3) (.tmp 2) (.cst (AV.int .i64 1))⟩] [(10,.loc 0),(9,.loc 1)]
def c174_15g:List (Nat×GIns):=[(0,⟨none,.mv (.tmp 9)⟩),(1,⟨none,.mv (.tmp 10)⟩),(2,⟨none,.p2 (bin2 P .leq 3) (.opi 0) (.opi 1)⟩),(3,⟨none,.mv (.opi 2)⟩),(4,⟨some (.opi 3,true),.mv (.tmp 0)⟩),(5,⟨some (.opi 3,true),.mv (.tmp 1)⟩),(6,⟨some (.opi 3,true),.p2 (indexAddr2 P 51) (.opi 4) (.opi 5)⟩),(7,⟨some (.opi 3,true),.ld1 (.opi 6)⟩),(8,⟨some (.opi 3,true),.mv (.tmp 0)⟩),(9,⟨some (.opi 3,true),.mv (.tmp 9)⟩),(10,⟨some (.opi 3,true),.p2 (indexAddr2 P 51) (.opi 8) (.opi 9)⟩),(11,⟨some (.opi 3,true),.ld1 (.opi 10)⟩),(12,⟨some (.opi 3,true),.cl (cf 173) [.opi 7,.opi 11]⟩),(13,⟨some (.opi 3,true),.p1 (un1 .not) (.opi 12)⟩),(14,⟨none,.pick (.opi 3) (.opi 13) (.cst (AV.bool false))⟩)]
def c174_15:AC:=.draw 15 (stagesOf #[0,0,3,7,15,15,63,127,15,15,783,1807,4095,8191,16383] c174_15g [12] 0 (c174_15g.filter fun x=>x.2.i.eff)) [(43,14)]
theorem r174_15:RReg c174_15 fun call tm h=>let g:=Heap.mk h.bs (h.next+15);B (tm.gt 9) (fun v0=>B (tm.gt 10) (fun v1=>B (bin2 P .leq 3 v0 v1) (fun v2=>B (Wt? true v2 (tm.gt 0)) (fun v4=>B (Wt? true v2 (tm.gt 1)) (fun v5=>B (Wt? true v2 (indexAddr2 P 51 v4 v5)) (fun v6=>B (Wt? true v2 (load1 g v6)) (fun v7=>B (Wt? true v2 (tm.gt 0)) (fun v8=>B (Wt? true v2 (tm.gt 9)) (fun v9=>B (Wt? true v2 (indexAddr2 P 51 v8 v9)) (fun v10=>B (Wt? true v2 (load1 g v10)) (fun v11=>B (match wanted true v2 with | true=>(call (.fn 173) [v7,v11] g) | false=>some (undefA,g)) (fun r12=>B (Wt? true v2 (un1 .not r12.1)) (fun v13=>B (eBool (fun t=>match t with | true=>some v13 | false=>some (AV.bool false)) v2) (fun v14=>some ((tm.up (some v14) 43),r12.2)) tg) tg) tg) tg) tg) tg) tg) tg) tg) tg) tg) tg) tg) tg:=kDrw rfl (by kernel_rfl)
def c174_20:AC:=.reg [⟨none,.p2 (bin2 P .add 3) (.tmp 9) (.cst (AV.int .i64 1))⟩] [(9,.loc 0)]
def c174_13:AC:=.seq (.seq c174_15 (.cond (.tmp 43) .skip (.exit 2))) (.block 3 c174_20)
def c174_12:AC:=.loop c174_13
def c174_26g:List (Nat×GIns):=[(0,⟨none,.mv (.tmp 9)⟩),(1,⟨none,.mv (.tmp 10)⟩),(2,⟨none,.p2 (bin2 P .leq 3) (.opi 0) (.opi 1)⟩),(3,⟨none,.mv (.opi 2)⟩),(4,⟨some (.opi 3,true),.mv (.tmp 0)⟩),(5,⟨some (.opi 3,true),.mv (.tmp 1)⟩),(6,⟨some (.opi 3,true),.p2 (indexAddr2 P 51) (.opi 4) (.opi 5)⟩),(7,⟨some (.opi 3,true),.ld1 (.opi 6)⟩),(8,⟨some (.opi 3,true),.mv (.tmp 0)⟩),(9,⟨some (.opi 3,true),.mv (.tmp 10)⟩),(10,⟨some (.opi 3,true),.p2 (indexAddr2 P 51) (.opi 8) (.opi 9)⟩),(11,⟨some (.opi 3,true),.ld1 (.opi 10)⟩),(12,⟨some (.opi 3,true),.cl (cf 173) [.opi 7,.opi 11]⟩),(13,⟨none,.pick (.opi 3) (.opi 12) (.cst (AV.bool false))⟩)]
def c174_26:AC:=.draw 14 (stagesOf #[0,0,3,7,15,15,63,127,15,15,783,1807,4095,8191] c174_26g [12] 0 (c174_26g.filter fun x=>x.2.i.eff)) [(59,13)]
theorem r174_26:RReg c174_26 fun call tm h=>let g:=Heap.mk h.bs (h.next+14);B (tm.gt 9) (fun v0=>B (tm.gt 10) (fun v1=>B (bin2 P .leq 3 v0 v1) (fun v2=>B (Wt? true v2 (tm.gt 0)) (fun v4=>B (Wt? true v2 (tm.gt 1)) (fun v5=>B (Wt? true v2 (indexAddr2 P 51 v4 v5)) (fun v6=>B (Wt? true v2 (load1 g v6)) (fun v7=>B (Wt? true v2 (tm.gt 0)) (fun v8=>B (Wt? true v2 (tm.gt 10)) (fun v9=>B (Wt? true v2 (indexAddr2 P 51 v8 v9)) (fun v10=>B (Wt? true v2 (load1 g v10)) (fun v11=>B (match wanted true v2 with | true=>(call (.fn 173) [v7,v11] g) | false=>some (undefA,g)) (fun r12=>B (eBool (fun t=>match t with | true=>some r12.1 | false=>some (AV.bool false)) v2) (fun v13=>some ((tm.up (some v13) 59),r12.2)) tg) tg) tg) tg) tg) tg) tg) tg) tg) tg) tg) tg) tg:=kDrw rfl (by kernel_rfl)
def c174_31:AC:=.reg [⟨none,.p2 (bin2 P .sub 3) (.tmp 10) (.cst (AV.int .i64 1))⟩] [(10,.loc 0)]
def c174_24:AC:=.seq (.seq c174_26 (.cond (.tmp 59) .skip (.exit 4))) (.block 5 c174_31)
def c174_23:AC:=.loop c174_24
def c174_34:AC:=.reg [⟨none,.p2 (bin2 P .gtr 3) (.tmp 9) (.tmp 10)⟩] [(64,.loc 0)]
def c174_39g:List (Nat×GIns):=[(0,⟨none,.mv (.tmp 0)⟩),(1,⟨none,.mv (.tmp 9)⟩),(2,⟨none,.mv (.tmp 0)⟩),(3,⟨none,.mv (.tmp 10)⟩),(4,⟨none,.mv (.tmp 0)⟩),(5,⟨none,.mv (.tmp 10)⟩),(6,⟨none,.p2 (indexAddr2 P 51) (.opi 4) (.opi 5)⟩),(7,⟨none,.ld1 (.opi 6)⟩),(8,⟨none,.mv (.tmp 0)⟩),(9,⟨none,.mv (.tmp 9)⟩),(10,⟨none,.p2 (indexAddr2 P 51) (.opi 8) (.opi 9)⟩),(11,⟨none,.ld1 (.opi 10)⟩),(12,⟨none,.p2 (indexAddr2 P 51) (.opi 0) (.opi 1)⟩),(13,⟨none,.st1 (.opi 12) (.opi 7)⟩),(14,⟨none,.p2 (indexAddr2 P 51) (.opi 2) (.opi 3)⟩),(15,⟨none,.st1 (.opi 14) (.opi 11)⟩)]
def c174_39:AC:=.draw 16 (stagesOf #[0,0,0,0,0,0,48,112,0,0,768,1792,4083,8179,16383,32767] c174_39g [13,15] 0 (c174_39g.filter fun x=>x.2.i.eff)) []
theorem r174_39:RReg c174_39 fun call tm h=>let g:=Heap.mk h.bs (h.next+16);B (tm.gt 0) (fun v0=>B (tm.gt 9) (fun v1=>B (tm.gt 0) (fun v2=>B (tm.gt 10) (fun v3=>B (tm.gt 0) (fun v4=>B (tm.gt 10) (fun v5=>B (indexAddr2 P 51 v4 v5) (fun v6=>B (load1 g v6) (fun v7=>B (tm.gt 0) (fun v8=>B (tm.gt 9) (fun v9=>B (indexAddr2 P 51 v8 v9) (fun v10=>B (load1 g v10) (fun v11=>B (indexAddr2 P 51 v0 v1) (fun v12=>B (store1 g v12 v7) (fun r13=>B (indexAddr2 P 51 v2 v3) (fun v14=>B (store1 r13.2 v14 v11) (fun r15=>some (tm,r15.2)) tg) tg) tg) tg) tg) tg) tg) tg) tg) tg) tg) tg) tg) tg) tg) tg:=kDrw rfl (by kernel_rfl)
def c174_41:AC:=.reg [⟨none,.p2 (bin2 P .add 3) (.tmp 9) (.cst (AV.int .i64 1))⟩] [(9,.loc 0)]
def c174_42:AC:=.reg [⟨none,.p2 (bin2 P .sub 3) (.tmp 10) (.cst (AV.int .i64 1))⟩] [(10,.loc 0)]
def c174_32:AC:=.seq (.seq c174_34 (.cond (.tmp 64) (.exit 0) .skip)) (.seq c174_39 (.seq c174_41 c174_42))
def c174_21:AC:=.seq (.block 4 c174_23) c174_32
def c174_9:AC:=.block 1 (.seq (.block 2 c174_12) c174_21)
def c174_8:AC:=.loop c174_9
def c174_44:AC:=.reg [] [(8,.tmp 9)]
def c174_2:AC:=.seq c174_3 (.seq c174_5 (.seq (.block 0 c174_8) (.seq c174_44 .ret)))
theorem r174_32:type_of% (kS c174_32 rfl):=(kS c174_32 rfl)
theorem r174_21:type_of% (kS c174_21 rfl):=(kS c174_21 rfl)
def fn174:FnA:=⟨(.seq c174_1 c174_2),[.tmp 8],84,true⟩
theorem f174A:fnA P (keepF P) 174=some fn174:=by kernel_rfl
def F174:=An (kR c174_1 rfl)<|An r174_3<|An (kR c174_5 rfl)<|An r174_15<|An (kR c174_20 rfl)<|An (kS c174_13 rfl)<|An r174_26<|An (kR c174_31 rfl)<|An (kS c174_24 rfl)<|An (kR c174_34 rfl)<|An r174_39<|An (kR c174_41 rfl)<|An (kR c174_42 rfl)<|An (kB c174_9 rfl)<|An (kR c174_44 rfl)<|(kS c174_2 rfl)
def c175_1:AC:=.reg [] [(9,.cst (AV.bool false)),(8,.cst (AV.int .i64 0))]
def c175_3g:List (Nat×GIns):=[(0,⟨none,.mv (.tmp 0)⟩),(1,⟨none,.mv (.tmp 1)⟩),(2,⟨none,.mv (.tmp 0)⟩),(3,⟨none,.mv (.tmp 3)⟩),(4,⟨none,.mv (.tmp 0)⟩),(5,⟨none,.mv (.tmp 3)⟩),(6,⟨none,.p2 (indexAddr2 P 51) (.opi 4) (.opi 5)⟩),(7,⟨none,.ld1 (.opi 6)⟩),(8,⟨none,.mv (.tmp 0)⟩),(9,⟨none,.mv (.tmp 1)⟩),(10,⟨none,.p2 (indexAddr2 P 51) (.opi 8) (.opi 9)⟩),(11,⟨none,.ld1 (.opi 10)⟩),(12,⟨none,.p2 (indexAddr2 P 51) (.opi 0) (.opi 1)⟩),(13,⟨none,.st1 (.opi 12) (.opi 7)⟩),(14,⟨none,.p2 (indexAddr2 P 51) (.opi 2) (.opi 3)⟩),(15,⟨none,.st1 (.opi 14) (.opi 11)⟩)]
def c175_3:AC:=.draw 16 (stagesOf #[0,0,0,0,0,0,48,112,0,0,768,1792,4083,8179,16383,32767] c175_3g [13,15] 0 (c175_3g.filter fun x=>x.2.i.eff)) []
theorem r175_3:RReg c175_3 fun call tm h=>let g:=Heap.mk h.bs (h.next+16);B (tm.gt 0) (fun v0=>B (tm.gt 1) (fun v1=>B (tm.gt 0) (fun v2=>B (tm.gt 3) (fun v3=>B (tm.gt 0) (fun v4=>B (tm.gt 3) (fun v5=>B (indexAddr2 P 51 v4 v5) (fun v6=>B (load1 g v6) (fun v7=>B (tm.gt 0) (fun v8=>B (tm.gt 1) (fun v9=>B (indexAddr2 P 51 v8 v9) (fun v10=>B (load1 g v10) (fun v11=>B (indexAddr2 P 51 v0 v1) (fun v12=>B (store1 g v12 v7) (fun r13=>B (indexAddr2 P 51 v2 v3) (fun v14=>B (store1 r13.2 v14 v11) (fun r15=>some (tm,r15.2)) tg) tg) tg) tg) tg) tg) tg) tg) tg) tg) tg) tg) tg) tg) tg) tg:=kDrw rfl (by kernel_rfl)
def c175_5:AC:=.reg [⟨none,.p2 (bin2 P .add 3) (.tmp 1) (.cst (AV.int .i64 1))⟩,⟨none,.p2 (bin2 P .sub 3) (.tmp 2) (.cst (AV.int .i64 1))⟩] [(11,.loc 0),(10,.loc 1)]
def c175_11g:List (Nat×GIns):=[(0,⟨none,.mv (.tmp 10)⟩),(1,⟨none,.mv (.tmp 11)⟩),(2,⟨none,.p2 (bin2 P .leq 3) (.opi 0) (.opi 1)⟩),(3,⟨none,.mv (.opi 2)⟩),(4,⟨some (.opi 3,true),.mv (.tmp 0)⟩),(5,⟨some (.opi 3,true),.mv (.tmp 10)⟩),(6,⟨some (.opi 3,true),.p2 (indexAddr2 P 51) (.opi 4) (.opi 5)⟩),(7,⟨some (.opi 3,true),.ld1 (.opi 6)⟩),(8,⟨some (.opi 3,true),.mv (.tmp 0)⟩),(9,⟨some (.opi 3,true),.mv (.tmp 1)⟩),(10,⟨some (.opi 3,true),.p2 (indexAddr2 P 51) (.opi 8) (.opi 9)⟩),(11,⟨some (.opi 3,true),.ld1 (.opi 10)⟩),(12,⟨some (.opi 3,true),.cl (cf 173) [.opi 7,.opi 11]⟩),(13,⟨none,.pick (.opi 3) (.opi 12) (.cst (AV.bool false))⟩)]
def c175_11:AC:=.draw 14 (stagesOf #[0,0,3,7,15,15,63,127,15,15,783,1807,4095,8191] c175_11g [12] 0 (c175_11g.filter fun x=>x.2.i.eff)) [(43,13)]
theorem r175_11:RReg c175_11 fun call tm h=>let g:=Heap.mk h.bs (h.next+14);B (tm.gt 10) (fun v0=>B (tm.gt 11) (fun v1=>B (bin2 P .leq 3 v0 v1) (fun v2=>B (Wt? true v2 (tm.gt 0)) (fun v4=>B (Wt? true v2 (tm.gt 10)) (fun v5=>B (Wt? true v2 (indexAddr2 P 51 v4 v5)) (fun v6=>B (Wt? true v2 (load1 g v6)) (fun v7=>B (Wt? true v2 (tm.gt 0)) (fun v8=>B (Wt? true v2 (tm.gt 1)) (fun v9=>B (Wt? true v2 (indexAddr2 P 51 v8 v9)) (fun v10=>B (Wt? true v2 (load1 g v10)) (fun v11=>B (match wanted true v2 with | true=>(call (.fn 173) [v7,v11] g) | false=>some (undefA,g)) (fun r12=>B (eBool (fun t=>match t with | true=>some r12.1 | false=>some (AV.bool false)) v2) (fun v13=>some ((tm.up (some v13) 43),r12.2)) tg) tg) tg) tg) tg) tg) tg) tg) tg) tg) tg) tg) tg:=kDrw rfl (by kernel_rfl)
def c175_16:AC:=.reg [⟨none,.p2 (bin2 P .add 3) (.tmp 10) (.cst (AV.int .i64 1))⟩] [(10,.loc 0)]
def c175_9:AC:=.seq (.seq c175_11 (.cond (.tmp 43) .skip (.exit 0))) (.block 1 c175_16)
def c175_8:AC:=.loop c175_9
def c175_22g:List (Nat×GIns):=[(0,⟨none,.mv (.tmp 10)⟩),(1,⟨none,.mv (.tmp 11)⟩),(2,⟨none,.p2 (bin2 P .leq 3) (.opi 0) (.opi 1)⟩),(3,⟨none,.mv (.opi 2)⟩),(4,⟨some (.opi 3,true),.mv (.tmp 0)⟩),(5,⟨some (.opi 3,true),.mv (.tmp 11)⟩),(6,⟨some (.opi 3,true),.p2 (indexAddr2 P 51) (.opi 4) (.opi 5)⟩),(7,⟨some (.opi 3,true),.ld1 (.opi 6)⟩),(8,⟨some (.opi 3,true),.mv (.tmp 0)⟩),(9,⟨some (.opi 3,true),.mv (.tmp 1)⟩),(10,⟨some (.opi 3,true),.p2 (indexAddr2 P 51) (.opi 8) (.opi 9)⟩),(11,⟨some (.opi 3,true),.ld1 (.opi 10)⟩),(12,⟨some (.opi 3,true),.cl (cf 173) [.opi 7,.opi 11]⟩),(13,⟨some (.opi 3,true),.p1 (un1 .not) (.opi 12)⟩),(14,⟨none,.pick (.opi 3) (.opi 13) (.cst (AV.bool false))⟩)]
def c175_22:AC:=.draw 15 (stagesOf #[0,0,3,7,15,15,63,127,15,15,783,1807,4095,8191,16383] c175_22g [12] 0 (c175_22g.filter fun x=>x.2.i.eff)) [(60,14)]
theorem r175_22:RReg c175_22 fun call tm h=>let g:=Heap.mk h.bs (h.next+15);B (tm.gt 10) (fun v0=>B (tm.gt 11) (fun v1=>B (bin2 P .leq 3 v0 v1) (fun v2=>B (Wt? true v2 (tm.gt 0)) (fun v4=>B (Wt? true v2 (tm.gt 11)) (fun v5=>B (Wt? true v2 (indexAddr2 P 51 v4 v5)) (fun v6=>B (Wt? true v2 (load1 g v6)) (fun v7=>B (Wt? true v2 (tm.gt 0)) (fun v8=>B (Wt? true v2 (tm.gt 1)) (fun v9=>B (Wt? true v2 (indexAddr2 P 51 v8 v9)) (fun v10=>B (Wt? true v2 (load1 g v10)) (fun v11=>B (match wanted true v2 with | true=>(call (.fn 173) [v7,v11] g) | false=>some (undefA,g)) (fun r12=>B (Wt? true v2 (un1 .not r12.1)) (fun v13=>B (eBool (fun t=>match t with | true=>some v13 | false=>some (AV.bool false)) v2) (fun v14=>some ((tm.up (some v14) 60),r12.2)) tg) tg) tg) tg) tg) tg) tg) tg) tg) tg) tg) tg) tg) tg:=kDrw rfl (by kernel_rfl)
def c175_27:AC:=.reg [⟨none,.p2 (bin2 P .sub 3) (.tmp 11) (.cst (AV.int .i64 1))⟩] [(11,.loc 0)]
def c175_20:AC:=.seq (.seq c175_22 (.cond (.tmp 60) .skip (.exit 2))) (.block 3 c175_27)
def c175_19:AC:=.loop c175_20
def c175_30:AC:=.reg [⟨none,.p2 (bin2 P .gtr 3) (.tmp 10) (.tmp 11)⟩] [(65,.loc 0)]
def c175_33g:List (Nat×GIns):=[(0,⟨none,.mv (.tmp 0)⟩),(1,⟨none,.mv (.tmp 11)⟩),(2,⟨none,.mv (.tmp 0)⟩),(3,⟨none,.mv (.tmp 1)⟩),(4,⟨none,.mv (.tmp 0)⟩),(5,⟨none,.mv (.tmp 1)⟩),(6,⟨none,.p2 (indexAddr2 P 51) (.opi 4) (.opi 5)⟩),(7,⟨none,.ld1 (.opi 6)⟩),(8,⟨none,.mv (.tmp 0)⟩),(9,⟨none,.mv (.tmp 11)⟩),(10,⟨none,.p2 (indexAddr2 P 51) (.opi 8) (.opi 9)⟩),(11,⟨none,.ld1 (.opi 10)⟩),(12,⟨none,.p2 (indexAddr2 P 51) (.opi 0) (.opi 1)⟩),(13,⟨none,.st1 (.opi 12) (.opi 7)⟩),(14,⟨none,.p2 (indexAddr2 P 51) (.opi 2) (.opi 3)⟩),(15,⟨none,.st1 (.opi 14) (.opi 11)⟩)]
def c175_33:AC:=.draw 16 (stagesOf #[0,0,0,0,0,0,48,112,0,0,768,1792,4083,8179,16383,32767] c175_33g [13,15] 0 (c175_33g.filter fun x=>x.2.i.eff)) []
theorem r175_33:RReg c175_33 fun call tm h=>let g:=Heap.mk h.bs (h.next+16);B (tm.gt 0) (fun v0=>B (tm.gt 11) (fun v1=>B (tm.gt 0) (fun v2=>B (tm.gt 1) (fun v3=>B (tm.gt 0) (fun v4=>B (tm.gt 1) (fun v5=>B (indexAddr2 P 51 v4 v5) (fun v6=>B (load1 g v6) (fun v7=>B (tm.gt 0) (fun v8=>B (tm.gt 11) (fun v9=>B (indexAddr2 P 51 v8 v9) (fun v10=>B (load1 g v10) (fun v11=>B (indexAddr2 P 51 v0 v1) (fun v12=>B (store1 g v12 v7) (fun r13=>B (indexAddr2 P 51 v2 v3) (fun v14=>B (store1 r13.2 v14 v11) (fun r15=>some (tm,r15.2)) tg) tg) tg) tg) tg) tg) tg) tg) tg) tg) tg) tg) tg) tg) tg) tg:=kDrw rfl (by kernel_rfl)
def c175_35:AC:=.reg [] [(9,.cst (AV.bool true)),(8,.tmp 11)]
def c175_29:AC:=.seq c175_30 (.cond (.tmp 65) (.seq c175_33 (.seq c175_35 .ret)) .skip)
def c175_39g:List (Nat×GIns):=[(0,⟨none,.mv (.tmp 0)⟩),(1,⟨none,.mv (.tmp 10)⟩),(2,⟨none,.mv (.tmp 0)⟩),(3,⟨none,.mv (.tmp 11)⟩),(4,⟨none,.mv (.tmp 0)⟩),(5,⟨none,.mv (.tmp 11)⟩),(6,⟨none,.p2 (indexAddr2 P 51) (.opi 4) (.opi 5)⟩),(7,⟨none,.ld1 (.opi 6)⟩),(8,⟨none,.mv (.tmp 0)⟩),(9,⟨none,.mv (.tmp 10)⟩),(10,⟨none,.p2 (indexAddr2 P 51) (.opi 8) (.opi 9)⟩),(11,⟨none,.ld1 (.opi 10)⟩),(12,⟨none,.p2 (indexAddr2 P 51) (.opi 0) (.opi 1)⟩),(13,⟨none,.st1 (.opi 12) (.opi 7)⟩),(14,⟨none,.p2 (indexAddr2 P 51) (.opi 2) (.opi 3)⟩),(15,⟨none,.st1 (.opi 14) (.opi 11)⟩)]
def c175_39:AC:=.draw 16 (stagesOf #[0,0,0,0,0,0,48,112,0,0,768,1792,4083,8179,16383,32767] c175_39g [13,15] 0 (c175_39g.filter fun x=>x.2.i.eff)) []
theorem r175_39:RReg c175_39 fun call tm h=>let g:=Heap.mk h.bs (h.next+16);B (tm.gt 0) (fun v0=>B (tm.gt 10) (fun v1=>B (tm.gt 0) (fun v2=>B (tm.gt 11) (fun v3=>B (tm.gt 0) (fun v4=>B (tm.gt 11) (fun v5=>B (indexAddr2 P 51 v4 v5) (fun v6=>B (load1 g v6) (fun v7=>B (tm.gt 0) (fun v8=>B (tm.gt 10) (fun v9=>B (indexAddr2 P 51 v8 v9) (fun v10=>B (load1 g v10) (fun v11=>B (indexAddr2 P 51 v0 v1) (fun v12=>B (store1 g v12 v7) (fun r13=>B (indexAddr2 P 51 v2 v3) (fun v14=>B (store1 r13.2 v14 v11) (fun r15=>some (tm,r15.2)) tg) tg) tg) tg) tg) tg) tg) tg) tg) tg) tg) tg) tg) tg) tg) tg:=kDrw rfl (by kernel_rfl)
def c175_41:AC:=.reg [⟨none,.p2 (bin2 P .add 3) (.tmp 10) (.cst (AV.int .i64 1))⟩] [(10,.loc 0)]
def c175_43:AC:=.reg [⟨none,.p2 (bin2 P .sub 3) (.tmp 11) (.cst (AV.int .i64 1))⟩] [(11,.loc 0)]
def c175_53g:List (Nat×GIns):=[(0,⟨none,.mv (.tmp 10)⟩),(1,⟨none,.mv (.tmp 11)⟩),(2,⟨none,.p2 (bin2 P .leq 3) (.opi 0) (.opi 1)⟩),(3,⟨none,.mv (.opi 2)⟩),(4,⟨some (.opi 3,true),.mv (.tmp 0)⟩),(5,⟨some (.opi 3,true),.mv (.tmp 10)⟩),(6,⟨some (.opi 3,true),.p2 (indexAddr2 P 51) (.opi 4) (.opi 5)⟩),(7,⟨some (.opi 3,true),.ld1 (.opi 6)⟩),(8,⟨some (.opi 3,true),.mv (.tmp 0)⟩),(9,⟨some (.opi 3,true),.mv (.tmp 1)⟩),(10,⟨some (.opi 3,true),.p2 (indexAddr2 P 51) (.opi 8) (.opi 9)⟩),(11,⟨some (.opi 3,true),.ld1 (.opi 10)⟩),(12,⟨some (.opi 3,true),.cl (cf 173) [.opi 7,.opi 11]⟩),(13,⟨none,.pick (.opi 3) (.opi 12) (.cst (AV.bool false))⟩)]
def c175_53:AC:=.draw 14 (stagesOf #[0,0,3,7,15,15,63,127,15,15,783,1807,4095,8191] c175_53g [12] 0 (c175_53g.filter fun x=>x.2.i.eff)) [(112,13)]
theorem r175_53:RReg c175_53 fun call tm h=>let g:=Heap.mk h.bs (h.next+14);B (tm.gt 10) (fun v0=>B (tm.gt 11) (fun v1=>B (bin2 P .leq 3 v0 v1) (fun v2=>B (Wt? true v2 (tm.gt 0)) (fun v4=>B (Wt? true v2 (tm.gt 10)) (fun v5=>B (Wt? true v2 (indexAddr2 P 51 v4 v5)) (fun v6=>B (Wt? true v2 (load1 g v6)) (fun v7=>B (Wt? true v2 (tm.gt 0)) (fun v8=>B (Wt? true v2 (tm.gt 1)) (fun v9=>B (Wt? true v2 (indexAddr2 P 51 v8 v9)) (fun v10=>B (Wt? true v2 (load1 g v10)) (fun v11=>B (match wanted true v2 with | true=>(call (.fn 173) [v7,v11] g) | false=>some (undefA,g)) (fun r12=>B (eBool (fun t=>match t with | true=>some r12.1 | false=>some (AV.bool false)) v2) (fun v13=>some ((tm.up (some v13) 112),r12.2)) tg) tg) tg) tg) tg) tg) tg) tg) tg) tg) tg) tg) tg:=kDrw rfl (by kernel_rfl)
def c175_58:AC:=.reg [⟨none,.p2 (bin2 P .add 3) (.tmp 10) (.cst (AV.int .i64 1))⟩] [(10,.loc 0)]
def c175_51:AC:=.seq (.seq c175_53 (.cond (.tmp 112) .skip (.exit 6))) (.block 7 c175_58)
def c175_50:AC:=.loop c175_51
def c175_64g:List (Nat×GIns):=[(0,⟨none,.mv (.tmp 10)⟩),(1,⟨none,.mv (.tmp 11)⟩),(2,⟨none,.p2 (bin2 P .leq 3) (.opi 0) (.opi 1)⟩),(3,⟨none,.mv (.opi 2)⟩),(4,⟨some (.opi 3,true),.mv (.tmp 0)⟩),(5,⟨some (.opi 3,true),.mv (.tmp 11)⟩),(6,⟨some (.opi 3,true),.p2 (indexAddr2 P 51) (.opi 4) (.opi 5)⟩),(7,⟨some (.opi 3,true),.ld1 (.opi 6)⟩),(8,⟨some (.opi 3,true),.mv (.tmp 0)⟩),(9,⟨some (.opi 3,true),.mv (.tmp 1)⟩),(10,⟨some (.opi 3,true),.p2 (indexAddr2 P 51) (.opi 8) (.opi 9)⟩),(11,⟨some (.opi 3,true),.ld1 (.opi 10)⟩),(12,⟨some (.opi 3,true),.cl (cf 173) [.opi 7,.opi 11]⟩),(13,⟨some (.opi 3,true),.p1 (un1 .not) (.opi 12)⟩),(14,⟨none,.pick (.opi 3) (.opi 13) (.cst (AV.bool false))⟩)]
def c175_64:AC:=.draw 15 (stagesOf #[0,0,3,7,15,15,63,127,15,15,783,1807,4095,8191,16383] c175_64g [12] 0 (c175_64g.filter fun x=>x.2.i.eff)) [(129,14)]
theorem r175_64:RReg c175_64 fun call tm h=>let g:=Heap.mk h.bs (h.next+15);B (tm.gt 10) (fun v0=>B (tm.gt 11) (fun v1=>B (bin2 P .leq 3 v0 v1) (fun v2=>B (Wt? true v2 (tm.gt 0)) (fun v4=>B (Wt? true v2 (tm.gt 11)) (fun v5=>B (Wt? true v2 (indexAddr2 P 51 v4 v5)) (fun v6=>B (Wt? true v2 (load1 g v6)) (fun v7=>B (Wt? true v2 (tm.gt 0)) (fun v8=>B (Wt? true v2 (tm.gt 1)) (fun v9=>B (Wt? true v2 (indexAddr2 P 51 v8 v9)) (fun v10=>B (Wt? true v2 (load1 g v10)) (fun v11=>B (match wanted true v2 with | true=>(call (.fn 173) [v7,v11] g) | false=>some (undefA,g)) (fun r12=>B (Wt? true v2 (un1 .not r12.1)) (fun v13=>B (eBool (fun t=>match t with | true=>some v13 | false=>some (AV.bool false)) v2) (fun v14=>some ((tm.up (some v14) 129),r12.2)) tg) tg) tg) tg) tg) tg) tg) tg) tg) tg) tg) tg) tg) tg:=kDrw rfl (by kernel_rfl)
def c175_69:AC:=.reg [⟨none,.p2 (bin2 P .sub 3) (.tmp 11) (.cst (AV.int .i64 1))⟩] [(11,.loc 0)]
def c175_62:AC:=.seq (.seq c175_64 (.cond (.tmp 129) .skip (.exit 8))) (.block 9 c175_69)
def c175_61:AC:=.loop c175_62
def c175_72:AC:=.reg [⟨none,.p2 (bin2 P .gtr 3) (.tmp 10) (.tmp 11)⟩] [(134,.loc 0)]
def c175_77g:List (Nat×GIns):=[(0,⟨none,.mv (.tmp 0)⟩),(1,⟨none,.mv (.tmp 10)⟩),(2,⟨none,.mv (.tmp 0)⟩),(3,⟨none,.mv (.tmp 11)⟩),(4,⟨none,.mv (.tmp 0)⟩),(5,⟨none,.mv (.tmp 11)⟩),(6,⟨none,.p2 (indexAddr2 P 51) (.opi 4) (.opi 5)⟩),(7,⟨none,.ld1 (.opi 6)⟩),(8,⟨none,.mv (.tmp 0)⟩),(9,⟨none,.mv (.tmp 10)⟩),(10,⟨none,.p2 (indexAddr2 P 51) (.opi 8) (.opi 9)⟩),(11,⟨none,.ld1 (.opi 10)⟩),(12,⟨none,.p2 (indexAddr2 P 51) (.opi 0) (.opi 1)⟩),(13,⟨none,.st1 (.opi 12) (.opi 7)⟩),(14,⟨none,.p2 (indexAddr2 P 51) (.opi 2) (.opi 3)⟩),(15,⟨none,.st1 (.opi 14) (.opi 11)⟩)]
def c175_77:AC:=.draw 16 (stagesOf #[0,0,0,0,0,0,48,112,0,0,768,1792,4083,8179,16383,32767] c175_77g [13,15] 0 (c175_77g.filter fun x=>x.2.i.eff)) []
theorem r175_77:RReg c175_77 fun call tm h=>let g:=Heap.mk h.bs (h.next+16);B (tm.gt 0) (fun v0=>B (tm.gt 10) (fun v1=>B (tm.gt 0) (fun v2=>B (tm.gt 11) (fun v3=>B (tm.gt 0) (fun v4=>B (tm.gt 11) (fun v5=>B (indexAddr2 P 51 v4 v5) (fun v6=>B (load1 g v6) (fun v7=>B (tm.gt 0) (fun v8=>B (tm.gt 10) (fun v9=>B (indexAddr2 P 51 v8 v9) (fun v10=>B (load1 g v10) (fun v11=>B (indexAddr2 P 51 v0 v1) (fun v12=>B (store1 g v12 v7) (fun r13=>B (indexAddr2 P 51 v2 v3) (fun v14=>B (store1 r13.2 v14 v11) (fun r15=>some (tm,r15.2)) tg) tg) tg) tg) tg) tg) tg) tg) tg) tg) tg) tg) tg) tg) tg) tg:=kDrw rfl (by kernel_rfl)
def c175_79:AC:=.reg [⟨none,.p2 (bin2 P .add 3) (.tmp 10) (.cst (AV.int .i64 1))⟩] [(10,.loc 0)]
def c175_80:AC:=.reg [⟨none,.p2 (bin2 P .sub 3) (.tmp 11) (.cst (AV.int .i64 1))⟩] [(11,.loc 0)]
def c175_70:AC:=.seq (.seq c175_72 (.cond (.tmp 134) (.exit 4) .skip)) (.seq c175_77 (.seq c175_79 c175_80))
def c175_47:AC:=.block 5 (.seq (.block 6 c175_50) (.seq (.block 8 c175_61) c175_70))
def c175_46:AC:=.loop c175_47
def c175_82g:List (Nat×GIns):=[(0,⟨none,.mv (.tmp 0)⟩),(1,⟨none,.mv (.tmp 11)⟩),(2,⟨none,.mv (.tmp 0)⟩),(3,⟨none,.mv (.tmp 1)⟩),(4,⟨none,.mv (.tmp 0)⟩),(5,⟨none,.mv (.tmp 1)⟩),(6,⟨none,.p2 (indexAddr2 P 51) (.opi 4) (.opi 5)⟩),(7,⟨none,.ld1 (.opi 6)⟩),(8,⟨none,.mv (.tmp 0)⟩),(9,⟨none,.mv (.tmp 11)⟩),(10,⟨none,.p2 (indexAddr2 P 51) (.opi 8) (.opi 9)⟩),(11,⟨none,.ld1 (.opi 10)⟩),(12,⟨none,.p2 (indexAddr2 P 51) (.opi 0) (.opi 1)⟩),(13,⟨none,.st1 (.opi 12) (.opi 7)⟩),(14,⟨none,.p2 (indexAddr2 P 51) (.opi 2) (.opi 3)⟩),(15,⟨none,.st1 (.opi 14) (.opi 11)⟩)]
def c175_82:AC:=.draw 16 (stagesOf #[0,0,0,0,0,0,48,112,0,0,768,1792,4083,8179,16383,32767] c175_82g [13,15] 0 (c175_82g.filter fun x=>x.2.i.eff)) []
theorem r175_82:RReg c175_82 fun call tm h=>let g:=Heap.mk h.bs (h.next+16);B (tm.gt 0) (fun v0=>B (tm.gt 11) (fun v1=>B (tm.gt 0) (fun v2=>B (tm.gt 1) (fun v3=>B (tm.gt 0) (fun v4=>B (tm.gt 1) (fun v5=>B (indexAddr2 P 51 v4 v5) (fun v6=>B (load1 g v6) (fun v7=>B (tm.gt 0) (fun v8=>B (tm.gt 11) (fun v9=>B (indexAddr2 P 51 v8 v9) (fun v10=>B (load1 g v10) (fun v11=>B (indexAddr2 P 51 v0 v1) (fun v12=>B (store1 g v12 v7) (fun r13=>B (indexAddr2 P 51 v2 v3) (fun v14=>B (store1 r13.2 v14 v11) (fun r15=>some (tm,r15.2)) tg) tg) tg) tg) tg) tg) tg) tg) tg) tg) tg) tg) tg) tg) tg) tg:=kDrw rfl (by kernel_rfl)
def c175_84:AC:=.reg [] [(9,.cst (AV.bool false)),(8,.tmp 11)]
def c175_42:AC:=.seq c175_43 (.seq (.block 4 c175_46) (.seq c175_82 (.seq c175_84 .ret)))
def c175_17:AC:=.seq (.block 2 c175_19) (.seq c175_29 (.seq c175_39 (.seq c175_41 c175_42)))
def c175_0:AC:=.seq c175_1 (.seq c175_3 (.seq c175_5 (.seq (.block 0 c175_8) c175_17)))
def fn175:FnA:=⟨c175_0,[.tmp 8,.tmp 9],168,true⟩
theorem f175A:fnA P (keepF P) 175=some fn175:=by kernel_rfl
def F175:=An (kR c175_1 rfl)<|An r175_3<|An (kR c175_5 rfl)<|An r175_11<|An (kR c175_16 rfl)<|An (kS c175_9 rfl)<|An r175_22<|An (kR c175_27 rfl)<|An (kS c175_20 rfl)<|An (kR c175_30 rfl)<|An r175_33<|An (kR c175_35 rfl)<|An (kS c175_29 rfl)<|An r175_39<|An (kR c175_41 rfl)<|An (kR c175_43 rfl)<|An r175_53<|An (kR c175_58 rfl)<|An (kS c175_51 rfl)<|An r175_64<|An (kR c175_69 rfl)<|An (kS c175_62 rfl)<|An (kR c175_72 rfl)<|An r175_77<|An (kR c175_79 rfl)<|An (kR c175_80 rfl)<|An (kS c175_70 rfl)<|An (kB c175_47 rfl)<|An r175_82<|An (kR c175_84 rfl)<|An (kS c175_42 rfl)<|An (kS c175_17 rfl)<|(kS c175_0 rfl)
def c177_1:AC:=.reg [] [(2,.cst (AV.int .i64 0))]
def c177_4:AC:=.reg [⟨none,.p2 (bin2 P .geq 185) (.tmp 0) (.cst (AV.int .u64 4294967296))⟩] [(4,.loc 0)]
def c177_7:AC:=.reg [⟨none,.p2 (bin2 P .shr 185) (.tmp 0) (.cst (AV.int .u64 32))⟩] [(0,.loc 0)]
def c177_8:AC:=.reg [] [(2,.cst (AV.int .i64 32))]
def c177_12:AC:=.reg [⟨none,.p2 (bin2 P .geq 185) (.tmp 0) (.cst (AV.int .u64 65536))⟩] [(8,.loc 0)]
def c177_15:AC:=.reg [⟨none,.p2 (bin2 P .shr 185) (.tmp 0) (.cst (AV.int .u64 16))⟩] [(0,.loc 0)]
def c177_16:AC:=.reg [⟨none,.p2 (bin2 P .add 3) (.tmp 2) (.cst (AV.int .i64 16))⟩] [(2,.loc 0)]
def c177_20:AC:=.reg [⟨none,.p2 (bin2 P .geq 185) (.tmp 0) (.cst (AV.int .u64 256))⟩] [(14,.loc 0)]
def c177_23:AC:=.reg [⟨none,.p2 (bin2 P .shr 185) (.tmp 0) (.cst (AV.int .u64 8))⟩] [(0,.loc 0)]
def c177_24:AC:=.reg [⟨none,.p2 (bin2 P .add 3) (.tmp 2) (.cst (AV.int .i64 8))⟩] [(2,.loc 0)]
def c177_27:AC:=.reg [⟨none,.p1 (conv1 P 185 5) (.tmp 0)⟩,⟨none,.p2 (index2 P 9) (.cst (AV.str [0,1,2,2,3,3,3,3,4,4,4,4,4,4,4,4,5,5,5,5,5,5,5,5,5,5,5,5,5,5,5,5,6,6,6,6,6,6,6,6,6,6,6,6,6,6,6,6,6,6,6,6,6,6,6,6,6,6,6,6,6,6,6,6,7,7,7,7,7,7,7,7,7,7,7,7,7,7,7,7,7,7,7,7,7,7,7,7,7,7,7,7,7,7,7,7,7,7,7,7,7,7,7,7,7,7,7,7,7,7,7,7,7,7,7,7,7,7,7,7,7,7,7,7,7,7,7,7,8,8,8,8,8,8,8,8,8,8,8,8,8,8,8,8,8,8,8,8,8,8,8,8,8,8,8,8,8,8,8,8,8,8,8,8,8,8,8,8,8,8,8,8,8,8,8,8,8,8,8,8,8,8,8,8,8,8,8,8,8,8,8,8,8,8,8,8,8,8,8,8,8,8,8,8,8,8,8,8,8,8,8,8,8,8,8,8,8,8,8,8,8,8,8,8,8,8,8,8,8,8,8,8,8,8,8,8,8,8,8,8,8,8,8,8,8,8,8,8,8,8,8,8,8,8,8,8])) (.loc 0)⟩,⟨none,.p1 (conv1 P 5 3) (.loc 0)⟩,⟨none,.p2 (bin2 P .add 3) (.tmp 2) (.loc 0)⟩] [(2,.loc 0)]
def c177_18:AC:=.seq (.seq c177_20 (.cond (.tmp 14) (.seq c177_23 c177_24) .skip)) (.seq c177_27 .ret)
def c177_10:AC:=.seq (.seq c177_12 (.cond (.tmp 8) (.seq c177_15 c177_16) .skip)) c177_18
def c177_2:AC:=.seq (.seq c177_4 (.cond (.tmp 4) (.seq c177_7 c177_8) .skip)) c177_10
def fn177:FnA:=⟨(.seq c177_1 c177_2),[.tmp 2],25,true⟩
theorem f177A:fnA P (keepF P) 177=some fn177:=by kernel_rfl
def F177:=An (kR c177_1 rfl)<|An (kR c177_4 rfl)<|An (kR c177_7 rfl)<|An (kR c177_8 rfl)<|An (kR c177_12 rfl)<|An (kR c177_15 rfl)<|An (kR c177_16 rfl)<|An (kR c177_20 rfl)<|An (kR c177_23 rfl)<|An (kR c177_24 rfl)<|An (kR c177_27 rfl)<|An (kS c177_18 rfl)<|An (kS c177_10 rfl)<|(kS c177_2 rfl)
def c182_1:AC:=.reg [] [(8,.tmp 1)]
def c182_6:AC:=.reg [⟨none,.p2 (bin2 P .mul 3) (.cst (AV.int .i64 2)) (.tmp 8)⟩,⟨none,.p2 (bin2 P .add 3) (.loc 0) (.cst (AV.int .i64 1))⟩] [(9,.loc 0)]
def c182_9:AC:=.reg [⟨none,.p2 (bin2 P .geq 3) (.tmp 9) (.tmp 2)⟩] [(16,.loc 0)]
def c182_15g:List (Nat×GIns):=[(0,⟨none,.mv (.tmp 9)⟩),(1,⟨none,.p2 (bin2 P .add 3) (.opi 0) (.cst (AV.int .i64 1))⟩),(2,⟨none,.mv (.tmp 2)⟩),(3,⟨none,.p2 (bin2 P .lss 3) (.opi 1) (.opi 2)⟩),(4,⟨none,.mv (.opi 3)⟩),(5,⟨some (.opi 4,true),.mv (.tmp 0)⟩),(6,⟨some (.opi 4,true),.mv (.tmp 3)⟩),(7,⟨some (.opi 4,true),.mv (.tmp 9)⟩),(8,⟨some (.opi 4,true),.p2 (bin2 P .add 3) (.opi 6) (.opi 7)⟩),(9,⟨some (.opi 4,true),.p2 (indexAddr2 P 51) (.opi 5) (.opi 8)⟩),(10,⟨some (.opi 4,true),.ld1 (.opi 9)⟩),(11,⟨some (.opi 4,true),.mv (.tmp 0)⟩),(12,⟨some (.opi 4,true),.mv (.tmp 3)⟩),(13,⟨some (.opi 4,true),.mv (.tmp 9)⟩),(14,⟨some (.opi 4,true),.p2 (bin2 P .add 3) (.opi 12) (.opi 13)⟩),(15,⟨some (.opi 4,true),.p2 (bin2 P .add 3) (.opi 14) (.cst (AV.int .i64 1))⟩),(16,⟨some (.opi 4,true),.p2 (indexAddr2 P 51) (.opi 11) (.opi 15)⟩),(17,⟨some (.opi 4,true),.ld1 (.opi 16)⟩),(18,⟨some (.opi 4,true),.cl (cf 173) [.opi 10,.opi 17]⟩),(19,⟨none,.pick (.opi 4) (.opi 18) (.cst (AV.bool false))⟩)]
def c182_15:AC:=.draw 20 (stagesOf #[0,1,0,7,15,31,31,31,223,511,1023,31,31,31,12319,28703,63519,129055,262143,524287] c182_15g [18] 0 (c182_15g.filter fun x=>x.2.i.eff)) [(36,19)]
theorem r182_15:RReg c182_15 fun call tm h=>let g:=Heap.mk h.bs (h.next+20);B (tm.gt 9) (fun v0=>B (bin2 P .add 3 v0 (AV.int .i64 1)) (fun v1=>B (tm.gt 2) (fun v2=>B (bin2 P .lss 3 v1 v2) (fun v3=>B (Wt? true v3 (tm.gt 0)) (fun v5=>B (Wt? true v3 (tm.gt 3)) (fun v6=>B (Wt? true v3 (tm.gt 9)) (fun v7=>B (Wt? true v3 (bin2 P .add 3 v6 v7)) (fun v8=>B (Wt? true v3 (indexAddr2 P 51 v5 v8)) (fun v9=>B (Wt? true v3 (load1 g v9)) (fun v10=>B (Wt? true v3 (tm.gt 0)) (fun v11=>B (Wt? true v3 (tm.gt 3)) (fun v12=>B (Wt? true v3 (tm.gt 9)) (fun v13=>B (Wt? true v3 (bin2 P .add 3 v12 v13)) (fun v14=>B (Wt? true v3 (bin2 P .add 3 v14 (AV.int .i64 1))) (fun v15=>B (Wt? true v3 (indexAddr2 P 51 v11 v15)) (fun v16=>B (Wt? true v3 (load1 g v16)) (fun v17=>B (match wanted true v3 with | true=>(call (.fn 173) [v10,v17] g) | false=>some (undefA,g)) (fun r18=>B (eBool (fun t=>match t with | true=>some r18.1 | false=>some (AV.bool false)) v3) (fun v19=>some ((tm.up (some v19) 36),r18.2)) tg) tg) tg) tg) tg) tg) tg) tg) tg) tg) tg) tg) tg) tg) tg) tg) tg) tg) tg:=kDrw rfl (by kernel_rfl)
def c182_17:AC:=.reg [⟨none,.p2 (bin2 P .add 3) (.tmp 9) (.cst (AV.int .i64 1))⟩] [(9,.loc 0)]
def c182_21g:List (Nat×GIns):=[(0,⟨none,.mv (.tmp 0)⟩),(1,⟨none,.mv (.tmp 3)⟩),(2,⟨none,.mv (.tmp 8)⟩),(3,⟨none,.p2 (bin2 P .add 3) (.opi 1) (.opi 2)⟩),(4,⟨none,.p2 (indexAddr2 P 51) (.opi 0) (.opi 3)⟩),(5,⟨none,.ld1 (.opi 4)⟩),(6,⟨none,.mv (.tmp 0)⟩),(7,⟨none,.mv (.tmp 3)⟩),(8,⟨none,.mv (.tmp 9)⟩),(9,⟨none,.p2 (bin2 P .add 3) (.opi 7) (.opi 8)⟩),(10,⟨none,.p2 (indexAddr2 P 51) (.opi 6) (.opi 9)⟩),(11,⟨none,.ld1 (.opi 10)⟩),(12,⟨none,.cl (cf 173) [.opi 5,.opi 11]⟩),(13,⟨none,.p1 (un1 .not) (.opi 12)⟩)]
def c182_21:AC:=.draw 14 (stagesOf #[0,0,0,6,15,31,0,0,0,384,960,1984,4095,8191] c182_21g [12] 0 (c182_21g.filter fun x=>x.2.i.eff)) [(52,13)]
theorem r182_21:RReg c182_21 fun call tm h=>let g:=Heap.mk h.bs (h.next+14);B (tm.gt 0) (fun v0=>B (tm.gt 3) (fun v1=>B (tm.gt 8) (fun v2=>B (bin2 P .add 3 v1 v2) (fun v3=>B (indexAddr2 P 51 v0 v3) (fun v4=>B (load1 g v4) (fun v5=>B (tm.gt 0) (fun v6=>B (tm.gt 3) (fun v7=>B (tm.gt 9) (fun v8=>B (bin2 P .add 3 v7 v8) (fun v9=>B (indexAddr2 P 51 v6 v9) (fun v10=>B (load1 g v10) (fun v11=>B (call (.fn 173) [v5,v11] g) (fun r12=>B (un1 .not r12.1) (fun v13=>some ((tm.up (some v13) 52),r12.2)) tg) tg) tg) tg) tg) tg) tg) tg) tg) tg) tg) tg) tg) tg:=kDrw rfl (by kernel_rfl)
def c182_26g:List (Nat×GIns):=[(0,⟨none,.mv (.tmp 0)⟩),(1,⟨none,.mv (.tmp 3)⟩),(2,⟨none,.mv (.tmp 8)⟩),(3,⟨none,.p2 (bin2 P .add 3) (.opi 1) (.opi 2)⟩),(4,⟨none,.mv (.tmp 0)⟩),(5,⟨none,.mv (.tmp 3)⟩),(6,⟨none,.mv (.tmp 9)⟩),(7,⟨none,.p2 (bin2 P .add 3) (.opi 5) (.opi 6)⟩),(8,⟨none,.mv (.tmp 0)⟩),(9,⟨none,.mv (.tmp 3)⟩),(10,⟨none,.mv (.tmp 9)⟩),(11,⟨none,.p2 (bin2 P .add 3) (.opi 9) (.opi 10)⟩),(12,⟨none,.p2 (indexAddr2 P 51) (.opi 8) (.opi 11)⟩),(13,⟨none,.ld1 (.opi 12)⟩),(14,⟨none,.mv (.tmp 0)⟩),(15,⟨none,.mv (.tmp 3)⟩),(16,⟨none,.mv (.tmp 8)⟩),(17,⟨none,.p2 (bin2 P .add 3) (.opi 15) (.opi 16)⟩),(18,⟨none,.p2 (indexAddr2 P 51) (.opi 14) (.opi 17)⟩),(19,⟨none,.ld1 (.opi 18)⟩),(20,⟨none,.p2 (indexAddr2 P 51) (.opi 0) (.opi 3)⟩),(21,⟨none,.st1 (.opi 20) (.opi 13)⟩),(22,⟨none,.p2 (indexAddr2 P 51) (.opi 4) (.opi 7)⟩),(23,⟨none,.st1 (.opi 22) (.opi 19)⟩)]
def c182_26:AC:=.draw 24 (stagesOf #[0,0,0,6,0,0,0,96,0,0,0,1536,3840,7936,0,0,0,98304,245760,507904,1048335,2096911,4194303,8388607] c182_26g [21,23] 0 (c182_26g.filter fun x=>x.2.i.eff)) []
theorem r182_26:RReg c182_26 fun call tm h=>let g:=Heap.mk h.bs (h.next+24);B (tm.gt 0) (fun v0=>B (tm.gt 3) (fun v1=>B (tm.gt 8) (fun v2=>B (bin2 P .add 3 v1 v2) (fun v3=>B (tm.gt 0) (fun v4=>B (tm.gt 3) (fun v5=>B (tm.gt 9) (fun v6=>B (bin2 P .add 3 v5 v6) (fun v7=>B (tm.gt 0) (fun v8=>B (tm.gt 3) (fun v9=>B (tm.gt 9) (fun v10=>B (bin2 P .add 3 v9 v10) (fun v11=>B (indexAddr2 P 51 v8 v11) (fun v12=>B (load1 g v12) (fun v13=>B (tm.gt 0) (fun v14=>B (tm.gt 3) (fun v15=>B (tm.gt 8) (fun v16=>B (bin2 P .add 3 v15 v16) (fun v17=>B (indexAddr2 P 51 v14 v17) (fun v18=>B (load1 g v18) (fun v19=>B (indexAddr2 P 51 v0 v3) (fun v20=>B (store1 g v20 v13) (fun r21=>B (indexAddr2 P 51 v4 v7) (fun v22=>B (store1 r21.2 v22 v19) (fun r23=>some (tm,r23.2)) tg) tg) tg) tg) tg) tg) tg) tg) tg) tg) tg) tg) tg) tg) tg) tg) tg) tg) tg) tg) tg) tg) tg) tg:=kDrw rfl (by kernel_rfl)
def c182_27:AC:=.reg [] [(8,.tmp 9)]
def c182_19:AC:=.seq (.seq c182_21 (.cond (.tmp 52) .ret .skip)) (.seq c182_26 c182_27)
def c182_7:AC:=.seq (.seq c182_9 (.cond (.tmp 16) (.exit 0) .skip)) (.seq (.seq c182_15 (.cond (.tmp 36) c182_17 .skip)) c182_19)
def c182_4:AC:=.block 1 (.seq c182_6 c182_7)
def c182_3:AC:=.loop c182_4
theorem r182_19:type_of% (kS c182_19 rfl):=(kS c182_19 rfl)
def fn182:FnA:=⟨(.seq c182_1 (.block 0 c182_3)),[],76,true⟩
theorem f182A:fnA P (keepF P) 182=some fn182:=by kernel_rfl
def F182:=An (kR c182_1 rfl)<|An (kR c182_6 rfl)<|An (kR c182_9 rfl)<|An r182_15<|An (kR c182_17 rfl)<|An r182_21<|An r182_26<|An (kR c182_27 rfl)<|An (kS c182_7 rfl)<|(kB c182_4 rfl)
def c183_1:AC:=.reg [] [(2,.cst (AV.int .u64 0))]
def c183_3:AC:=.reg [⟨none,.p1 (conv1 P 3 154) (.tmp 0)⟩,⟨none,.cl (cf 144) [.loc 0]⟩,⟨none,.p2 (bin2 P .shl 154) (.cst (AV.int .u64 1)) (.loc 0)⟩] [(2,.loc 0)]
def fn183:FnA:=⟨(.seq c183_1 (.seq c183_3 .ret)),[.tmp 2],7,true⟩
theorem f183A:fnA P (keepF P) 183=some fn183:=by kernel_rfl
def F183:=An (kR c183_1 rfl)<|(kR c183_3 rfl)
def c184_1:AC:=.reg [] [(2,.cst (AV.int .u64 0))]
def c184_3g:List (Nat×GIns):=[(0,⟨none,.mv (.tmp 0)⟩),(1,⟨none,.p1 (notNil) (.opi 0)⟩),(2,⟨none,.ld1 (.opi 1)⟩),(3,⟨none,.mv (.tmp 0)⟩),(4,⟨none,.p1 (notNil) (.opi 3)⟩),(5,⟨none,.ld1 (.opi 4)⟩),(6,⟨none,.p2 (bin2 P .shl 257) (.opi 5) (.cst (AV.int .u64 13))⟩),(7,⟨none,.p2 (bin2 P .xor 257) (.opi 2) (.opi 6)⟩),(8,⟨none,.p1 (notNil) (.opi 0)⟩),(9,⟨none,.st1 (.opi 8) (.opi 7)⟩)]
def c184_3:AC:=.draw 10 (stagesOf #[0,1,3,0,8,24,56,127,255,511] c184_3g [9] 0 (c184_3g.filter fun x=>x.2.i.eff)) []
theorem r184_3:RReg c184_3 fun call tm h=>let g:=Heap.mk h.bs (h.next+10);B (tm.gt 0) (fun v0=>B (notNil v0) (fun v1=>B (load1 g v1) (fun v2=>B (tm.gt 0) (fun v3=>B (notNil v3) (fun v4=>B (load1 g v4) (fun v5=>B (bin2 P .shl 257 v5 (AV.int .u64 13)) (fun v6=>B (bin2 P .xor 257 v2 v6) (fun v7=>B (notNil v0) (fun v8=>B (store1 g v8 v7) (fun r9=>some (tm,r9.2)) tg) tg) tg) tg) tg) tg) tg) tg) tg) tg:=kDrw rfl (by kernel_rfl)
def c184_5g:List (Nat×GIns):=[(0,⟨none,.mv (.tmp 0)⟩),(1,⟨none,.p1 (notNil) (.opi 0)⟩),(2,⟨none,.ld1 (.opi 1)⟩),(3,⟨none,.mv (.tmp 0)⟩),(4,⟨none,.p1 (notNil) (.opi 3)⟩),(5,⟨none,.ld1 (.opi 4)⟩),(6,⟨none,.p2 (bin2 P .shr 257) (.opi 5) (.cst (AV.int .u64 7))⟩),(7,⟨none,.p2 (bin2 P .xor 257) (.opi 2) (.opi 6)⟩),(8,⟨none,.p1 (notNil) (.opi 0)⟩),(9,⟨none,.st1 (.opi 8) (.opi 7)⟩)]
def c184_5:AC:=.draw 10 (stagesOf #[0,1,3,0,8,24,56,127,255,511] c184_5g [9] 0 (c184_5g.filter fun x=>x.2.i.eff)) []
theorem r184_5:RReg c184_5 fun call tm h=>let g:=Heap.mk h.bs (h.next+10);B (tm.gt 0) (fun v0=>B (notNil v0) (fun v1=>B (load1 g v1) (fun v2=>B (tm.gt 0) (fun v3=>B (notNil v3) (fun v4=>B (load1 g v4) (fun v5=>B (bin2 P .shr 257 v5 (AV.int .u64 7)) (fun v6=>B (bin2 P .xor 257 v2 v6) (fun v7=>B (notNil v0) (fun v8=>B (store1 g v8 v7) (fun r9=>some (tm,r9.2)) tg) tg) tg) tg) tg) tg) tg) tg) tg) tg:=kDrw rfl (by kernel_rfl)
def c184_7g:List (Nat×GIns):=[(0,⟨none,.mv (.tmp 0)⟩),(1,⟨none,.p1 (notNil) (.opi 0)⟩),(2,⟨none,.ld1 (.opi 1)⟩),(3,⟨none,.mv (.tmp 0)⟩),(4,⟨none,.p1 (notNil) (.opi 3)⟩),(5,⟨none,.ld1 (.opi 4)⟩),(6,⟨none,.p2 (bin2 P .shl 257) (.opi 5) (.cst (AV.int .u64 17))⟩),(7,⟨none,.p2 (bin2 P .xor 257) (.opi 2) (.opi 6)⟩),(8,⟨none,.p1 (notNil) (.opi 0)⟩),(9,⟨none,.st1 (.opi 8) (.opi 7)⟩)]
def c184_7:AC:=.draw 10 (stagesOf #[0,1,3,0,8,24,56,127,255,511] c184_7g [9] 0 (c184_7g.filter fun x=>x.2.i.eff)) []
theorem r184_7:RReg c184_7 fun call tm h=>let g:=Heap.mk h.bs (h.next+10);B (tm.gt 0) (fun v0=>B (notNil v0) (fun v1=>B (load1 g v1) (fun v2=>B (tm.gt 0) (fun v3=>B (notNil v3) (fun v4=>B (load1 g v4) (fun v5=>B (bin2 P .shl 257 v5 (AV.int .u64 17)) (fun v6=>B (bin2 P .xor 257 v2 v6) (fun v7=>B (notNil v0) (fun v8=>B (store1 g v8 v7) (fun r9=>some (tm,r9.2)) tg) tg) tg) tg) tg) tg) tg) tg) tg) tg:=kDrw rfl (by kernel_rfl)
def c184_9:AC:=.reg [⟨none,.p1 (notNil) (.tmp 0)⟩,⟨none,.ld1 (.loc 0)⟩] [(2,.loc 0)]
def c184_0:AC:=.seq c184_1 (.seq c184_3 (.seq c184_5 (.seq c184_7 (.seq c184_9 .ret))))
def fn184:FnA:=⟨c184_0,[.tmp 2],33,true⟩
theorem f184A:fnA P (keepF P) 184=some fn184:=by kernel_rfl
def F184:=An (kR c184_1 rfl)<|An r184_3<|An r184_5<|An r184_7<|An (kR c184_9 rfl)<|(kS c184_0 rfl)
def c185_1:AC:=.reg [] [(6,.cst (AV.int .i64 0))]
def c185_3:AC:=.reg [⟨none,.p2 (bin2 P .sub 3) (.tmp 1) (.cst (AV.int .i64 1))⟩,⟨none,.p2 (bin2 P .add 3) (.tmp 1) (.cst (AV.int .i64 1))⟩,⟨none,.cl (cf 186) [.tmp 0,.loc 1,.tmp 1,.loc 0,.tmp 2]⟩] [(6,.loc 0)]
def fn185:FnA:=⟨(.seq c185_1 (.seq c185_3 .ret)),[.tmp 6],15,true⟩
theorem f185A:fnA P (keepF P) 185=some fn185:=by kernel_rfl
def F185:=An (kR c185_1 rfl)<|(kR c185_3 rfl)
def c186_1:AC:=.reg [] [(10,.cst (AV.int .i64 0))]
def c186_3:AC:=.reg [⟨none,.cl (cf 188) [.tmp 0,.tmp 1,.tmp 2,.tmp 4]⟩,⟨none,.p1 (nthTuple 0) (.loc 0)⟩,⟨none,.p1 (nthTuple 1) (.loc 1)⟩] [(2,.loc 0),(1,.loc 1)]
def c186_5:AC:=.reg [⟨none,.cl (cf 188) [.tmp 0,.tmp 2,.tmp 3,.tmp 4]⟩,⟨none,.p1 (nthTuple 0) (.loc 0)⟩,⟨none,.p1 (nthTuple 1) (.loc 1)⟩] [(3,.loc 0),(2,.loc 1)]
def c186_7:AC:=.reg [⟨none,.cl (cf 188) [.tmp 0,.tmp 1,.tmp 2,.tmp 4]⟩,⟨none,.p1 (nthTuple 0) (.loc 0)⟩,⟨none,.p1 (nthTuple 1) (.loc 1)⟩] [(2,.loc 0),(1,.loc 1)]
def c186_9:AC:=.reg [] [(10,.tmp 2)]
def c186_0:AC:=.seq c186_1 (.seq c186_3 (.seq c186_5 (.seq c186_7 (.seq c186_9 .ret))))
def fn186:FnA:=⟨c186_0,[.tmp 10],36,true⟩
theorem f186A:fnA P (keepF P) 186=some fn186:=by kernel_rfl
def F186:=An (kR c186_1 rfl)<|An (kR c186_3 rfl)<|An (kR c186_5 rfl)<|An (kR c186_7 rfl)<|An (kR c186_9 rfl)<|(kS c186_0 rfl)
def c187_1:AC:=.reg [] [(2,.cst (AV.bool false))]
def c187_3:AC:=.reg [⟨none,.p2 (bin2 P .neq 48) (.tmp 0) (.tmp 0)⟩] [(2,.loc 0)]
def fn187:FnA:=⟨(.seq c187_1 (.seq c187_3 .ret)),[.tmp 2],6,true⟩
theorem f187A:fnA P (keepF P) 187=some fn187:=by kernel_rfl
def F187:=An (kR c187_1 rfl)<|(kR c187_3 rfl)
def c188_1:AC:=.reg [] [(9,.cst (AV.int .i64 0)),(8,.cst (AV.int .i64 0))]
def c188_4g:List (Nat×GIns):=[(0,⟨none,.mv (.tmp 0)⟩),(1,⟨none,.mv (.tmp 2)⟩),(2,⟨none,.p2 (indexAddr2 P 51) (.opi 0) (.opi 1)⟩),(3,⟨none,.ld1 (.opi 2)⟩),(4,⟨none,.mv (.tmp 0)⟩),(5,⟨none,.mv (.tmp 1)⟩),(6,⟨none,.p2 (indexAddr2 P 51) (.opi 4) (.opi 5)⟩),(7,⟨none,.ld1 (.opi 6)⟩),(8,⟨none,.cl (cf 173) [.opi 3,.opi 7]⟩)]
def c188_4:AC:=.draw 9 (stagesOf #[0,0,3,7,0,0,48,112,255] c188_4g [8] 0 (c188_4g.filter fun x=>x.2.i.eff)) [(18,8)]
theorem r188_4:RReg c188_4 fun call tm h=>let g:=Heap.mk h.bs (h.next+9);B (tm.gt 0) (fun v0=>B (tm.gt 2) (fun v1=>B (indexAddr2 P 51 v0 v1) (fun v2=>B (load1 g v2) (fun v3=>B (tm.gt 0) (fun v4=>B (tm.gt 1) (fun v5=>B (indexAddr2 P 51 v4 v5) (fun v6=>B (load1 g v6) (fun v7=>B (call (.fn 173) [v3,v7] g) (fun r8=>some ((tm.up (some r8.1) 18),r8.2)) tg) tg) tg) tg) tg) tg) tg) tg) tg:=kDrw rfl (by kernel_rfl)
def c188_7:AC:=.reg [⟨none,.p1 (notNil) (.tmp 3)⟩,⟨none,.ld1 (.loc 0)⟩,⟨none,.p2 (bin2 P .add 3) (.loc 0) (.cst (AV.int .i64 1))⟩,⟨none,.p1 (notNil) (.tmp 3)⟩,⟨none,.st1 (.loc 0) (.loc 1)⟩] []
def c188_9:AC:=.reg [] [(9,.tmp 1),(8,.tmp 2)]
def c188_3:AC:=.seq c188_4 (.cond (.tmp 18) (.seq c188_7 (.seq c188_9 .ret)) .skip)
def c188_13:AC:=.reg [] [(9,.tmp 2),(8,.tmp 1)]
def fn188:FnA:=⟨(.seq c188_1 (.seq c188_3 (.seq c188_13 .ret))),[.tmp 8,.tmp 9],28,true⟩
theorem f188A:fnA P (keepF P) 188=some fn188:=by kernel_rfl
def F188:=An (kR c188_1 rfl)<|An r188_4<|An (kR c188_7 rfl)<|An (kR c188_9 rfl)<|An (kS c188_3 rfl)<|(kR c188_13 rfl)
theorem x_len_51 (a:Option (Nat×Nat)) (n c:Nat) (g:Option Nat):len1 P 51 (.slice a n c g)=some (.int .i64 n):=len_slice (e:=48) (by kernel_rfl) a n c g
theorem x_cv_3_154 (k:IntKind) (n:Int):conv1 P 3 154 (.int k n)=some (.int .u64 (IntKind.wrap .u64 n)):=cv_int (d:=(.int .i64)) (by kernel_rfl) (by kernel_rfl) k n
theorem s_48:tSize P 48=some 1:=by kernel_rfl
theorem b_48:tBytes P 48=some 4:=by kernel_rfl
theorem z_48:tZero P 48=some (AV.int .u32 0):=by kernel_rfl
theorem x_ia_51 {k:IntKind} {b o n c i:Nat} {g:Option Nat} (hi:i<n):indexAddr2 P 51 (.slice (some (b,o)) n c g) (.int k (i:Int))=some (.ptr (some (b,o+i*1))):=ia_slice (e:=48) (by kernel_rfl) (by kernel_rfl) hi
theorem x_cv_3_257 (k:IntKind) (n:Int):conv1 P 3 257 (.int k n)=some (.int .u64 (IntKind.wrap .u64 n)):=cv_int (d:=(.int .i64)) (by kernel_rfl) (by kernel_rfl) k n
theorem x_al_257:allocN P 257=some (.cells (fillC [(AV.int .u64 0)] .leaf 0) (tyMark 257 true) 1 false,ptrTo):=by kernel_rfl
theorem x_cv_154_3 (k:IntKind) (n:Int):conv1 P 154 3 (.int k n)=some (.int .i64 (IntKind.wrap .i64 n)):=cv_int (d:=(.int .u64)) (by kernel_rfl) (by kernel_rfl) k n
theorem x_al_3:allocN P 3=some (.cells (fillC [(AV.int .i64 0)] .leaf 0) (tyMark 3 true) 1 false,ptrTo):=by kernel_rfl
theorem s_3:tSize P 3=some 1:=by kernel_rfl
theorem b_3:tBytes P 3=some 8:=by kernel_rfl
theorem z_3:tZero P 3=some (AV.int .i64 0):=by kernel_rfl
theorem x_ix_9 {k:IntKind} (l:List Nat) (i:Nat):index2 P 9 (.str l) (.int k (i:Int))=l[i]?.map fun c=>.int .u8 (c:Int):=ix_str (by kernel_rfl) l i
theorem x_cv_5_3 (k:IntKind) (n:Int):conv1 P 5 3 (.int k n)=some (.int .i64 (IntKind.wrap .i64 n)):=cv_int (d:=(.int .u8)) (by kernel_rfl) (by kernel_rfl) k n
theorem x_cv_185_5 (k:IntKind) (n:Int):conv1 P 185 5 (.int k n)=some (.int .u8 (IntKind.wrap .u8 n)):=cv_int (d:=(.int .u64)) (by kernel_rfl) (by kernel_rfl) k n
end
end Go.Proofs.YtboobbebilegnaaGreat
namespace Go.Proofs.YtboobbebilegnaaGreat
open Go.Am
noncomputable section
def c50_1:AC:=.reg [] [(0,.cst (AV.ptr none))]
def c50_3:AC:=.reg [⟨none,.al (fun (_:List AV)=>makeMap1 P 173 true) []⟩,⟨none,.cl (cf 107) []⟩,⟨none,.pn (buildN P 177 [0,1,2]) [.loc 1,.loc 0,.cst (AV.int .u32 1)]⟩,⟨none,.al (l1 box1) [.loc 0]⟩] [(0,.loc 0)]
def fn50:FnA:=⟨(.seq c50_1 (.seq c50_3 .ret)),[.tmp 0],5,true⟩
theorem f50A:fnA P (keepF P) 50=some fn50:=by kernel_rfl
def F50:=An (kR c50_1 rfl)<|(kR c50_3 rfl)
def c57_1:AC:=.reg [⟨none,.al (l1 box1) [.tmp 0]⟩] [(2,.cst AV.nilFunc),(1,.loc 0)]
def c57_3:AC:=.reg [⟨none,.pn (mkFunc (Fn.func 112) 0) [.tmp 1]⟩] [(2,.loc 0)]
def fn57:FnA:=⟨(.seq c57_1 (.seq c57_3 .ret)),[.tmp 2],4,true⟩
theorem f57A:fnA P (keepF P) 57=some fn57:=by kernel_rfl
def F57:=An (kR c57_1 rfl)<|(kR c57_3 rfl)
def c58_1:AC:=.reg [] [(7,.cst (AV.bool false)),(6,.cst (AV.int .i64 0)),(5,.cst (AV.int .i64 0)),(4,.cst (AV.str []))]
def c58_3:AC:=.reg [⟨none,.cl (cf 115) [.tmp 0,.tmp 1]⟩,⟨none,.p1 (nthTuple 0) (.loc 0)⟩,⟨none,.p1 (nthTuple 1) (.loc 1)⟩,⟨none,.al (fun (_:List AV)=>allocN P 183) []⟩,⟨none,.ef (fun vs _ h=>l2 (storeN 3 h) vs) [.loc 0,.loc 2]⟩] [(9,.loc 2),(8,.loc 1)]
def c58_5g:List (Nat×GIns):=[(0,⟨none,.p1 (fieldAddr1 P 183 0) (.tmp 8)⟩),(1,⟨none,.ld1 (.opi 0)⟩),(2,⟨none,.p1 (fieldAddr1 P 183 1) (.tmp 8)⟩),(3,⟨none,.ld1 (.opi 2)⟩),(4,⟨none,.p1 (fieldAddr1 P 183 2) (.tmp 8)⟩),(5,⟨none,.ld1 (.opi 4)⟩),(6,⟨none,.mv (.tmp 9)⟩),(7,⟨none,.p2 (bin2 P .eql 38) (.opi 6) (.cst (AV.int .i64 0))⟩),(8,⟨none,.mv (.opi 1)⟩),(9,⟨none,.mv (.opi 3)⟩),(10,⟨none,.mv (.opi 5)⟩),(11,⟨none,.mv (.opi 7)⟩)]
def c58_5:AC:=.draw 12 (stagesOf #[0,1,0,4,0,16,0,64,3,271,831,2047] c58_5g [] 0 (c58_5g.filter fun x=>x.2.i.eff)) [(7,11),(6,10),(5,9),(4,8)]
theorem r58_5:RReg c58_5 fun call tm h=>let g:=Heap.mk h.bs (h.next+12);B (B (tm.gt 8) (fun a=>fieldAddr1 P 183 0 a) tg) (fun v0=>B (load1 g v0) (fun v1=>B (B (tm.gt 8) (fun a=>fieldAddr1 P 183 1 a) tg) (fun v2=>B (load1 g v2) (fun v3=>B (B (tm.gt 8) (fun a=>fieldAddr1 P 183 2 a) tg) (fun v4=>B (load1 g v4) (fun v5=>B (tm.gt 9) (fun v6=>B (bin2 P .eql 38 v6 (AV.int .i64 0)) (fun v7=>some (((((tm.up (some v7) 7).up (some v5) 6).up (some v3) 5).up (some v1) 4),g)) tg) tg) tg) tg) tg) tg) tg) tg:=kDrw rfl (by kernel_rfl)
def fn58:FnA:=⟨(.seq c58_1 (.seq c58_3 (.seq c58_5 .ret))),[.tmp 4,.tmp 5,.tmp 6,.tmp 7],24,true⟩
theorem f58A:fnA P (keepF P) 58=some fn58:=by kernel_rfl
def F58:=An (kR c58_1 rfl)<|An (kR c58_3 rfl)<|r58_5
def c74_1:AC:=.reg [⟨none,.cl (cf 108) [.tmp 0]⟩] [(5,.loc 0)]
def c74_3:AC:=.reg [⟨none,.p1 (notNil) (.tmp 0)⟩,⟨none,.p1 (fieldAddr1 P 177 2) (.loc 0)⟩,⟨none,.ld1 (.loc 0)⟩,⟨none,.pn (folds max2) [.loc 0,.tmp 1]⟩,⟨none,.p1 (notNil) (.tmp 0)⟩,⟨none,.p1 (fieldAddr1 P 177 2) (.loc 0)⟩,⟨none,.st1 (.loc 0) (.loc 2)⟩] []
def fn74:FnA:=⟨(.seq c74_1 (.cond (.tmp 5) c74_3 .skip)),[],15,true⟩
theorem f74A:fnA P (keepF P) 74=some fn74:=by kernel_rfl
def F74:=An (kR c74_1 rfl)<|(kR c74_3 rfl)
def c77_1:AC:=.reg [⟨none,.al (l1 box1) [.tmp 1]⟩] [(4,.cst (AV.int .i64 0)),(3,.loc 0)]
def c77_4:AC:=.reg [⟨none,.p1 (fieldAddr1 P 143 0) (.tmp 3)⟩,⟨none,.ld1 (.loc 0)⟩,⟨none,.p2 (bin2 P .eql 48) (.loc 0) (.cst (AV.int .u32 0))⟩,⟨some (.loc 0,false),.p1 (fieldAddr1 P 143 0) (.tmp 3)⟩,⟨some (.loc 1,false),.ld1 (.loc 0)⟩,⟨some (.loc 2,false),.p2 (bin2 P .eql 48) (.loc 0) (.cst (AV.int .u32 4294967295))⟩,⟨none,.pick (.loc 3) (.cst (AV.bool true)) (.loc 0)⟩] [(12,.loc 0)]
def c77_7:AC:=.reg [] [(4,.cst (AV.int .i64 2))]
def c77_12:AC:=.reg [⟨none,.p1 (fieldAddr1 P 143 1) (.tmp 3)⟩,⟨none,.ld1 (.loc 0)⟩,⟨none,.pn (l1 (len1 P 9)) [.loc 0]⟩,⟨none,.p2 (bin2 P .lss 3) (.loc 0) (.cst (AV.int .i64 1))⟩,⟨some (.loc 0,false),.p1 (fieldAddr1 P 143 1) (.tmp 3)⟩,⟨some (.loc 1,false),.ld1 (.loc 0)⟩,⟨some (.loc 2,false),.pn (l1 (len1 P 9)) [.loc 0]⟩,⟨some (.loc 3,false),.p2 (bin2 P .gtr 3) (.loc 0) (.cst (AV.int .i64 64))⟩,⟨none,.pick (.loc 4) (.cst (AV.bool true)) (.loc 0)⟩,⟨some (.loc 0,false),.p1 (fieldAddr1 P 143 3) (.tmp 3)⟩,⟨some (.loc 1,false),.ld1 (.loc 0)⟩,⟨some (.loc 2,false),.p2 (bin2 P .lss 3) (.loc 0) (.cst (AV.int .i64 1))⟩,⟨none,.pick (.loc 3) (.cst (AV.bool true)) (.loc 0)⟩,⟨some (.loc 0,false),.p1 (fieldAddr1 P 143 3) (.tmp 3)⟩,⟨some (.loc 1,false),.ld1 (.loc 0)⟩,⟨some (.loc 2,false),.p2 (bin2 P .gtr 3) (.loc 0) (.cst (AV.int .i64 65535))⟩,⟨none,.pick (.loc 3) (.cst (AV.bool true)) (.loc 0)⟩] [(32,.loc 0)]
def c77_15:AC:=.reg [] [(4,.cst (AV.int .i64 4))]
def c77_20:AC:=.reg [⟨none,.p1 (fieldAddr1 P 143 0) (.tmp 3)⟩,⟨none,.ld1 (.loc 0)⟩,⟨none,.cl (cf 82) [.tmp 0,.loc 0]⟩,⟨none,.p2 (bin2 P .geq 3) (.loc 0) (.cst (AV.int .i64 0))⟩,⟨some (.loc 0,false),.mv (.tmp 0)⟩,⟨some (.loc 1,false),.p1 (fieldAddr1 P 143 1) (.tmp 3)⟩,⟨some (.loc 2,false),.ld1 (.loc 0)⟩,⟨some (.loc 3,false),.cl (cf 132) [.loc 2,.loc 0]⟩,⟨some (.loc 4,false),.p2 (bin2 P .geq 3) (.loc 0) (.cst (AV.int .i64 0))⟩,⟨none,.pick (.loc 5) (.cst (AV.bool true)) (.loc 0)⟩] [(44,.loc 0)]
def c77_23:AC:=.reg [] [(4,.cst (AV.int .i64 6))]
def c77_27:AC:=.reg [⟨none,.ldn 4 (.tmp 3)⟩,⟨none,.cl (cf 133) [.tmp 0,.loc 0]⟩] []
def c77_29:AC:=.reg [] [(4,.cst (AV.int .i64 0))]
def c77_18:AC:=.seq (.seq c77_20 (.cond (.tmp 44) (.seq c77_23 .ret) .skip)) (.seq c77_27 (.seq c77_29 .ret))
def c77_10:AC:=.seq (.seq c77_12 (.cond (.tmp 32) (.seq c77_15 .ret) .skip)) c77_18
def c77_2:AC:=.seq (.seq c77_4 (.cond (.tmp 12) (.seq c77_7 .ret) .skip)) c77_10
def fn77:FnA:=⟨(.seq c77_1 c77_2),[.tmp 4],48,true⟩
theorem f77A:fnA P (keepF P) 77=some fn77:=by kernel_rfl
def F77:=An (kR c77_1 rfl)<|An (kR c77_4 rfl)<|An (kR c77_7 rfl)<|An (kR c77_12 rfl)<|An (kR c77_15 rfl)<|An (kR c77_20 rfl)<|An (kR c77_23 rfl)<|An (kR c77_27 rfl)<|An (kR c77_29 rfl)<|An (kS c77_18 rfl)<|An (kS c77_10 rfl)<|(kS c77_2 rfl)
def c78_1:AC:=.reg [⟨none,.p1 (notNil) (.tmp 0)⟩,⟨none,.p1 (fieldAddr1 P 82 1) (.loc 0)⟩,⟨none,.ld1 (.loc 0)⟩,⟨none,.p2 (bin2 P .gtr 48) (.tmp 1) (.loc 0)⟩] [(9,.loc 0)]
def c78_3:AC:=.reg [⟨none,.p1 (notNil) (.tmp 0)⟩,⟨none,.p1 (fieldAddr1 P 82 1) (.loc 0)⟩,⟨none,.st1 (.loc 0) (.tmp 1)⟩] []
def fn78:FnA:=⟨(.seq c78_1 (.cond (.tmp 9) c78_3 .skip)),[],14,true⟩
theorem f78A:fnA P (keepF P) 78=some fn78:=by kernel_rfl
def F78:=An (kR c78_1 rfl)<|(kR c78_3 rfl)
def c82_1:AC:=.reg [] [(4,.cst (AV.int .i64 0))]
def c82_4:AC:=.reg [] [(5,.cst (AV.int .i64 0))]
def c82_9:AC:=.reg [⟨none,.p1 (notNil) (.tmp 0)⟩,⟨none,.p1 (fieldAddr1 P 82 0) (.loc 0)⟩,⟨none,.ld1 (.loc 0)⟩,⟨none,.pn (l1 (len1 P 80)) [.loc 0]⟩,⟨none,.p2 (bin2 P .lss 3) (.tmp 5) (.loc 0)⟩] [(12,.loc 0)]
def c82_16:AC:=.reg [⟨none,.p1 (notNil) (.tmp 0)⟩,⟨none,.p1 (fieldAddr1 P 82 0) (.loc 0)⟩,⟨none,.ld1 (.loc 0)⟩,⟨none,.p2 (indexAddr2 P 80) (.loc 0) (.tmp 5)⟩,⟨none,.p1 (fieldAddr1 P 143 0) (.loc 0)⟩,⟨none,.ld1 (.loc 0)⟩,⟨none,.p2 (bin2 P .eql 48) (.loc 0) (.tmp 1)⟩] [(24,.loc 0)]
def c82_19:AC:=.reg [] [(4,.tmp 5)]
def c82_14:AC:=.block 1 (.seq c82_16 (.cond (.tmp 24) (.seq c82_19 .ret) .skip))
def c82_22:AC:=.reg [⟨none,.p2 (bin2 P .add 3) (.tmp 5) (.cst (AV.int .i64 1))⟩] [(5,.loc 0)]
def c82_7:AC:=.seq (.seq c82_9 (.cond (.tmp 12) .skip (.exit 0))) (.seq c82_14 c82_22)
def c82_6:AC:=.loop c82_7
def c82_24:AC:=.reg [] [(4,.cst (AV.int .i64 (-1)))]
def c82_0:AC:=.seq c82_1 (.seq (.seq c82_4 (.block 0 c82_6)) (.seq c82_24 .ret))
def fn82:FnA:=⟨c82_0,[.tmp 4],26,true⟩
theorem f82A:fnA P (keepF P) 82=some fn82:=by kernel_rfl
def F82:=An (kR c82_1 rfl)<|An (kR c82_4 rfl)<|An (kR c82_9 rfl)<|An (kR c82_16 rfl)<|An (kR c82_19 rfl)<|An (kB c82_14 rfl)<|An (kR c82_22 rfl)<|An (kS c82_7 rfl)<|An (kR c82_24 rfl)<|(kS c82_0 rfl)
def c84_1:AC:=.reg [] [(2,.cst (AV.int .u32 0))]
def c84_4:AC:=.reg [⟨none,.cl (cf 108) [.tmp 0]⟩,⟨none,.p1 (un1 .not) (.loc 0)⟩] [(5,.loc 0)]
def c84_7:AC:=.reg [] [(2,.cst (AV.int .u32 0))]
def c84_11:AC:=.reg [⟨none,.p1 (notNil) (.tmp 0)⟩,⟨none,.p1 (fieldAddr1 P 177 2) (.loc 0)⟩,⟨none,.ld1 (.loc 0)⟩] [(2,.loc 0)]
def c84_2:AC:=.seq (.seq c84_4 (.cond (.tmp 5) (.seq c84_7 .ret) .skip)) (.seq c84_11 .ret)
def fn84:FnA:=⟨(.seq c84_1 c84_2),[.tmp 2],10,true⟩
theorem f84A:fnA P (keepF P) 84=some fn84:=by kernel_rfl
def F84:=An (kR c84_1 rfl)<|An (kR c84_4 rfl)<|An (kR c84_7 rfl)<|An (kR c84_11 rfl)<|(kS c84_2 rfl)
def c99_1:AC:=.reg [] [(0,.cst (AV.ptr none))]
def c99_3:AC:=.reg [⟨none,.pn (buildN P 82 [1]) [.cst (AV.int .u32 1)]⟩,⟨none,.al (l1 box1) [.loc 0]⟩] [(0,.loc 0)]
def fn99:FnA:=⟨(.seq c99_1 (.seq c99_3 .ret)),[.tmp 0],3,true⟩
theorem f99A:fnA P (keepF P) 99=some fn99:=by kernel_rfl
def F99:=An (kR c99_1 rfl)<|(kR c99_3 rfl)
def c107_1:AC:=.reg [] [(0,.cst (AV.ptr none))]
def c107_3:AC:=.reg [⟨none,.pn (buildN P 234 [0]) [.cst (AV.bool true)]⟩,⟨none,.al (l1 box1) [.loc 0]⟩] [(0,.loc 0)]
def fn107:FnA:=⟨(.seq c107_1 (.seq c107_3 .ret)),[.tmp 0],3,true⟩
theorem f107A:fnA P (keepF P) 107=some fn107:=by kernel_rfl
def F107:=An (kR c107_1 rfl)<|(kR c107_3 rfl)
def c108_1:AC:=.reg [] [(2,.cst (AV.bool false))]
def c108_3:AC:=.reg [⟨none,.p2 (bin2 P .neq 94) (.tmp 0) (.cst (AV.ptr none))⟩,⟨some (.loc 0,true),.mv (.tmp 0)⟩,⟨some (.loc 1,true),.p1 (notNil) (.loc 0)⟩,⟨some (.loc 2,true),.p1 (fieldAddr1 P 177 0) (.loc 0)⟩,⟨some (.loc 3,true),.ld1 (.loc 0)⟩,⟨some (.loc 4,true),.p2 (bin2 P .neq 173) (.loc 0) (.cst (AV.map none))⟩,⟨none,.pick (.loc 5) (.loc 0) (.cst (AV.bool false))⟩] [(2,.loc 0)]
def fn108:FnA:=⟨(.seq c108_1 (.seq c108_3 .ret)),[.tmp 2],12,true⟩
theorem f108A:fnA P (keepF P) 108=some fn108:=by kernel_rfl
def F108:=An (kR c108_1 rfl)<|(kR c108_3 rfl)
def c109_1:AC:=.reg [⟨none,.al (l1 box1) [.tmp 2]⟩] [(5,.loc 0)]
def c109_3g:List (Nat×GIns):=[(0,⟨none,.mv (.tmp 0)⟩),(1,⟨none,.p1 (notNil) (.opi 0)⟩),(2,⟨none,.p1 (fieldAddr1 P 177 0) (.opi 1)⟩),(3,⟨none,.ld1 (.opi 2)⟩),(4,⟨none,.mv (.tmp 1)⟩),(5,⟨none,.ldn 3 (.tmp 5)⟩),(6,⟨none,.ef (fun vs _ h=>l3 (fun m k v=>mapUpd P 173 m k v h) vs) [.opi 3,.opi 4,.opi 5]⟩)]
def c109_3:AC:=.draw 7 (stagesOf #[0,1,3,7,0,0,63] c109_3g [6] 0 (c109_3g.filter fun x=>x.2.i.eff)) []
theorem r109_3:RReg c109_3 fun call tm h=>let g:=Heap.mk h.bs (h.next+7);B (tm.gt 0) (fun v0=>B (notNil v0) (fun v1=>B (fieldAddr1 P 177 0 v1) (fun v2=>B (load1 g v2) (fun v3=>B (tm.gt 1) (fun v4=>B (B (tm.gt 5) (fun a=>loadN 3 g a) tg) (fun v5=>B ((fun vs _ h=>l3 (fun m k v=>mapUpd P 173 m k v h) vs) [v3,v4,v5] g.next g) (fun r6=>some (tm,r6.2)) tg) tg) tg) tg) tg) tg) tg:=kDrw rfl (by kernel_rfl)
def c109_5g:List (Nat×GIns):=[(0,⟨none,.mv (.tmp 0)⟩),(1,⟨none,.p1 (notNil) (.opi 0)⟩),(2,⟨none,.p1 (fieldAddr1 P 177 1) (.opi 1)⟩),(3,⟨none,.ld1 (.opi 2)⟩),(4,⟨none,.p1 (fieldAddr1 P 183 0) (.tmp 5)⟩),(5,⟨none,.ld1 (.opi 4)⟩),(6,⟨none,.mv (.tmp 1)⟩),(7,⟨none,.cl (cf 151) [.opi 3,.opi 5,.opi 6]⟩)]
def c109_5:AC:=.draw 8 (stagesOf #[0,1,3,7,0,16,0,127] c109_5g [7] 0 (c109_5g.filter fun x=>x.2.i.eff)) []
theorem r109_5:RReg c109_5 fun call tm h=>let g:=Heap.mk h.bs (h.next+8);B (tm.gt 0) (fun v0=>B (notNil v0) (fun v1=>B (fieldAddr1 P 177 1 v1) (fun v2=>B (load1 g v2) (fun v3=>B (B (tm.gt 5) (fun a=>fieldAddr1 P 183 0 a) tg) (fun v4=>B (load1 g v4) (fun v5=>B (tm.gt 1) (fun v6=>B (call (.fn 151) [v3,v5,v6] g) (fun r7=>some (tm,r7.2)) tg) tg) tg) tg) tg) tg) tg) tg:=kDrw rfl (by kernel_rfl)
def c109_6:AC:=.reg [⟨none,.p1 (notNil) (.tmp 0)⟩,⟨none,.p1 (fieldAddr1 P 177 2) (.loc 0)⟩,⟨none,.ld1 (.loc 0)⟩,⟨none,.p2 (bin2 P .add 48) (.tmp 1) (.cst (AV.int .u32 1))⟩,⟨none,.pn (folds max2) [.loc 1,.loc 0]⟩,⟨none,.p1 (notNil) (.tmp 0)⟩,⟨none,.p1 (fieldAddr1 P 177 2) (.loc 0)⟩,⟨none,.st1 (.loc 0) (.loc 2)⟩] []
def fn109:FnA:=⟨(.seq c109_1 (.seq c109_3 (.seq c109_5 c109_6))),[],30,true⟩
theorem f109A:fnA P (keepF P) 109=some fn109:=by kernel_rfl
def F109:=An (kR c109_1 rfl)<|An r109_3<|An r109_5<|(kR c109_6 rfl)
def c112_2:AC:=.reg [⟨none,.ld1 (.tmp 1)⟩,⟨none,.cl (cf 108) [.loc 0]⟩,⟨none,.p1 (un1 .not) (.loc 0)⟩] [(7,.loc 0)]
def c112_7:AC:=.reg [⟨none,.ld1 (.tmp 1)⟩,⟨none,.p1 (notNil) (.loc 0)⟩,⟨none,.p1 (fieldAddr1 P 177 0) (.loc 0)⟩,⟨none,.ld1 (.loc 0)⟩,⟨none,.cl (cf 114) [.loc 0]⟩,⟨none,.cl (cf 113) [.loc 0]⟩,⟨none,.pn (l1 (len1 P 51)) [.loc 0]⟩] [(15,.cst (AV.int .i64 0)),(14,.loc 0),(13,.loc 1)]
def c112_11:AC:=.reg [⟨none,.p2 (bin2 P .lss 3) (.tmp 15) (.tmp 14)⟩] [(16,.loc 0)]
def c112_19:AC:=.reg [⟨none,.p2 (indexAddr2 P 51) (.tmp 13) (.tmp 15)⟩,⟨none,.ld1 (.loc 0)⟩] [(4,.loc 0)]
def c112_21:AC:=.reg [⟨none,.cl (.tmp 0) [.tmp 4]⟩,⟨none,.p1 (un1 .not) (.loc 0)⟩] [(22,.loc 0)]
def c112_17:AC:=.block 1 (.seq c112_19 (.seq c112_21 (.cond (.tmp 22) .ret .skip)))
def c112_25:AC:=.reg [⟨none,.p2 (bin2 P .add 3) (.tmp 15) (.cst (AV.int .i64 1))⟩] [(15,.loc 0)]
def c112_12:AC:=.seq (.cond (.tmp 16) .skip (.exit 0)) (.seq c112_17 c112_25)
def c112_10:AC:=.seq c112_11 c112_12
def c112_9:AC:=.loop c112_10
def c112_0:AC:=.seq (.seq c112_2 (.cond (.tmp 7) .ret .skip)) (.seq c112_7 (.block 0 c112_9))
def fn112:FnA:=⟨c112_0,[],24,true⟩
theorem f112A:fnA P (keepF P) 112=some fn112:=by kernel_rfl
def F112:=An (kR c112_2 rfl)<|An (kR c112_7 rfl)<|An (kR c112_11 rfl)<|An (kR c112_19 rfl)<|An (kR c112_21 rfl)<|An (kB c112_17 rfl)<|An (kR c112_25 rfl)<|An (kS c112_12 rfl)<|An (kS c112_10 rfl)<|(kS c112_0 rfl)
def c114_1:AC:=.reg [⟨none,.al (l1 box1) [.tmp 0]⟩] [(2,.cst AV.nilFunc),(1,.loc 0)]
def c114_3:AC:=.reg [⟨none,.pn (mkFunc (Fn.func 152) 0) [.tmp 1]⟩] [(2,.loc 0)]
def fn114:FnA:=⟨(.seq c114_1 (.seq c114_3 .ret)),[.tmp 2],4,true⟩
theorem f114A:fnA P (keepF P) 114=some fn114:=by kernel_rfl
def F114:=An (kR c114_1 rfl)<|(kR c114_3 rfl)
def c115_1:AC:=.reg [⟨none,.al (fun (_:List AV)=>allocN P 183) []⟩] [(5,.cst (AV.int .i64 0)),(4,.loc 0)]
def c115_4:AC:=.reg [⟨none,.cl (cf 108) [.tmp 0]⟩,⟨none,.p1 (un1 .not) (.loc 0)⟩] [(10,.loc 0)]
def c115_7:AC:=.reg [⟨none,.pn (buildN P 183 []) []⟩,⟨none,.ef (fun vs _ h=>l2 (storeN 3 h) vs) [.tmp 4,.loc 0]⟩] [(5,.cst (AV.int .i64 1))]
def c115_11:AC:=.reg [⟨none,.p1 (notNil) (.tmp 0)⟩,⟨none,.p1 (fieldAddr1 P 177 0) (.loc 0)⟩,⟨none,.ld1 (.loc 0)⟩,⟨none,.rd (fun vs h=>l2 (fun m k=>lookup2 P 173 true m k h) vs) [.loc 0,.tmp 1]⟩,⟨none,.p1 (nthTuple 0) (.loc 0)⟩,⟨none,.p1 (nthTuple 1) (.loc 1)⟩,⟨none,.al (fun (_:List AV)=>allocN P 183) []⟩,⟨none,.ef (fun vs _ h=>l2 (storeN 3 h) vs) [.loc 0,.loc 2]⟩] [(7,.loc 2),(6,.loc 1)]
def c115_14:AC:=.reg [⟨none,.p1 (un1 .not) (.tmp 7)⟩] [(22,.loc 0)]
def c115_17:AC:=.reg [⟨none,.pn (buildN P 183 []) []⟩,⟨none,.ef (fun vs _ h=>l2 (storeN 3 h) vs) [.tmp 4,.loc 0]⟩] [(5,.cst (AV.int .i64 5))]
def c115_21:AC:=.reg [⟨none,.ldn 3 (.tmp 6)⟩,⟨none,.ef (fun vs _ h=>l2 (storeN 3 h) vs) [.tmp 4,.loc 0]⟩] [(5,.cst (AV.int .i64 0))]
def c115_12:AC:=.seq (.seq c115_14 (.cond (.tmp 22) (.seq c115_17 .ret) .skip)) (.seq c115_21 .ret)
def c115_2:AC:=.seq (.seq c115_4 (.cond (.tmp 10) (.seq c115_7 .ret) .skip)) (.seq c115_11 c115_12)
def fn115:FnA:=⟨(.seq c115_1 c115_2),[.cell 4 183,.tmp 5],25,true⟩
theorem f115A:fnA P (keepF P) 115=some fn115:=by kernel_rfl
def F115:=An (kR c115_1 rfl)<|An (kR c115_4 rfl)<|An (kR c115_7 rfl)<|An (kR c115_11 rfl)<|An (kR c115_14 rfl)<|An (kR c115_17 rfl)<|An (kR c115_21 rfl)<|An (kS c115_12 rfl)<|(kS c115_2 rfl)
def c120_1:AC:=.reg [] [(5,.cst (AV.bool false)),(4,.cst (AV.int .u32 0))]
def c120_4:AC:=.reg [⟨none,.cl (cf 108) [.tmp 0]⟩,⟨none,.p1 (un1 .not) (.loc 0)⟩] [(10,.loc 0)]
def c120_7:AC:=.reg [] [(5,.cst (AV.bool false)),(4,.cst (AV.int .u32 0))]
def c120_12:AC:=.reg [⟨none,.p1 (notNil) (.tmp 0)⟩,⟨none,.p1 (fieldAddr1 P 177 1) (.loc 0)⟩,⟨none,.ld1 (.loc 0)⟩,⟨none,.cl (cf 155) [.loc 0,.tmp 1]⟩,⟨none,.pn (l1 (len1 P 51)) [.loc 0]⟩] [(18,.cst (AV.int .i64 0)),(17,.loc 0),(16,.loc 1)]
def c120_16:AC:=.reg [⟨none,.p2 (bin2 P .lss 3) (.tmp 18) (.tmp 17)⟩] [(19,.loc 0)]
def c120_24:AC:=.reg [⟨none,.p2 (indexAddr2 P 51) (.tmp 16) (.tmp 18)⟩,⟨none,.ld1 (.loc 0)⟩] [(7,.loc 0)]
def c120_26:AC:=.reg [⟨none,.p1 (notNil) (.tmp 0)⟩,⟨none,.p1 (fieldAddr1 P 177 0) (.loc 0)⟩,⟨none,.ld1 (.loc 0)⟩,⟨none,.rd (fun vs h=>l2 (fun m k=>lookup2 P 173 false m k h) vs) [.loc 0,.tmp 7]⟩,⟨none,.p1 (field1 P 183 0) (.loc 0)⟩,⟨none,.p2 (bin2 P .eql 9) (.loc 0) (.tmp 1)⟩] [(30,.loc 0)]
def c120_29:AC:=.reg [] [(5,.cst (AV.bool true)),(4,.tmp 7)]
def c120_23:AC:=.seq c120_24 (.seq c120_26 (.cond (.tmp 30) (.seq c120_29 .ret) .skip))
def c120_32:AC:=.reg [⟨none,.p2 (bin2 P .add 3) (.tmp 18) (.cst (AV.int .i64 1))⟩] [(18,.loc 0)]
def c120_17:AC:=.seq (.cond (.tmp 19) .skip (.exit 0)) (.seq (.block 1 c120_23) c120_32)
def c120_15:AC:=.seq c120_16 c120_17
def c120_14:AC:=.loop c120_15
def c120_34:AC:=.reg [] [(5,.cst (AV.bool false)),(4,.cst (AV.int .u32 0))]
def c120_2:AC:=.seq (.seq c120_4 (.cond (.tmp 10) (.seq c120_7 .ret) .skip)) (.seq (.seq c120_12 (.block 0 c120_14)) (.seq c120_34 .ret))
def fn120:FnA:=⟨(.seq c120_1 c120_2),[.tmp 4,.tmp 5],33,true⟩
theorem f120A:fnA P (keepF P) 120=some fn120:=by kernel_rfl
def F120:=An (kR c120_1 rfl)<|An (kR c120_4 rfl)<|An (kR c120_7 rfl)<|An (kR c120_12 rfl)<|An (kR c120_16 rfl)<|An (kR c120_24 rfl)<|An (kR c120_26 rfl)<|An (kR c120_29 rfl)<|An (kS c120_23 rfl)<|An (kR c120_32 rfl)<|An (kS c120_17 rfl)<|An (kS c120_15 rfl)<|An (kR c120_34 rfl)<|(kS c120_2 rfl)
def c130_1:AC:=.reg [] [(10,.cst (AV.int .i64 0))]
def c130_4:AC:=.reg [⟨none,.cl (cf 108) [.tmp 0]⟩,⟨none,.p1 (un1 .not) (.loc 0)⟩] [(16,.loc 0)]
def c130_7:AC:=.reg [] [(10,.cst (AV.int .i64 1))]
def c130_12:AC:=.reg [⟨none,.p2 (bin2 P .eql 48) (.tmp 1) (.cst (AV.int .u32 0))⟩,⟨some (.loc 0,false),.mv (.tmp 1)⟩,⟨some (.loc 1,false),.p2 (bin2 P .eql 48) (.loc 0) (.cst (AV.int .u32 4294967295))⟩,⟨none,.pick (.loc 2) (.cst (AV.bool true)) (.loc 0)⟩] [(22,.loc 0)]
def c130_15:AC:=.reg [] [(10,.cst (AV.int .i64 2))]
def c130_19:AC:=.reg [⟨none,.cl (cf 156) [.tmp 0,.tmp 2]⟩] [(11,.loc 0)]
def c130_21:AC:=.reg [⟨none,.p1 (notNil) (.tmp 0)⟩,⟨none,.p1 (fieldAddr1 P 177 0) (.loc 0)⟩,⟨none,.ld1 (.loc 0)⟩,⟨none,.rd (fun vs h=>l2 (fun m k=>lookup2 P 173 true m k h) vs) [.loc 0,.tmp 1]⟩,⟨none,.p1 (nthTuple 0) (.loc 0)⟩,⟨none,.p1 (nthTuple 1) (.loc 1)⟩,⟨none,.al (fun (_:List AV)=>allocN P 183) []⟩,⟨none,.ef (fun vs _ h=>l2 (storeN 3 h) vs) [.loc 0,.loc 2]⟩] [(13,.loc 2)]
def c130_25:AC:=.reg [⟨none,.p2 (bin2 P .eql 38) (.tmp 11) (.cst (AV.int .i64 4))⟩,⟨some (.loc 0,false),.mv (.tmp 4)⟩,⟨some (.loc 1,false),.p2 (bin2 P .lss 3) (.loc 0) (.cst (AV.int .i64 1))⟩,⟨none,.pick (.loc 2) (.cst (AV.bool true)) (.loc 0)⟩,⟨some (.loc 0,false),.mv (.tmp 4)⟩,⟨some (.loc 1,false),.p2 (bin2 P .gtr 3) (.loc 0) (.cst (AV.int .i64 65535))⟩,⟨none,.pick (.loc 2) (.cst (AV.bool true)) (.loc 0)⟩] [(35,.loc 0)]
def c130_28:AC:=.reg [] [(10,.cst (AV.int .i64 4))]
def c130_31:AC:=.reg [⟨none,.p2 (bin2 P .neq 38) (.tmp 11) (.cst (AV.int .i64 0))⟩,⟨some (.loc 0,false),.mv (.tmp 13)⟩,⟨none,.pick (.loc 1) (.cst (AV.bool true)) (.loc 0)⟩] [(46,.loc 0)]
def c130_34:AC:=.reg [] [(10,.cst (AV.int .i64 6))]
def c130_26:AC:=.cond (.tmp 35) (.seq c130_28 .ret) (.seq c130_31 (.cond (.tmp 46) (.seq c130_34 .ret) .skip))
def c130_38:AC:=.reg [⟨none,.pn (buildN P 183 [0,1,2]) [.tmp 2,.tmp 3,.tmp 4]⟩,⟨none,.cl (cf 109) [.tmp 0,.tmp 1,.loc 0]⟩] []
def c130_40:AC:=.reg [] [(10,.cst (AV.int .i64 0))]
def c130_22:AC:=.seq (.block 0 (.seq c130_25 c130_26)) (.seq c130_38 (.seq c130_40 .ret))
def c130_10:AC:=.seq (.seq c130_12 (.cond (.tmp 22) (.seq c130_15 .ret) .skip)) (.seq c130_19 (.seq c130_21 c130_22))
def c130_2:AC:=.seq (.seq c130_4 (.cond (.tmp 16) (.seq c130_7 .ret) .skip)) c130_10
def fn130:FnA:=⟨(.seq c130_1 c130_2),[.tmp 10],59,true⟩
theorem f130A:fnA P (keepF P) 130=some fn130:=by kernel_rfl
def F130:=An (kR c130_1 rfl)<|An (kR c130_4 rfl)<|An (kR c130_7 rfl)<|An (kR c130_12 rfl)<|An (kR c130_15 rfl)<|An (kR c130_19 rfl)<|An (kR c130_21 rfl)<|An (kR c130_25 rfl)<|An (kR c130_28 rfl)<|An (kR c130_31 rfl)<|An (kR c130_34 rfl)<|An (kC c130_26 rfl)<|An (kR c130_38 rfl)<|An (kR c130_40 rfl)<|An (kS c130_22 rfl)<|An (kS c130_10 rfl)<|(kS c130_2 rfl)
def c132_1:AC:=.reg [] [(4,.cst (AV.int .i64 0))]
def c132_4:AC:=.reg [] [(5,.cst (AV.int .i64 0))]
def c132_9:AC:=.reg [⟨none,.p1 (notNil) (.tmp 0)⟩,⟨none,.p1 (fieldAddr1 P 82 0) (.loc 0)⟩,⟨none,.ld1 (.loc 0)⟩,⟨none,.pn (l1 (len1 P 80)) [.loc 0]⟩,⟨none,.p2 (bin2 P .lss 3) (.tmp 5) (.loc 0)⟩] [(12,.loc 0)]
def c132_16:AC:=.reg [⟨none,.p1 (notNil) (.tmp 0)⟩,⟨none,.p1 (fieldAddr1 P 82 0) (.loc 0)⟩,⟨none,.ld1 (.loc 0)⟩,⟨none,.p2 (indexAddr2 P 80) (.loc 0) (.tmp 5)⟩,⟨none,.p1 (fieldAddr1 P 143 1) (.loc 0)⟩,⟨none,.ld1 (.loc 0)⟩,⟨none,.p2 (bin2 P .eql 9) (.loc 0) (.tmp 1)⟩] [(24,.loc 0)]
def c132_19:AC:=.reg [] [(4,.tmp 5)]
def c132_14:AC:=.block 1 (.seq c132_16 (.cond (.tmp 24) (.seq c132_19 .ret) .skip))
def c132_22:AC:=.reg [⟨none,.p2 (bin2 P .add 3) (.tmp 5) (.cst (AV.int .i64 1))⟩] [(5,.loc 0)]
def c132_7:AC:=.seq (.seq c132_9 (.cond (.tmp 12) .skip (.exit 0))) (.seq c132_14 c132_22)
def c132_6:AC:=.loop c132_7
def c132_24:AC:=.reg [] [(4,.cst (AV.int .i64 (-1)))]
def c132_0:AC:=.seq c132_1 (.seq (.seq c132_4 (.block 0 c132_6)) (.seq c132_24 .ret))
def fn132:FnA:=⟨c132_0,[.tmp 4],26,true⟩
theorem f132A:fnA P (keepF P) 132=some fn132:=by kernel_rfl
def F132:=An (kR c132_1 rfl)<|An (kR c132_4 rfl)<|An (kR c132_9 rfl)<|An (kR c132_16 rfl)<|An (kR c132_19 rfl)<|An (kB c132_14 rfl)<|An (kR c132_22 rfl)<|An (kS c132_7 rfl)<|An (kR c132_24 rfl)<|(kS c132_0 rfl)
def c133_1:AC:=.reg [⟨none,.al (l1 box1) [.tmp 1]⟩] [(3,.loc 0)]
def c133_3:AC:=.reg [] [(4,.cst (AV.int .i64 0))]
def c133_9g:List (Nat×GIns):=[(0,⟨none,.mv (.tmp 4)⟩),(1,⟨none,.mv (.tmp 0)⟩),(2,⟨none,.p1 (notNil) (.opi 1)⟩),(3,⟨none,.p1 (fieldAddr1 P 82 0) (.opi 2)⟩),(4,⟨none,.ld1 (.opi 3)⟩),(5,⟨none,.pn (l1 (len1 P 80)) [.opi 4]⟩),(6,⟨none,.p2 (bin2 P .lss 3) (.opi 0) (.opi 5)⟩),(7,⟨none,.mv (.opi 6)⟩),(8,⟨some (.opi 7,true),.mv (.tmp 0)⟩),(9,⟨some (.opi 7,true),.p1 (notNil) (.opi 8)⟩),(10,⟨some (.opi 7,true),.p1 (fieldAddr1 P 82 0) (.opi 9)⟩),(11,⟨some (.opi 7,true),.ld1 (.opi 10)⟩),(12,⟨some (.opi 7,true),.mv (.tmp 4)⟩),(13,⟨some (.opi 7,true),.p2 (indexAddr2 P 80) (.opi 11) (.opi 12)⟩),(14,⟨some (.opi 7,true),.p1 (fieldAddr1 P 143 0) (.opi 13)⟩),(15,⟨some (.opi 7,true),.ld1 (.opi 14)⟩),(16,⟨some (.opi 7,true),.p1 (fieldAddr1 P 143 0) (.tmp 3)⟩),(17,⟨some (.opi 7,true),.ld1 (.opi 16)⟩),(18,⟨some (.opi 7,true),.p2 (bin2 P .lss 48) (.opi 15) (.opi 17)⟩),(19,⟨none,.pick (.opi 7) (.opi 18) (.cst (AV.bool false))⟩)]
def c133_9:AC:=.draw 20 (stagesOf #[0,0,2,6,14,30,63,127,255,511,1023,2047,255,8191,16383,32767,255,65791,262143,524287] c133_9g [] 0 (c133_9g.filter fun x=>x.2.i.eff)) [(25,19)]
theorem r133_9:RReg c133_9 fun call tm h=>let g:=Heap.mk h.bs (h.next+20);B (tm.gt 4) (fun v0=>B (tm.gt 0) (fun v1=>B (notNil v1) (fun v2=>B (fieldAddr1 P 82 0 v2) (fun v3=>B (load1 g v3) (fun v4=>B (l1 (len1 P 80) [v4]) (fun v5=>B (bin2 P .lss 3 v0 v5) (fun v6=>B (Wt? true v6 (tm.gt 0)) (fun v8=>B (Wt? true v6 (notNil v8)) (fun v9=>B (Wt? true v6 (fieldAddr1 P 82 0 v9)) (fun v10=>B (Wt? true v6 (load1 g v10)) (fun v11=>B (Wt? true v6 (tm.gt 4)) (fun v12=>B (Wt? true v6 (indexAddr2 P 80 v11 v12)) (fun v13=>B (Wt? true v6 (fieldAddr1 P 143 0 v13)) (fun v14=>B (Wt? true v6 (load1 g v14)) (fun v15=>B (Wt? true v6 (B (tm.gt 3) (fun a=>fieldAddr1 P 143 0 a) tg)) (fun v16=>B (Wt? true v6 (load1 g v16)) (fun v17=>B (Wt? true v6 (bin2 P .lss 48 v15 v17)) (fun v18=>B (eBool (fun t=>match t with | true=>some v18 | false=>some (AV.bool false)) v6) (fun v19=>some ((tm.up (some v19) 25),g)) tg) tg) tg) tg) tg) tg) tg) tg) tg) tg) tg) tg) tg) tg) tg) tg) tg) tg) tg:=kDrw rfl (by kernel_rfl)
def c133_14:AC:=.reg [⟨none,.p2 (bin2 P .add 3) (.tmp 4) (.cst (AV.int .i64 1))⟩] [(4,.loc 0)]
def c133_7:AC:=.seq (.seq c133_9 (.cond (.tmp 25) .skip (.exit 0))) (.block 1 c133_14)
def c133_6:AC:=.loop c133_7
def c133_16:AC:=.reg [] [(5,.cst (AV.slice none 0 0 none))]
def c133_18:AC:=.reg [⟨none,.p1 (notNil) (.tmp 0)⟩,⟨none,.p1 (fieldAddr1 P 82 0) (.loc 0)⟩,⟨none,.ld1 (.loc 0)⟩,⟨none,.pn (sliceN P 80 false true false) [.loc 0,.tmp 4]⟩,⟨none,.ef (fun vs id h=>l2 (fun s x=>appendS P 80 s x id h) vs) [.tmp 5,.loc 0]⟩] [(5,.loc 0)]
def c133_20:AC:=.reg [⟨none,.ldn 4 (.tmp 3)⟩,⟨none,.al (buildSliceN P 80 1 [0]) [.loc 0]⟩,⟨none,.ef (fun vs id h=>l2 (fun s x=>appendS P 80 s x id h) vs) [.tmp 5,.loc 0]⟩] [(5,.loc 0)]
def c133_22:AC:=.reg [⟨none,.p1 (notNil) (.tmp 0)⟩,⟨none,.p1 (fieldAddr1 P 82 0) (.loc 0)⟩,⟨none,.ld1 (.loc 0)⟩,⟨none,.pn (sliceN P 80 true false false) [.loc 0,.tmp 4]⟩,⟨none,.ef (fun vs id h=>l2 (fun s x=>appendS P 80 s x id h) vs) [.tmp 5,.loc 0]⟩,⟨none,.p1 (notNil) (.tmp 0)⟩,⟨none,.p1 (fieldAddr1 P 82 0) (.loc 0)⟩,⟨none,.st1 (.loc 0) (.loc 2)⟩] []
def c133_24g:List (Nat×GIns):=[(0,⟨none,.p1 (fieldAddr1 P 143 0) (.tmp 3)⟩),(1,⟨none,.ld1 (.opi 0)⟩),(2,⟨none,.mv (.tmp 0)⟩),(3,⟨none,.p1 (notNil) (.opi 2)⟩),(4,⟨none,.p1 (fieldAddr1 P 82 1) (.opi 3)⟩),(5,⟨none,.ld1 (.opi 4)⟩),(6,⟨none,.p2 (bin2 P .geq 48) (.opi 1) (.opi 5)⟩)]
def c133_24:AC:=.draw 7 (stagesOf #[0,1,0,4,12,28,63] c133_24g [] 0 (c133_24g.filter fun x=>x.2.i.eff)) [(57,6)]
theorem r133_24:RReg c133_24 fun call tm h=>let g:=Heap.mk h.bs (h.next+7);B (B (tm.gt 3) (fun a=>fieldAddr1 P 143 0 a) tg) (fun v0=>B (load1 g v0) (fun v1=>B (tm.gt 0) (fun v2=>B (notNil v2) (fun v3=>B (fieldAddr1 P 82 1 v3) (fun v4=>B (load1 g v4) (fun v5=>B (bin2 P .geq 48 v1 v5) (fun v6=>some ((tm.up (some v6) 57),g)) tg) tg) tg) tg) tg) tg) tg:=kDrw rfl (by kernel_rfl)
def c133_26:AC:=.reg [⟨none,.p1 (fieldAddr1 P 143 0) (.tmp 3)⟩,⟨none,.ld1 (.loc 0)⟩,⟨none,.p2 (bin2 P .add 48) (.loc 0) (.cst (AV.int .u32 1))⟩,⟨none,.p1 (notNil) (.tmp 0)⟩,⟨none,.p1 (fieldAddr1 P 82 1) (.loc 0)⟩,⟨none,.st1 (.loc 0) (.loc 2)⟩] []
def c133_19:AC:=.seq c133_20 (.seq c133_22 (.seq c133_24 (.cond (.tmp 57) c133_26 .skip)))
def c133_2:AC:=.seq c133_3 (.seq (.block 0 c133_6) (.seq c133_16 (.seq c133_18 c133_19)))
def fn133:FnA:=⟨(.seq c133_1 c133_2),[],64,true⟩
theorem f133A:fnA P (keepF P) 133=some fn133:=by kernel_rfl
def F133:=An (kR c133_1 rfl)<|An (kR c133_3 rfl)<|An r133_9<|An (kR c133_14 rfl)<|An (kS c133_7 rfl)<|An (kR c133_16 rfl)<|An (kR c133_18 rfl)<|An (kR c133_20 rfl)<|An (kR c133_22 rfl)<|An r133_24<|An (kR c133_26 rfl)<|An (kS c133_19 rfl)<|(kS c133_2 rfl)
def c151_1:AC:=.reg [] [(6,.cst (AV.int .i64 0))]
def c151_4:AC:=.reg [⟨none,.cl (cf 163) [.tmp 0]⟩,⟨none,.p1 (un1 .not) (.loc 0)⟩] [(10,.loc 0)]
def c151_7:AC:=.reg [] [(6,.cst (AV.int .i64 1))]
def c151_11g:List (Nat×GIns):=[(0,⟨none,.mv (.tmp 0)⟩),(1,⟨none,.mv (.tmp 1)⟩),(2,⟨none,.cl (cf 164) [.opi 1]⟩),(3,⟨none,.p1 (notNil) (.opi 0)⟩),(4,⟨none,.p1 (fieldAddr1 P 234 1) (.opi 3)⟩),(5,⟨none,.p2 (indexAddr2 P 232) (.opi 4) (.opi 2)⟩),(6,⟨none,.mv (.opi 5)⟩)]
def c151_11:AC:=.draw 7 (stagesOf #[0,0,2,1,9,31,63] c151_11g [2] 0 (c151_11g.filter fun x=>x.2.i.eff)) [(7,6)]
theorem r151_11:RReg c151_11 fun call tm h=>let g:=Heap.mk h.bs (h.next+7);B (tm.gt 0) (fun v0=>B (tm.gt 1) (fun v1=>B (notNil v0) (fun v3=>B (fieldAddr1 P 234 1 v3) (fun v4=>B (call (.fn 164) [v1] g) (fun r2=>B (indexAddr2 P 232 v4 r2.1) (fun v5=>some ((tm.up (some v5) 7),r2.2)) tg) tg) tg) tg) tg) tg:=kDrw rfl (by kernel_rfl)
def c151_14:AC:=.reg [⟨none,.p1 (notNil) (.tmp 7)⟩,⟨none,.ld1 (.loc 0)⟩,⟨none,.cl (cf 179) [.loc 0,.tmp 2]⟩] [(21,.loc 0)]
def c151_17:AC:=.reg [] [(6,.cst (AV.int .i64 6))]
def c151_21:AC:=.reg [⟨none,.p1 (notNil) (.tmp 7)⟩,⟨none,.ld1 (.loc 0)⟩,⟨none,.al (buildSliceN P 51 1 [0]) [.tmp 2]⟩,⟨none,.ef (fun vs id h=>l2 (fun s x=>appendS P 51 s x id h) vs) [.loc 1,.loc 0]⟩,⟨none,.p1 (notNil) (.tmp 7)⟩,⟨none,.st1 (.loc 0) (.loc 1)⟩] []
def c151_23:AC:=.reg [] [(6,.cst (AV.int .i64 0))]
def c151_12:AC:=.seq (.seq c151_14 (.cond (.tmp 21) (.seq c151_17 .ret) .skip)) (.seq c151_21 (.seq c151_23 .ret))
def c151_2:AC:=.seq (.seq c151_4 (.cond (.tmp 10) (.seq c151_7 .ret) .skip)) (.seq c151_11 c151_12)
def fn151:FnA:=⟨(.seq c151_1 c151_2),[.tmp 6],30,true⟩
theorem f151A:fnA P (keepF P) 151=some fn151:=by kernel_rfl
def F151:=An (kR c151_1 rfl)<|An (kR c151_4 rfl)<|An (kR c151_7 rfl)<|An r151_11<|An (kR c151_14 rfl)<|An (kR c151_17 rfl)<|An (kR c151_21 rfl)<|An (kR c151_23 rfl)<|An (kS c151_12 rfl)<|(kS c151_2 rfl)
def c155_1:AC:=.reg [] [(4,.cst (AV.slice none 0 0 none))]
def c155_4:AC:=.reg [⟨none,.cl (cf 163) [.tmp 0]⟩,⟨none,.p1 (un1 .not) (.loc 0)⟩] [(7,.loc 0)]
def c155_7:AC:=.reg [] [(4,.cst (AV.slice none 0 0 none))]
def c155_11g:List (Nat×GIns):=[(0,⟨none,.mv (.tmp 0)⟩),(1,⟨none,.mv (.tmp 1)⟩),(2,⟨none,.cl (cf 164) [.opi 1]⟩),(3,⟨none,.p1 (notNil) (.opi 0)⟩),(4,⟨none,.p1 (fieldAddr1 P 234 1) (.opi 3)⟩),(5,⟨none,.p2 (indexAddr2 P 232) (.opi 4) (.opi 2)⟩),(6,⟨none,.ld1 (.opi 5)⟩),(7,⟨none,.cl (cf 180) [.opi 6]⟩),(8,⟨none,.mv (.opi 7)⟩)]
def c155_11:AC:=.draw 9 (stagesOf #[0,0,2,1,9,31,63,127,255] c155_11g [2,7] 0 (c155_11g.filter fun x=>x.2.i.eff)) [(4,8)]
theorem r155_11:RReg c155_11 fun call tm h=>let g:=Heap.mk h.bs (h.next+9);B (tm.gt 0) (fun v0=>B (tm.gt 1) (fun v1=>B (notNil v0) (fun v3=>B (fieldAddr1 P 234 1 v3) (fun v4=>B (call (.fn 164) [v1] g) (fun r2=>B (indexAddr2 P 232 v4 r2.1) (fun v5=>B (load1 r2.2 v5) (fun v6=>B (call (.fn 180) [v6] r2.2) (fun r7=>some ((tm.up (some r7.1) 4),r7.2)) tg) tg) tg) tg) tg) tg) tg) tg:=kDrw rfl (by kernel_rfl)
def c155_2:AC:=.seq (.seq c155_4 (.cond (.tmp 7) (.seq c155_7 .ret) .skip)) (.seq c155_11 .ret)
def fn155:FnA:=⟨(.seq c155_1 c155_2),[.tmp 4],16,true⟩
theorem f155A:fnA P (keepF P) 155=some fn155:=by kernel_rfl
def F155:=An (kR c155_1 rfl)<|An (kR c155_4 rfl)<|An (kR c155_7 rfl)<|An r155_11<|(kS c155_2 rfl)
def c156_1:AC:=.reg [] [(4,.cst (AV.int .i64 0))]
def c156_4:AC:=.reg [⟨none,.p2 (bin2 P .eql 9) (.tmp 1) (.cst (AV.str []))⟩,⟨some (.loc 0,false),.mv (.tmp 1)⟩,⟨some (.loc 1,false),.pn (l1 (len1 P 9)) [.loc 0]⟩,⟨some (.loc 2,false),.p2 (bin2 P .gtr 3) (.loc 0) (.cst (AV.int .i64 64))⟩,⟨none,.pick (.loc 3) (.cst (AV.bool true)) (.loc 0)⟩] [(13,.loc 0)]
def c156_7:AC:=.reg [] [(4,.cst (AV.int .i64 4))]
def c156_12:AC:=.reg [⟨none,.cl (cf 120) [.tmp 0,.tmp 1]⟩,⟨none,.p1 (nthTuple 0) (.loc 0)⟩,⟨none,.p1 (nthTuple 1) (.loc 1)⟩] [(6,.loc 0)]
def c156_14:AC:=.reg [] [(20,.tmp 6)]
def c156_17:AC:=.reg [] [(4,.cst (AV.int .i64 6))]
def c156_11:AC:=.seq c156_12 (.seq c156_14 (.cond (.tmp 20) (.seq c156_17 .ret) .skip))
def c156_21:AC:=.reg [] [(4,.cst (AV.int .i64 0))]
def c156_2:AC:=.seq (.seq c156_4 (.cond (.tmp 13) (.seq c156_7 .ret) .skip)) (.seq c156_11 (.seq c156_21 .ret))
def fn156:FnA:=⟨(.seq c156_1 c156_2),[.tmp 4],21,true⟩
theorem f156A:fnA P (keepF P) 156=some fn156:=by kernel_rfl
def F156:=An (kR c156_1 rfl)<|An (kR c156_4 rfl)<|An (kR c156_7 rfl)<|An (kR c156_12 rfl)<|An (kR c156_14 rfl)<|An (kR c156_17 rfl)<|An (kS c156_11 rfl)<|An (kR c156_21 rfl)<|(kS c156_2 rfl)
def c163_1:AC:=.reg [] [(2,.cst (AV.bool false))]
def c163_3:AC:=.reg [⟨none,.p2 (bin2 P .neq 174) (.tmp 0) (.cst (AV.ptr none))⟩,⟨some (.loc 0,true),.mv (.tmp 0)⟩,⟨some (.loc 1,true),.p1 (notNil) (.loc 0)⟩,⟨some (.loc 2,true),.p1 (fieldAddr1 P 234 0) (.loc 0)⟩,⟨some (.loc 3,true),.ld1 (.loc 0)⟩,⟨none,.pick (.loc 4) (.loc 0) (.cst (AV.bool false))⟩] [(2,.loc 0)]
def fn163:FnA:=⟨(.seq c163_1 (.seq c163_3 .ret)),[.tmp 2],11,true⟩
theorem f163A:fnA P (keepF P) 163=some fn163:=by kernel_rfl
def F163:=An (kR c163_1 rfl)<|(kR c163_3 rfl)
def c164_1:AC:=.reg [] [(2,.cst (AV.int .u8 0))]
def c164_3:AC:=.reg [⟨none,.pn (l1 (len1 P 9)) [.tmp 0]⟩] [(3,.loc 0)]
def c164_6:AC:=.reg [⟨none,.pn (l1 (len1 P 9)) [.tmp 0]⟩] [(9,.cst (AV.int .i64 0)),(8,.loc 0)]
def c164_10:AC:=.reg [⟨none,.p2 (bin2 P .lss 3) (.tmp 9) (.tmp 8)⟩] [(10,.loc 0)]
def c164_18:AC:=.reg [] [(4,.tmp 9)]
def c164_19:AC:=.reg [⟨none,.p2 (index2 P 9) (.tmp 0) (.tmp 4)⟩,⟨none,.p1 (conv1 P 5 3) (.loc 0)⟩,⟨none,.p2 (bin2 P .rem 3) (.tmp 4) (.cst (AV.int .i64 7))⟩,⟨none,.p2 (bin2 P .mul 3) (.loc 0) (.cst (AV.int .i64 2))⟩,⟨none,.p2 (bin2 P .add 3) (.loc 0) (.cst (AV.int .i64 1))⟩,⟨none,.p2 (bin2 P .mul 3) (.loc 3) (.loc 0)⟩,⟨none,.p2 (bin2 P .add 3) (.tmp 3) (.loc 0)⟩] [(3,.loc 0)]
def c164_20:AC:=.reg [⟨none,.p2 (bin2 P .add 3) (.tmp 9) (.cst (AV.int .i64 1))⟩] [(9,.loc 0)]
def c164_11:AC:=.seq (.cond (.tmp 10) .skip (.exit 0)) (.seq (.block 1 (.seq c164_18 c164_19)) c164_20)
def c164_9:AC:=.seq c164_10 c164_11
def c164_8:AC:=.loop c164_9
def c164_22:AC:=.reg [⟨none,.p2 (bin2 P .rem 3) (.tmp 3) (.cst (AV.int .i64 16))⟩,⟨none,.p1 (conv1 P 3 5) (.loc 0)⟩] [(2,.loc 0)]
def c164_2:AC:=.seq c164_3 (.seq (.seq c164_6 (.block 0 c164_8)) (.seq c164_22 .ret))
def fn164:FnA:=⟨(.seq c164_1 c164_2),[.tmp 2],27,true⟩
theorem f164A:fnA P (keepF P) 164=some fn164:=by kernel_rfl
def F164:=An (kR c164_1 rfl)<|An (kR c164_3 rfl)<|An (kR c164_6 rfl)<|An (kR c164_10 rfl)<|An (kR c164_18 rfl)<|An (kR c164_19 rfl)<|An (kR c164_20 rfl)<|An (kS c164_11 rfl)<|An (kS c164_9 rfl)<|An (kR c164_22 rfl)<|(kS c164_2 rfl)
def c165_1:AC:=.reg [] [(4,.cst (AV.int .i64 0))]
def c165_4:AC:=.reg [⟨none,.pn (l1 (len1 P 51)) [.tmp 0]⟩] [(8,.cst (AV.int .i64 0)),(7,.loc 0)]
def c165_8:AC:=.reg [⟨none,.p2 (bin2 P .lss 3) (.tmp 8) (.tmp 7)⟩] [(9,.loc 0)]
def c165_16:AC:=.reg [] [(5,.tmp 8)]
def c165_18:AC:=.reg [⟨none,.p2 (indexAddr2 P 51) (.tmp 0) (.tmp 5)⟩,⟨none,.ld1 (.loc 0)⟩,⟨none,.p2 (bin2 P .eql 48) (.tmp 1) (.loc 0)⟩] [(16,.loc 0)]
def c165_21:AC:=.reg [] [(4,.tmp 5)]
def c165_15:AC:=.seq c165_16 (.seq c165_18 (.cond (.tmp 16) (.seq c165_21 .ret) .skip))
def c165_24:AC:=.reg [⟨none,.p2 (bin2 P .add 3) (.tmp 8) (.cst (AV.int .i64 1))⟩] [(8,.loc 0)]
def c165_9:AC:=.seq (.cond (.tmp 9) .skip (.exit 0)) (.seq (.block 1 c165_15) c165_24)
def c165_7:AC:=.seq c165_8 c165_9
def c165_6:AC:=.loop c165_7
def c165_26:AC:=.reg [] [(4,.cst (AV.int .i64 (-1)))]
def c165_0:AC:=.seq c165_1 (.seq (.seq c165_4 (.block 0 c165_6)) (.seq c165_26 .ret))
def fn165:FnA:=⟨c165_0,[.tmp 4],19,true⟩
theorem f165A:fnA P (keepF P) 165=some fn165:=by kernel_rfl
def F165:=An (kR c165_1 rfl)<|An (kR c165_4 rfl)<|An (kR c165_8 rfl)<|An (kR c165_16 rfl)<|An (kR c165_18 rfl)<|An (kR c165_21 rfl)<|An (kS c165_15 rfl)<|An (kR c165_24 rfl)<|An (kS c165_9 rfl)<|An (kS c165_7 rfl)<|An (kR c165_26 rfl)<|(kS c165_0 rfl)
def c179_1:AC:=.reg [] [(4,.cst (AV.bool false))]
def c179_3:AC:=.reg [⟨none,.cl (cf 165) [.tmp 0,.tmp 1]⟩,⟨none,.p2 (bin2 P .geq 3) (.loc 0) (.cst (AV.int .i64 0))⟩] [(4,.loc 0)]
def fn179:FnA:=⟨(.seq c179_1 (.seq c179_3 .ret)),[.tmp 4],9,true⟩
theorem f179A:fnA P (keepF P) 179=some fn179:=by kernel_rfl
def F179:=An (kR c179_1 rfl)<|(kR c179_3 rfl)
def c180_1:AC:=.reg [] [(2,.cst (AV.slice none 0 0 none))]
def c180_4:AC:=.reg [⟨none,.p2 (bin2 P .eql 51) (.tmp 0) (.cst (AV.slice none 0 0 none))⟩] [(4,.loc 0)]
def c180_7:AC:=.reg [] [(2,.cst (AV.slice none 0 0 none))]
def c180_11:AC:=.reg [⟨none,.al (buildSliceN P 51 0 []) []⟩,⟨none,.ef (fun vs id h=>l2 (fun s x=>appendS P 51 s x id h) vs) [.loc 0,.tmp 0]⟩] [(2,.loc 0)]
def c180_2:AC:=.seq (.seq c180_4 (.cond (.tmp 4) (.seq c180_7 .ret) .skip)) (.seq c180_11 .ret)
def fn180:FnA:=⟨(.seq c180_1 c180_2),[.tmp 2],8,true⟩
theorem f180A:fnA P (keepF P) 180=some fn180:=by kernel_rfl
def F180:=An (kR c180_1 rfl)<|An (kR c180_4 rfl)<|An (kR c180_7 rfl)<|An (kR c180_11 rfl)<|(kS c180_2 rfl)
theorem x_mm_173:makeMap1 P 173 true=some (.map [] 0,mapTo):=mm_map (kt:=48) (e:=183) (by kernel_rfl)
theorem x_bd_177_0_1_2 (m0:Option Nat) (p1:Option (Nat×Nat)) (n2:Int):buildN P 177 [0,1,2] [(AV.map m0),(AV.ptr p1),(AV.int .u32 n2)]=some (.agg [(AV.map m0),(AV.ptr p1),(AV.int .u32 n2)]):=by kernel_rfl
theorem x_fa_177_0 (b o:Nat):fieldAddr1 P 177 0 (.ptr (some (b,o)))=some (.ptr (some (b,o+0))):=by kernel_rfl
theorem x_lk_173_false {h:Heap} {b c:Nat} {es:List MEnt} (hb:h.bs.gt b=some (.map es c)) (ha:AllInt .u32 es) (n:Int):lookup2 P 173 false (.map (some b)) (.int .u32 n) h=some (match es.find? (kInt .u32 n) with | some x=>okPair false x.val true | none=>okPair false (AV.agg [(AV.str []),(AV.int .i64 0),(AV.int .i64 0)]) false):=lk_int (kt:=48) (e:=183) (by kernel_rfl) (by kernel_rfl) (by kernel_rfl) hb ha n
theorem x_fa_177_2 (b o:Nat):fieldAddr1 P 177 2 (.ptr (some (b,o)))=some (.ptr (some (b,o+2))):=by kernel_rfl
theorem x_al_183:allocN P 183=some (.cells (fillC [(AV.str []),(AV.int .i64 0),(AV.int .i64 0)] .leaf 0) (tyMark 183 true) 3 false,ptrTo):=by kernel_rfl
theorem x_fa_183_0 (b o:Nat):fieldAddr1 P 183 0 (.ptr (some (b,o)))=some (.ptr (some (b,o+0))):=by kernel_rfl
theorem s_9:tSize P 9=some 1:=by kernel_rfl
theorem b_9:tBytes P 9=some 16:=by kernel_rfl
theorem z_9:tZero P 9=some (AV.str []):=by kernel_rfl
theorem x_fa_183_1 (b o:Nat):fieldAddr1 P 183 1 (.ptr (some (b,o)))=some (.ptr (some (b,o+1))):=by kernel_rfl
theorem x_fa_183_2 (b o:Nat):fieldAddr1 P 183 2 (.ptr (some (b,o)))=some (.ptr (some (b,o+2))):=by kernel_rfl
theorem x_fa_143_0 (b o:Nat):fieldAddr1 P 143 0 (.ptr (some (b,o)))=some (.ptr (some (b,o+0))):=by kernel_rfl
theorem x_fa_143_1 (b o:Nat):fieldAddr1 P 143 1 (.ptr (some (b,o)))=some (.ptr (some (b,o+1))):=by kernel_rfl
theorem x_len_9 (l:List Nat):len1 P 9 (.str l)=some (.int .i64 l.length):=len_str (by kernel_rfl) l
theorem x_fa_143_3 (b o:Nat):fieldAddr1 P 143 3 (.ptr (some (b,o)))=some (.ptr (some (b,o+3))):=by kernel_rfl
theorem s_143:tSize P 143=some 4:=by kernel_rfl
theorem b_143:tBytes P 143=some 40:=by kernel_rfl
theorem z_143:tZero P 143=some (AV.agg [(AV.int .u32 0),(AV.str []),(AV.int .i64 0),(AV.int .i64 0)]):=by kernel_rfl
theorem x_fa_82_1 (b o:Nat):fieldAddr1 P 82 1 (.ptr (some (b,o)))=some (.ptr (some (b,o+1))):=by kernel_rfl
theorem x_fa_82_0 (b o:Nat):fieldAddr1 P 82 0 (.ptr (some (b,o)))=some (.ptr (some (b,o+0))):=by kernel_rfl
theorem u_80:P.underlying 80=some (.slice 143):=by kernel_rfl
theorem x_len_80 (a:Option (Nat×Nat)) (n c:Nat) (g:Option Nat):len1 P 80 (.slice a n c g)=some (.int .i64 n):=len_slice (e:=143) (by kernel_rfl) a n c g
theorem x_ia_80 {k:IntKind} {b o n c i:Nat} {g:Option Nat} (hi:i<n):indexAddr2 P 80 (.slice (some (b,o)) n c g) (.int k (i:Int))=some (.ptr (some (b,o+i*4))):=ia_slice (e:=143) (by kernel_rfl) (by kernel_rfl) hi
theorem x_mu_173 {h:Heap} {b c:Nat} {es:List MEnt} (hb:h.bs.gt b=some (.map es c)) (ha:AllInt .u32 es) (n:Int) (v:AV):mapUpd P 173 (.map (some b)) (.int .u32 n) v h=some (undefA,h.put b (.map (putE .u32 n v c es) (if es.any (kInt .u32 n) then c else c+1))):=mu_int (kt:=48) (e:=183) (by kernel_rfl) (by kernel_rfl) hb ha n v
theorem x_fa_177_1 (b o:Nat):fieldAddr1 P 177 1 (.ptr (some (b,o)))=some (.ptr (some (b,o+1))):=by kernel_rfl
theorem x_bd_82_1 (n0:Int):buildN P 82 [1] [(AV.int .u32 n0)]=some (.agg [(AV.slice none 0 0 none),(AV.int .u32 n0)]):=by kernel_rfl
theorem x_bd_234_0 (b0:Bool):buildN P 234 [0] [(AV.bool b0)]=some (.agg [(AV.bool b0),(AV.slice none 0 0 none),(AV.slice none 0 0 none),(AV.slice none 0 0 none),(AV.slice none 0 0 none),(AV.slice none 0 0 none),(AV.slice none 0 0 none),(AV.slice none 0 0 none),(AV.slice none 0 0 none),(AV.slice none 0 0 none),(AV.slice none 0 0 none),(AV.slice none 0 0 none),(AV.slice none 0 0 none),(AV.slice none 0 0 none),(AV.slice none 0 0 none),(AV.slice none 0 0 none),(AV.slice none 0 0 none)]):=by kernel_rfl
theorem x_ne_94 (x:Option (Nat×Nat)):bin2 P .neq 94 (.ptr x) (.ptr none)=some (.bool x.isSome):=b_neqP (e:=177) (by kernel_rfl)
theorem x_ne_173 (x:Option Nat):bin2 P .neq 173 (.map x) (.map none)=some (.bool x.isSome):=b_neqM (e:=48) (f:=183) (by kernel_rfl)
theorem x_bd_183_:buildN P 183 [] []=some (.agg [(AV.str []),(AV.int .i64 0),(AV.int .i64 0)]):=by kernel_rfl
theorem x_lk_173_true {h:Heap} {b c:Nat} {es:List MEnt} (hb:h.bs.gt b=some (.map es c)) (ha:AllInt .u32 es) (n:Int):lookup2 P 173 true (.map (some b)) (.int .u32 n) h=some (match es.find? (kInt .u32 n) with | some x=>okPair true x.val true | none=>okPair true (AV.agg [(AV.str []),(AV.int .i64 0),(AV.int .i64 0)]) false):=lk_int (kt:=48) (e:=183) (by kernel_rfl) (by kernel_rfl) (by kernel_rfl) hb ha n
theorem x_fd_183_0 (v0 v1 v2:AV):field1 P 183 0 (.agg [v0,v1,v2])=some v0:=by kernel_rfl
theorem x_bd_183_0_1_2 (s0:List Nat) (n1:Int) (n2:Int):buildN P 183 [0,1,2] [(AV.str s0),(AV.int .i64 n1),(AV.int .i64 n2)]=some (.agg [(AV.str s0),(AV.int .i64 n1),(AV.int .i64 n2)]):=by kernel_rfl
theorem x_sl_80_010 {a:Option (Nat×Nat)} {n c hi:Nat} {g:Option Nat} {k:IntKind} (hg:gOk g 4=true) (h:hi<=c):sliceN P 80 false true false [.slice a n c g,.int k (hi:Int)]=some (.slice (a.map fun p=>(p.1,p.2+0*4)) (hi - 0) (c - 0) g):=sl_010 (e:=143) (by kernel_rfl) (by kernel_rfl) hg h
theorem x_bs_80_1 (n0:Int) (s1:List Nat) (n2:Int) (n3:Int):buildSliceN P 80 1 [0] [(AV.agg [AV.int .u32 n0,AV.str s1,AV.int .i64 n2,AV.int .i64 n3])]=some (.cells (fillC [AV.int .u32 n0,AV.str s1,AV.int .i64 n2,AV.int .i64 n3] .leaf 0) [] 4 false,sliceTo 1):=by kernel_rfl
theorem x_sl_80_100 {a:Option (Nat×Nat)} {n c lo:Nat} {g:Option Nat} {k:IntKind} (hg:gOk g 4=true) (h:lo<=n):sliceN P 80 true false false [.slice a n c g,.int k (lo:Int)]=some (.slice (a.map fun p=>(p.1,p.2+lo*4)) (n - lo) (c - lo) g):=sl_100 (e:=143) (by kernel_rfl) (by kernel_rfl) hg h
theorem x_fa_234_1 (b o:Nat):fieldAddr1 P 234 1 (.ptr (some (b,o)))=some (.ptr (some (b,o+1))):=by kernel_rfl
theorem x_ia_232 {k:IntKind} {b o i:Nat} (hi:i<16):indexAddr2 P 232 (.ptr (some (b,o))) (.int k (i:Int))=some (.ptr (some (b,o+i*1))):=ia_arr (e:=51) (by kernel_rfl) (by kernel_rfl) hi
theorem u_51:P.underlying 51=some (.slice 48):=by kernel_rfl
theorem x_bd_143_0_1_2_3 (n0:Int) (s1:List Nat) (n2:Int) (n3:Int):buildN P 143 [0,1,2,3] [(AV.int .u32 n0),(AV.str s1),(AV.int .i64 n2),(AV.int .i64 n3)]=some (.agg [(AV.int .u32 n0),(AV.str s1),(AV.int .i64 n2),(AV.int .i64 n3)]):=by kernel_rfl
theorem x_bs_51_1 (n0:Int):buildSliceN P 51 1 [0] [(AV.int .u32 n0)]=some (.cells (fillC [(AV.int .u32 n0)] .leaf 0) [] 1 false,sliceTo 1):=by kernel_rfl
theorem x_ne_174 (x:Option (Nat×Nat)):bin2 P .neq 174 (.ptr x) (.ptr none)=some (.bool x.isSome):=b_neqP (e:=234) (by kernel_rfl)
theorem x_fa_234_0 (b o:Nat):fieldAddr1 P 234 0 (.ptr (some (b,o)))=some (.ptr (some (b,o+0))):=by kernel_rfl
theorem x_cv_3_5 (k:IntKind) (n:Int):conv1 P 3 5 (.int k n)=some (.int .u8 (IntKind.wrap .u8 n)):=cv_int (d:=(.int .i64)) (by kernel_rfl) (by kernel_rfl) k n
theorem x_eq_51 (x:Option (Nat×Nat)) (n c:Nat) (g:Option Nat):bin2 P .eql 51 (.slice x n c g) (.slice none 0 0 none)=some (.bool x.isNone):=b_eqlL (e:=48) (by kernel_rfl)
theorem x_bs_51_0:buildSliceN P 51 0 [] []=some (.cells (fillC [] .leaf 0) [] 0 false,sliceTo 0):=by kernel_rfl
end
end Go.Proofs.YtboobbebilegnaaGreat
namespace Go.Proofs.YtboobbebilegnaaGreat
open Go.Am
noncomputable section
def c4_1:AC:=.reg [] [(6,.cst (AV.bool false))]
def c4_4:AC:=.reg [⟨none,.pn (l1 (len1 P 46)) [.tmp 0]⟩,⟨none,.p2 (bin2 P .gtr 3) (.loc 0) (.cst (AV.int .i64 20))⟩,⟨some (.loc 0,false),.mv (.tmp 2)⟩,⟨some (.loc 1,false),.pn (l1 (len1 P 41)) [.loc 0]⟩,⟨some (.loc 2,false),.p2 (bin2 P .gtr 3) (.loc 0) (.cst (AV.int .i64 20))⟩,⟨none,.pick (.loc 3) (.cst (AV.bool true)) (.loc 0)⟩] [(27,.loc 0)]
def c4_7:AC:=.reg [⟨none,.cl (cf 8) []⟩] [(6,.loc 0)]
def c4_11:AC:=.reg [⟨none,.cl (cf 11) [.cst (AV.int .i64 256)]⟩,⟨none,.cl (cf 10) [.loc 0,.cst (AV.int .i64 (-1)),.cst (AV.slice none 0 0 none)]⟩,⟨none,.cl (cf 20) [.cst (AV.int .i64 256)]⟩,⟨none,.pn (buildN P 63 [0,1]) [.loc 0,.cst (AV.int .i64 (-1))]⟩,⟨none,.al (l1 box1) [.loc 0]⟩] [(8,.loc 0),(7,.loc 3)]
def c4_14:AC:=.reg [⟨none,.p2 (bin2 P .eql 31) (.tmp 7) (.cst (AV.ptr none))⟩] [(35,.loc 0)]
def c4_17:AC:=.reg [] [(6,.cst (AV.bool false))]
def c4_22:AC:=.reg [] [(9,.cst (AV.int .i64 0))]
def c4_27:AC:=.reg [⟨none,.pn (l1 (len1 P 41)) [.tmp 2]⟩,⟨none,.p2 (bin2 P .lss 3) (.tmp 9) (.loc 0)⟩] [(39,.loc 0)]
def c4_35:AC:=.reg [⟨none,.p2 (indexAddr2 P 41) (.tmp 2) (.tmp 9)⟩,⟨none,.ld1 (.loc 0)⟩,⟨none,.pn (l1 (len1 P 9)) [.loc 0]⟩,⟨none,.p2 (bin2 P .gtr 3) (.loc 0) (.cst (AV.int .i64 64))⟩] [(47,.loc 0)]
def c4_38:AC:=.reg [⟨none,.cl (cf 8) []⟩] [(6,.loc 0)]
def c4_42:AC:=.reg [⟨none,.p2 (bin2 P .add 3) (.cst (AV.int .i64 128)) (.tmp 9)⟩,⟨none,.p2 (indexAddr2 P 41) (.tmp 2) (.tmp 9)⟩,⟨none,.ld1 (.loc 0)⟩,⟨none,.cl (cf 21) [.tmp 7,.loc 2,.loc 0]⟩] []
def c4_43:AC:=.reg [⟨none,.p2 (bin2 P .add 3) (.cst (AV.int .i64 128)) (.tmp 9)⟩,⟨none,.p2 (indexAddr2 P 41) (.tmp 2) (.tmp 9)⟩,⟨none,.ld1 (.loc 0)⟩,⟨none,.cl (cf 22) [.tmp 8,.loc 2,.loc 0]⟩] []
def c4_33:AC:=.seq (.seq c4_35 (.cond (.tmp 47) (.seq c4_38 .ret) .skip)) (.seq c4_42 c4_43)
def c4_44:AC:=.reg [⟨none,.p2 (bin2 P .add 3) (.tmp 9) (.cst (AV.int .i64 1))⟩] [(9,.loc 0)]
def c4_25:AC:=.seq (.seq c4_27 (.cond (.tmp 39) .skip (.exit 0))) (.seq (.block 1 c4_33) c4_44)
def c4_24:AC:=.loop c4_25
def c4_46:AC:=.reg [⟨none,.cl (cf 23) [.tmp 7,.tmp 1,.tmp 0]⟩,⟨none,.p1 (nthTuple 0) (.loc 0)⟩,⟨none,.p1 (nthTuple 1) (.loc 1)⟩] [(11,.loc 0),(10,.loc 1)]
def c4_48:AC:=.reg [⟨none,.cl (cf 25) [.tmp 0]⟩,⟨none,.cl (cf 24) [.tmp 8,.tmp 1,.loc 0]⟩,⟨none,.p1 (nthTuple 0) (.loc 0)⟩,⟨none,.p1 (nthTuple 1) (.loc 1)⟩] [(13,.loc 0),(12,.loc 1)]
def c4_51:AC:=.reg [⟨none,.p2 (bin2 P .neq 3) (.tmp 11) (.tmp 13)⟩,⟨some (.loc 0,false),.mv (.tmp 10)⟩,⟨some (.loc 1,false),.p2 (bin2 P .eql 29) (.loc 0) (.cst (AV.ptr none))⟩,⟨some (.loc 2,false),.mv (.tmp 12)⟩,⟨some (.loc 3,false),.p2 (bin2 P .eql 68) (.loc 0) (.cst (AV.ptr none))⟩,⟨some (.loc 4,false),.p2 (bin2 P .neq 4) (.loc 2) (.loc 0)⟩,⟨none,.pick (.loc 5) (.cst (AV.bool true)) (.loc 0)⟩] [(89,.loc 0)]
def c4_54:AC:=.reg [] [(6,.cst (AV.bool false))]
def c4_59:AC:=.reg [⟨none,.p2 (bin2 P .eql 68) (.tmp 12) (.cst (AV.ptr none))⟩] [(91,.loc 0)]
def c4_62:AC:=.reg [⟨none,.cl (cf 8) []⟩] [(6,.loc 0)]
def c4_67:AC:=.reg [] [(14,.cst (AV.int .i64 0))]
def c4_72:AC:=.reg [⟨none,.pn (l1 (len1 P 46)) [.tmp 0]⟩,⟨none,.p2 (bin2 P .lss 3) (.tmp 14) (.loc 0)⟩] [(96,.loc 0)]
def c4_79:AC:=.reg [⟨none,.p2 (indexAddr2 P 46) (.tmp 0) (.tmp 14)⟩,⟨none,.p1 (fieldAddr1 P 50 0) (.loc 0)⟩,⟨none,.ld1 (.loc 0)⟩,⟨none,.al (buildSliceN P 51 1 [0]) [.loc 0]⟩] [(15,.loc 0)]
def c4_81:AC:=.reg [⟨none,.p2 (indexAddr2 P 46) (.tmp 0) (.tmp 14)⟩,⟨none,.p1 (fieldAddr1 P 50 3) (.loc 0)⟩,⟨none,.ld1 (.loc 0)⟩,⟨none,.cl (cf 26) [.tmp 10,.tmp 15,.loc 0]⟩,⟨none,.p1 (nthTuple 0) (.loc 0)⟩,⟨none,.p1 (nthTuple 1) (.loc 1)⟩] [(17,.loc 0),(16,.loc 1)]
def c4_83:AC:=.reg [⟨none,.p2 (indexAddr2 P 46) (.tmp 0) (.tmp 14)⟩,⟨none,.p1 (fieldAddr1 P 50 3) (.loc 0)⟩,⟨none,.ld1 (.loc 0)⟩,⟨none,.cl (cf 27) [.tmp 12,.tmp 15,.loc 0]⟩,⟨none,.p1 (nthTuple 0) (.loc 0)⟩,⟨none,.p1 (nthTuple 1) (.loc 1)⟩] [(19,.loc 0),(18,.loc 1)]
def c4_85:AC:=.reg [⟨none,.p2 (bin2 P .neq 9) (.tmp 16) (.tmp 18)⟩,⟨some (.loc 0,false),.mv (.tmp 17)⟩,⟨some (.loc 1,false),.mv (.tmp 19)⟩,⟨some (.loc 2,false),.p2 (bin2 P .neq 3) (.loc 1) (.loc 0)⟩,⟨none,.pick (.loc 3) (.cst (AV.bool true)) (.loc 0)⟩] [(134,.loc 0)]
def c4_88:AC:=.reg [] [(6,.cst (AV.bool false))]
def c4_82:AC:=.seq c4_83 (.seq c4_85 (.cond (.tmp 134) (.seq c4_88 .ret) .skip))
def c4_91:AC:=.reg [⟨none,.p2 (bin2 P .add 3) (.tmp 14) (.cst (AV.int .i64 1))⟩] [(14,.loc 0)]
def c4_70:AC:=.seq (.seq c4_72 (.cond (.tmp 96) .skip (.exit 2))) (.seq (.block 3 (.seq c4_79 (.seq c4_81 c4_82))) c4_91)
def c4_69:AC:=.loop c4_70
def c4_93g:List (Nat×GIns):=[(0,⟨none,.mv (.tmp 10)⟩),(1,⟨none,.cl (cf 15) [.opi 0]⟩),(2,⟨none,.cl (cf 25) [.opi 1]⟩),(3,⟨none,.mv (.tmp 12)⟩),(4,⟨none,.cl (cf 29) [.opi 3]⟩),(5,⟨none,.cl (cf 28) [.opi 2,.opi 4]⟩),(6,⟨none,.mv (.opi 5)⟩),(7,⟨some (.opi 6,true),.mv (.tmp 10)⟩),(8,⟨some (.opi 6,true),.cl (cf 17) [.opi 7]⟩),(9,⟨some (.opi 6,true),.mv (.tmp 12)⟩),(10,⟨some (.opi 6,true),.cl (cf 30) [.opi 9]⟩),(11,⟨some (.opi 6,true),.p2 (bin2 P .eql 3) (.opi 8) (.opi 10)⟩),(12,⟨none,.pick (.opi 6) (.opi 11) (.cst (AV.bool false))⟩),(13,⟨none,.mv (.opi 12)⟩),(14,⟨some (.opi 13,true),.mv (.tmp 10)⟩),(15,⟨some (.opi 13,true),.cl (cf 31) [.opi 14]⟩),(16,⟨some (.opi 13,true),.mv (.tmp 12)⟩),(17,⟨some (.opi 13,true),.p1 (notNil) (.opi 16)⟩),(18,⟨some (.opi 13,true),.p1 (fieldAddr1 P 85 1) (.opi 17)⟩),(19,⟨some (.opi 13,true),.ld1 (.opi 18)⟩),(20,⟨some (.opi 13,true),.p1 (notNil) (.opi 19)⟩),(21,⟨some (.opi 13,true),.p1 (fieldAddr1 P 82 1) (.opi 20)⟩),(22,⟨some (.opi 13,true),.ld1 (.opi 21)⟩),(23,⟨some (.opi 13,true),.p2 (bin2 P .eql 48) (.opi 15) (.opi 22)⟩),(24,⟨none,.pick (.opi 13) (.opi 23) (.cst (AV.bool false))⟩),(25,⟨none,.mv (.opi 24)⟩),(26,⟨some (.opi 25,true),.cl (cf 8) []⟩),(27,⟨none,.pick (.opi 25) (.opi 26) (.cst (AV.bool false))⟩),(28,⟨none,.mv (.opi 27)⟩)]
def c4_93:AC:=.draw 29 (stagesOf #[0,1,3,0,15,31,63,127,255,127,1023,2047,4095,8191,16383,32767,16383,81919,212991,475135,999423,2047999,4145151,8388607,16777215,33554431,67108863,134217727,268435455] c4_93g [1,2,4,5,8,10,15,26] 0 (c4_93g.filter fun x=>x.2.i.eff)) [(6,28)]
theorem r4_93:RReg c4_93 fun call tm h=>let g:=Heap.mk h.bs (h.next+29);B (tm.gt 10) (fun v0=>B (tm.gt 12) (fun v3=>B (call (.fn 15) [v0] g) (fun r1=>B (call (.fn 25) [r1.1] r1.2) (fun r2=>B (call (.fn 29) [v3] r2.2) (fun r4=>B (call (.fn 28) [r2.1,r4.1] r4.2) (fun r5=>B (Wt? true r5.1 (tm.gt 10)) (fun v7=>B (Wt? true r5.1 (tm.gt 12)) (fun v9=>B (match wanted true r5.1 with | true=>(call (.fn 17) [v7] r5.2) | false=>some (undefA,r5.2)) (fun r8=>B (match wanted true r5.1 with | true=>(call (.fn 30) [v9] r8.2) | false=>some (undefA,r8.2)) (fun r10=>B (Wt? true r5.1 (bin2 P .eql 3 r8.1 r10.1)) (fun v11=>B (eBool (fun t=>match t with | true=>some v11 | false=>some (AV.bool false)) r5.1) (fun v12=>B (Wt? true v12 (tm.gt 10)) (fun v14=>B (Wt? true v12 (tm.gt 12)) (fun v16=>B (Wt? true v12 (notNil v16)) (fun v17=>B (Wt? true v12 (fieldAddr1 P 85 1 v17)) (fun v18=>B (Wt? true v12 (load1 r10.2 v18)) (fun v19=>B (Wt? true v12 (notNil v19)) (fun v20=>B (Wt? true v12 (fieldAddr1 P 82 1 v20)) (fun v21=>B (Wt? true v12 (load1 r10.2 v21)) (fun v22=>B (match wanted true v12 with | true=>(call (.fn 31) [v14] r10.2) | false=>some (undefA,r10.2)) (fun r15=>iff' (Ck (Wt? true v12 (load1 r15.2 v18)) (fun w=>and' (AV.same w v19) (Ck (Wt? true v12 (load1 r15.2 v21)) (fun w=>and' (AV.same w v22) (true)) tk)) tk) (B (Wt? true v12 (bin2 P .eql 48 r15.1 v22)) (fun v23=>B (eBool (fun t=>match t with | true=>some v23 | false=>some (AV.bool false)) v12) (fun v24=>B (match wanted true v24 with | true=>(call (.fn 8) [] r15.2) | false=>some (undefA,r15.2)) (fun r26=>B (eBool (fun t=>match t with | true=>some r26.1 | false=>some (AV.bool false)) v24) (fun v27=>some ((tm.up (some v27) 6),r26.2)) tg) tg) tg) tg)) tg) tg) tg) tg) tg) tg) tg) tg) tg) tg) tg) tg) tg) tg) tg) tg) tg) tg) tg) tg) tg:=kDrw rfl (by kernel_rfl)
def c4_57:AC:=.seq (.seq c4_59 (.cond (.tmp 91) (.seq c4_62 .ret) .skip)) (.seq (.seq c4_67 (.block 2 c4_69)) (.seq c4_93 .ret))
def c4_49:AC:=.seq (.seq c4_51 (.cond (.tmp 89) (.seq c4_54 .ret) .skip)) c4_57
def c4_20:AC:=.seq (.seq c4_22 (.block 0 c4_24)) (.seq c4_46 (.seq c4_48 c4_49))
def c4_12:AC:=.seq (.seq c4_14 (.cond (.tmp 35) (.seq c4_17 .ret) .skip)) c4_20
def c4_2:AC:=.seq (.seq c4_4 (.cond (.tmp 27) (.seq c4_7 .ret) .skip)) (.seq c4_11 c4_12)
def fn4:FnA:=⟨(.seq c4_1 c4_2),[.tmp 6],163,true⟩
theorem f4A:fnA P (keepF P) 4=some fn4:=by kernel_rfl
def F4:=An (kR c4_1 rfl)<|An (kR c4_4 rfl)<|An (kR c4_7 rfl)<|An (kR c4_11 rfl)<|An (kR c4_14 rfl)<|An (kR c4_17 rfl)<|An (kR c4_22 rfl)<|An (kR c4_27 rfl)<|An (kR c4_35 rfl)<|An (kR c4_38 rfl)<|An (kR c4_42 rfl)<|An (kR c4_43 rfl)<|An (kS c4_33 rfl)<|An (kR c4_44 rfl)<|An (kS c4_25 rfl)<|An (kR c4_46 rfl)<|An (kR c4_48 rfl)<|An (kR c4_51 rfl)<|An (kR c4_54 rfl)<|An (kR c4_59 rfl)<|An (kR c4_62 rfl)<|An (kR c4_67 rfl)<|An (kR c4_72 rfl)<|An (kR c4_79 rfl)<|An (kR c4_81 rfl)<|An (kR c4_83 rfl)<|An (kR c4_85 rfl)<|An (kR c4_88 rfl)<|An (kS c4_82 rfl)<|An (kR c4_91 rfl)<|An (kS c4_70 rfl)<|An r4_93<|An (kS c4_57 rfl)<|An (kS c4_49 rfl)<|An (kS c4_20 rfl)<|An (kS c4_12 rfl)<|(kS c4_2 rfl)
def c9_1:AC:=.reg [] [(2,.cst (AV.ptr none))]
def c9_4:AC:=.reg [⟨none,.p2 (bin2 P .eql 31) (.tmp 0) (.cst (AV.ptr none))⟩,⟨some (.loc 0,false),.mv (.tmp 0)⟩,⟨some (.loc 1,false),.cl (cf 48) [.loc 0]⟩,⟨some (.loc 2,false),.p2 (bin2 P .eql 33) (.loc 0) (.cst (AV.ptr none))⟩,⟨none,.pick (.loc 3) (.cst (AV.bool true)) (.loc 0)⟩] [(10,.loc 0)]
def c9_7:AC:=.reg [] [(2,.cst (AV.ptr none))]
def c9_11:AC:=.reg [⟨none,.cl (cf 48) [.tmp 0]⟩,⟨none,.cl (cf 49) [.loc 0]⟩] [(3,.loc 0)]
def c9_13:AC:=.reg [⟨none,.cl (cf 50) []⟩,⟨none,.p2 (bin2 P .quo 3) (.tmp 3) (.cst (AV.int .i64 2))⟩,⟨none,.cl (cf 51) [.loc 0,.tmp 3]⟩,⟨none,.pn (buildN P 97 [0,1,2]) [.tmp 0,.loc 2,.loc 0]⟩,⟨none,.al (l1 box1) [.loc 0]⟩] [(2,.loc 0)]
def c9_2:AC:=.seq (.seq c9_4 (.cond (.tmp 10) (.seq c9_7 .ret) .skip)) (.seq c9_11 (.seq c9_13 .ret))
def fn9:FnA:=⟨(.seq c9_1 c9_2),[.tmp 2],22,true⟩
theorem f9A:fnA P (keepF P) 9=some fn9:=by kernel_rfl
def F9:=An (kR c9_1 rfl)<|An (kR c9_4 rfl)<|An (kR c9_7 rfl)<|An (kR c9_11 rfl)<|An (kR c9_13 rfl)<|(kS c9_2 rfl)
def c10_1:AC:=.reg [] [(6,.cst (AV.ptr none))]
def c10_4:AC:=.reg [⟨none,.cl (cf 49) [.tmp 0]⟩,⟨none,.p2 (bin2 P .eql 3) (.loc 0) (.cst (AV.int .i64 0))⟩] [(9,.loc 0)]
def c10_7:AC:=.reg [] [(6,.cst (AV.ptr none))]
def c10_11:AC:=.reg [⟨none,.cl (cf 52) [.tmp 2]⟩,⟨none,.pn (buildN P 117 [0,1,2]) [.tmp 0,.tmp 1,.loc 0]⟩,⟨none,.al (l1 box1) [.loc 0]⟩] [(6,.loc 0)]
def c10_2:AC:=.seq (.seq c10_4 (.cond (.tmp 9) (.seq c10_7 .ret) .skip)) (.seq c10_11 .ret)
def fn10:FnA:=⟨(.seq c10_1 c10_2),[.tmp 6],16,true⟩
theorem f10A:fnA P (keepF P) 10=some fn10:=by kernel_rfl
def F10:=An (kR c10_1 rfl)<|An (kR c10_4 rfl)<|An (kR c10_7 rfl)<|An (kR c10_11 rfl)<|(kS c10_2 rfl)
def c11_1:AC:=.reg [] [(2,.cst (AV.ptr none))]
def c11_4:AC:=.reg [⟨none,.p2 (bin2 P .lss 3) (.tmp 0) (.cst (AV.int .i64 256))⟩,⟨some (.loc 0,false),.mv (.tmp 0)⟩,⟨some (.loc 1,false),.p2 (bin2 P .gtr 3) (.loc 0) (.cst (AV.int .i64 2048))⟩,⟨none,.pick (.loc 2) (.cst (AV.bool true)) (.loc 0)⟩] [(8,.loc 0)]
def c11_7:AC:=.reg [] [(2,.cst (AV.ptr none))]
def c11_11:AC:=.reg [⟨none,.al (l2 (makeSlice2 P 118)) [.tmp 0,.tmp 0]⟩,⟨none,.pn (buildN P 120 [0]) [.loc 0]⟩,⟨none,.al (l1 box1) [.loc 0]⟩] [(2,.loc 0)]
def c11_2:AC:=.seq (.seq c11_4 (.cond (.tmp 8) (.seq c11_7 .ret) .skip)) (.seq c11_11 .ret)
def fn11:FnA:=⟨(.seq c11_1 c11_2),[.tmp 2],13,true⟩
theorem f11A:fnA P (keepF P) 11=some fn11:=by kernel_rfl
def F11:=An (kR c11_1 rfl)<|An (kR c11_4 rfl)<|An (kR c11_7 rfl)<|An (kR c11_11 rfl)<|(kS c11_2 rfl)
def c15_1:AC:=.reg [⟨none,.al (l1 box1) [.tmp 0]⟩,⟨none,.al (fun (_:List AV)=>allocN P 46) []⟩] [(2,.loc 0),(1,.loc 1)]
def c15_4:AC:=.reg [⟨none,.ld1 (.tmp 1)⟩,⟨none,.cl (cf 53) [.loc 0]⟩,⟨none,.p1 (un1 .not) (.loc 0)⟩] [(8,.loc 0)]
def c15_7:AC:=.reg [⟨none,.st1 (.tmp 2) (.cst (AV.slice none 0 0 none))⟩] []
def c15_12:AC:=.reg [⟨none,.ld1 (.tmp 1)⟩,⟨none,.p1 (notNil) (.loc 0)⟩,⟨none,.p1 (fieldAddr1 P 97 1) (.loc 0)⟩,⟨none,.ld1 (.loc 0)⟩,⟨none,.cl (cf 57) [.loc 0]⟩] [(13,.loc 0)]
def c15_15:AC:=.reg [] [(3,.tmp 14)]
def c15_18:AC:=.reg [⟨none,.ld1 (.tmp 1)⟩,⟨none,.p1 (notNil) (.loc 0)⟩,⟨none,.p1 (fieldAddr1 P 97 1) (.loc 0)⟩,⟨none,.ld1 (.loc 0)⟩,⟨none,.cl (cf 60) [.loc 0,.tmp 3]⟩,⟨none,.p1 (nthTuple 0) (.loc 0)⟩,⟨none,.p1 (nthTuple 1) (.loc 1)⟩,⟨none,.al (fun (_:List AV)=>allocN P 50) []⟩,⟨none,.ef (fun vs _ h=>l2 (storeN 4 h) vs) [.loc 0,.loc 2]⟩] [(4,.loc 1)]
def c15_19:AC:=.reg [⟨none,.ld1 (.tmp 2)⟩,⟨none,.ldn 4 (.tmp 4)⟩,⟨none,.al (buildSliceN P 46 1 [0]) [.loc 0]⟩,⟨none,.ef (fun vs id h=>l2 (fun s x=>appendS P 46 s x id h) vs) [.loc 2,.loc 0]⟩,⟨none,.st1 (.tmp 2) (.loc 0)⟩] []
def c15_16:AC:=.block 1 (.seq c15_18 c15_19)
def c15_14A:Code:=subC (bodyC P 15) [1,1,0,1,0] 0
def c15_14B:Code:=subC (bodyC P 15) [1,1,0,1,0] 1
def c15_14:AC:=.rangeF (.tmp 13) [14] c15_14A c15_14B
theorem q15_14a:compC P (keepF P 15) 29 c15_14A=c15_15:=by kernel_rfl
theorem q15_14b:compC P (keepF P 15) 29 c15_14B=c15_16:=by kernel_rfl
def c15_21:AC:=.reg [⟨none,.ld1 (.tmp 2)⟩,⟨none,.st1 (.tmp 2) (.loc 0)⟩] []
def c15_2:AC:=.seq (.seq c15_4 (.cond (.tmp 8) (.seq c15_7 .ret) .skip)) (.seq (.seq c15_12 (.block 0 c15_14)) (.seq c15_21 .ret))
def fn15:FnA:=⟨(.seq c15_1 c15_2),[.cell 2 46],29,false⟩
theorem f15A:fnA P (keepF P) 15=some fn15:=by kernel_rfl
def F15:=An (kR c15_1 rfl)<|An (kR c15_4 rfl)<|An (kR c15_7 rfl)<|An (kR c15_12 rfl)<|An (kR c15_15 rfl)<|An (kR c15_18 rfl)<|An (kR c15_19 rfl)<|An (kB c15_16 rfl)<|An (kR c15_21 rfl)<|(kS c15_2 rfl)
def c17_1:AC:=.reg [] [(2,.cst (AV.int .i64 0))]
def c17_4:AC:=.reg [⟨none,.cl (cf 53) [.tmp 0]⟩,⟨none,.p1 (un1 .not) (.loc 0)⟩] [(5,.loc 0)]
def c17_7:AC:=.reg [] [(2,.cst (AV.int .i64 0))]
def c17_11:AC:=.reg [⟨none,.p1 (notNil) (.tmp 0)⟩,⟨none,.p1 (fieldAddr1 P 97 2) (.loc 0)⟩,⟨none,.ld1 (.loc 0)⟩,⟨none,.cl (cf 61) [.loc 0]⟩] [(2,.loc 0)]
def c17_2:AC:=.seq (.seq c17_4 (.cond (.tmp 5) (.seq c17_7 .ret) .skip)) (.seq c17_11 .ret)
def fn17:FnA:=⟨(.seq c17_1 c17_2),[.tmp 2],11,true⟩
theorem f17A:fnA P (keepF P) 17=some fn17:=by kernel_rfl
def F17:=An (kR c17_1 rfl)<|An (kR c17_4 rfl)<|An (kR c17_7 rfl)<|An (kR c17_11 rfl)<|(kS c17_2 rfl)
def c20_1:AC:=.reg [] [(2,.cst (AV.ptr none))]
def c20_3:AC:=.reg [⟨none,.pn (buildN P 136 []) []⟩,⟨none,.al (l1 box1) [.loc 0]⟩] [(3,.loc 0)]
def c20_6:AC:=.reg [] [(4,.cst (AV.int .i64 0))]
def c20_11:AC:=.reg [⟨none,.p2 (bin2 P .lss 3) (.tmp 4) (.tmp 0)⟩] [(9,.loc 0)]
def c20_17g:List (Nat×GIns):=[(0,⟨none,.mv (.tmp 3)⟩),(1,⟨none,.mv (.tmp 3)⟩),(2,⟨none,.p1 (notNil) (.opi 1)⟩),(3,⟨none,.p1 (fieldAddr1 P 136 0) (.opi 2)⟩),(4,⟨none,.ld1 (.opi 3)⟩),(5,⟨none,.al (l2 (makeSlice2 P 42)) [.cst (AV.int .i64 64),.cst (AV.int .i64 64)]⟩),(6,⟨none,.rd (fun vs h=>l1 (fun v=>ofBytes1 P 5 v h) vs) [.opi 5]⟩),(7,⟨none,.al (buildSliceN P 41 1 [0]) [.opi 6]⟩),(8,⟨none,.ef (fun vs id h=>l2 (fun s x=>appendS P 41 s x id h) vs) [.opi 4,.opi 7]⟩),(9,⟨none,.p1 (notNil) (.opi 0)⟩),(10,⟨none,.p1 (fieldAddr1 P 136 0) (.opi 9)⟩),(11,⟨none,.st1 (.opi 10) (.opi 8)⟩)]
def c20_17:AC:=.draw 12 (stagesOf #[0,0,2,6,14,0,32,96,254,511,1023,2047] c20_17g [8,11] 0 (c20_17g.filter fun x=>x.2.i.eff)) []
theorem r20_17:RReg c20_17 fun call tm h=>let g:=Heap.mk h.bs (h.next+12);B (tm.gt 3) (fun v0=>B (tm.gt 3) (fun v1=>B (notNil v1) (fun v2=>B (fieldAddr1 P 136 0 v2) (fun v3=>B (load1 g v3) (fun v4=>B (B (l2 (makeSlice2 P 42) [(AV.int .i64 64),(AV.int .i64 64)]) (fun y=>some (y.2 (Nat.add h.next 5))) tg) (fun v5=>B (B (B (B (l2 (makeSlice2 P 42) [(AV.int .i64 64),(AV.int .i64 64)]) (fun y=>some (some y.1)) tg) (fun b5=>match b5 with | none=>some g | some b5=>some (Heap.mk (g.bs.up (some b5) (Nat.add h.next 5)) g.next)) tg) (fun hx=>(fun vs h=>l1 (fun v=>ofBytes1 P 5 v h) vs) [v5] hx) tg) (fun v6=>B (B (buildSliceN P 41 1 [0] [v6]) (fun y=>some (y.2 (Nat.add h.next 7))) tg) (fun v7=>B (B (l2 (makeSlice2 P 42) [(AV.int .i64 64),(AV.int .i64 64)]) (fun y=>some (some y.1)) tg) (fun b5=>match b5 with | none=>B (B (buildSliceN P 41 1 [0] [v6]) (fun y=>some (some y.1)) tg) (fun b7=>match b7 with | none=>B ((fun vs id h=>l2 (fun s x=>appendS P 41 s x id h) vs) [v4,v7] g.next g) (fun r8=>B (notNil v0) (fun v9=>B (fieldAddr1 P 136 0 v9) (fun v10=>B (store1 r8.2 v10 r8.1) (fun r11=>some (tm,r11.2)) tg) tg) tg) tg | some b7=>B ((fun vs id h=>l2 (fun s x=>appendS P 41 s x id h) vs) [v4,v7] (Heap.mk (g.bs.up (some b7) (Nat.add h.next 7)) g.next).next (Heap.mk (g.bs.up (some b7) (Nat.add h.next 7)) g.next)) (fun r8=>B (notNil v0) (fun v9=>B (fieldAddr1 P 136 0 v9) (fun v10=>B (store1 r8.2 v10 r8.1) (fun r11=>some (tm,r11.2)) tg) tg) tg) tg) tg | some b5=>B (B (buildSliceN P 41 1 [0] [v6]) (fun y=>some (some y.1)) tg) (fun b7=>match b7 with | none=>B ((fun vs id h=>l2 (fun s x=>appendS P 41 s x id h) vs) [v4,v7] (Heap.mk (g.bs.up (some b5) (Nat.add h.next 5)) g.next).next (Heap.mk (g.bs.up (some b5) (Nat.add h.next 5)) g.next)) (fun r8=>B (notNil v0) (fun v9=>B (fieldAddr1 P 136 0 v9) (fun v10=>B (store1 r8.2 v10 r8.1) (fun r11=>some (tm,r11.2)) tg) tg) tg) tg | some b7=>B ((fun vs id h=>l2 (fun s x=>appendS P 41 s x id h) vs) [v4,v7] (Heap.mk ((Heap.mk (g.bs.up (some b5) (Nat.add h.next 5)) g.next).bs.up (some b7) (Nat.add h.next 7)) (Heap.mk (g.bs.up (some b5) (Nat.add h.next 5)) g.next).next).next (Heap.mk ((Heap.mk (g.bs.up (some b5) (Nat.add h.next 5)) g.next).bs.up (some b7) (Nat.add h.next 7)) (Heap.mk (g.bs.up (some b5) (Nat.add h.next 5)) g.next).next)) (fun r8=>B (notNil v0) (fun v9=>B (fieldAddr1 P 136 0 v9) (fun v10=>B (store1 r8.2 v10 r8.1) (fun r11=>some (tm,r11.2)) tg) tg) tg) tg) tg) tg) tg) tg) tg) tg) tg) tg) tg) tg:=kDrw rfl (by kernel_rfl)
def c20_18:AC:=.reg [⟨none,.p2 (bin2 P .add 3) (.tmp 4) (.cst (AV.int .i64 1))⟩] [(4,.loc 0)]
def c20_9:AC:=.seq (.seq c20_11 (.cond (.tmp 9) .skip (.exit 0))) (.seq (.block 1 c20_17) c20_18)
def c20_8:AC:=.loop c20_9
def c20_20:AC:=.reg [] [(2,.tmp 3)]
def c20_2:AC:=.seq c20_3 (.seq (.seq c20_6 (.block 0 c20_8)) (.seq c20_20 .ret))
def fn20:FnA:=⟨(.seq c20_1 c20_2),[.tmp 2],24,true⟩
theorem f20A:fnA P (keepF P) 20=some fn20:=by kernel_rfl
def F20:=An (kR c20_1 rfl)<|An (kR c20_3 rfl)<|An (kR c20_6 rfl)<|An (kR c20_11 rfl)<|An r20_17<|An (kR c20_18 rfl)<|An (kS c20_9 rfl)<|An (kR c20_20 rfl)<|(kS c20_2 rfl)
def c21_1:AC:=.reg [⟨none,.al (l1 box1) [.tmp 0]⟩,⟨none,.al (l1 box1) [.tmp 1]⟩,⟨none,.al (l1 box1) [.tmp 2]⟩] [(6,.cst (AV.int .i64 0)),(5,.loc 0),(4,.loc 1),(3,.loc 2)]
def c21_3:AC:=.reg [⟨none,.ld1 (.tmp 3)⟩,⟨none,.pn (mkFunc (Fn.func 67) 0) [.tmp 3,.tmp 4,.tmp 5]⟩,⟨none,.cl (cf 66) [.loc 1,.loc 0]⟩] [(6,.loc 0)]
def fn21:FnA:=⟨(.seq c21_1 (.seq c21_3 .ret)),[.tmp 6],10,true⟩
theorem f21A:fnA P (keepF P) 21=some fn21:=by kernel_rfl
def F21:=An (kR c21_1 rfl)<|(kR c21_3 rfl)
def c22_1:AC:=.reg [] [(6,.cst (AV.int .i64 0))]
def c22_4:AC:=.reg [⟨none,.p1 (notNil) (.tmp 0)⟩,⟨none,.p1 (fieldAddr1 P 63 4) (.loc 0)⟩,⟨none,.ld1 (.loc 0)⟩] [(10,.loc 0)]
def c22_7:AC:=.reg [] [(6,.cst (AV.int .i64 8))]
def c22_12:AC:=.reg [⟨none,.cl (cf 69) [.tmp 0]⟩,⟨none,.p1 (un1 .not) (.loc 0)⟩] [(13,.loc 0)]
def c22_15:AC:=.reg [⟨none,.p1 (notNil) (.tmp 0)⟩,⟨none,.p1 (fieldAddr1 P 63 0) (.loc 0)⟩,⟨none,.ld1 (.loc 0)⟩,⟨none,.cl (cf 70) [.loc 0,.tmp 1,.tmp 2]⟩] [(6,.loc 0)]
def c22_20:AC:=.reg [⟨none,.cl (cf 71) [.tmp 0]⟩] [(22,.loc 0)]
def c22_22:AC:=.reg [⟨none,.p1 (notNil) (.tmp 0)⟩,⟨none,.p1 (fieldAddr1 P 63 0) (.loc 0)⟩,⟨none,.ld1 (.loc 0)⟩,⟨none,.cl (cf 70) [.loc 0,.tmp 1,.tmp 2]⟩] []
def c22_25:AC:=.reg [⟨none,.cl (cf 72) [.tmp 0]⟩] []
def c22_27:AC:=.reg [] [(6,.cst (AV.int .i64 8))]
def c22_18:AC:=.seq (.seq c22_20 (.cond (.tmp 22) c22_22 .skip)) (.seq c22_25 (.seq c22_27 .ret))
def c22_10:AC:=.seq (.seq c22_12 (.cond (.tmp 13) (.seq c22_15 .ret) .skip)) c22_18
def c22_2:AC:=.seq (.seq c22_4 (.cond (.tmp 10) (.seq c22_7 .ret) .skip)) c22_10
def fn22:FnA:=⟨(.seq c22_1 c22_2),[.tmp 6],32,true⟩
theorem f22A:fnA P (keepF P) 22=some fn22:=by kernel_rfl
def F22:=An (kR c22_1 rfl)<|An (kR c22_4 rfl)<|An (kR c22_7 rfl)<|An (kR c22_12 rfl)<|An (kR c22_15 rfl)<|An (kR c22_20 rfl)<|An (kR c22_22 rfl)<|An (kR c22_25 rfl)<|An (kR c22_27 rfl)<|An (kS c22_18 rfl)<|An (kS c22_10 rfl)<|(kS c22_2 rfl)
def c23_1:AC:=.reg [] [(7,.cst (AV.int .i64 0)),(6,.cst (AV.ptr none))]
def c23_3:AC:=.reg [⟨none,.cl (cf 9) [.tmp 0]⟩] [(8,.loc 0)]
def c23_6:AC:=.reg [⟨none,.p2 (bin2 P .eql 29) (.tmp 8) (.cst (AV.ptr none))⟩] [(15,.loc 0)]
def c23_9:AC:=.reg [] [(7,.cst (AV.int .i64 1)),(6,.cst (AV.ptr none))]
def c23_14:AC:=.reg [⟨none,.pn (l1 (len1 P 46)) [.tmp 2]⟩] [(18,.cst (AV.int .i64 0)),(17,.loc 0),(16,.tmp 2)]
def c23_18:AC:=.reg [⟨none,.p2 (bin2 P .lss 3) (.tmp 18) (.tmp 17)⟩] [(19,.loc 0)]
def c23_26:AC:=.reg [⟨none,.p2 (indexAddr2 P 46) (.tmp 16) (.tmp 18)⟩,⟨none,.ldn 4 (.loc 0)⟩,⟨none,.al (fun (_:List AV)=>allocN P 50) []⟩,⟨none,.ef (fun vs _ h=>l2 (storeN 4 h) vs) [.loc 0,.loc 1]⟩] [(10,.loc 1)]
def c23_28:AC:=.reg [⟨none,.ldn 4 (.tmp 10)⟩,⟨none,.cl (cf 73) [.tmp 8,.loc 0]⟩] [(11,.loc 0)]
def c23_30:AC:=.reg [⟨none,.p2 (bin2 P .neq 38) (.tmp 11) (.cst (AV.int .i64 0))⟩] [(26,.loc 0)]
def c23_33:AC:=.reg [] [(7,.tmp 11),(6,.cst (AV.ptr none))]
def c23_27:AC:=.seq c23_28 (.seq c23_30 (.cond (.tmp 26) (.seq c23_33 .ret) .skip))
def c23_36:AC:=.reg [⟨none,.p2 (bin2 P .add 3) (.tmp 18) (.cst (AV.int .i64 1))⟩] [(18,.loc 0)]
def c23_19:AC:=.seq (.cond (.tmp 19) .skip (.exit 0)) (.seq (.block 1 (.seq c23_26 c23_27)) c23_36)
def c23_17:AC:=.seq c23_18 c23_19
def c23_16:AC:=.loop c23_17
def c23_38:AC:=.reg [⟨none,.p1 (notNil) (.tmp 8)⟩,⟨none,.p1 (fieldAddr1 P 97 1) (.loc 0)⟩,⟨none,.ld1 (.loc 0)⟩,⟨none,.cl (cf 74) [.loc 0,.tmp 1]⟩] []
def c23_40:AC:=.reg [] [(7,.cst (AV.int .i64 0)),(6,.tmp 8)]
def c23_12:AC:=.seq (.seq c23_14 (.block 0 c23_16)) (.seq c23_38 (.seq c23_40 .ret))
def c23_4:AC:=.seq (.seq c23_6 (.cond (.tmp 15) (.seq c23_9 .ret) .skip)) c23_12
def fn23:FnA:=⟨(.seq c23_1 (.seq c23_3 c23_4)),[.tmp 6,.tmp 7],36,true⟩
theorem f23A:fnA P (keepF P) 23=some fn23:=by kernel_rfl
def F23:=An (kR c23_1 rfl)<|An (kR c23_3 rfl)<|An (kR c23_6 rfl)<|An (kR c23_9 rfl)<|An (kR c23_14 rfl)<|An (kR c23_18 rfl)<|An (kR c23_26 rfl)<|An (kR c23_28 rfl)<|An (kR c23_30 rfl)<|An (kR c23_33 rfl)<|An (kS c23_27 rfl)<|An (kR c23_36 rfl)<|An (kS c23_19 rfl)<|An (kS c23_17 rfl)<|An (kR c23_38 rfl)<|An (kR c23_40 rfl)<|An (kS c23_12 rfl)<|(kS c23_4 rfl)
def c24_1:AC:=.reg [] [(7,.cst (AV.int .i64 0)),(6,.cst (AV.ptr none))]
def c24_3:AC:=.reg [⟨none,.cl (cf 42) [.tmp 0]⟩] [(8,.loc 0)]
def c24_6:AC:=.reg [] [(9,.cst (AV.int .i64 0))]
def c24_11:AC:=.reg [⟨none,.pn (l1 (len1 P 71)) [.tmp 2]⟩,⟨none,.p2 (bin2 P .lss 3) (.tmp 9) (.loc 0)⟩] [(21,.loc 0)]
def c24_18:AC:=.reg [⟨none,.p2 (indexAddr2 P 71) (.tmp 2) (.tmp 9)⟩,⟨none,.ldn 4 (.loc 0)⟩,⟨none,.al (fun (_:List AV)=>allocN P 93) []⟩,⟨none,.ef (fun vs _ h=>l2 (storeN 4 h) vs) [.loc 0,.loc 1]⟩] [(10,.loc 1)]
def c24_20:AC:=.reg [⟨none,.cl (cf 75) [.tmp 8]⟩] [(11,.loc 0)]
def c24_22:AC:=.reg [] [(12,.cst (AV.bool false))]
def c24_25:AC:=.reg [] [(13,.cst (AV.int .i64 0))]
def c24_30:AC:=.reg [⟨none,.pn (l1 (len1 P 24)) [.tmp 11]⟩,⟨none,.p2 (bin2 P .lss 3) (.tmp 13) (.loc 0)⟩] [(33,.loc 0)]
def c24_36g:List (Nat×GIns):=[(0,⟨none,.mv (.tmp 12)⟩),(1,⟨none,.mv (.opi 0)⟩),(2,⟨some (.opi 1,false),.mv (.tmp 11)⟩),(3,⟨some (.opi 1,false),.mv (.tmp 13)⟩),(4,⟨some (.opi 1,false),.p2 (indexAddr2 P 24) (.opi 2) (.opi 3)⟩),(5,⟨some (.opi 1,false),.ld1 (.opi 4)⟩),(6,⟨some (.opi 1,false),.p1 (fieldAddr1 P 93 1) (.tmp 10)⟩),(7,⟨some (.opi 1,false),.ld1 (.opi 6)⟩),(8,⟨some (.opi 1,false),.p2 (bin2 P .eql 3) (.opi 5) (.opi 7)⟩),(9,⟨none,.pick (.opi 1) (.cst (AV.bool true)) (.opi 8)⟩),(10,⟨none,.mv (.opi 9)⟩)]
def c24_36:AC:=.draw 11 (stagesOf #[0,1,3,3,15,31,3,67,255,511,1023] c24_36g [] 0 (c24_36g.filter fun x=>x.2.i.eff)) [(12,10)]
theorem r24_36:RReg c24_36 fun call tm h=>let g:=Heap.mk h.bs (h.next+11);B (tm.gt 12) (fun v0=>B (Wt? false v0 (tm.gt 11)) (fun v2=>B (Wt? false v0 (tm.gt 13)) (fun v3=>B (Wt? false v0 (indexAddr2 P 24 v2 v3)) (fun v4=>B (Wt? false v0 (load1 g v4)) (fun v5=>B (Wt? false v0 (B (tm.gt 10) (fun a=>fieldAddr1 P 93 1 a) tg)) (fun v6=>B (Wt? false v0 (load1 g v6)) (fun v7=>B (Wt? false v0 (bin2 P .eql 3 v5 v7)) (fun v8=>B (eBool (fun t=>match t with | true=>some (AV.bool true) | false=>some v8) v0) (fun v9=>some ((tm.up (some v9) 12),g)) tg) tg) tg) tg) tg) tg) tg) tg) tg:=kDrw rfl (by kernel_rfl)
def c24_37:AC:=.reg [⟨none,.p2 (bin2 P .add 3) (.tmp 13) (.cst (AV.int .i64 1))⟩] [(13,.loc 0)]
def c24_28:AC:=.seq (.seq c24_30 (.cond (.tmp 33) .skip (.exit 2))) (.seq (.block 3 c24_36) c24_37)
def c24_27:AC:=.loop c24_28
def c24_40:AC:=.reg [⟨none,.p1 (fieldAddr1 P 93 3) (.tmp 10)⟩,⟨none,.ld1 (.loc 0)⟩,⟨none,.p2 (bin2 P .lss 3) (.loc 0) (.cst (AV.int .i64 1))⟩,⟨some (.loc 0,false),.p1 (fieldAddr1 P 93 3) (.tmp 10)⟩,⟨some (.loc 1,false),.ld1 (.loc 0)⟩,⟨some (.loc 2,false),.p2 (bin2 P .gtr 3) (.loc 0) (.cst (AV.int .i64 64))⟩,⟨none,.pick (.loc 3) (.cst (AV.bool true)) (.loc 0)⟩,⟨some (.loc 0,false),.mv (.tmp 12)⟩,⟨some (.loc 1,false),.p1 (un1 .not) (.loc 0)⟩,⟨none,.pick (.loc 2) (.cst (AV.bool true)) (.loc 0)⟩] [(57,.loc 0)]
def c24_43:AC:=.reg [] [(7,.cst (AV.int .i64 4)),(6,.cst (AV.ptr none))]
def c24_47:AC:=.reg [⟨none,.p1 (fieldAddr1 P 93 1) (.tmp 10)⟩,⟨none,.ld1 (.loc 0)⟩,⟨none,.cl (cf 76) [.tmp 0,.loc 0]⟩,⟨none,.p1 (nthTuple 0) (.loc 0)⟩,⟨none,.p1 (nthTuple 1) (.loc 1)⟩] [(15,.loc 0),(14,.loc 1)]
def c24_50:AC:=.reg [⟨none,.p2 (bin2 P .neq 3) (.tmp 15) (.cst (AV.int .i64 0))⟩] [(66,.loc 0)]
def c24_53:AC:=.reg [] [(7,.tmp 15),(6,.cst (AV.ptr none))]
def c24_57g:List (Nat×GIns):=[(0,⟨none,.mv (.tmp 8)⟩),(1,⟨none,.p1 (notNil) (.opi 0)⟩),(2,⟨none,.p1 (fieldAddr1 P 85 1) (.opi 1)⟩),(3,⟨none,.ld1 (.opi 2)⟩),(4,⟨none,.p1 (fieldAddr1 P 93 0) (.tmp 10)⟩),(5,⟨none,.ld1 (.opi 4)⟩),(6,⟨none,.mv (.tmp 14)⟩),(7,⟨none,.p1 (fieldAddr1 P 93 3) (.tmp 10)⟩),(8,⟨none,.ld1 (.opi 7)⟩),(9,⟨none,.pn (sliceN P 9 false true false) [.opi 6,.opi 8]⟩),(10,⟨none,.p1 (fieldAddr1 P 93 1) (.tmp 10)⟩),(11,⟨none,.ld1 (.opi 10)⟩),(12,⟨none,.p1 (fieldAddr1 P 93 2) (.tmp 10)⟩),(13,⟨none,.ld1 (.opi 12)⟩),(14,⟨none,.pn (buildN P 143 [0,1,2,3]) [.opi 5,.opi 9,.opi 11,.opi 13]⟩),(15,⟨none,.cl (cf 77) [.opi 3,.opi 14]⟩),(16,⟨none,.p2 (bin2 P .neq 3) (.opi 15) (.cst (AV.int .i64 0))⟩)]
def c24_57:AC:=.draw 17 (stagesOf #[0,1,3,7,0,16,0,0,128,448,0,1024,0,4096,16368,32767,65535] c24_57g [15] 0 (c24_57g.filter fun x=>x.2.i.eff)) [(84,16)]
theorem r24_57:RReg c24_57 fun call tm h=>let g:=Heap.mk h.bs (h.next+17);B (tm.gt 8) (fun v0=>B (notNil v0) (fun v1=>B (fieldAddr1 P 85 1 v1) (fun v2=>B (load1 g v2) (fun v3=>B (B (tm.gt 10) (fun a=>fieldAddr1 P 93 0 a) tg) (fun v4=>B (load1 g v4) (fun v5=>B (tm.gt 14) (fun v6=>B (B (tm.gt 10) (fun a=>fieldAddr1 P 93 3 a) tg) (fun v7=>B (load1 g v7) (fun v8=>B (sliceN P 9 false true false [v6,v8]) (fun v9=>B (B (tm.gt 10) (fun a=>fieldAddr1 P 93 1 a) tg) (fun v10=>B (load1 g v10) (fun v11=>B (B (tm.gt 10) (fun a=>fieldAddr1 P 93 2 a) tg) (fun v12=>B (load1 g v12) (fun v13=>B (buildN P 143 [0,1,2,3] [v5,v9,v11,v13]) (fun v14=>B (call (.fn 77) [v3,v14] g) (fun r15=>B (bin2 P .neq 3 r15.1 (AV.int .i64 0)) (fun v16=>some ((tm.up (some v16) 84),r15.2)) tg) tg) tg) tg) tg) tg) tg) tg) tg) tg) tg) tg) tg) tg) tg) tg) tg:=kDrw rfl (by kernel_rfl)
def c24_60:AC:=.reg [] [(7,.cst (AV.int .i64 4)),(6,.cst (AV.ptr none))]
def c24_48:AC:=.seq (.seq c24_50 (.cond (.tmp 66) (.seq c24_53 .ret) .skip)) (.seq c24_57 (.cond (.tmp 84) (.seq c24_60 .ret) .skip))
def c24_38:AC:=.seq (.seq c24_40 (.cond (.tmp 57) (.seq c24_43 .ret) .skip)) (.seq c24_47 c24_48)
def c24_19:AC:=.seq c24_20 (.seq c24_22 (.seq (.seq c24_25 (.block 2 c24_27)) c24_38))
def c24_63:AC:=.reg [⟨none,.p2 (bin2 P .add 3) (.tmp 9) (.cst (AV.int .i64 1))⟩] [(9,.loc 0)]
def c24_9:AC:=.seq (.seq c24_11 (.cond (.tmp 21) .skip (.exit 0))) (.seq (.block 1 (.seq c24_18 c24_19)) c24_63)
def c24_8:AC:=.loop c24_9
def c24_65:AC:=.reg [⟨none,.p1 (notNil) (.tmp 8)⟩,⟨none,.p1 (fieldAddr1 P 85 1) (.loc 0)⟩,⟨none,.ld1 (.loc 0)⟩,⟨none,.cl (cf 78) [.loc 0,.tmp 1]⟩] []
def c24_67:AC:=.reg [] [(7,.cst (AV.int .i64 0)),(6,.tmp 8)]
def c24_4:AC:=.seq (.seq c24_6 (.block 0 c24_8)) (.seq c24_65 (.seq c24_67 .ret))
def fn24:FnA:=⟨(.seq c24_1 (.seq c24_3 c24_4)),[.tmp 6,.tmp 7],92,true⟩
theorem f24A:fnA P (keepF P) 24=some fn24:=by kernel_rfl
def F24:=An (kR c24_1 rfl)<|An (kR c24_3 rfl)<|An (kR c24_6 rfl)<|An (kR c24_11 rfl)<|An (kR c24_18 rfl)<|An (kR c24_20 rfl)<|An (kR c24_22 rfl)<|An (kR c24_25 rfl)<|An (kR c24_30 rfl)<|An r24_36<|An (kR c24_37 rfl)<|An (kS c24_28 rfl)<|An (kR c24_40 rfl)<|An (kR c24_43 rfl)<|An (kR c24_47 rfl)<|An (kR c24_50 rfl)<|An (kR c24_53 rfl)<|An r24_57<|An (kR c24_60 rfl)<|An (kS c24_48 rfl)<|An (kS c24_38 rfl)<|An (kS c24_19 rfl)<|An (kR c24_63 rfl)<|An (kS c24_9 rfl)<|An (kR c24_65 rfl)<|An (kR c24_67 rfl)<|(kS c24_4 rfl)
def c25_1:AC:=.reg [] [(2,.cst (AV.slice none 0 0 none))]
def c25_3:AC:=.reg [] [(3,.cst (AV.slice none 0 0 none))]
def c25_6:AC:=.reg [] [(4,.cst (AV.int .i64 0))]
def c25_11:AC:=.reg [⟨none,.pn (l1 (len1 P 46)) [.tmp 0]⟩,⟨none,.p2 (bin2 P .lss 3) (.tmp 4) (.loc 0)⟩] [(8,.loc 0)]
def c25_17:AC:=.reg [⟨none,.p2 (indexAddr2 P 46) (.tmp 0) (.tmp 4)⟩,⟨none,.ldn 4 (.loc 0)⟩,⟨none,.al (buildSliceN P 71 1 [0]) [.loc 0]⟩,⟨none,.ef (fun vs id h=>l2 (fun s x=>appendS P 71 s x id h) vs) [.tmp 3,.loc 0]⟩] [(3,.loc 0)]
def c25_18:AC:=.reg [⟨none,.p2 (bin2 P .add 3) (.tmp 4) (.cst (AV.int .i64 1))⟩] [(4,.loc 0)]
def c25_9:AC:=.seq (.seq c25_11 (.cond (.tmp 8) .skip (.exit 0))) (.seq (.block 1 c25_17) c25_18)
def c25_8:AC:=.loop c25_9
def c25_20:AC:=.reg [] [(2,.tmp 3)]
def c25_2:AC:=.seq c25_3 (.seq (.seq c25_6 (.block 0 c25_8)) (.seq c25_20 .ret))
def fn25:FnA:=⟨(.seq c25_1 c25_2),[.tmp 2],19,true⟩
theorem f25A:fnA P (keepF P) 25=some fn25:=by kernel_rfl
def F25:=An (kR c25_1 rfl)<|An (kR c25_3 rfl)<|An (kR c25_6 rfl)<|An (kR c25_11 rfl)<|An (kR c25_17 rfl)<|An (kR c25_18 rfl)<|An (kS c25_9 rfl)<|An (kR c25_20 rfl)<|(kS c25_2 rfl)
def c26_1:AC:=.reg [] [(7,.cst (AV.int .i64 0)),(6,.cst (AV.str []))]
def c26_4:AC:=.reg [⟨none,.cl (cf 53) [.tmp 0]⟩,⟨none,.p1 (un1 .not) (.loc 0)⟩] [(17,.loc 0)]
def c26_7:AC:=.reg [] [(7,.cst (AV.int .i64 1)),(6,.cst (AV.str []))]
def c26_11:AC:=.reg [⟨none,.al (fun (_:List AV)=>allocN P 146) []⟩] [(8,.loc 0)]
def c26_14:AC:=.reg [⟨none,.pn (l1 (len1 P 51)) [.tmp 1]⟩] [(20,.cst (AV.int .i64 0)),(19,.loc 0),(18,.tmp 1)]
def c26_18:AC:=.reg [⟨none,.p2 (bin2 P .lss 3) (.tmp 20) (.tmp 19)⟩] [(21,.loc 0)]
def c26_26:AC:=.reg [⟨none,.p2 (indexAddr2 P 51) (.tmp 18) (.tmp 20)⟩,⟨none,.ld1 (.loc 0)⟩] [(10,.loc 0)]
def c26_28:AC:=.reg [⟨none,.p1 (notNil) (.tmp 0)⟩,⟨none,.p1 (fieldAddr1 P 97 1) (.loc 0)⟩,⟨none,.ld1 (.loc 0)⟩,⟨none,.cl (cf 58) [.loc 0,.tmp 10]⟩,⟨none,.p1 (nthTuple 0) (.loc 0)⟩,⟨none,.p1 (nthTuple 1) (.loc 1)⟩,⟨none,.p1 (nthTuple 2) (.loc 2)⟩,⟨none,.p1 (nthTuple 3) (.loc 3)⟩] [(14,.loc 0),(11,.loc 3)]
def c26_31:AC:=.reg [⟨none,.p1 (un1 .not) (.tmp 14)⟩] [(36,.loc 0)]
def c26_34:AC:=.reg [] [(7,.cst (AV.int .i64 5)),(6,.cst (AV.str []))]
def c26_37:AC:=.reg [⟨none,.cl (cf 79) [.tmp 8,.tmp 11]⟩] []
def c26_29:AC:=.seq (.seq c26_31 (.cond (.tmp 36) (.seq c26_34 .ret) .skip)) c26_37
def c26_38:AC:=.reg [⟨none,.p2 (bin2 P .add 3) (.tmp 20) (.cst (AV.int .i64 1))⟩] [(20,.loc 0)]
def c26_19:AC:=.seq (.cond (.tmp 21) .skip (.exit 0)) (.seq (.block 1 (.seq c26_26 (.seq c26_28 c26_29))) c26_38)
def c26_17:AC:=.seq c26_18 c26_19
def c26_16:AC:=.loop c26_17
def c26_41:AC:=.reg [⟨none,.cl (cf 80) [.tmp 8]⟩,⟨none,.p2 (bin2 P .neq 3) (.loc 0) (.tmp 2)⟩] [(42,.loc 0)]
def c26_44:AC:=.reg [] [(7,.cst (AV.int .i64 4)),(6,.cst (AV.str []))]
def c26_48:AC:=.reg [⟨none,.cl (cf 81) [.tmp 8]⟩] [(7,.cst (AV.int .i64 0)),(6,.loc 0)]
def c26_39:AC:=.seq (.seq c26_41 (.cond (.tmp 42) (.seq c26_44 .ret) .skip)) (.seq c26_48 .ret)
def c26_2:AC:=.seq (.seq c26_4 (.cond (.tmp 17) (.seq c26_7 .ret) .skip)) (.seq c26_11 (.seq (.seq c26_14 (.block 0 c26_16)) c26_39))
def fn26:FnA:=⟨(.seq c26_1 c26_2),[.tmp 6,.tmp 7],44,true⟩
theorem f26A:fnA P (keepF P) 26=some fn26:=by kernel_rfl
def F26:=An (kR c26_1 rfl)<|An (kR c26_4 rfl)<|An (kR c26_7 rfl)<|An (kR c26_11 rfl)<|An (kR c26_14 rfl)<|An (kR c26_18 rfl)<|An (kR c26_26 rfl)<|An (kR c26_28 rfl)<|An (kR c26_31 rfl)<|An (kR c26_34 rfl)<|An (kR c26_37 rfl)<|An (kS c26_29 rfl)<|An (kR c26_38 rfl)<|An (kS c26_19 rfl)<|An (kS c26_17 rfl)<|An (kR c26_41 rfl)<|An (kR c26_44 rfl)<|An (kR c26_48 rfl)<|An (kS c26_39 rfl)<|(kS c26_2 rfl)
def c27_1:AC:=.reg [] [(7,.cst (AV.int .i64 0)),(6,.cst (AV.str []))]
def c27_3:AC:=.reg [] [(8,.cst (AV.str []))]
def c27_6:AC:=.reg [] [(9,.cst (AV.int .i64 0))]
def c27_11:AC:=.reg [⟨none,.pn (l1 (len1 P 51)) [.tmp 1]⟩,⟨none,.p2 (bin2 P .lss 3) (.tmp 9) (.loc 0)⟩] [(14,.loc 0)]
def c27_18g:List (Nat×GIns):=[(0,⟨none,.mv (.tmp 0)⟩),(1,⟨none,.p1 (notNil) (.opi 0)⟩),(2,⟨none,.p1 (fieldAddr1 P 85 1) (.opi 1)⟩),(3,⟨none,.ld1 (.opi 2)⟩),(4,⟨none,.mv (.tmp 1)⟩),(5,⟨none,.mv (.tmp 9)⟩),(6,⟨none,.p2 (indexAddr2 P 51) (.opi 4) (.opi 5)⟩),(7,⟨none,.ld1 (.opi 6)⟩),(8,⟨none,.cl (cf 82) [.opi 3,.opi 7]⟩),(9,⟨none,.mv (.opi 8)⟩)]
def c27_18:AC:=.draw 10 (stagesOf #[0,1,3,7,0,0,48,112,255,511] c27_18g [8] 0 (c27_18g.filter fun x=>x.2.i.eff)) [(10,9)]
theorem r27_18:RReg c27_18 fun call tm h=>let g:=Heap.mk h.bs (h.next+10);B (tm.gt 0) (fun v0=>B (notNil v0) (fun v1=>B (fieldAddr1 P 85 1 v1) (fun v2=>B (load1 g v2) (fun v3=>B (tm.gt 1) (fun v4=>B (tm.gt 9) (fun v5=>B (indexAddr2 P 51 v4 v5) (fun v6=>B (load1 g v6) (fun v7=>B (call (.fn 82) [v3,v7] g) (fun r8=>some ((tm.up (some r8.1) 10),r8.2)) tg) tg) tg) tg) tg) tg) tg) tg) tg:=kDrw rfl (by kernel_rfl)
def c27_21:AC:=.reg [⟨none,.p2 (bin2 P .lss 3) (.tmp 10) (.cst (AV.int .i64 0))⟩] [(27,.loc 0)]
def c27_24:AC:=.reg [] [(7,.cst (AV.int .i64 5)),(6,.cst (AV.str []))]
def c27_27:AC:=.reg [⟨none,.p1 (notNil) (.tmp 0)⟩,⟨none,.p1 (fieldAddr1 P 85 1) (.loc 0)⟩,⟨none,.ld1 (.loc 0)⟩,⟨none,.p1 (notNil) (.loc 0)⟩,⟨none,.p1 (fieldAddr1 P 82 0) (.loc 0)⟩,⟨none,.ld1 (.loc 0)⟩,⟨none,.p2 (indexAddr2 P 80) (.loc 0) (.tmp 10)⟩,⟨none,.p1 (fieldAddr1 P 143 1) (.loc 0)⟩,⟨none,.ld1 (.loc 0)⟩,⟨none,.p2 (bin2 P .add 9) (.tmp 8) (.loc 0)⟩] [(8,.loc 0)]
def c27_19:AC:=.seq (.seq c27_21 (.cond (.tmp 27) (.seq c27_24 .ret) .skip)) c27_27
def c27_28:AC:=.reg [⟨none,.p2 (bin2 P .add 3) (.tmp 9) (.cst (AV.int .i64 1))⟩] [(9,.loc 0)]
def c27_9:AC:=.seq (.seq c27_11 (.cond (.tmp 14) .skip (.exit 0))) (.seq (.block 1 (.seq c27_18 c27_19)) c27_28)
def c27_8:AC:=.loop c27_9
def c27_31:AC:=.reg [⟨none,.pn (l1 (len1 P 9)) [.tmp 8]⟩,⟨none,.p2 (bin2 P .neq 3) (.loc 0) (.tmp 2)⟩] [(44,.loc 0)]
def c27_34:AC:=.reg [] [(7,.cst (AV.int .i64 4)),(6,.cst (AV.str []))]
def c27_38:AC:=.reg [] [(7,.cst (AV.int .i64 0)),(6,.tmp 8)]
def c27_29:AC:=.seq (.seq c27_31 (.cond (.tmp 44) (.seq c27_34 .ret) .skip)) (.seq c27_38 .ret)
def c27_0:AC:=.seq c27_1 (.seq c27_3 (.seq (.seq c27_6 (.block 0 c27_8)) c27_29))
def fn27:FnA:=⟨c27_0,[.tmp 6,.tmp 7],46,true⟩
theorem f27A:fnA P (keepF P) 27=some fn27:=by kernel_rfl
def F27:=An (kR c27_1 rfl)<|An (kR c27_3 rfl)<|An (kR c27_6 rfl)<|An (kR c27_11 rfl)<|An r27_18<|An (kR c27_21 rfl)<|An (kR c27_24 rfl)<|An (kR c27_27 rfl)<|An (kS c27_19 rfl)<|An (kR c27_28 rfl)<|An (kS c27_9 rfl)<|An (kR c27_31 rfl)<|An (kR c27_34 rfl)<|An (kR c27_38 rfl)<|An (kS c27_29 rfl)<|(kS c27_0 rfl)
def c28_1:AC:=.reg [] [(4,.cst (AV.bool false))]
def c28_4:AC:=.reg [⟨none,.pn (l1 (len1 P 71)) [.tmp 0]⟩,⟨none,.pn (l1 (len1 P 71)) [.tmp 1]⟩,⟨none,.p2 (bin2 P .neq 3) (.loc 1) (.loc 0)⟩] [(10,.loc 0)]
def c28_7:AC:=.reg [] [(4,.cst (AV.bool false))]
def c28_12:AC:=.reg [] [(5,.cst (AV.int .i64 0))]
def c28_17:AC:=.reg [⟨none,.pn (l1 (len1 P 71)) [.tmp 0]⟩,⟨none,.p2 (bin2 P .lss 3) (.tmp 5) (.loc 0)⟩] [(14,.loc 0)]
def c28_24g:List (Nat×GIns):=[(0,⟨none,.mv (.tmp 0)⟩),(1,⟨none,.mv (.tmp 5)⟩),(2,⟨none,.p2 (indexAddr2 P 71) (.opi 0) (.opi 1)⟩),(3,⟨none,.ldn 4 (.opi 2)⟩),(4,⟨none,.mv (.tmp 1)⟩),(5,⟨none,.mv (.tmp 5)⟩),(6,⟨none,.p2 (indexAddr2 P 71) (.opi 4) (.opi 5)⟩),(7,⟨none,.ldn 4 (.opi 6)⟩),(8,⟨none,.p2 (bin2 P .neq 93) (.opi 3) (.opi 7)⟩)]
def c28_24:AC:=.draw 9 (stagesOf #[0,0,3,7,0,0,48,112,255] c28_24g [] 0 (c28_24g.filter fun x=>x.2.i.eff)) [(25,8)]
theorem r28_24:RReg c28_24 fun call tm h=>let g:=Heap.mk h.bs (h.next+9);B (tm.gt 0) (fun v0=>B (tm.gt 5) (fun v1=>B (indexAddr2 P 71 v0 v1) (fun v2=>B (loadN 4 g v2) (fun v3=>B (tm.gt 1) (fun v4=>B (tm.gt 5) (fun v5=>B (indexAddr2 P 71 v4 v5) (fun v6=>B (loadN 4 g v6) (fun v7=>B (bin2 P .neq 93 v3 v7) (fun v8=>some ((tm.up (some v8) 25),g)) tg) tg) tg) tg) tg) tg) tg) tg) tg:=kDrw rfl (by kernel_rfl)
def c28_27:AC:=.reg [] [(4,.cst (AV.bool false))]
def c28_22:AC:=.block 1 (.seq c28_24 (.cond (.tmp 25) (.seq c28_27 .ret) .skip))
def c28_30:AC:=.reg [⟨none,.p2 (bin2 P .add 3) (.tmp 5) (.cst (AV.int .i64 1))⟩] [(5,.loc 0)]
def c28_15:AC:=.seq (.seq c28_17 (.cond (.tmp 14) .skip (.exit 0))) (.seq c28_22 c28_30)
def c28_14:AC:=.loop c28_15
def c28_32:AC:=.reg [] [(4,.cst (AV.bool true))]
def c28_2:AC:=.seq (.seq c28_4 (.cond (.tmp 10) (.seq c28_7 .ret) .skip)) (.seq (.seq c28_12 (.block 0 c28_14)) (.seq c28_32 .ret))
def fn28:FnA:=⟨(.seq c28_1 c28_2),[.tmp 4],26,true⟩
theorem f28A:fnA P (keepF P) 28=some fn28:=by kernel_rfl
def F28:=An (kR c28_1 rfl)<|An (kR c28_4 rfl)<|An (kR c28_7 rfl)<|An (kR c28_12 rfl)<|An (kR c28_17 rfl)<|An r28_24<|An (kR c28_27 rfl)<|An (kB c28_22 rfl)<|An (kR c28_30 rfl)<|An (kS c28_15 rfl)<|An (kR c28_32 rfl)<|(kS c28_2 rfl)
def c29_1:AC:=.reg [] [(2,.cst (AV.slice none 0 0 none))]
def c29_3:AC:=.reg [] [(3,.cst (AV.slice none 0 0 none))]
def c29_6:AC:=.reg [] [(4,.cst (AV.int .i64 0))]
def c29_11:AC:=.reg [⟨none,.p1 (notNil) (.tmp 0)⟩,⟨none,.p1 (fieldAddr1 P 85 1) (.loc 0)⟩,⟨none,.ld1 (.loc 0)⟩,⟨none,.p1 (notNil) (.loc 0)⟩,⟨none,.p1 (fieldAddr1 P 82 0) (.loc 0)⟩,⟨none,.ld1 (.loc 0)⟩,⟨none,.pn (l1 (len1 P 80)) [.loc 0]⟩,⟨none,.p2 (bin2 P .lss 3) (.tmp 4) (.loc 0)⟩] [(15,.loc 0)]
def c29_18:AC:=.reg [⟨none,.p1 (notNil) (.tmp 0)⟩,⟨none,.p1 (fieldAddr1 P 85 1) (.loc 0)⟩,⟨none,.ld1 (.loc 0)⟩,⟨none,.p1 (notNil) (.loc 0)⟩,⟨none,.p1 (fieldAddr1 P 82 0) (.loc 0)⟩,⟨none,.ld1 (.loc 0)⟩,⟨none,.p2 (indexAddr2 P 80) (.loc 0) (.tmp 4)⟩,⟨none,.ldn 4 (.loc 0)⟩,⟨none,.cl (cf 83) [.loc 0]⟩,⟨none,.al (fun (_:List AV)=>allocN P 93) []⟩,⟨none,.ef (fun vs _ h=>l2 (storeN 4 h) vs) [.loc 0,.loc 1]⟩] [(5,.loc 1)]
def c29_19:AC:=.reg [⟨none,.ldn 4 (.tmp 5)⟩,⟨none,.al (buildSliceN P 71 1 [0]) [.loc 0]⟩,⟨none,.ef (fun vs id h=>l2 (fun s x=>appendS P 71 s x id h) vs) [.tmp 3,.loc 0]⟩] [(3,.loc 0)]
def c29_20:AC:=.reg [⟨none,.p2 (bin2 P .add 3) (.tmp 4) (.cst (AV.int .i64 1))⟩] [(4,.loc 0)]
def c29_9:AC:=.seq (.seq c29_11 (.cond (.tmp 15) .skip (.exit 0))) (.seq (.block 1 (.seq c29_18 c29_19)) c29_20)
def c29_8:AC:=.loop c29_9
def c29_22:AC:=.reg [] [(2,.tmp 3)]
def c29_2:AC:=.seq c29_3 (.seq (.seq c29_6 (.block 0 c29_8)) (.seq c29_22 .ret))
def fn29:FnA:=⟨(.seq c29_1 c29_2),[.tmp 2],34,true⟩
theorem f29A:fnA P (keepF P) 29=some fn29:=by kernel_rfl
def F29:=An (kR c29_1 rfl)<|An (kR c29_3 rfl)<|An (kR c29_6 rfl)<|An (kR c29_11 rfl)<|An (kR c29_18 rfl)<|An (kR c29_19 rfl)<|An (kR c29_20 rfl)<|An (kS c29_9 rfl)<|An (kR c29_22 rfl)<|(kS c29_2 rfl)
def c30_1:AC:=.reg [] [(2,.cst (AV.int .i64 0))]
def c30_3:AC:=.reg [⟨none,.cl (cf 75) [.tmp 0]⟩,⟨none,.pn (l1 (len1 P 24)) [.loc 0]⟩] [(2,.loc 0)]
def fn30:FnA:=⟨(.seq c30_1 (.seq c30_3 .ret)),[.tmp 2],6,true⟩
theorem f30A:fnA P (keepF P) 30=some fn30:=by kernel_rfl
def F30:=An (kR c30_1 rfl)<|(kR c30_3 rfl)
def c31_1:AC:=.reg [] [(2,.cst (AV.int .u32 0))]
def c31_4:AC:=.reg [⟨none,.cl (cf 53) [.tmp 0]⟩,⟨none,.p1 (un1 .not) (.loc 0)⟩] [(5,.loc 0)]
def c31_7:AC:=.reg [] [(2,.cst (AV.int .u32 0))]
def c31_11:AC:=.reg [⟨none,.p1 (notNil) (.tmp 0)⟩,⟨none,.p1 (fieldAddr1 P 97 1) (.loc 0)⟩,⟨none,.ld1 (.loc 0)⟩,⟨none,.cl (cf 84) [.loc 0]⟩] [(2,.loc 0)]
def c31_2:AC:=.seq (.seq c31_4 (.cond (.tmp 5) (.seq c31_7 .ret) .skip)) (.seq c31_11 .ret)
def fn31:FnA:=⟨(.seq c31_1 c31_2),[.tmp 2],11,true⟩
theorem f31A:fnA P (keepF P) 31=some fn31:=by kernel_rfl
def F31:=An (kR c31_1 rfl)<|An (kR c31_4 rfl)<|An (kR c31_7 rfl)<|An (kR c31_11 rfl)<|(kS c31_2 rfl)
def c42_1:AC:=.reg [] [(2,.cst (AV.ptr none))]
def c42_3:AC:=.reg [⟨none,.cl (cf 99) []⟩,⟨none,.pn (buildN P 85 [0,1]) [.tmp 0,.loc 0]⟩,⟨none,.al (l1 box1) [.loc 0]⟩] [(2,.loc 0)]
def fn42:FnA:=⟨(.seq c42_1 (.seq c42_3 .ret)),[.tmp 2],7,true⟩
theorem f42A:fnA P (keepF P) 42=some fn42:=by kernel_rfl
def F42:=An (kR c42_1 rfl)<|(kR c42_3 rfl)
def c48_1:AC:=.reg [] [(2,.cst (AV.ptr none))]
def c48_4:AC:=.reg [⟨none,.cl (cf 106) [.tmp 0]⟩,⟨none,.p1 (un1 .not) (.loc 0)⟩] [(5,.loc 0)]
def c48_7:AC:=.reg [] [(2,.cst (AV.ptr none))]
def c48_11:AC:=.reg [⟨none,.p1 (notNil) (.tmp 0)⟩,⟨none,.p1 (fieldAddr1 P 117 0) (.loc 0)⟩,⟨none,.ld1 (.loc 0)⟩] [(2,.loc 0)]
def c48_2:AC:=.seq (.seq c48_4 (.cond (.tmp 5) (.seq c48_7 .ret) .skip)) (.seq c48_11 .ret)
def fn48:FnA:=⟨(.seq c48_1 c48_2),[.tmp 2],10,true⟩
theorem f48A:fnA P (keepF P) 48=some fn48:=by kernel_rfl
def F48:=An (kR c48_1 rfl)<|An (kR c48_4 rfl)<|An (kR c48_7 rfl)<|An (kR c48_11 rfl)<|(kS c48_2 rfl)
def c49_1:AC:=.reg [] [(2,.cst (AV.int .i64 0))]
def c49_4:AC:=.reg [⟨none,.p2 (bin2 P .eql 33) (.tmp 0) (.cst (AV.ptr none))⟩] [(4,.loc 0)]
def c49_7:AC:=.reg [] [(2,.cst (AV.int .i64 0))]
def c49_11:AC:=.reg [⟨none,.p1 (notNil) (.tmp 0)⟩,⟨none,.p1 (fieldAddr1 P 120 0) (.loc 0)⟩,⟨none,.ld1 (.loc 0)⟩,⟨none,.pn (l1 (len1 P 118)) [.loc 0]⟩] [(2,.loc 0)]
def c49_2:AC:=.seq (.seq c49_4 (.cond (.tmp 4) (.seq c49_7 .ret) .skip)) (.seq c49_11 .ret)
def fn49:FnA:=⟨(.seq c49_1 c49_2),[.tmp 2],10,true⟩
theorem f49A:fnA P (keepF P) 49=some fn49:=by kernel_rfl
def F49:=An (kR c49_1 rfl)<|An (kR c49_4 rfl)<|An (kR c49_7 rfl)<|An (kR c49_11 rfl)<|(kS c49_2 rfl)
def c51_1:AC:=.reg [] [(4,.cst (AV.ptr none))]
def c51_4:AC:=.reg [⟨none,.p2 (bin2 P .lss 3) (.tmp 0) (.cst (AV.int .i64 0))⟩,⟨some (.loc 0,false),.mv (.tmp 0)⟩,⟨some (.loc 1,false),.mv (.tmp 1)⟩,⟨some (.loc 2,false),.p2 (bin2 P .geq 3) (.loc 1) (.loc 0)⟩,⟨none,.pick (.loc 3) (.cst (AV.bool true)) (.loc 0)⟩,⟨some (.loc 0,false),.mv (.tmp 1)⟩,⟨some (.loc 1,false),.p2 (bin2 P .gtr 3) (.loc 0) (.cst (AV.int .i64 2048))⟩,⟨none,.pick (.loc 2) (.cst (AV.bool true)) (.loc 0)⟩] [(15,.loc 0)]
def c51_7:AC:=.reg [] [(4,.cst (AV.ptr none))]
def c51_11:AC:=.reg [⟨none,.p2 (bin2 P .sub 3) (.tmp 1) (.cst (AV.int .i64 1))⟩,⟨none,.p2 (bin2 P .quo 3) (.loc 0) (.cst (AV.int .i64 256))⟩,⟨none,.p2 (bin2 P .add 3) (.loc 0) (.cst (AV.int .i64 1))⟩,⟨none,.al (l2 (makeSlice2 P 178)) [.loc 0,.loc 0]⟩,⟨none,.pn (buildN P 180 [0,1,2]) [.tmp 0,.tmp 1,.loc 0]⟩,⟨none,.al (l1 box1) [.loc 0]⟩] [(4,.loc 0)]
def c51_2:AC:=.seq (.seq c51_4 (.cond (.tmp 15) (.seq c51_7 .ret) .skip)) (.seq c51_11 .ret)
def fn51:FnA:=⟨(.seq c51_1 c51_2),[.tmp 4],25,true⟩
theorem f51A:fnA P (keepF P) 51=some fn51:=by kernel_rfl
def F51:=An (kR c51_1 rfl)<|An (kR c51_4 rfl)<|An (kR c51_7 rfl)<|An (kR c51_11 rfl)<|(kS c51_2 rfl)
def c52_1:AC:=.reg [] [(2,.cst (AV.slice none 0 0 none))]
def c52_4:AC:=.reg [⟨none,.p2 (bin2 P .eql 24) (.tmp 0) (.cst (AV.slice none 0 0 none))⟩] [(4,.loc 0)]
def c52_7:AC:=.reg [] [(2,.cst (AV.slice none 0 0 none))]
def c52_11:AC:=.reg [⟨none,.al (buildSliceN P 24 0 []) []⟩,⟨none,.ef (fun vs id h=>l2 (fun s x=>appendS P 24 s x id h) vs) [.loc 0,.tmp 0]⟩] [(2,.loc 0)]
def c52_2:AC:=.seq (.seq c52_4 (.cond (.tmp 4) (.seq c52_7 .ret) .skip)) (.seq c52_11 .ret)
def fn52:FnA:=⟨(.seq c52_1 c52_2),[.tmp 2],8,true⟩
theorem f52A:fnA P (keepF P) 52=some fn52:=by kernel_rfl
def F52:=An (kR c52_1 rfl)<|An (kR c52_4 rfl)<|An (kR c52_7 rfl)<|An (kR c52_11 rfl)<|(kS c52_2 rfl)
def c53_1:AC:=.reg [] [(2,.cst (AV.bool false))]
def c53_3:AC:=.reg [⟨none,.p2 (bin2 P .neq 29) (.tmp 0) (.cst (AV.ptr none))⟩,⟨some (.loc 0,true),.mv (.tmp 0)⟩,⟨some (.loc 1,true),.p1 (notNil) (.loc 0)⟩,⟨some (.loc 2,true),.p1 (fieldAddr1 P 97 1) (.loc 0)⟩,⟨some (.loc 3,true),.ld1 (.loc 0)⟩,⟨some (.loc 4,true),.p2 (bin2 P .neq 94) (.loc 0) (.cst (AV.ptr none))⟩,⟨none,.pick (.loc 5) (.loc 0) (.cst (AV.bool false))⟩] [(2,.loc 0)]
def fn53:FnA:=⟨(.seq c53_1 (.seq c53_3 .ret)),[.tmp 2],12,true⟩
theorem f53A:fnA P (keepF P) 53=some fn53:=by kernel_rfl
def F53:=An (kR c53_1 rfl)<|(kR c53_3 rfl)
def c59_1:AC:=.reg [] [(4,.cst (AV.int .i64 0))]
def c59_4:AC:=.reg [⟨none,.cl (cf 116) [.tmp 0,.tmp 1]⟩] [(5,.loc 0)]
def c59_6:AC:=.reg [⟨none,.p2 (bin2 P .neq 38) (.tmp 5) (.cst (AV.int .i64 0))⟩] [(12,.loc 0)]
def c59_9:AC:=.reg [] [(4,.tmp 5)]
def c59_3:AC:=.seq c59_4 (.seq c59_6 (.cond (.tmp 12) (.seq c59_9 .ret) .skip))
def c59_13:AC:=.reg [⟨none,.cl (cf 117) [.tmp 0,.tmp 1]⟩,⟨none,.p1 (nthTuple 0) (.loc 0)⟩,⟨none,.p1 (nthTuple 1) (.loc 1)⟩] [(7,.loc 0),(6,.loc 1)]
def c59_16:AC:=.reg [⟨none,.p1 (notNil) (.tmp 6)⟩,⟨none,.ld1 (.loc 0)⟩,⟨none,.p2 (bin2 P .and 185) (.loc 0) (.tmp 7)⟩,⟨none,.p2 (bin2 P .neq 185) (.loc 0) (.cst (AV.int .u64 0))⟩] [(25,.loc 0)]
def c59_19:AC:=.reg [] [(4,.cst (AV.int .i64 6))]
def c59_23:AC:=.reg [⟨none,.p1 (notNil) (.tmp 6)⟩,⟨none,.ld1 (.loc 0)⟩,⟨none,.p2 (bin2 P .or 185) (.loc 0) (.tmp 7)⟩,⟨none,.p1 (notNil) (.tmp 6)⟩,⟨none,.st1 (.loc 0) (.loc 1)⟩] []
def c59_25:AC:=.reg [] [(4,.cst (AV.int .i64 0))]
def c59_14:AC:=.seq (.seq c59_16 (.cond (.tmp 25) (.seq c59_19 .ret) .skip)) (.seq c59_23 (.seq c59_25 .ret))
def fn59:FnA:=⟨(.seq c59_1 (.seq c59_3 (.seq c59_13 c59_14))),[.tmp 4],32,true⟩
theorem f59A:fnA P (keepF P) 59=some fn59:=by kernel_rfl
def F59:=An (kR c59_1 rfl)<|An (kR c59_4 rfl)<|An (kR c59_6 rfl)<|An (kR c59_9 rfl)<|An (kS c59_3 rfl)<|An (kR c59_13 rfl)<|An (kR c59_16 rfl)<|An (kR c59_19 rfl)<|An (kR c59_23 rfl)<|An (kR c59_25 rfl)<|(kS c59_14 rfl)
def c60_1:AC:=.reg [⟨none,.al (fun (_:List AV)=>allocN P 50) []⟩] [(5,.cst (AV.bool false)),(4,.loc 0)]
def c60_3:AC:=.reg [⟨none,.cl (cf 58) [.tmp 0,.tmp 1]⟩,⟨none,.p1 (nthTuple 0) (.loc 0)⟩,⟨none,.p1 (nthTuple 1) (.loc 1)⟩,⟨none,.p1 (nthTuple 2) (.loc 2)⟩,⟨none,.p1 (nthTuple 3) (.loc 3)⟩] [(9,.loc 0),(8,.loc 1),(7,.loc 2),(6,.loc 3)]
def c60_5:AC:=.reg [⟨none,.pn (l1 (len1 P 9)) [.tmp 6]⟩,⟨none,.pn (buildN P 50 [0,1,2,3]) [.tmp 1,.tmp 7,.tmp 8,.loc 0]⟩,⟨none,.ef (fun vs _ h=>l2 (storeN 4 h) vs) [.tmp 4,.loc 0]⟩] [(5,.tmp 9)]
def fn60:FnA:=⟨(.seq c60_1 (.seq c60_3 (.seq c60_5 .ret))),[.cell 4 50,.tmp 5],25,true⟩
theorem f60A:fnA P (keepF P) 60=some fn60:=by kernel_rfl
def F60:=An (kR c60_1 rfl)<|An (kR c60_3 rfl)<|(kR c60_5 rfl)
def c61_1:AC:=.reg [] [(2,.cst (AV.int .i64 0))]
def c61_3:AC:=.reg [⟨none,.al (fun (_:List AV)=>allocN P 3) []⟩,⟨none,.st1 (.loc 0) (.cst (AV.int .i64 0))⟩] [(3,.loc 1)]
def c61_6:AC:=.reg [⟨none,.cl (cf 118) [.tmp 0]⟩] [(5,.loc 0)]
def c61_9:AC:=.skip
theorem r61_9:RRet c61_9 .normal:=rSkip
def c61_11:AC:=.reg [⟨none,.ld1 (.tmp 3)⟩,⟨none,.p2 (bin2 P .add 3) (.loc 0) (.cst (AV.int .i64 1))⟩,⟨none,.st1 (.tmp 3) (.loc 0)⟩] []
def c61_10:AC:=.block 1 c61_11
def c61_8A:Code:=subC (bodyC P 61) [1,1,0,1,0] 0
def c61_8B:Code:=subC (bodyC P 61) [1,1,0,1,0] 1
def c61_8:AC:=.rangeF (.tmp 5) [6] c61_8A c61_8B
theorem q61_8a:compC P (keepF P 61) 10 c61_8A=c61_9:=by kernel_rfl
theorem q61_8b:compC P (keepF P 61) 10 c61_8B=c61_10:=by kernel_rfl
def c61_13:AC:=.reg [⟨none,.ld1 (.tmp 3)⟩] [(2,.loc 0)]
def c61_2:AC:=.seq c61_3 (.seq (.seq c61_6 (.block 0 c61_8)) (.seq c61_13 .ret))
def fn61:FnA:=⟨(.seq c61_1 c61_2),[.tmp 2],10,false⟩
theorem f61A:fnA P (keepF P) 61=some fn61:=by kernel_rfl
def F61:=An (kR c61_1 rfl)<|An (kR c61_3 rfl)<|An (kR c61_6 rfl)<|An r61_9<|An (kR c61_11 rfl)<|An (kB c61_10 rfl)<|An (kR c61_13 rfl)<|(kS c61_2 rfl)
def c66_1:AC:=.reg [] [(4,.cst (AV.int .i64 0))]
def c66_4:AC:=.reg [⟨none,.cl (cf 123) [.tmp 0]⟩] [(5,.loc 0)]
def c66_6:AC:=.reg [⟨none,.p2 (bin2 P .neq 38) (.tmp 5) (.cst (AV.int .i64 0))⟩] [(11,.loc 0)]
def c66_9:AC:=.reg [] [(4,.tmp 5)]
def c66_3:AC:=.seq c66_4 (.seq c66_6 (.cond (.tmp 11) (.seq c66_9 .ret) .skip))
def c66_13:AC:=.reg [⟨none,.p1 (notNil) (.tmp 0)⟩,⟨none,.p1 (fieldAddr1 P 117 3) (.loc 0)⟩,⟨none,.ld1 (.loc 0)⟩] [(6,.loc 0)]
def c66_15:AC:=.reg [⟨none,.p1 (notNil) (.tmp 0)⟩,⟨none,.p1 (fieldAddr1 P 117 3) (.loc 0)⟩,⟨none,.ld1 (.loc 0)⟩,⟨none,.p2 (bin2 P .add 3) (.loc 0) (.cst (AV.int .i64 1))⟩,⟨none,.p1 (notNil) (.tmp 0)⟩,⟨none,.p1 (fieldAddr1 P 117 3) (.loc 0)⟩,⟨none,.st1 (.loc 0) (.loc 2)⟩] []
def c66_18:AC:=.reg [⟨none,.p1 (notNil) (.tmp 0)⟩,⟨none,.p1 (fieldAddr1 P 117 1) (.loc 0)⟩,⟨none,.ld1 (.loc 0)⟩,⟨none,.p2 (bin2 P .neq 3) (.tmp 6) (.loc 0)⟩] [(29,.loc 0)]
def c66_21:AC:=.reg [⟨none,.cl (.tmp 1) []⟩] [(4,.loc 0)]
def c66_26:AC:=.reg [⟨none,.pn (mkFunc (Fn.func 124) 1) [.tmp 0]⟩] [(7,.loc 0)]
def c66_28:AC:=.reg [⟨none,.cl (.tmp 7) []⟩] [(35,.loc 0)]
def c66_30:AC:=.reg [⟨none,.cl (.tmp 1) []⟩] []
def c66_33:AC:=.reg [⟨none,.cl (cf 125) [.tmp 0]⟩] []
def c66_35:AC:=.reg [] [(4,.cst (AV.int .i64 8))]
def c66_24:AC:=.seq (.seq c66_26 (.seq c66_28 (.cond (.tmp 35) c66_30 .skip))) (.seq c66_33 (.seq c66_35 .ret))
def c66_16:AC:=.seq (.seq c66_18 (.cond (.tmp 29) (.seq c66_21 .ret) .skip)) c66_24
def fn66:FnA:=⟨(.seq c66_1 (.seq c66_3 (.seq c66_13 (.seq c66_15 c66_16)))),[.tmp 4],40,true⟩
theorem f66A:fnA P (keepF P) 66=some fn66:=by kernel_rfl
def F66:=An (kR c66_1 rfl)<|An (kR c66_4 rfl)<|An (kR c66_6 rfl)<|An (kR c66_9 rfl)<|An (kS c66_3 rfl)<|An (kR c66_13 rfl)<|An (kR c66_15 rfl)<|An (kR c66_18 rfl)<|An (kR c66_21 rfl)<|An (kR c66_26 rfl)<|An (kR c66_28 rfl)<|An (kR c66_30 rfl)<|An (kR c66_33 rfl)<|An (kR c66_35 rfl)<|An (kS c66_24 rfl)<|(kS c66_16 rfl)
def c67_1:AC:=.reg [] [(3,.cst (AV.int .i64 0))]
def c67_3g:List (Nat×GIns):=[(0,⟨none,.ld1 (.tmp 0)⟩),(1,⟨none,.p1 (notNil) (.opi 0)⟩),(2,⟨none,.p1 (fieldAddr1 P 117 0) (.opi 1)⟩),(3,⟨none,.ld1 (.opi 2)⟩),(4,⟨none,.ld1 (.tmp 1)⟩),(5,⟨none,.ld1 (.tmp 2)⟩),(6,⟨none,.cl (cf 68) [.opi 3,.opi 4,.opi 5]⟩),(7,⟨none,.mv (.opi 6)⟩)]
def c67_3:AC:=.draw 8 (stagesOf #[0,1,3,7,0,0,63,127] c67_3g [6] 0 (c67_3g.filter fun x=>x.2.i.eff)) [(3,7)]
theorem r67_3:RReg c67_3 fun call tm h=>let g:=Heap.mk h.bs (h.next+8);B (B (tm.gt 0) (fun a=>load1 g a) tg) (fun v0=>B (notNil v0) (fun v1=>B (fieldAddr1 P 117 0 v1) (fun v2=>B (load1 g v2) (fun v3=>B (B (tm.gt 1) (fun a=>load1 g a) tg) (fun v4=>B (B (tm.gt 2) (fun a=>load1 g a) tg) (fun v5=>B (call (.fn 68) [v3,v4,v5] g) (fun r6=>some ((tm.up (some r6.1) 3),r6.2)) tg) tg) tg) tg) tg) tg) tg:=kDrw rfl (by kernel_rfl)
def fn67:FnA:=⟨(.seq c67_1 (.seq c67_3 .ret)),[.tmp 3],11,true⟩
theorem f67A:fnA P (keepF P) 67=some fn67:=by kernel_rfl
def F67:=An (kR c67_1 rfl)<|r67_3
def c68_1:AC:=.reg [] [(6,.cst (AV.int .i64 0))]
def c68_3:AC:=.reg [⟨none,.cl (cf 126) [.tmp 0,.tmp 1]⟩,⟨none,.p1 (nthTuple 0) (.loc 0)⟩,⟨none,.p1 (nthTuple 1) (.loc 1)⟩] [(8,.loc 0),(7,.loc 1)]
def c68_7:AC:=.reg [⟨none,.p2 (bin2 P .neq 38) (.tmp 8) (.cst (AV.int .i64 0))⟩] [(15,.loc 0)]
def c68_10:AC:=.reg [] [(6,.tmp 8)]
def c68_13:AC:=.reg [⟨none,.pn (l1 (len1 P 9)) [.tmp 2]⟩,⟨none,.p2 (bin2 P .gtr 3) (.loc 0) (.cst (AV.int .i64 64))⟩] [(19,.loc 0)]
def c68_16:AC:=.reg [] [(6,.cst (AV.int .i64 3))]
def c68_8:AC:=.cond (.tmp 15) (.seq c68_10 .ret) (.seq c68_13 (.cond (.tmp 19) (.seq c68_16 .ret) .skip))
def c68_20:AC:=.reg [⟨none,.pn (buildN P 207 []) []⟩,⟨none,.p1 (notNil) (.tmp 7)⟩,⟨none,.p1 (fieldAddr1 P 209 1) (.loc 0)⟩,⟨none,.ef (fun vs _ h=>l2 (storeN 64 h) vs) [.loc 0,.loc 2]⟩] []
def c68_22:AC:=.reg [⟨none,.p1 (notNil) (.tmp 7)⟩,⟨none,.p1 (fieldAddr1 P 209 1) (.loc 0)⟩,⟨none,.pn (sliceN P 207 false false false) [.loc 0]⟩,⟨none,.ef (fun vs _ h=>l2 (fun d x=>copyS P 42 d x h) vs) [.loc 0,.tmp 2]⟩] []
def c68_24:AC:=.reg [⟨none,.p1 (notNil) (.tmp 7)⟩,⟨none,.p1 (fieldAddr1 P 209 2) (.loc 0)⟩,⟨none,.st1 (.loc 0) (.cst (AV.bool true))⟩] []
def c68_26:AC:=.reg [] [(6,.cst (AV.int .i64 0))]
def c68_4:AC:=.seq (.block 0 (.seq c68_7 c68_8)) (.seq c68_20 (.seq c68_22 (.seq c68_24 (.seq c68_26 .ret))))
def fn68:FnA:=⟨(.seq c68_1 (.seq c68_3 c68_4)),[.tmp 6],36,true⟩
theorem f68A:fnA P (keepF P) 68=some fn68:=by kernel_rfl
def F68:=An (kR c68_1 rfl)<|An (kR c68_3 rfl)<|An (kR c68_7 rfl)<|An (kR c68_10 rfl)<|An (kR c68_13 rfl)<|An (kR c68_16 rfl)<|An (kC c68_8 rfl)<|An (kR c68_20 rfl)<|An (kR c68_22 rfl)<|An (kR c68_24 rfl)<|An (kR c68_26 rfl)<|(kS c68_4 rfl)
def c69_1:AC:=.reg [] [(2,.cst (AV.bool false))]
def c69_3:AC:=.reg [⟨none,.p1 (notNil) (.tmp 0)⟩,⟨none,.p1 (fieldAddr1 P 63 3) (.loc 0)⟩,⟨none,.ld1 (.loc 0)⟩] [(3,.loc 0)]
def c69_5:AC:=.reg [⟨none,.p1 (notNil) (.tmp 0)⟩,⟨none,.p1 (fieldAddr1 P 63 3) (.loc 0)⟩,⟨none,.ld1 (.loc 0)⟩,⟨none,.p2 (bin2 P .add 3) (.loc 0) (.cst (AV.int .i64 1))⟩,⟨none,.p1 (notNil) (.tmp 0)⟩,⟨none,.p1 (fieldAddr1 P 63 3) (.loc 0)⟩,⟨none,.st1 (.loc 0) (.loc 2)⟩] []
def c69_7:AC:=.reg [⟨none,.p1 (notNil) (.tmp 0)⟩,⟨none,.p1 (fieldAddr1 P 63 1) (.loc 0)⟩,⟨none,.ld1 (.loc 0)⟩,⟨none,.p2 (bin2 P .eql 3) (.tmp 3) (.loc 0)⟩] [(2,.loc 0)]
def fn69:FnA:=⟨(.seq c69_1 (.seq c69_3 (.seq c69_5 (.seq c69_7 .ret)))),[.tmp 2],21,true⟩
theorem f69A:fnA P (keepF P) 69=some fn69:=by kernel_rfl
def F69:=An (kR c69_1 rfl)<|An (kR c69_3 rfl)<|An (kR c69_5 rfl)<|(kR c69_7 rfl)
def c70_1:AC:=.reg [] [(6,.cst (AV.int .i64 0))]
def c70_4:AC:=.reg [⟨none,.p2 (bin2 P .lss 3) (.tmp 1) (.cst (AV.int .i64 0))⟩,⟨some (.loc 0,false),.mv (.tmp 1)⟩,⟨some (.loc 1,false),.mv (.tmp 0)⟩,⟨some (.loc 2,false),.p1 (notNil) (.loc 0)⟩,⟨some (.loc 3,false),.p1 (fieldAddr1 P 136 0) (.loc 0)⟩,⟨some (.loc 4,false),.ld1 (.loc 0)⟩,⟨some (.loc 5,false),.pn (l1 (len1 P 41)) [.loc 0]⟩,⟨some (.loc 6,false),.p2 (bin2 P .geq 3) (.loc 5) (.loc 0)⟩,⟨none,.pick (.loc 7) (.cst (AV.bool true)) (.loc 0)⟩] [(20,.loc 0)]
def c70_7:AC:=.reg [] [(6,.cst (AV.int .i64 2))]
def c70_12:AC:=.reg [⟨none,.pn (l1 (len1 P 9)) [.tmp 2]⟩,⟨none,.p2 (bin2 P .gtr 3) (.loc 0) (.cst (AV.int .i64 64))⟩] [(23,.loc 0)]
def c70_15:AC:=.reg [] [(6,.cst (AV.int .i64 3))]
def c70_19:AC:=.reg [⟨none,.cl (cf 127) [.tmp 0,.tmp 1]⟩,⟨none,.p1 (nthTuple 0) (.loc 0)⟩,⟨none,.p1 (nthTuple 1) (.loc 1)⟩] [(8,.loc 0),(7,.loc 1)]
def c70_21:AC:=.reg [] [(9,.cst (AV.slice none 0 0 none))]
def c70_23:AC:=.reg [⟨none,.p1 (notNil) (.tmp 0)⟩,⟨none,.p1 (fieldAddr1 P 136 1) (.loc 0)⟩,⟨none,.ld1 (.loc 0)⟩,⟨none,.pn (sliceN P 134 false true false) [.loc 0,.tmp 7]⟩,⟨none,.ef (fun vs id h=>l2 (fun s x=>appendS P 134 s x id h) vs) [.tmp 9,.loc 0]⟩] [(9,.loc 0)]
def c70_25:AC:=.reg [⟨none,.pn (l1 (len1 P 9)) [.tmp 2]⟩,⟨none,.p2 (bin2 P .sub 3) (.cst (AV.int .i64 64)) (.loc 0)⟩,⟨none,.al (l2 (makeSlice2 P 42)) [.loc 0,.loc 0]⟩,⟨none,.rd (fun vs h=>l1 (fun v=>ofBytes1 P 5 v h) vs) [.loc 0]⟩,⟨none,.p2 (bin2 P .add 9) (.tmp 2) (.loc 0)⟩,⟨none,.pn (buildN P 213 [0,1]) [.tmp 1,.loc 0]⟩,⟨none,.al (buildSliceN P 134 1 [0]) [.loc 0]⟩,⟨none,.ef (fun vs id h=>l2 (fun s x=>appendS P 134 s x id h) vs) [.tmp 9,.loc 0]⟩] [(9,.loc 0)]
def c70_28:AC:=.reg [] [(50,.tmp 8)]
def c70_30:AC:=.reg [⟨none,.p2 (bin2 P .add 3) (.tmp 7) (.cst (AV.int .i64 1))⟩] [(7,.loc 0)]
def c70_33:AC:=.reg [⟨none,.p1 (notNil) (.tmp 0)⟩,⟨none,.p1 (fieldAddr1 P 136 1) (.loc 0)⟩,⟨none,.ld1 (.loc 0)⟩,⟨none,.pn (sliceN P 134 true false false) [.loc 0,.tmp 7]⟩,⟨none,.ef (fun vs id h=>l2 (fun s x=>appendS P 134 s x id h) vs) [.tmp 9,.loc 0]⟩,⟨none,.p1 (notNil) (.tmp 0)⟩,⟨none,.p1 (fieldAddr1 P 136 1) (.loc 0)⟩,⟨none,.st1 (.loc 0) (.loc 2)⟩] []
def c70_35:AC:=.reg [] [(6,.cst (AV.int .i64 0))]
def c70_26:AC:=.seq (.seq c70_28 (.cond (.tmp 50) c70_30 .skip)) (.seq c70_33 (.seq c70_35 .ret))
def c70_10:AC:=.seq (.seq c70_12 (.cond (.tmp 23) (.seq c70_15 .ret) .skip)) (.seq c70_19 (.seq c70_21 (.seq c70_23 (.seq c70_25 c70_26))))
def c70_2:AC:=.seq (.seq c70_4 (.cond (.tmp 20) (.seq c70_7 .ret) .skip)) c70_10
def fn70:FnA:=⟨(.seq c70_1 c70_2),[.tmp 6],64,true⟩
theorem f70A:fnA P (keepF P) 70=some fn70:=by kernel_rfl
def F70:=An (kR c70_1 rfl)<|An (kR c70_4 rfl)<|An (kR c70_7 rfl)<|An (kR c70_12 rfl)<|An (kR c70_15 rfl)<|An (kR c70_19 rfl)<|An (kR c70_21 rfl)<|An (kR c70_23 rfl)<|An (kR c70_25 rfl)<|An (kR c70_28 rfl)<|An (kR c70_30 rfl)<|An (kR c70_33 rfl)<|An (kR c70_35 rfl)<|An (kS c70_26 rfl)<|An (kS c70_10 rfl)<|(kS c70_2 rfl)
def c73_1:AC:=.reg [⟨none,.al (l1 box1) [.tmp 1]⟩] [(4,.cst (AV.int .i64 0)),(3,.loc 0)]
def c73_4g:List (Nat×GIns):=[(0,⟨none,.p1 (fieldAddr1 P 50 3) (.tmp 3)⟩),(1,⟨none,.ld1 (.opi 0)⟩),(2,⟨none,.p2 (bin2 P .lss 3) (.opi 1) (.cst (AV.int .i64 1))⟩),(3,⟨none,.mv (.opi 2)⟩),(4,⟨some (.opi 3,false),.p1 (fieldAddr1 P 50 3) (.tmp 3)⟩),(5,⟨some (.opi 3,false),.ld1 (.opi 4)⟩),(6,⟨some (.opi 3,false),.p2 (bin2 P .gtr 3) (.opi 5) (.cst (AV.int .i64 64))⟩),(7,⟨none,.pick (.opi 3) (.cst (AV.bool true)) (.opi 6)⟩),(8,⟨none,.mv (.opi 7)⟩),(9,⟨some (.opi 8,false),.mv (.tmp 0)⟩),(10,⟨some (.opi 8,false),.p1 (notNil) (.opi 9)⟩),(11,⟨some (.opi 8,false),.p1 (fieldAddr1 P 97 2) (.opi 10)⟩),(12,⟨some (.opi 8,false),.ld1 (.opi 11)⟩),(13,⟨some (.opi 8,false),.p1 (fieldAddr1 P 50 1) (.tmp 3)⟩),(14,⟨some (.opi 8,false),.ld1 (.opi 13)⟩),(15,⟨some (.opi 8,false),.cl (cf 59) [.opi 12,.opi 14]⟩),(16,⟨some (.opi 8,false),.p2 (bin2 P .neq 38) (.opi 15) (.cst (AV.int .i64 0))⟩),(17,⟨none,.pick (.opi 8) (.cst (AV.bool true)) (.opi 16)⟩)]
def c73_4:AC:=.draw 18 (stagesOf #[0,1,3,7,15,31,63,127,255,511,1023,2047,4095,511,8703,32767,65535,131071] c73_4g [15] 0 (c73_4g.filter fun x=>x.2.i.eff)) [(24,17)]
theorem r73_4:RReg c73_4 fun call tm h=>let g:=Heap.mk h.bs (h.next+18);B (B (tm.gt 3) (fun a=>fieldAddr1 P 50 3 a) tg) (fun v0=>B (load1 g v0) (fun v1=>B (bin2 P .lss 3 v1 (AV.int .i64 1)) (fun v2=>B (Wt? false v2 (B (tm.gt 3) (fun a=>fieldAddr1 P 50 3 a) tg)) (fun v4=>B (Wt? false v2 (load1 g v4)) (fun v5=>B (Wt? false v2 (bin2 P .gtr 3 v5 (AV.int .i64 64))) (fun v6=>B (eBool (fun t=>match t with | true=>some (AV.bool true) | false=>some v6) v2) (fun v7=>B (Wt? false v7 (tm.gt 0)) (fun v9=>B (Wt? false v7 (notNil v9)) (fun v10=>B (Wt? false v7 (fieldAddr1 P 97 2 v10)) (fun v11=>B (Wt? false v7 (load1 g v11)) (fun v12=>B (Wt? false v7 (B (tm.gt 3) (fun a=>fieldAddr1 P 50 1 a) tg)) (fun v13=>B (Wt? false v7 (load1 g v13)) (fun v14=>B (match wanted false v7 with | true=>(call (.fn 59) [v12,v14] g) | false=>some (undefA,g)) (fun r15=>B (Wt? false v7 (bin2 P .neq 38 r15.1 (AV.int .i64 0))) (fun v16=>B (eBool (fun t=>match t with | true=>some (AV.bool true) | false=>some v16) v7) (fun v17=>some ((tm.up (some v17) 24),r15.2)) tg) tg) tg) tg) tg) tg) tg) tg) tg) tg) tg) tg) tg) tg) tg) tg:=kDrw rfl (by kernel_rfl)
def c73_7:AC:=.reg [] [(4,.cst (AV.int .i64 4))]
def c73_11g:List (Nat×GIns):=[(0,⟨none,.mv (.tmp 0)⟩),(1,⟨none,.p1 (notNil) (.opi 0)⟩),(2,⟨none,.p1 (fieldAddr1 P 97 0) (.opi 1)⟩),(3,⟨none,.ld1 (.opi 2)⟩),(4,⟨none,.p1 (fieldAddr1 P 50 1) (.tmp 3)⟩),(5,⟨none,.ld1 (.opi 4)⟩),(6,⟨none,.cl (cf 129) [.opi 3,.opi 5]⟩),(7,⟨none,.mv (.opi 6)⟩),(8,⟨none,.p1 (nthTuple 0) (.opi 7)⟩),(9,⟨none,.p1 (nthTuple 1) (.opi 7)⟩),(10,⟨none,.mv (.opi 8)⟩),(11,⟨none,.mv (.opi 9)⟩)]
def c73_11:AC:=.draw 12 (stagesOf #[0,1,3,7,0,16,63,127,255,255,511,2047] c73_11g [6] 0 (c73_11g.filter fun x=>x.2.i.eff)) [(6,11),(5,10)]
theorem r73_11:RReg c73_11 fun call tm h=>let g:=Heap.mk h.bs (h.next+12);B (tm.gt 0) (fun v0=>B (notNil v0) (fun v1=>B (fieldAddr1 P 97 0 v1) (fun v2=>B (load1 g v2) (fun v3=>B (B (tm.gt 3) (fun a=>fieldAddr1 P 50 1 a) tg) (fun v4=>B (load1 g v4) (fun v5=>B (call (.fn 129) [v3,v5] g) (fun r6=>B (nthTuple 0 r6.1) (fun v8=>B (nthTuple 1 r6.1) (fun v9=>some (((tm.up (some v9) 6).up (some v8) 5),r6.2)) tg) tg) tg) tg) tg) tg) tg) tg) tg:=kDrw rfl (by kernel_rfl)
def c73_14:AC:=.reg [⟨none,.p2 (bin2 P .neq 38) (.tmp 6) (.cst (AV.int .i64 0))⟩] [(36,.loc 0)]
def c73_17:AC:=.reg [] [(4,.tmp 6)]
def c73_22g:List (Nat×GIns):=[(0,⟨none,.mv (.tmp 0)⟩),(1,⟨none,.p1 (notNil) (.opi 0)⟩),(2,⟨none,.p1 (fieldAddr1 P 97 1) (.opi 1)⟩),(3,⟨none,.ld1 (.opi 2)⟩),(4,⟨none,.p1 (fieldAddr1 P 50 0) (.tmp 3)⟩),(5,⟨none,.ld1 (.opi 4)⟩),(6,⟨none,.mv (.tmp 5)⟩),(7,⟨none,.p1 (fieldAddr1 P 50 3) (.tmp 3)⟩),(8,⟨none,.ld1 (.opi 7)⟩),(9,⟨none,.pn (sliceN P 9 false true false) [.opi 6,.opi 8]⟩),(10,⟨none,.p1 (fieldAddr1 P 50 1) (.tmp 3)⟩),(11,⟨none,.ld1 (.opi 10)⟩),(12,⟨none,.p1 (fieldAddr1 P 50 2) (.tmp 3)⟩),(13,⟨none,.ld1 (.opi 12)⟩),(14,⟨none,.cl (cf 130) [.opi 3,.opi 5,.opi 9,.opi 11,.opi 13]⟩),(15,⟨none,.p2 (bin2 P .neq 38) (.opi 14) (.cst (AV.int .i64 0))⟩)]
def c73_22:AC:=.draw 16 (stagesOf #[0,1,3,7,0,16,0,0,128,448,0,1024,0,4096,16383,32767] c73_22g [14] 0 (c73_22g.filter fun x=>x.2.i.eff)) [(53,15)]
theorem r73_22:RReg c73_22 fun call tm h=>let g:=Heap.mk h.bs (h.next+16);B (tm.gt 0) (fun v0=>B (notNil v0) (fun v1=>B (fieldAddr1 P 97 1 v1) (fun v2=>B (load1 g v2) (fun v3=>B (B (tm.gt 3) (fun a=>fieldAddr1 P 50 0 a) tg) (fun v4=>B (load1 g v4) (fun v5=>B (tm.gt 5) (fun v6=>B (B (tm.gt 3) (fun a=>fieldAddr1 P 50 3 a) tg) (fun v7=>B (load1 g v7) (fun v8=>B (sliceN P 9 false true false [v6,v8]) (fun v9=>B (B (tm.gt 3) (fun a=>fieldAddr1 P 50 1 a) tg) (fun v10=>B (load1 g v10) (fun v11=>B (B (tm.gt 3) (fun a=>fieldAddr1 P 50 2 a) tg) (fun v12=>B (load1 g v12) (fun v13=>B (call (.fn 130) [v3,v5,v9,v11,v13] g) (fun r14=>B (bin2 P .neq 38 r14.1 (AV.int .i64 0)) (fun v15=>some ((tm.up (some v15) 53),r14.2)) tg) tg) tg) tg) tg) tg) tg) tg) tg) tg) tg) tg) tg) tg) tg) tg:=kDrw rfl (by kernel_rfl)
def c73_25:AC:=.reg [] [(4,.cst (AV.int .i64 4))]
def c73_29:AC:=.reg [] [(4,.cst (AV.int .i64 0))]
def c73_20:AC:=.seq (.seq c73_22 (.cond (.tmp 53) (.seq c73_25 .ret) .skip)) (.seq c73_29 .ret)
def c73_12:AC:=.seq (.seq c73_14 (.cond (.tmp 36) (.seq c73_17 .ret) .skip)) c73_20
def c73_2:AC:=.seq (.seq c73_4 (.cond (.tmp 24) (.seq c73_7 .ret) .skip)) (.seq c73_11 c73_12)
def fn73:FnA:=⟨(.seq c73_1 c73_2),[.tmp 4],54,true⟩
theorem f73A:fnA P (keepF P) 73=some fn73:=by kernel_rfl
def F73:=An (kR c73_1 rfl)<|An r73_4<|An (kR c73_7 rfl)<|An r73_11<|An (kR c73_14 rfl)<|An (kR c73_17 rfl)<|An r73_22<|An (kR c73_25 rfl)<|An (kR c73_29 rfl)<|An (kS c73_20 rfl)<|An (kS c73_12 rfl)<|(kS c73_2 rfl)
def c75_1:AC:=.reg [] [(2,.cst (AV.slice none 0 0 none))]
def c75_3:AC:=.reg [] [(3,.cst (AV.slice none 0 0 none))]
def c75_5:AC:=.reg [⟨none,.p1 (notNil) (.tmp 0)⟩,⟨none,.p1 (fieldAddr1 P 85 0) (.loc 0)⟩,⟨none,.ld1 (.loc 0)⟩,⟨none,.p1 (notNil) (.loc 0)⟩,⟨none,.p1 (fieldAddr1 P 63 0) (.loc 0)⟩,⟨none,.ld1 (.loc 0)⟩,⟨none,.p1 (notNil) (.loc 0)⟩,⟨none,.p1 (fieldAddr1 P 136 0) (.loc 0)⟩,⟨none,.ld1 (.loc 0)⟩,⟨none,.pn (l1 (len1 P 41)) [.loc 0]⟩] [(4,.loc 0)]
def c75_8:AC:=.reg [⟨none,.p2 (bin2 P .quo 3) (.tmp 4) (.cst (AV.int .i64 2))⟩] [(5,.loc 0)]
def c75_13:AC:=.reg [⟨none,.p2 (bin2 P .lss 3) (.tmp 5) (.tmp 4)⟩] [(23,.loc 0)]
def c75_20:AC:=.reg [] [(6,.cst (AV.bool false))]
def c75_23:AC:=.reg [] [(7,.cst (AV.int .i64 0))]
def c75_28:AC:=.reg [⟨none,.p1 (notNil) (.tmp 0)⟩,⟨none,.p1 (fieldAddr1 P 85 1) (.loc 0)⟩,⟨none,.ld1 (.loc 0)⟩,⟨none,.p1 (notNil) (.loc 0)⟩,⟨none,.p1 (fieldAddr1 P 82 0) (.loc 0)⟩,⟨none,.ld1 (.loc 0)⟩,⟨none,.pn (l1 (len1 P 80)) [.loc 0]⟩,⟨none,.p2 (bin2 P .lss 3) (.tmp 7) (.loc 0)⟩] [(35,.loc 0)]
def c75_34:AC:=.reg [⟨some (.tmp 6,false),.mv (.tmp 0)⟩,⟨some (.tmp 6,false),.p1 (notNil) (.loc 0)⟩,⟨some (.tmp 6,false),.p1 (fieldAddr1 P 85 1) (.loc 0)⟩,⟨some (.tmp 6,false),.ld1 (.loc 0)⟩,⟨some (.tmp 6,false),.p1 (notNil) (.loc 0)⟩,⟨some (.tmp 6,false),.p1 (fieldAddr1 P 82 0) (.loc 0)⟩,⟨some (.tmp 6,false),.ld1 (.loc 0)⟩,⟨some (.tmp 6,false),.mv (.tmp 7)⟩,⟨some (.tmp 6,false),.p2 (indexAddr2 P 80) (.loc 1) (.loc 0)⟩,⟨some (.tmp 6,false),.p1 (fieldAddr1 P 143 2) (.loc 0)⟩,⟨some (.tmp 6,false),.ld1 (.loc 0)⟩,⟨some (.tmp 6,false),.mv (.tmp 5)⟩,⟨some (.tmp 6,false),.p2 (bin2 P .eql 3) (.loc 1) (.loc 0)⟩,⟨none,.pick (.tmp 6) (.cst (AV.bool true)) (.loc 0)⟩] [(6,.loc 0)]
def c75_35:AC:=.reg [⟨none,.p2 (bin2 P .add 3) (.tmp 7) (.cst (AV.int .i64 1))⟩] [(7,.loc 0)]
def c75_26:AC:=.seq (.seq c75_28 (.cond (.tmp 35) .skip (.exit 2))) (.seq (.block 3 c75_34) c75_35)
def c75_25:AC:=.loop c75_26
def c75_37:AC:=.reg [⟨none,.p1 (un1 .not) (.tmp 6)⟩] [(55,.loc 0)]
def c75_39:AC:=.reg [⟨none,.al (buildSliceN P 24 1 [0]) [.tmp 5]⟩,⟨none,.ef (fun vs id h=>l2 (fun s x=>appendS P 24 s x id h) vs) [.tmp 3,.loc 0]⟩] [(3,.loc 0)]
def c75_21:AC:=.seq (.seq c75_23 (.block 2 c75_25)) (.seq c75_37 (.cond (.tmp 55) c75_39 .skip))
def c75_41:AC:=.reg [⟨none,.p2 (bin2 P .add 3) (.tmp 5) (.cst (AV.int .i64 1))⟩] [(5,.loc 0)]
def c75_11:AC:=.seq (.seq c75_13 (.cond (.tmp 23) .skip (.exit 0))) (.seq (.block 1 (.seq c75_20 c75_21)) c75_41)
def c75_10:AC:=.loop c75_11
def c75_43:AC:=.reg [] [(2,.tmp 3)]
def c75_4:AC:=.seq c75_5 (.seq (.seq c75_8 (.block 0 c75_10)) (.seq c75_43 .ret))
def fn75:FnA:=⟨(.seq c75_1 (.seq c75_3 c75_4)),[.tmp 2],61,true⟩
theorem f75A:fnA P (keepF P) 75=some fn75:=by kernel_rfl
def F75:=An (kR c75_1 rfl)<|An (kR c75_3 rfl)<|An (kR c75_5 rfl)<|An (kR c75_8 rfl)<|An (kR c75_13 rfl)<|An (kR c75_20 rfl)<|An (kR c75_23 rfl)<|An (kR c75_28 rfl)<|An (kR c75_34 rfl)<|An (kR c75_35 rfl)<|An (kS c75_26 rfl)<|An (kR c75_37 rfl)<|An (kR c75_39 rfl)<|An (kS c75_21 rfl)<|An (kR c75_41 rfl)<|An (kS c75_11 rfl)<|An (kR c75_43 rfl)<|(kS c75_4 rfl)
def c76_1:AC:=.reg [] [(5,.cst (AV.int .i64 0)),(4,.cst (AV.str []))]
def c76_4:AC:=.reg [⟨none,.p1 (notNil) (.tmp 0)⟩,⟨none,.p1 (fieldAddr1 P 63 4) (.loc 0)⟩,⟨none,.ld1 (.loc 0)⟩] [(9,.loc 0)]
def c76_7:AC:=.reg [] [(5,.cst (AV.int .i64 8)),(4,.cst (AV.str []))]
def c76_11:AC:=.reg [⟨none,.p1 (notNil) (.tmp 0)⟩,⟨none,.p1 (fieldAddr1 P 63 0) (.loc 0)⟩,⟨none,.ld1 (.loc 0)⟩,⟨none,.cl (cf 131) [.loc 0,.tmp 1]⟩,⟨none,.p1 (nthTuple 0) (.loc 0)⟩,⟨none,.p1 (nthTuple 1) (.loc 1)⟩] [(5,.loc 0),(4,.loc 1)]
def c76_2:AC:=.seq (.seq c76_4 (.cond (.tmp 9) (.seq c76_7 .ret) .skip)) (.seq c76_11 .ret)
def fn76:FnA:=⟨(.seq c76_1 c76_2),[.tmp 4,.tmp 5],18,true⟩
theorem f76A:fnA P (keepF P) 76=some fn76:=by kernel_rfl
def F76:=An (kR c76_1 rfl)<|An (kR c76_4 rfl)<|An (kR c76_7 rfl)<|An (kR c76_11 rfl)<|(kS c76_2 rfl)
def c79_1:AC:=.reg [] [(5,.cst AV.nilIface),(4,.cst (AV.int .i64 0))]
def c79_3:AC:=.reg [⟨none,.cl (cf 134) [.tmp 0]⟩] []
def c79_5:AC:=.reg [⟨none,.p1 (notNil) (.tmp 0)⟩,⟨none,.p1 (fieldAddr1 P 146 1) (.loc 0)⟩,⟨none,.ld1 (.loc 0)⟩,⟨none,.ef (fun vs id h=>l2 (fun s x=>appendS P 42 s x id h) vs) [.loc 0,.tmp 1]⟩,⟨none,.p1 (notNil) (.tmp 0)⟩,⟨none,.p1 (fieldAddr1 P 146 1) (.loc 0)⟩,⟨none,.st1 (.loc 0) (.loc 2)⟩] []
def c79_7:AC:=.reg [⟨none,.pn (l1 (len1 P 9)) [.tmp 1]⟩] [(5,.cst AV.nilIface),(4,.loc 0)]
def fn79:FnA:=⟨(.seq c79_1 (.seq c79_3 (.seq c79_5 (.seq c79_7 .ret)))),[.tmp 4,.tmp 5],19,true⟩
theorem f79A:fnA P (keepF P) 79=some fn79:=by kernel_rfl
def F79:=An (kR c79_1 rfl)<|An (kR c79_3 rfl)<|An (kR c79_5 rfl)<|(kR c79_7 rfl)
def c80_1:AC:=.reg [] [(2,.cst (AV.int .i64 0))]
def c80_3:AC:=.reg [⟨none,.p1 (notNil) (.tmp 0)⟩,⟨none,.p1 (fieldAddr1 P 146 1) (.loc 0)⟩,⟨none,.ld1 (.loc 0)⟩,⟨none,.pn (l1 (len1 P 42)) [.loc 0]⟩] [(2,.loc 0)]
def fn80:FnA:=⟨(.seq c80_1 (.seq c80_3 .ret)),[.tmp 2],8,true⟩
theorem f80A:fnA P (keepF P) 80=some fn80:=by kernel_rfl
def F80:=An (kR c80_1 rfl)<|(kR c80_3 rfl)
def c81_1:AC:=.reg [] [(2,.cst (AV.str []))]
def c81_3g:List (Nat×GIns):=[(0,⟨none,.mv (.tmp 0)⟩),(1,⟨none,.p1 (notNil) (.opi 0)⟩),(2,⟨none,.p1 (fieldAddr1 P 146 1) (.opi 1)⟩),(3,⟨none,.ld1 (.opi 2)⟩),(4,⟨none,.pn (l1 sliceData) [.opi 3]⟩),(5,⟨none,.mv (.tmp 0)⟩),(6,⟨none,.p1 (notNil) (.opi 5)⟩),(7,⟨none,.p1 (fieldAddr1 P 146 1) (.opi 6)⟩),(8,⟨none,.ld1 (.opi 7)⟩),(9,⟨none,.pn (l1 (len1 P 42)) [.opi 8]⟩),(10,⟨none,.ef (fun vs _ h=>l2 (fun p n=>strAt 5 h p n) vs) [.opi 4,.opi 9]⟩),(11,⟨none,.mv (.opi 10)⟩)]
def c81_3:AC:=.draw 12 (stagesOf #[0,1,3,7,15,0,32,96,224,480,1023,2047] c81_3g [10] 0 (c81_3g.filter fun x=>x.2.i.eff)) [(2,11)]
theorem r81_3:RReg c81_3 fun call tm h=>let g:=Heap.mk h.bs (h.next+12);B (tm.gt 0) (fun v0=>B (notNil v0) (fun v1=>B (fieldAddr1 P 146 1 v1) (fun v2=>B (load1 g v2) (fun v3=>B (l1 sliceData [v3]) (fun v4=>B (tm.gt 0) (fun v5=>B (notNil v5) (fun v6=>B (fieldAddr1 P 146 1 v6) (fun v7=>B (load1 g v7) (fun v8=>B (l1 (len1 P 42) [v8]) (fun v9=>B ((fun vs _ h=>l2 (fun p n=>strAt 5 h p n) vs) [v4,v9] g.next g) (fun r10=>some ((tm.up (some r10.1) 2),r10.2)) tg) tg) tg) tg) tg) tg) tg) tg) tg) tg) tg:=kDrw rfl (by kernel_rfl)
def fn81:FnA:=⟨(.seq c81_1 (.seq c81_3 .ret)),[.tmp 2],14,true⟩
theorem f81A:fnA P (keepF P) 81=some fn81:=by kernel_rfl
def F81:=An (kR c81_1 rfl)<|r81_3
def c83_1:AC:=.reg [⟨none,.al (l1 box1) [.tmp 0]⟩,⟨none,.al (fun (_:List AV)=>allocN P 93) []⟩] [(2,.loc 0),(1,.loc 1)]
def c83_3:AC:=.reg [⟨none,.p1 (fieldAddr1 P 143 0) (.tmp 1)⟩,⟨none,.ld1 (.loc 0)⟩,⟨none,.p1 (fieldAddr1 P 143 2) (.tmp 1)⟩,⟨none,.ld1 (.loc 0)⟩,⟨none,.p1 (fieldAddr1 P 143 3) (.tmp 1)⟩,⟨none,.ld1 (.loc 0)⟩,⟨none,.p1 (fieldAddr1 P 143 1) (.tmp 1)⟩,⟨none,.ld1 (.loc 0)⟩,⟨none,.pn (l1 (len1 P 9)) [.loc 0]⟩,⟨none,.pn (buildN P 93 [0,1,2,3]) [.loc 7,.loc 5,.loc 3,.loc 0]⟩,⟨none,.ef (fun vs _ h=>l2 (storeN 4 h) vs) [.tmp 2,.loc 0]⟩] []
def fn83:FnA:=⟨(.seq c83_1 (.seq c83_3 .ret)),[.cell 2 93],13,true⟩
theorem f83A:fnA P (keepF P) 83=some fn83:=by kernel_rfl
def F83:=An (kR c83_1 rfl)<|(kR c83_3 rfl)
def c106_1:AC:=.reg [] [(2,.cst (AV.bool false))]
def c106_3:AC:=.reg [⟨none,.p2 (bin2 P .neq 31) (.tmp 0) (.cst (AV.ptr none))⟩,⟨some (.loc 0,true),.mv (.tmp 0)⟩,⟨some (.loc 1,true),.p1 (notNil) (.loc 0)⟩,⟨some (.loc 2,true),.p1 (fieldAddr1 P 117 0) (.loc 0)⟩,⟨some (.loc 3,true),.ld1 (.loc 0)⟩,⟨some (.loc 4,true),.p2 (bin2 P .neq 33) (.loc 0) (.cst (AV.ptr none))⟩,⟨none,.pick (.loc 5) (.loc 0) (.cst (AV.bool false))⟩] [(2,.loc 0)]
def fn106:FnA:=⟨(.seq c106_1 (.seq c106_3 .ret)),[.tmp 2],12,true⟩
theorem f106A:fnA P (keepF P) 106=some fn106:=by kernel_rfl
def F106:=An (kR c106_1 rfl)<|(kR c106_3 rfl)
def c110_1:AC:=.reg [] [(2,.cst (AV.bool false))]
def c110_3:AC:=.reg [⟨none,.p2 (bin2 P .neq 95) (.tmp 0) (.cst (AV.ptr none))⟩,⟨some (.loc 0,true),.mv (.tmp 0)⟩,⟨some (.loc 1,true),.p1 (notNil) (.loc 0)⟩,⟨some (.loc 2,true),.p1 (fieldAddr1 P 180 1) (.loc 0)⟩,⟨some (.loc 3,true),.ld1 (.loc 0)⟩,⟨some (.loc 4,true),.p2 (bin2 P .gtr 3) (.loc 0) (.cst (AV.int .i64 0))⟩,⟨none,.pick (.loc 5) (.loc 0) (.cst (AV.bool false))⟩] [(2,.loc 0)]
def fn110:FnA:=⟨(.seq c110_1 (.seq c110_3 .ret)),[.tmp 2],12,true⟩
theorem f110A:fnA P (keepF P) 110=some fn110:=by kernel_rfl
def F110:=An (kR c110_1 rfl)<|(kR c110_3 rfl)
def c116_1:AC:=.reg [] [(4,.cst (AV.int .i64 0))]
def c116_5:AC:=.reg [⟨none,.cl (cf 110) [.tmp 0]⟩,⟨none,.p1 (un1 .not) (.loc 0)⟩] [(5,.loc 0)]
def c116_8:AC:=.reg [] [(4,.cst (AV.int .i64 1))]
def c116_11:AC:=.reg [⟨none,.p1 (notNil) (.tmp 0)⟩,⟨none,.p1 (fieldAddr1 P 180 0) (.loc 0)⟩,⟨none,.ld1 (.loc 0)⟩,⟨none,.p2 (bin2 P .lss 3) (.tmp 1) (.loc 0)⟩,⟨some (.loc 0,false),.mv (.tmp 1)⟩,⟨some (.loc 1,false),.mv (.tmp 0)⟩,⟨some (.loc 2,false),.p1 (notNil) (.loc 0)⟩,⟨some (.loc 3,false),.p1 (fieldAddr1 P 180 1) (.loc 0)⟩,⟨some (.loc 4,false),.ld1 (.loc 0)⟩,⟨some (.loc 5,false),.p2 (bin2 P .geq 3) (.loc 4) (.loc 0)⟩,⟨none,.pick (.loc 6) (.cst (AV.bool true)) (.loc 0)⟩] [(9,.loc 0)]
def c116_14:AC:=.reg [] [(4,.cst (AV.int .i64 2))]
def c116_6:AC:=.cond (.tmp 5) (.seq c116_8 .ret) (.seq c116_11 (.cond (.tmp 9) (.seq c116_14 .ret) .skip))
def c116_18:AC:=.reg [] [(4,.cst (AV.int .i64 0))]
def c116_0:AC:=.seq c116_1 (.seq (.block 0 (.seq c116_5 c116_6)) (.seq c116_18 .ret))
def fn116:FnA:=⟨c116_0,[.tmp 4],24,true⟩
theorem f116A:fnA P (keepF P) 116=some fn116:=by kernel_rfl
def F116:=An (kR c116_1 rfl)<|An (kR c116_5 rfl)<|An (kR c116_8 rfl)<|An (kR c116_11 rfl)<|An (kR c116_14 rfl)<|An (kC c116_6 rfl)<|An (kR c116_18 rfl)<|(kS c116_0 rfl)
def c117_1:AC:=.reg [] [(5,.cst (AV.int .u64 0)),(4,.cst (AV.ptr none))]
def c117_3g:List (Nat×GIns):=[(0,⟨none,.mv (.tmp 0)⟩),(1,⟨none,.p1 (notNil) (.opi 0)⟩),(2,⟨none,.p1 (fieldAddr1 P 180 2) (.opi 1)⟩),(3,⟨none,.ld1 (.opi 2)⟩),(4,⟨none,.mv (.tmp 1)⟩),(5,⟨none,.p2 (bin2 P .quo 3) (.opi 4) (.cst (AV.int .i64 256))⟩),(6,⟨none,.mv (.tmp 1)⟩),(7,⟨none,.p2 (bin2 P .rem 3) (.opi 6) (.cst (AV.int .i64 256))⟩),(8,⟨none,.p2 (bin2 P .quo 3) (.opi 7) (.cst (AV.int .i64 64))⟩),(9,⟨none,.p2 (indexAddr2 P 178) (.opi 3) (.opi 5)⟩),(10,⟨none,.p2 (indexAddr2 P 187) (.opi 9) (.opi 8)⟩),(11,⟨none,.mv (.tmp 1)⟩),(12,⟨none,.p2 (bin2 P .rem 3) (.opi 11) (.cst (AV.int .i64 64))⟩),(13,⟨none,.p2 (bin2 P .shl 185) (.cst (AV.int .u64 1)) (.opi 12)⟩),(14,⟨none,.mv (.opi 10)⟩),(15,⟨none,.mv (.opi 13)⟩)]
def c117_3:AC:=.draw 16 (stagesOf #[0,1,3,7,0,16,0,64,192,63,1023,0,2048,6144,2047,32767] c117_3g [] 0 (c117_3g.filter fun x=>x.2.i.eff)) [(5,15),(4,14)]
theorem r117_3:RReg c117_3 fun call tm h=>let g:=Heap.mk h.bs (h.next+16);B (tm.gt 0) (fun v0=>B (notNil v0) (fun v1=>B (fieldAddr1 P 180 2 v1) (fun v2=>B (load1 g v2) (fun v3=>B (tm.gt 1) (fun v4=>B (bin2 P .quo 3 v4 (AV.int .i64 256)) (fun v5=>B (tm.gt 1) (fun v6=>B (bin2 P .rem 3 v6 (AV.int .i64 256)) (fun v7=>B (bin2 P .quo 3 v7 (AV.int .i64 64)) (fun v8=>B (indexAddr2 P 178 v3 v5) (fun v9=>B (indexAddr2 P 187 v9 v8) (fun v10=>B (tm.gt 1) (fun v11=>B (bin2 P .rem 3 v11 (AV.int .i64 64)) (fun v12=>B (bin2 P .shl 185 (AV.int .u64 1) v12) (fun v13=>some (((tm.up (some v13) 5).up (some v10) 4),g)) tg) tg) tg) tg) tg) tg) tg) tg) tg) tg) tg) tg) tg) tg:=kDrw rfl (by kernel_rfl)
def fn117:FnA:=⟨(.seq c117_1 (.seq c117_3 .ret)),[.tmp 4,.tmp 5],20,true⟩
theorem f117A:fnA P (keepF P) 117=some fn117:=by kernel_rfl
def F117:=An (kR c117_1 rfl)<|r117_3
def c118_1:AC:=.reg [⟨none,.al (l1 box1) [.tmp 0]⟩] [(2,.cst AV.nilFunc),(1,.loc 0)]
def c118_3:AC:=.reg [⟨none,.pn (mkFunc (Fn.func 153) 0) [.tmp 1]⟩] [(2,.loc 0)]
def fn118:FnA:=⟨(.seq c118_1 (.seq c118_3 .ret)),[.tmp 2],4,true⟩
theorem f118A:fnA P (keepF P) 118=some fn118:=by kernel_rfl
def F118:=An (kR c118_1 rfl)<|(kR c118_3 rfl)
def c123_1:AC:=.reg [] [(2,.cst (AV.int .i64 0))]
def c123_5:AC:=.reg [⟨none,.cl (cf 106) [.tmp 0]⟩,⟨none,.p1 (un1 .not) (.loc 0)⟩] [(3,.loc 0)]
def c123_8:AC:=.reg [] [(2,.cst (AV.int .i64 1))]
def c123_11:AC:=.reg [⟨none,.p1 (notNil) (.tmp 0)⟩,⟨none,.p1 (fieldAddr1 P 117 4) (.loc 0)⟩,⟨none,.ld1 (.loc 0)⟩] [(7,.loc 0)]
def c123_14:AC:=.reg [] [(2,.cst (AV.int .i64 8))]
def c123_6:AC:=.cond (.tmp 3) (.seq c123_8 .ret) (.seq c123_11 (.cond (.tmp 7) (.seq c123_14 .ret) .skip))
def c123_18:AC:=.reg [] [(2,.cst (AV.int .i64 0))]
def c123_0:AC:=.seq c123_1 (.seq (.block 0 (.seq c123_5 c123_6)) (.seq c123_18 .ret))
def fn123:FnA:=⟨c123_0,[.tmp 2],12,true⟩
theorem f123A:fnA P (keepF P) 123=some fn123:=by kernel_rfl
def F123:=An (kR c123_1 rfl)<|An (kR c123_5 rfl)<|An (kR c123_8 rfl)<|An (kR c123_11 rfl)<|An (kR c123_14 rfl)<|An (kC c123_6 rfl)<|An (kR c123_18 rfl)<|(kS c123_0 rfl)
def c126_1:AC:=.reg [] [(5,.cst (AV.int .i64 0)),(4,.cst (AV.ptr none))]
def c126_5:AC:=.reg [⟨none,.p2 (bin2 P .eql 33) (.tmp 0) (.cst (AV.ptr none))⟩,⟨some (.loc 0,false),.mv (.tmp 0)⟩,⟨some (.loc 1,false),.p1 (notNil) (.loc 0)⟩,⟨some (.loc 2,false),.p1 (fieldAddr1 P 120 0) (.loc 0)⟩,⟨some (.loc 3,false),.ld1 (.loc 0)⟩,⟨some (.loc 4,false),.pn (l1 (len1 P 118)) [.loc 0]⟩,⟨some (.loc 5,false),.p2 (bin2 P .eql 3) (.loc 0) (.cst (AV.int .i64 0))⟩,⟨none,.pick (.loc 6) (.cst (AV.bool true)) (.loc 0)⟩] [(6,.loc 0)]
def c126_8:AC:=.reg [] [(5,.cst (AV.int .i64 1)),(4,.cst (AV.ptr none))]
def c126_11:AC:=.reg [⟨none,.p2 (bin2 P .lss 3) (.tmp 1) (.cst (AV.int .i64 0))⟩,⟨some (.loc 0,false),.mv (.tmp 1)⟩,⟨some (.loc 1,false),.mv (.tmp 0)⟩,⟨some (.loc 2,false),.p1 (notNil) (.loc 0)⟩,⟨some (.loc 3,false),.p1 (fieldAddr1 P 120 0) (.loc 0)⟩,⟨some (.loc 4,false),.ld1 (.loc 0)⟩,⟨some (.loc 5,false),.pn (l1 (len1 P 118)) [.loc 0]⟩,⟨some (.loc 6,false),.p2 (bin2 P .geq 3) (.loc 5) (.loc 0)⟩,⟨none,.pick (.loc 7) (.cst (AV.bool true)) (.loc 0)⟩] [(17,.loc 0)]
def c126_14:AC:=.reg [] [(5,.cst (AV.int .i64 2)),(4,.cst (AV.ptr none))]
def c126_6:AC:=.cond (.tmp 6) (.seq c126_8 .ret) (.seq c126_11 (.cond (.tmp 17) (.seq c126_14 .ret) .skip))
def c126_18:AC:=.reg [⟨none,.p1 (notNil) (.tmp 0)⟩,⟨none,.p1 (fieldAddr1 P 120 0) (.loc 0)⟩,⟨none,.ld1 (.loc 0)⟩,⟨none,.p2 (indexAddr2 P 118) (.loc 0) (.tmp 1)⟩] [(5,.cst (AV.int .i64 0)),(4,.loc 0)]
def c126_0:AC:=.seq c126_1 (.seq (.block 0 (.seq c126_5 c126_6)) (.seq c126_18 .ret))
def fn126:FnA:=⟨c126_0,[.tmp 4,.tmp 5],35,true⟩
theorem f126A:fnA P (keepF P) 126=some fn126:=by kernel_rfl
def F126:=An (kR c126_1 rfl)<|An (kR c126_5 rfl)<|An (kR c126_8 rfl)<|An (kR c126_11 rfl)<|An (kR c126_14 rfl)<|An (kC c126_6 rfl)<|An (kR c126_18 rfl)<|(kS c126_0 rfl)
def c127_1:AC:=.reg [] [(5,.cst (AV.bool false)),(4,.cst (AV.int .i64 0))]
def c127_3:AC:=.reg [] [(6,.cst (AV.int .i64 0))]
def c127_9:AC:=.reg [⟨none,.p1 (notNil) (.tmp 0)⟩,⟨none,.p1 (fieldAddr1 P 136 1) (.loc 0)⟩,⟨none,.ld1 (.loc 0)⟩,⟨none,.pn (l1 (len1 P 134)) [.loc 0]⟩,⟨none,.p2 (bin2 P .lss 3) (.tmp 6) (.loc 0)⟩,⟨some (.loc 0,true),.mv (.tmp 0)⟩,⟨some (.loc 1,true),.p1 (notNil) (.loc 0)⟩,⟨some (.loc 2,true),.p1 (fieldAddr1 P 136 1) (.loc 0)⟩,⟨some (.loc 3,true),.ld1 (.loc 0)⟩,⟨some (.loc 4,true),.mv (.tmp 6)⟩,⟨some (.loc 5,true),.p2 (indexAddr2 P 134) (.loc 1) (.loc 0)⟩,⟨some (.loc 6,true),.p1 (fieldAddr1 P 213 0) (.loc 0)⟩,⟨some (.loc 7,true),.ld1 (.loc 0)⟩,⟨some (.loc 8,true),.mv (.tmp 1)⟩,⟨some (.loc 9,true),.p2 (bin2 P .lss 3) (.loc 1) (.loc 0)⟩,⟨none,.pick (.loc 10) (.loc 0) (.cst (AV.bool false))⟩] [(25,.loc 0)]
def c127_14:AC:=.reg [⟨none,.p2 (bin2 P .add 3) (.tmp 6) (.cst (AV.int .i64 1))⟩] [(6,.loc 0)]
def c127_7:AC:=.seq (.seq c127_9 (.cond (.tmp 25) .skip (.exit 0))) (.block 1 c127_14)
def c127_6:AC:=.loop c127_7
def c127_16g:List (Nat×GIns):=[(0,⟨none,.mv (.tmp 6)⟩),(1,⟨none,.mv (.tmp 6)⟩),(2,⟨none,.mv (.tmp 0)⟩),(3,⟨none,.p1 (notNil) (.opi 2)⟩),(4,⟨none,.p1 (fieldAddr1 P 136 1) (.opi 3)⟩),(5,⟨none,.ld1 (.opi 4)⟩),(6,⟨none,.pn (l1 (len1 P 134)) [.opi 5]⟩),(7,⟨none,.p2 (bin2 P .lss 3) (.opi 1) (.opi 6)⟩),(8,⟨none,.mv (.opi 7)⟩),(9,⟨some (.opi 8,true),.mv (.tmp 0)⟩),(10,⟨some (.opi 8,true),.p1 (notNil) (.opi 9)⟩),(11,⟨some (.opi 8,true),.p1 (fieldAddr1 P 136 1) (.opi 10)⟩),(12,⟨some (.opi 8,true),.ld1 (.opi 11)⟩),(13,⟨some (.opi 8,true),.mv (.tmp 6)⟩),(14,⟨some (.opi 8,true),.p2 (indexAddr2 P 134) (.opi 12) (.opi 13)⟩),(15,⟨some (.opi 8,true),.p1 (fieldAddr1 P 213 0) (.opi 14)⟩),(16,⟨some (.opi 8,true),.ld1 (.opi 15)⟩),(17,⟨some (.opi 8,true),.mv (.tmp 1)⟩),(18,⟨some (.opi 8,true),.p2 (bin2 P .eql 3) (.opi 16) (.opi 17)⟩),(19,⟨none,.pick (.opi 8) (.opi 18) (.cst (AV.bool false))⟩),(20,⟨none,.mv (.opi 0)⟩),(21,⟨none,.mv (.opi 19)⟩)]
def c127_16:AC:=.draw 22 (stagesOf #[0,0,0,4,12,28,60,126,254,510,1022,2046,4094,510,16382,32766,65534,510,262142,524286,511,2097151] c127_16g [] 0 (c127_16g.filter fun x=>x.2.i.eff)) [(5,21),(4,20)]
theorem r127_16:RReg c127_16 fun call tm h=>let g:=Heap.mk h.bs (h.next+22);B (tm.gt 6) (fun v0=>B (tm.gt 6) (fun v1=>B (tm.gt 0) (fun v2=>B (notNil v2) (fun v3=>B (fieldAddr1 P 136 1 v3) (fun v4=>B (load1 g v4) (fun v5=>B (l1 (len1 P 134) [v5]) (fun v6=>B (bin2 P .lss 3 v1 v6) (fun v7=>B (Wt? true v7 (tm.gt 0)) (fun v9=>B (Wt? true v7 (notNil v9)) (fun v10=>B (Wt? true v7 (fieldAddr1 P 136 1 v10)) (fun v11=>B (Wt? true v7 (load1 g v11)) (fun v12=>B (Wt? true v7 (tm.gt 6)) (fun v13=>B (Wt? true v7 (indexAddr2 P 134 v12 v13)) (fun v14=>B (Wt? true v7 (fieldAddr1 P 213 0 v14)) (fun v15=>B (Wt? true v7 (load1 g v15)) (fun v16=>B (Wt? true v7 (tm.gt 1)) (fun v17=>B (Wt? true v7 (bin2 P .eql 3 v16 v17)) (fun v18=>B (eBool (fun t=>match t with | true=>some v18 | false=>some (AV.bool false)) v7) (fun v19=>some (((tm.up (some v19) 5).up (some v0) 4),g)) tg) tg) tg) tg) tg) tg) tg) tg) tg) tg) tg) tg) tg) tg) tg) tg) tg) tg) tg:=kDrw rfl (by kernel_rfl)
def c127_0:AC:=.seq c127_1 (.seq c127_3 (.seq (.block 0 c127_6) (.seq c127_16 .ret)))
def fn127:FnA:=⟨c127_0,[.tmp 4,.tmp 5],48,true⟩
theorem f127A:fnA P (keepF P) 127=some fn127:=by kernel_rfl
def F127:=An (kR c127_1 rfl)<|An (kR c127_3 rfl)<|An (kR c127_9 rfl)<|An (kR c127_14 rfl)<|An (kS c127_7 rfl)<|An r127_16<|(kS c127_0 rfl)
def c129_1:AC:=.reg [] [(5,.cst (AV.int .i64 0)),(4,.cst (AV.str []))]
def c129_4:AC:=.reg [⟨none,.cl (cf 123) [.tmp 0]⟩] [(6,.loc 0)]
def c129_6:AC:=.reg [⟨none,.p2 (bin2 P .neq 38) (.tmp 6) (.cst (AV.int .i64 0))⟩] [(10,.loc 0)]
def c129_9:AC:=.reg [] [(5,.tmp 6),(4,.cst (AV.str []))]
def c129_3:AC:=.seq c129_4 (.seq c129_6 (.cond (.tmp 10) (.seq c129_9 .ret) .skip))
def c129_13:AC:=.reg [⟨none,.p1 (notNil) (.tmp 0)⟩,⟨none,.p1 (fieldAddr1 P 117 0) (.loc 0)⟩,⟨none,.ld1 (.loc 0)⟩,⟨none,.cl (cf 158) [.loc 0,.tmp 1]⟩,⟨none,.p1 (nthTuple 0) (.loc 0)⟩,⟨none,.p1 (nthTuple 1) (.loc 1)⟩] [(5,.loc 0),(4,.loc 1)]
def fn129:FnA:=⟨(.seq c129_1 (.seq c129_3 (.seq c129_13 .ret))),[.tmp 4,.tmp 5],20,true⟩
theorem f129A:fnA P (keepF P) 129=some fn129:=by kernel_rfl
def F129:=An (kR c129_1 rfl)<|An (kR c129_4 rfl)<|An (kR c129_6 rfl)<|An (kR c129_9 rfl)<|An (kS c129_3 rfl)<|(kR c129_13 rfl)
def c131_1:AC:=.reg [] [(5,.cst (AV.int .i64 0)),(4,.cst (AV.str []))]
def c131_4:AC:=.reg [⟨none,.p2 (bin2 P .lss 3) (.tmp 1) (.cst (AV.int .i64 0))⟩,⟨some (.loc 0,false),.mv (.tmp 1)⟩,⟨some (.loc 1,false),.mv (.tmp 0)⟩,⟨some (.loc 2,false),.p1 (notNil) (.loc 0)⟩,⟨some (.loc 3,false),.p1 (fieldAddr1 P 136 0) (.loc 0)⟩,⟨some (.loc 4,false),.ld1 (.loc 0)⟩,⟨some (.loc 5,false),.pn (l1 (len1 P 41)) [.loc 0]⟩,⟨some (.loc 6,false),.p2 (bin2 P .geq 3) (.loc 5) (.loc 0)⟩,⟨none,.pick (.loc 7) (.cst (AV.bool true)) (.loc 0)⟩] [(18,.loc 0)]
def c131_7:AC:=.reg [] [(5,.cst (AV.int .i64 2)),(4,.cst (AV.str []))]
def c131_11:AC:=.reg [⟨none,.cl (cf 127) [.tmp 0,.tmp 1]⟩,⟨none,.p1 (nthTuple 0) (.loc 0)⟩,⟨none,.p1 (nthTuple 1) (.loc 1)⟩] [(7,.loc 0),(6,.loc 1)]
def c131_14:AC:=.reg [] [(25,.tmp 7)]
def c131_17:AC:=.reg [⟨none,.p1 (notNil) (.tmp 0)⟩,⟨none,.p1 (fieldAddr1 P 136 1) (.loc 0)⟩,⟨none,.ld1 (.loc 0)⟩,⟨none,.p2 (indexAddr2 P 134) (.loc 0) (.tmp 6)⟩,⟨none,.p1 (fieldAddr1 P 213 1) (.loc 0)⟩,⟨none,.ld1 (.loc 0)⟩] [(5,.cst (AV.int .i64 0)),(4,.loc 0)]
def c131_21:AC:=.reg [⟨none,.p1 (notNil) (.tmp 0)⟩,⟨none,.p1 (fieldAddr1 P 136 0) (.loc 0)⟩,⟨none,.ld1 (.loc 0)⟩,⟨none,.p2 (indexAddr2 P 41) (.loc 0) (.tmp 1)⟩,⟨none,.ld1 (.loc 0)⟩] [(5,.cst (AV.int .i64 0)),(4,.loc 0)]
def c131_12:AC:=.seq (.seq c131_14 (.cond (.tmp 25) (.seq c131_17 .ret) .skip)) (.seq c131_21 .ret)
def c131_2:AC:=.seq (.seq c131_4 (.cond (.tmp 18) (.seq c131_7 .ret) .skip)) (.seq c131_11 c131_12)
def fn131:FnA:=⟨(.seq c131_1 c131_2),[.tmp 4,.tmp 5],41,true⟩
theorem f131A:fnA P (keepF P) 131=some fn131:=by kernel_rfl
def F131:=An (kR c131_1 rfl)<|An (kR c131_4 rfl)<|An (kR c131_7 rfl)<|An (kR c131_11 rfl)<|An (kR c131_14 rfl)<|An (kR c131_17 rfl)<|An (kR c131_21 rfl)<|An (kS c131_12 rfl)<|(kS c131_2 rfl)
def c134_1:AC:=.reg [⟨none,.p1 (notNil) (.tmp 0)⟩,⟨none,.p1 (fieldAddr1 P 146 0) (.loc 0)⟩,⟨none,.ld1 (.loc 0)⟩,⟨none,.p2 (bin2 P .eql 144) (.loc 0) (.cst (AV.ptr none))⟩] [(6,.loc 0)]
def c134_3:AC:=.reg [⟨none,.rd (fun vs h=>l1 (toUnsafe P 146 h) vs) [.tmp 0]⟩,⟨none,.pn (l1 some) [.loc 0]⟩,⟨none,.rd (fun vs h=>l1 (fromUnsafe P 146 h) vs) [.loc 0]⟩,⟨none,.p1 (notNil) (.tmp 0)⟩,⟨none,.p1 (fieldAddr1 P 146 0) (.loc 0)⟩,⟨none,.st1 (.loc 0) (.loc 2)⟩] []
def c134_5:AC:=.reg [⟨none,.p1 (notNil) (.tmp 0)⟩,⟨none,.p1 (fieldAddr1 P 146 0) (.loc 0)⟩,⟨none,.ld1 (.loc 0)⟩,⟨none,.p2 (bin2 P .neq 144) (.loc 0) (.tmp 0)⟩] [(19,.loc 0)]
def c134_2:AC:=.cond (.tmp 6) c134_3 (.seq c134_5 (.cond (.tmp 19) .bad .skip))
def fn134:FnA:=⟨(.seq c134_1 c134_2),[],20,true⟩
theorem f134A:fnA P (keepF P) 134=some fn134:=by kernel_rfl
def F134:=An (kR c134_1 rfl)<|An (kR c134_3 rfl)<|An (kR c134_5 rfl)<|(kC c134_2 rfl)
def c153_2:AC:=.reg [⟨none,.ld1 (.tmp 1)⟩,⟨none,.cl (cf 110) [.loc 0]⟩,⟨none,.p1 (un1 .not) (.loc 0)⟩] [(6,.loc 0)]
def c153_7:AC:=.reg [⟨none,.ld1 (.tmp 1)⟩,⟨none,.p1 (notNil) (.loc 0)⟩,⟨none,.p1 (fieldAddr1 P 180 0) (.loc 0)⟩,⟨none,.ld1 (.loc 0)⟩] [(3,.loc 0)]
def c153_12:AC:=.reg [⟨none,.ld1 (.tmp 1)⟩,⟨none,.p1 (notNil) (.loc 0)⟩,⟨none,.p1 (fieldAddr1 P 180 1) (.loc 0)⟩,⟨none,.ld1 (.loc 0)⟩,⟨none,.p2 (bin2 P .lss 3) (.tmp 3) (.loc 0)⟩] [(16,.loc 0)]
def c153_19:AC:=.reg [⟨none,.ld1 (.tmp 1)⟩,⟨none,.cl (cf 154) [.loc 0,.tmp 3]⟩,⟨some (.loc 0,true),.mv (.tmp 0)⟩,⟨some (.loc 1,true),.mv (.tmp 3)⟩,⟨some (.loc 2,true),.cl (.loc 1) [.loc 0]⟩,⟨some (.loc 3,true),.p1 (un1 .not) (.loc 0)⟩,⟨none,.pick (.loc 4) (.loc 0) (.cst (AV.bool false))⟩] [(27,.loc 0)]
def c153_23:AC:=.reg [⟨none,.p2 (bin2 P .add 3) (.tmp 3) (.cst (AV.int .i64 1))⟩] [(3,.loc 0)]
def c153_16:AC:=.seq (.block 1 (.seq c153_19 (.cond (.tmp 27) .ret .skip))) c153_23
def c153_10:AC:=.seq (.seq c153_12 (.cond (.tmp 16) .skip (.exit 0))) c153_16
def c153_9:AC:=.loop c153_10
def c153_0:AC:=.seq (.seq c153_2 (.cond (.tmp 6) .ret .skip)) (.seq c153_7 (.block 0 c153_9))
def fn153:FnA:=⟨c153_0,[],28,true⟩
theorem f153A:fnA P (keepF P) 153=some fn153:=by kernel_rfl
def F153:=An (kR c153_2 rfl)<|An (kR c153_7 rfl)<|An (kR c153_12 rfl)<|An (kR c153_19 rfl)<|An (kR c153_23 rfl)<|An (kS c153_16 rfl)<|An (kS c153_10 rfl)<|(kS c153_0 rfl)
def c154_1:AC:=.reg [] [(4,.cst (AV.bool false))]
def c154_4:AC:=.reg [⟨none,.cl (cf 116) [.tmp 0,.tmp 1]⟩,⟨none,.p2 (bin2 P .neq 38) (.loc 0) (.cst (AV.int .i64 0))⟩] [(10,.loc 0)]
def c154_7:AC:=.reg [] [(4,.cst (AV.bool false))]
def c154_11:AC:=.reg [⟨none,.cl (cf 117) [.tmp 0,.tmp 1]⟩,⟨none,.p1 (nthTuple 0) (.loc 0)⟩,⟨none,.p1 (nthTuple 1) (.loc 1)⟩] [(6,.loc 0),(5,.loc 1)]
def c154_13:AC:=.reg [⟨none,.p1 (notNil) (.tmp 5)⟩,⟨none,.ld1 (.loc 0)⟩,⟨none,.p2 (bin2 P .and 185) (.loc 0) (.tmp 6)⟩,⟨none,.p2 (bin2 P .eql 185) (.loc 0) (.cst (AV.int .u64 0))⟩] [(4,.loc 0)]
def c154_2:AC:=.seq (.seq c154_4 (.cond (.tmp 10) (.seq c154_7 .ret) .skip)) (.seq c154_11 (.seq c154_13 .ret))
def fn154:FnA:=⟨(.seq c154_1 c154_2),[.tmp 4],23,true⟩
theorem f154A:fnA P (keepF P) 154=some fn154:=by kernel_rfl
def F154:=An (kR c154_1 rfl)<|An (kR c154_4 rfl)<|An (kR c154_7 rfl)<|An (kR c154_11 rfl)<|An (kR c154_13 rfl)<|(kS c154_2 rfl)
def c158_1:AC:=.reg [] [(5,.cst (AV.int .i64 0)),(4,.cst (AV.str []))]
def c158_3:AC:=.reg [⟨none,.cl (cf 126) [.tmp 0,.tmp 1]⟩,⟨none,.p1 (nthTuple 0) (.loc 0)⟩,⟨none,.p1 (nthTuple 1) (.loc 1)⟩] [(7,.loc 0),(6,.loc 1)]
def c158_6:AC:=.reg [⟨none,.p2 (bin2 P .neq 38) (.tmp 7) (.cst (AV.int .i64 0))⟩] [(15,.loc 0)]
def c158_9:AC:=.reg [] [(5,.tmp 7),(4,.cst (AV.str []))]
def c158_13:AC:=.reg [⟨none,.p1 (notNil) (.tmp 6)⟩,⟨none,.p1 (fieldAddr1 P 209 1) (.loc 0)⟩,⟨none,.pn (sliceN P 207 false false false) [.loc 0]⟩,⟨none,.rd (fun vs h=>l1 (fun v=>ofBytes1 P 5 v h) vs) [.loc 0]⟩] [(5,.cst (AV.int .i64 0)),(4,.loc 0)]
def c158_4:AC:=.seq (.seq c158_6 (.cond (.tmp 15) (.seq c158_9 .ret) .skip)) (.seq c158_13 .ret)
def fn158:FnA:=⟨(.seq c158_1 (.seq c158_3 c158_4)),[.tmp 4,.tmp 5],22,true⟩
theorem f158A:fnA P (keepF P) 158=some fn158:=by kernel_rfl
def F158:=An (kR c158_1 rfl)<|An (kR c158_3 rfl)<|An (kR c158_6 rfl)<|An (kR c158_9 rfl)<|An (kR c158_13 rfl)<|(kS c158_4 rfl)
theorem x_len_46 (a:Option (Nat×Nat)) (n c:Nat) (g:Option Nat):len1 P 46 (.slice a n c g)=some (.int .i64 n):=len_slice (e:=50) (by kernel_rfl) a n c g
theorem x_len_41 (a:Option (Nat×Nat)) (n c:Nat) (g:Option Nat):len1 P 41 (.slice a n c g)=some (.int .i64 n):=len_slice (e:=9) (by kernel_rfl) a n c g
theorem x_bd_63_0_1 (p0:Option (Nat×Nat)) (n1:Int):buildN P 63 [0,1] [(AV.ptr p0),(AV.int .i64 n1)]=some (.agg [(AV.ptr p0),(AV.int .i64 n1),(AV.slice none 0 0 none),(AV.int .i64 0),(AV.bool false)]):=by kernel_rfl
theorem x_eq_31 (x:Option (Nat×Nat)):bin2 P .eql 31 (.ptr x) (.ptr none)=some (.bool x.isNone):=b_eqlP (e:=117) (by kernel_rfl)
theorem x_ia_41 {k:IntKind} {b o n c i:Nat} {g:Option Nat} (hi:i<n):indexAddr2 P 41 (.slice (some (b,o)) n c g) (.int k (i:Int))=some (.ptr (some (b,o+i*1))):=ia_slice (e:=9) (by kernel_rfl) (by kernel_rfl) hi
theorem x_eq_29 (x:Option (Nat×Nat)):bin2 P .eql 29 (.ptr x) (.ptr none)=some (.bool x.isNone):=b_eqlP (e:=97) (by kernel_rfl)
theorem x_eq_68 (x:Option (Nat×Nat)):bin2 P .eql 68 (.ptr x) (.ptr none)=some (.bool x.isNone):=b_eqlP (e:=85) (by kernel_rfl)
theorem x_ne_4 (x y:Bool):bin2 P .neq 4 (.bool x) (.bool y)=some (.bool (!(x==y))):=b_neqB (by kernel_rfl)
theorem s_50:tSize P 50=some 4:=by kernel_rfl
theorem b_50:tBytes P 50=some 32:=by kernel_rfl
theorem z_50:tZero P 50=some (AV.agg [(AV.int .u32 0),(AV.int .i64 0),(AV.int .i64 0),(AV.int .i64 0)]):=by kernel_rfl
theorem x_ia_46 {k:IntKind} {b o n c i:Nat} {g:Option Nat} (hi:i<n):indexAddr2 P 46 (.slice (some (b,o)) n c g) (.int k (i:Int))=some (.ptr (some (b,o+i*4))):=ia_slice (e:=50) (by kernel_rfl) (by kernel_rfl) hi
theorem x_fa_50_0 (b o:Nat):fieldAddr1 P 50 0 (.ptr (some (b,o)))=some (.ptr (some (b,o+0))):=by kernel_rfl
theorem x_fa_50_3 (b o:Nat):fieldAddr1 P 50 3 (.ptr (some (b,o)))=some (.ptr (some (b,o+3))):=by kernel_rfl
theorem x_fa_85_1 (b o:Nat):fieldAddr1 P 85 1 (.ptr (some (b,o)))=some (.ptr (some (b,o+1))):=by kernel_rfl
theorem x_eq_33 (x:Option (Nat×Nat)):bin2 P .eql 33 (.ptr x) (.ptr none)=some (.bool x.isNone):=b_eqlP (e:=120) (by kernel_rfl)
theorem x_bd_97_0_1_2 (p0:Option (Nat×Nat)) (p1:Option (Nat×Nat)) (p2:Option (Nat×Nat)):buildN P 97 [0,1,2] [(AV.ptr p0),(AV.ptr p1),(AV.ptr p2)]=some (.agg [(AV.ptr p0),(AV.ptr p1),(AV.ptr p2)]):=by kernel_rfl
theorem x_bd_117_0_1_2 (p0:Option (Nat×Nat)) (n1:Int) (a2:Option (Nat×Nat)) (l2 c2:Nat) (g2:Option Nat):buildN P 117 [0,1,2] [(AV.ptr p0),(AV.int .i64 n1),(AV.slice a2 l2 c2 g2)]=some (.agg [(AV.ptr p0),(AV.int .i64 n1),(AV.slice a2 l2 c2 g2),(AV.int .i64 0),(AV.bool false)]):=by kernel_rfl
theorem x_al_46:allocN P 46=some (.cells (fillC [(AV.slice none 0 0 none)] .leaf 0) (tyMark 46 true) 1 false,ptrTo):=by kernel_rfl
theorem u_46:P.underlying 46=some (.slice 50):=by kernel_rfl
theorem x_fa_97_1 (b o:Nat):fieldAddr1 P 97 1 (.ptr (some (b,o)))=some (.ptr (some (b,o+1))):=by kernel_rfl
theorem x_al_50:allocN P 50=some (.cells (fillC [(AV.int .u32 0),(AV.int .i64 0),(AV.int .i64 0),(AV.int .i64 0)] .leaf 0) (tyMark 50 true) 4 false,ptrTo):=by kernel_rfl
theorem x_bs_46_1 (n0:Int) (n1:Int) (n2:Int) (n3:Int):buildSliceN P 46 1 [0] [(AV.agg [AV.int .u32 n0,AV.int .i64 n1,AV.int .i64 n2,AV.int .i64 n3])]=some (.cells (fillC [AV.int .u32 n0,AV.int .i64 n1,AV.int .i64 n2,AV.int .i64 n3] .leaf 0) [] 4 false,sliceTo 1):=by kernel_rfl
theorem x_fa_97_2 (b o:Nat):fieldAddr1 P 97 2 (.ptr (some (b,o)))=some (.ptr (some (b,o+2))):=by kernel_rfl
theorem x_fa_136_0 (b o:Nat):fieldAddr1 P 136 0 (.ptr (some (b,o)))=some (.ptr (some (b,o+0))):=by kernel_rfl
theorem u_41:P.underlying 41=some (.slice 9):=by kernel_rfl
theorem x_bs_41_1 (s0:List Nat):buildSliceN P 41 1 [0] [(AV.str s0)]=some (.cells (fillC [(AV.str s0)] .leaf 0) [] 1 false,sliceTo 1):=by kernel_rfl
theorem x_fa_63_4 (b o:Nat):fieldAddr1 P 63 4 (.ptr (some (b,o)))=some (.ptr (some (b,o+4))):=by kernel_rfl
theorem x_fa_63_0 (b o:Nat):fieldAddr1 P 63 0 (.ptr (some (b,o)))=some (.ptr (some (b,o+0))):=by kernel_rfl
theorem x_len_71 (a:Option (Nat×Nat)) (n c:Nat) (g:Option Nat):len1 P 71 (.slice a n c g)=some (.int .i64 n):=len_slice (e:=93) (by kernel_rfl) a n c g
theorem s_93:tSize P 93=some 4:=by kernel_rfl
theorem b_93:tBytes P 93=some 32:=by kernel_rfl
theorem z_93:tZero P 93=some (AV.agg [(AV.int .u32 0),(AV.int .i64 0),(AV.int .i64 0),(AV.int .i64 0)]):=by kernel_rfl
theorem x_ia_71 {k:IntKind} {b o n c i:Nat} {g:Option Nat} (hi:i<n):indexAddr2 P 71 (.slice (some (b,o)) n c g) (.int k (i:Int))=some (.ptr (some (b,o+i*4))):=ia_slice (e:=93) (by kernel_rfl) (by kernel_rfl) hi
theorem x_al_93:allocN P 93=some (.cells (fillC [(AV.int .u32 0),(AV.int .i64 0),(AV.int .i64 0),(AV.int .i64 0)] .leaf 0) (tyMark 93 true) 4 false,ptrTo):=by kernel_rfl
theorem x_len_24 (a:Option (Nat×Nat)) (n c:Nat) (g:Option Nat):len1 P 24 (.slice a n c g)=some (.int .i64 n):=len_slice (e:=3) (by kernel_rfl) a n c g
theorem x_ia_24 {k:IntKind} {b o n c i:Nat} {g:Option Nat} (hi:i<n):indexAddr2 P 24 (.slice (some (b,o)) n c g) (.int k (i:Int))=some (.ptr (some (b,o+i*1))):=ia_slice (e:=3) (by kernel_rfl) (by kernel_rfl) hi
theorem x_fa_93_1 (b o:Nat):fieldAddr1 P 93 1 (.ptr (some (b,o)))=some (.ptr (some (b,o+1))):=by kernel_rfl
theorem x_fa_93_3 (b o:Nat):fieldAddr1 P 93 3 (.ptr (some (b,o)))=some (.ptr (some (b,o+3))):=by kernel_rfl
theorem x_fa_93_0 (b o:Nat):fieldAddr1 P 93 0 (.ptr (some (b,o)))=some (.ptr (some (b,o+0))):=by kernel_rfl
theorem x_sl_9_010 {k:IntKind} {l:List Nat} {hi:Nat} (h:hi<=l.length):sliceN P 9 false true false [.str l,.int k (hi:Int)]=some (.str (l.take hi)):=sl_str010 (by kernel_rfl) h
theorem x_fa_93_2 (b o:Nat):fieldAddr1 P 93 2 (.ptr (some (b,o)))=some (.ptr (some (b,o+2))):=by kernel_rfl
theorem x_bs_71_1 (n0:Int) (n1:Int) (n2:Int) (n3:Int):buildSliceN P 71 1 [0] [(AV.agg [AV.int .u32 n0,AV.int .i64 n1,AV.int .i64 n2,AV.int .i64 n3])]=some (.cells (fillC [AV.int .u32 n0,AV.int .i64 n1,AV.int .i64 n2,AV.int .i64 n3] .leaf 0) [] 4 false,sliceTo 1):=by kernel_rfl
theorem u_71:P.underlying 71=some (.slice 93):=by kernel_rfl
theorem x_al_146:allocN P 146=some (.cells (fillC [(AV.ptr none),(AV.slice none 0 0 none)] .leaf 0) (tyMark 146 true) 2 false,ptrTo):=by kernel_rfl
theorem x_bd_85_0_1 (p0:Option (Nat×Nat)) (p1:Option (Nat×Nat)):buildN P 85 [0,1] [(AV.ptr p0),(AV.ptr p1)]=some (.agg [(AV.ptr p0),(AV.ptr p1)]):=by kernel_rfl
theorem x_fa_117_0 (b o:Nat):fieldAddr1 P 117 0 (.ptr (some (b,o)))=some (.ptr (some (b,o+0))):=by kernel_rfl
theorem x_fa_120_0 (b o:Nat):fieldAddr1 P 120 0 (.ptr (some (b,o)))=some (.ptr (some (b,o+0))):=by kernel_rfl
theorem u_118:P.underlying 118=some (.slice 209):=by kernel_rfl
theorem x_len_118 (a:Option (Nat×Nat)) (n c:Nat) (g:Option Nat):len1 P 118 (.slice a n c g)=some (.int .i64 n):=len_slice (e:=209) (by kernel_rfl) a n c g
theorem x_bd_180_0_1_2 (n0:Int) (n1:Int) (a2:Option (Nat×Nat)) (l2 c2:Nat) (g2:Option Nat):buildN P 180 [0,1,2] [(AV.int .i64 n0),(AV.int .i64 n1),(AV.slice a2 l2 c2 g2)]=some (.agg [(AV.int .i64 n0),(AV.int .i64 n1),(AV.slice a2 l2 c2 g2)]):=by kernel_rfl
theorem x_eq_24 (x:Option (Nat×Nat)) (n c:Nat) (g:Option Nat):bin2 P .eql 24 (.slice x n c g) (.slice none 0 0 none)=some (.bool x.isNone):=b_eqlL (e:=3) (by kernel_rfl)
theorem u_24:P.underlying 24=some (.slice 3):=by kernel_rfl
theorem x_ne_29 (x:Option (Nat×Nat)):bin2 P .neq 29 (.ptr x) (.ptr none)=some (.bool x.isSome):=b_neqP (e:=97) (by kernel_rfl)
theorem x_bd_50_0_1_2_3 (n0:Int) (n1:Int) (n2:Int) (n3:Int):buildN P 50 [0,1,2,3] [(AV.int .u32 n0),(AV.int .i64 n1),(AV.int .i64 n2),(AV.int .i64 n3)]=some (.agg [(AV.int .u32 n0),(AV.int .i64 n1),(AV.int .i64 n2),(AV.int .i64 n3)]):=by kernel_rfl
theorem x_fa_117_3 (b o:Nat):fieldAddr1 P 117 3 (.ptr (some (b,o)))=some (.ptr (some (b,o+3))):=by kernel_rfl
theorem x_fa_117_1 (b o:Nat):fieldAddr1 P 117 1 (.ptr (some (b,o)))=some (.ptr (some (b,o+1))):=by kernel_rfl
theorem x_fa_209_1 (b o:Nat):fieldAddr1 P 209 1 (.ptr (some (b,o)))=some (.ptr (some (b,o+64))):=by kernel_rfl
theorem u_42:P.underlying 42=some (.slice 5):=by kernel_rfl
theorem u_5:P.underlying 5=some (.int .u8):=by kernel_rfl
theorem s_5:tSize P 5=some 1:=by kernel_rfl
theorem b_5:tBytes P 5=some 1:=by kernel_rfl
theorem z_5:tZero P 5=some (AV.int .u8 0):=by kernel_rfl
theorem x_fa_209_2 (b o:Nat):fieldAddr1 P 209 2 (.ptr (some (b,o)))=some (.ptr (some (b,o+128))):=by kernel_rfl
theorem x_fa_63_3 (b o:Nat):fieldAddr1 P 63 3 (.ptr (some (b,o)))=some (.ptr (some (b,o+3))):=by kernel_rfl
theorem x_fa_63_1 (b o:Nat):fieldAddr1 P 63 1 (.ptr (some (b,o)))=some (.ptr (some (b,o+1))):=by kernel_rfl
theorem x_fa_136_1 (b o:Nat):fieldAddr1 P 136 1 (.ptr (some (b,o)))=some (.ptr (some (b,o+1))):=by kernel_rfl
theorem u_134:P.underlying 134=some (.slice 213):=by kernel_rfl
theorem x_sl_134_010 {a:Option (Nat×Nat)} {n c hi:Nat} {g:Option Nat} {k:IntKind} (hg:gOk g 2=true) (h:hi<=c):sliceN P 134 false true false [.slice a n c g,.int k (hi:Int)]=some (.slice (a.map fun p=>(p.1,p.2+0*2)) (hi - 0) (c - 0) g):=sl_010 (e:=213) (by kernel_rfl) (by kernel_rfl) hg h
theorem s_213:tSize P 213=some 2:=by kernel_rfl
theorem b_213:tBytes P 213=some 24:=by kernel_rfl
theorem z_213:tZero P 213=some (AV.agg [(AV.int .i64 0),(AV.str [])]):=by kernel_rfl
theorem x_bd_213_0_1 (n0:Int) (s1:List Nat):buildN P 213 [0,1] [(AV.int .i64 n0),(AV.str s1)]=some (.agg [(AV.int .i64 n0),(AV.str s1)]):=by kernel_rfl
theorem x_bs_134_1 (n0:Int) (s1:List Nat):buildSliceN P 134 1 [0] [(AV.agg [AV.int .i64 n0,AV.str s1])]=some (.cells (fillC [AV.int .i64 n0,AV.str s1] .leaf 0) [] 2 false,sliceTo 1):=by kernel_rfl
theorem x_sl_134_100 {a:Option (Nat×Nat)} {n c lo:Nat} {g:Option Nat} {k:IntKind} (hg:gOk g 2=true) (h:lo<=n):sliceN P 134 true false false [.slice a n c g,.int k (lo:Int)]=some (.slice (a.map fun p=>(p.1,p.2+lo*2)) (n - lo) (c - lo) g):=sl_100 (e:=213) (by kernel_rfl) (by kernel_rfl) hg h
theorem x_fa_50_1 (b o:Nat):fieldAddr1 P 50 1 (.ptr (some (b,o)))=some (.ptr (some (b,o+1))):=by kernel_rfl
theorem x_fa_97_0 (b o:Nat):fieldAddr1 P 97 0 (.ptr (some (b,o)))=some (.ptr (some (b,o+0))):=by kernel_rfl
theorem x_fa_50_2 (b o:Nat):fieldAddr1 P 50 2 (.ptr (some (b,o)))=some (.ptr (some (b,o+2))):=by kernel_rfl
theorem x_fa_85_0 (b o:Nat):fieldAddr1 P 85 0 (.ptr (some (b,o)))=some (.ptr (some (b,o+0))):=by kernel_rfl
theorem x_fa_143_2 (b o:Nat):fieldAddr1 P 143 2 (.ptr (some (b,o)))=some (.ptr (some (b,o+2))):=by kernel_rfl
theorem x_bs_24_1 (n0:Int):buildSliceN P 24 1 [0] [(AV.int .i64 n0)]=some (.cells (fillC [(AV.int .i64 n0)] .leaf 0) [] 1 false,sliceTo 1):=by kernel_rfl
theorem x_fa_146_1 (b o:Nat):fieldAddr1 P 146 1 (.ptr (some (b,o)))=some (.ptr (some (b,o+1))):=by kernel_rfl
theorem x_len_42 (a:Option (Nat×Nat)) (n c:Nat) (g:Option Nat):len1 P 42 (.slice a n c g)=some (.int .i64 n):=len_slice (e:=5) (by kernel_rfl) a n c g
theorem x_bd_93_0_1_2_3 (n0:Int) (n1:Int) (n2:Int) (n3:Int):buildN P 93 [0,1,2,3] [(AV.int .u32 n0),(AV.int .i64 n1),(AV.int .i64 n2),(AV.int .i64 n3)]=some (.agg [(AV.int .u32 n0),(AV.int .i64 n1),(AV.int .i64 n2),(AV.int .i64 n3)]):=by kernel_rfl
theorem x_ne_31 (x:Option (Nat×Nat)):bin2 P .neq 31 (.ptr x) (.ptr none)=some (.bool x.isSome):=b_neqP (e:=117) (by kernel_rfl)
theorem x_ne_33 (x:Option (Nat×Nat)):bin2 P .neq 33 (.ptr x) (.ptr none)=some (.bool x.isSome):=b_neqP (e:=120) (by kernel_rfl)
theorem x_ne_95 (x:Option (Nat×Nat)):bin2 P .neq 95 (.ptr x) (.ptr none)=some (.bool x.isSome):=b_neqP (e:=180) (by kernel_rfl)
theorem x_fa_180_1 (b o:Nat):fieldAddr1 P 180 1 (.ptr (some (b,o)))=some (.ptr (some (b,o+1))):=by kernel_rfl
theorem x_fa_180_0 (b o:Nat):fieldAddr1 P 180 0 (.ptr (some (b,o)))=some (.ptr (some (b,o+0))):=by kernel_rfl
theorem x_fa_180_2 (b o:Nat):fieldAddr1 P 180 2 (.ptr (some (b,o)))=some (.ptr (some (b,o+2))):=by kernel_rfl
theorem u_178:P.underlying 178=some (.slice 187):=by kernel_rfl
theorem s_187:tSize P 187=some 4:=by kernel_rfl
theorem b_187:tBytes P 187=some 32:=by kernel_rfl
theorem z_187:tZero P 187=some (AV.agg [(AV.int .u64 0),(AV.int .u64 0),(AV.int .u64 0),(AV.int .u64 0)]):=by kernel_rfl
theorem x_ia_178 {k:IntKind} {b o n c i:Nat} {g:Option Nat} (hi:i<n):indexAddr2 P 178 (.slice (some (b,o)) n c g) (.int k (i:Int))=some (.ptr (some (b,o+i*4))):=ia_slice (e:=187) (by kernel_rfl) (by kernel_rfl) hi
theorem x_ia_187 {k:IntKind} {b o i:Nat} (hi:i<4):indexAddr2 P 187 (.ptr (some (b,o))) (.int k (i:Int))=some (.ptr (some (b,o+i*1))):=ia_arr (e:=185) (by kernel_rfl) (by kernel_rfl) hi
theorem x_fa_117_4 (b o:Nat):fieldAddr1 P 117 4 (.ptr (some (b,o)))=some (.ptr (some (b,o+4))):=by kernel_rfl
theorem s_209:tSize P 209=some 129:=by kernel_rfl
theorem b_209:tBytes P 209=some 129:=by kernel_rfl
theorem x_ia_118 {k:IntKind} {b o n c i:Nat} {g:Option Nat} (hi:i<n):indexAddr2 P 118 (.slice (some (b,o)) n c g) (.int k (i:Int))=some (.ptr (some (b,o+i*129))):=ia_slice (e:=209) (by kernel_rfl) (by kernel_rfl) hi
theorem x_len_134 (a:Option (Nat×Nat)) (n c:Nat) (g:Option Nat):len1 P 134 (.slice a n c g)=some (.int .i64 n):=len_slice (e:=213) (by kernel_rfl) a n c g
theorem x_ia_134 {k:IntKind} {b o n c i:Nat} {g:Option Nat} (hi:i<n):indexAddr2 P 134 (.slice (some (b,o)) n c g) (.int k (i:Int))=some (.ptr (some (b,o+i*2))):=ia_slice (e:=213) (by kernel_rfl) (by kernel_rfl) hi
theorem x_fa_213_0 (b o:Nat):fieldAddr1 P 213 0 (.ptr (some (b,o)))=some (.ptr (some (b,o+0))):=by kernel_rfl
theorem x_fa_213_1 (b o:Nat):fieldAddr1 P 213 1 (.ptr (some (b,o)))=some (.ptr (some (b,o+1))):=by kernel_rfl
theorem x_fa_146_0 (b o:Nat):fieldAddr1 P 146 0 (.ptr (some (b,o)))=some (.ptr (some (b,o+0))):=by kernel_rfl
theorem u_144:P.underlying 144=some (.pointer 146):=by kernel_rfl
theorem x_eq_144 (x:Option (Nat×Nat)):bin2 P .eql 144 (.ptr x) (.ptr none)=some (.bool x.isNone):=b_eqlP (e:=146) (by kernel_rfl)
end
end Go.Proofs.YtboobbebilegnaaGreat
